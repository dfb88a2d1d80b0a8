/- rightShift. -/
import Derived.Test.YthjfdhkahmlolaaGreatDoorJQ21
namespace Go.Proofs.YthjfdhkahmlolaaGreatDoor
open Go.RowKit
set_option maxRecDepth 100000
theorem and_pow2 (n k : Nat) (hn : n < 18446744073709551616) (hk : k ≤ 60) : bits BinOp.and IntKind.u64 (n : Int) ((2 ^ k - 1 : Nat) : Int) = ((n % 2 ^ k : Nat) : Int) := by
  have h2 : 2 ^ k ≤ 2 ^ 60 := Nat.pow_le_pow_right (by decide) hk
  have h3 : (2 : Nat) ^ 60 = 1152921504606846976 := by decide
  have h1 := u64_and_nat n (2 ^ k - 1) hn (by omega)
  rw [Nat.and_two_pow_sub_one_eq_mod] at h1
  exact h1
/-- how often 2 divides n, at most k times -/
def tz : Nat → Nat → Nat
  | _, 0 => 0
  | n, k + 1 => if n % 2 = 0 then tz (n / 2) k + 1 else 0
theorem tz_le : ∀ k n, tz n k ≤ k
  | 0, _ => Nat.le_refl _
  | k + 1, n => by
    unfold tz
    split
    · have := tz_le k (n / 2); omega
    · omega
theorem tz_dvd : ∀ k n, 2 ^ tz n k ∣ n
  | 0, n => by simp [tz]
  | k + 1, n => by
    unfold tz
    split
    · obtain ⟨c, hc⟩ := tz_dvd k (n / 2)
      refine ⟨c, ?_⟩
      rw [Nat.pow_succ, Nat.mul_right_comm, ← hc]; omega
    · simp
theorem tz_ge : ∀ k n j, j ≤ k → 2 ^ j ∣ n → j ≤ tz n k
  | 0, _, j, h, _ => by omega
  | k + 1, n, j, h, hd => by
    cases j with
    | zero => omega
    | succ i =>
      obtain ⟨c, rfl⟩ := hd
      have e1 : 2 ^ (i + 1) * c = 2 * (2 ^ i * c) := by rw [Nat.pow_succ]; rw [Nat.mul_comm (2 ^ i) 2, Nat.mul_assoc]
      unfold tz
      rw [e1, if_pos (by omega), show 2 * (2 ^ i * c) / 2 = 2 ^ i * c by omega]
      have := tz_ge k (2 ^ i * c) i (by omega) ⟨c, rfl⟩
      omega
/-- how far a number is from being a multiple of 2^k -/
def muK (n k : Nat) : Nat := if n = 0 then 0 else k + 1 - tz n k
theorem muK_next {n k : Nat} (hn : n ≠ 0) : muK (n % 2 ^ k * 10) k < muK n k := by
  have hp := Nat.two_pow_pos k
  have hl := tz_le k n
  unfold muK
  rw [if_neg hn]
  by_cases h : n % 2 ^ k * 10 = 0
  · rw [if_pos h]; omega
  · rw [if_neg h]
    have h0 : n % 2 ^ k ≠ 0 := by intro e; rw [e] at h; simp at h
    have hd := tz_dvd k n
    have hlt : tz n k < k := by
      rcases Nat.lt_or_ge (tz n k) k with h1 | h1
      · exact h1
      · exact absurd (Nat.mod_eq_zero_of_dvd (Nat.dvd_trans (Nat.pow_dvd_pow 2 h1) hd)) h0
    have h2 : 2 ^ tz n k ∣ n % 2 ^ k := (Nat.dvd_mod_iff (Nat.pow_dvd_pow 2 hl)).2 hd
    obtain ⟨c, hc⟩ := h2
    have h3 := tz_ge k (n % 2 ^ k * 10) (tz n k + 1) hlt ⟨c * 5, by rw [hc, Nat.pow_succ, Nat.mul_assoc, Nat.mul_assoc]; congr 1; omega⟩
    omega
theorem mask_cast (k : Nat) : ((2 ^ k - 1 : Nat) : Int) = 2 ^ k - 1 := by
  have := Nat.two_pow_pos k
  rw [Int.ofNat_sub this]; push_cast; rfl
theorem mask_wrap (k : Nat) (h : k ≤ 60) : IntKind.u64.wrap (IntKind.u64.wrap (2 ^ k) - 1) = ((2 ^ k - 1 : Nat) : Int) := by
  have h1 := Nat.two_pow_pos k
  have h2 : 2 ^ k ≤ 2 ^ 60 := Nat.pow_le_pow_right (by decide) h
  have h3 : (2 : Nat) ^ 60 = 1152921504606846976 := by decide
  have h4 : ((2 : Int) ^ k) = ((2 ^ k : Nat) : Int) := by push_cast; rfl
  have h5 : IntKind.u64.wrap ((2 ^ k : Nat) : Int) = ((2 ^ k : Nat) : Int) := wrap_u64 (by omega) (by omega)
  rw [mask_cast, h4, h5]
  exact wrap_u64 (by omega) (by omega)
theorem shr_cast (m k : Nat) : ((m : Nat) : Int) / 2 ^ k = ((m / 2 ^ k : Nat) : Int) := by push_cast; rfl
theorem shr_lt {m k : Nat} (h : m < 2 ^ k) : (((m : Nat) : Int) / 2 ^ k == 0) = true := by
  rw [shr_cast, Nat.div_eq_of_lt h]; rfl
theorem shr_ge {m k : Nat} (h : 2 ^ k ≤ m) : (((m : Nat) : Int) / 2 ^ k == 0) = false := by
  have h1 : 1 ≤ m / 2 ^ k := (Nat.le_div_iff_mul_le (Nat.two_pow_pos k)).2 (by omega)
  rw [shr_cast, beq_eq_false_iff_ne]; omega
/-- the first loop -/
def RA (g : Nat → Nat) (nd K : Nat) (w0 : World) (r n : Value) (wr : World) : Prop :=
  ∃ i : Nat, r = .int .i64 (i : Int) ∧ n = .int .u64 (nm g i : Int) ∧ i ≤ nd ∧ nm g i < 10 * K ∧ wr = w0
/-- the loop within -/
def RB (nd K : Nat) (w0 : World) (r n : Value) (wr : World) : Prop :=
  ∃ i m : Nat, r = .int .i64 (i : Int) ∧ n = .int .u64 (m : Int) ∧ nd ≤ i ∧ 10 ^ (i - nd) ≤ m ∧ m < 10 * K ∧ (i = nd → m < K) ∧ wr = w0
/-- the loop of the digits -/
def RC (b : Nat) (g : Nat → Nat) (nd n0 K : Nat) (dp : Int) (ng : Bool) (w0 : World) (r w n : Value) (wr : World) : Prop :=
  ∃ (i j m : Nat) (g' : Nat → Nat) (tr : Bool), r = .int .i64 (i : Int) ∧ w = .int .i64 (j : Int) ∧ n = .int .u64 (m : Int) ∧ j < i ∧ j ≤ 800 ∧ i ≤ nd + 20 ∧ m < 10 * K ∧ DecB wr b g' nd dp ng tr ∧ Only (· = b) w0 wr ∧
    (∀ t, t < j → 48 ≤ g' t ∧ g' t ≤ 57) ∧ (∀ t, j ≤ t → g' t = g t) ∧ (j = 0 → m = n0) ∧ (1 ≤ j → g' 0 = 48 + n0 / K)
/-- the loop of the digits behind -/
def RD (b nd n0 K : Nat) (dp : Int) (ng : Bool) (w0 : World) (w n : Value) (wr : World) : Prop :=
  ∃ (j m : Nat) (g' : Nat → Nat) (tr : Bool), w = .int .i64 (j : Int) ∧ n = .int .u64 (m : Int) ∧ j ≤ 800 ∧ m < 10 * K ∧ DecB wr b g' nd dp ng tr ∧ Only (· = b) w0 wr ∧
    (∀ t, t < j → 48 ≤ g' t ∧ g' t ≤ 57) ∧ (j = 0 → m = n0) ∧ (1 ≤ j → g' 0 = 48 + n0 / K)
/-- what rightShift leaves -/
def RsPost (b : Nat) (g : Nat → Nat) (dp : Int) (ng : Bool) (w : World) (e : Ending) (w' : World) : Prop :=
  e = .returned (.tuple #[]) ∧ Only (· = b) w w' ∧ ∃ (g' : Nat → Nat) (n' c : Nat), Dok w' b g' n' (dp - (c : Int)) ng ∧ c ≤ 820 ∧ (c = 0 → g' 0 < g 0)
set_option maxHeartbeats 4000000 in
theorem rs_calls {w : World} {b nd k : Nat} {g : Nat → Nat} {dp : Int} {ng : Bool} (h1 : 1 ≤ k) (h2 : k ≤ 60) (hD : Dok w b g nd dp ng) (hdp : -1000000000000 ≤ dp ∧ dp ≤ 1000000000000) :
    Calls Tryz.prog 145 #[.pointer (some ⟨b, 0, none⟩), .int .u64 (k : Nat)] w (RsPost b g dp ng w) := by
  obtain ⟨⟨tr, hB⟩, hg, n1, n2, l1⟩ := hD
  have KB : 2 ≤ 2 ^ k ∧ 2 ^ k ≤ 1152921504606846976 := by
    refine ⟨?_, ?_⟩
    · exact Nat.pow_le_pow_right (n := 2) (by decide) h1
    · exact Nat.pow_le_pow_right (n := 2) (by decide) h2
  have c0 := hB.cnd
  have c1 := hB.cdp
  have f0 := hB.free 801
  have HB := Lib.hid hB; have HG := Lib.hid hg
  clear hB hg
  have hge : ∀ i, 1 ≤ i → 1 ≤ nm g i := fun i h => Nat.le_trans (Nat.pow_pos (by decide)) (nm_ge h l1)
  have HGE := Lib.hid hge; clear hge
  go_enter Tryz.func145, Tryz.ntmps145
  go_wp2_with fail
  go_loopw [4, 6] (fun r n wr => RA g nd (2 ^ k) w r n wr) (fun r _ _ => nd + 1 - (intOf r).toNat)
  case atStart => exact ⟨0, rfl, rfl, Nat.zero_le _, by simp only [nm]; omega, rfl⟩
  case round =>
    obtain ⟨i, rfl, rfl, hi, hn, hwr⟩ := hrel
    subst wr
    by_cases hK : nm g i < 2 ^ k
    · have t1 := shr_lt hK
      by_cases hin : i < nd
      · have hgi := HG.out i hin
        have ci := HB.out.dig (i := i) (by omega)
        obtain ⟨d, hd, hd9⟩ : ∃ d, g i = d + 48 ∧ d ≤ 9 := ⟨g i - 48, by omega, by omega⟩
        rw [hd] at ci
        have HD := Lib.hid hd; clear hd
        go_wp2_with fail
        exact ⟨⟨i + 1, by go_num, by rw [nm_succ, HD.out]; congr 1; omega, by omega, by rw [nm_succ, HD.out]; omega, rfl⟩, by simp only [intOf]; omega⟩
      · obtain rfl : nd = i := by omega
        have hn1 := HGE.out nd n1
        have t2 : ((nm g nd : Int) == 0) = false := by rw [beq_eq_false_iff_ne]; omega
        have HT2 := Lib.hid t2
        go_wp2_with fail
        clear t1 t2
        go_loopw [4, 6] (fun r n wr' => RB nd (2 ^ k) w r n wr') (fun _ n _ => 10 * 2 ^ k - (intOf n).toNat)
        case atStart => exact ⟨nd, nm g nd, rfl, rfl, Nat.le_refl _, by rw [Nat.sub_self]; exact hn1, hn, fun _ => hK, rfl⟩
        case round =>
          obtain ⟨i1, m0, rfl, rfl, hi1, hp, hA2, hm1, hwr⟩ := hrel
          subst wr
          by_cases hK2 : m0 < 2 ^ k
          · have t1 := shr_lt hK2
            have hm00 : 1 ≤ m0 := Nat.le_trans (Nat.pow_pos (by decide)) hp
            have hi20 : i1 - nd < 19 := by
              rcases Nat.lt_or_ge (i1 - nd) 19 with h | h
              · exact h
              · have h1 : (10 : Nat) ^ 19 ≤ 10 ^ (i1 - nd) := Nat.pow_le_pow_right (by decide) h
                have h2 : (10 : Nat) ^ 19 = 10000000000000000000 := by decide
                omega
            have HPP := Lib.hid hp; clear hp
            go_wp2_with fail
            exact ⟨⟨i1 + 1, m0 * 10, by go_num, by go_num, by omega, by rw [show i1 + 1 - nd = i1 - nd + 1 by omega, Nat.pow_succ]; exact Nat.mul_le_mul_right _ HPP.out, by omega, fun h => absurd h (by omega), rfl⟩, by simp only [intOf]; omega⟩
          · have t1 := shr_ge (Nat.not_lt.1 hK2)
            have hA1 : 2 ^ k ≤ m0 := Nat.not_lt.1 hK2
            have hi20 : i1 - nd < 20 := by
              rcases Nat.lt_or_ge (i1 - nd) 20 with h | h
              · exact h
              · have h1 : (10 : Nat) ^ 20 ≤ 10 ^ (i1 - nd) := Nat.pow_le_pow_right (by decide) h
                have h2 : (10 : Nat) ^ 20 = 100000000000000000000 := by decide
                omega
            have hii : i1 ≠ nd := fun h => hK2 (hm1 h)
            obtain ⟨c, rfl⟩ : ∃ c, i1 = c + 1 := ⟨i1 - 1, by omega⟩
            have hA3 : c + 1 ≤ nd + 20 := by omega
            have hA4 : c = 0 → m0 = g 0 - 48 := fun h => absurd h (by omega)
            clear hp hm1 hii hi1 hK HT2 hn1 hn hi20 hin hi
            go_wp2_with fail
            go_loopw [4, 5, 6] (fun r v n wr' => RC b g nd m0 (2 ^ k) (dp - (c : Int)) ng w r v n wr') (fun r _ _ _ => nd + 21 - (intOf r).toNat)
            case atStart => exact ⟨c + 1, 0, m0, g, tr, by go_num, rfl, rfl, by omega, by omega, by omega, hA2, HB.out.setP _, only_set (Only.refl _ _) _ _, fun t h => absurd h (by omega), fun _ _ => rfl, fun _ => rfl, fun h => absurd h (by omega)⟩
            case round =>
              clear c0 c1 f0
              obtain ⟨i2, j, m, g', tr', rfl, rfl, rfl, k1, k2, k3, k4, k5, k6, k7, k8, k9, k10⟩ := hrel
              have c0 := k5.cnd
              by_cases hin2 : i2 < nd
              · have hgi2 := HG.out i2 hin2
                obtain ⟨d, hd, hd9⟩ : ∃ d, g i2 = d + 48 ∧ d ≤ 9 := ⟨g i2 - 48, by omega, by omega⟩
                have ci := k5.dig (i := i2) (by omega)
                rw [k8 i2 (by omega), hd] at ci
                have cj := k5.dig (i := j) (by omega)
                have fj := k5.free j
                obtain ⟨x, hx⟩ : ∃ x, x = m / 2 ^ k := ⟨_, rfl⟩
                obtain ⟨y, hy⟩ : ∃ y, y = m % 2 ^ k := ⟨_, rfl⟩
                have hy2 : y < 2 ^ k := by rw [hy]; exact Nat.mod_lt _ (by omega)
                have hx9 : x ≤ 9 := by rw [hx]; have := (Nat.div_lt_iff_lt_mul (show 0 < 2 ^ k by omega)).2 k4; omega
                have e1 : ((m : Nat) : Int) / 2 ^ k = (x : Int) := by rw [shr_cast, ← hx]
                have e2 : bits BinOp.and IntKind.u64 (m : Int) (IntKind.u64.wrap (IntKind.u64.wrap (2 ^ k) - 1)) = (y : Int) := by
                  have := and_pow2 m k (by omega) h2
                  rw [← mask_wrap k h2, ← hy] at this
                  exact this
                have K5 := Lib.hid k5; have K6 := Lib.hid k6; have K7 := Lib.hid k7; have K8 := Lib.hid k8; have K9 := Lib.hid k9; have K10 := Lib.hid k10; have HX := Lib.hid hx
                clear k5 k6 k7 k8 k9 k10 hx hy
                go_wp2_with fail
                exact ⟨⟨i2 + 1, j + 1, y * 10 + d, _, tr', by go_num, by go_num, by congr 1; omega, by omega, by omega, by omega, by omega, K5.out.setE (x := x + 48) (by omega) (by omega), only_set K6.out _ _, fun t ht => by
                    by_cases h : t = j
                    · subst h; simp only [if_true]; omega
                    · simp only [if_neg h]; exact K7.out t (by omega),
                  fun t ht => by simp only [if_neg (show ¬ t = j by omega)]; exact K8.out t (by omega), fun h => absurd h (by omega), fun _ => by
                    by_cases h : 0 = j
                    · subst h; simp only [if_true]; rw [HX.out, K9.out rfl]; omega
                    · simp only [if_neg h]; exact K10.out (by omega)⟩, by simp only [intOf]; omega⟩
              · have K5 := Lib.hid k5; have K6 := Lib.hid k6; have K7 := Lib.hid k7; have K9 := Lib.hid k9; have K10 := Lib.hid k10
                clear k5 k6 k7 k8 k9 k10
                go_wp2_with fail
                go_loopw [5, 6] (fun v n wr' => RD b nd m0 (2 ^ k) (dp - (c : Int)) ng w v n wr') (fun _ n _ => muK (intOf n).toNat k)
                case atStart => exact ⟨j, m, g', tr', rfl, rfl, k2, k4, K5.out, K6.out, K7.out, K9.out, K10.out⟩
                case round =>
                  clear K5 K6 K7 K9 K10 c0
                  obtain ⟨j2, m2, g2, tr2, rfl, rfl, q1, q2, q3, q4, q5, q6, q7⟩ := hrel
                  by_cases hm : m2 = 0
                  · subst hm
                    have hj2 : 1 ≤ j2 := by
                      rcases Nat.eq_zero_or_pos j2 with h | h
                      · have := q6 h; omega
                      · exact h
                    have hl := q7 hj2
                    have d0 := q3.cnd
                    have f0 := q3.free 800
                    have Q3 := Lib.hid q3; have Q4 := Lib.hid q4; have Q5 := Lib.hid q5
                    have hq9 : 1 ≤ m0 / 2 ^ k := (Nat.le_div_iff_mul_le (Nat.two_pow_pos k)).2 (by omega)
                    clear q3 q4 q5 q6 q7
                    go_wp2_with fail
                    refine (trim_calls (Q3.out.setN j2) q1).mono ?_
                    rintro e w3 ⟨rfl, o3, n', z1, z2, z3⟩
                    have z4 := z3 hj2 (by omega)
                    rw [if_neg (by omega)] at z2
                    have O3 := Lib.hid ((only_set Q4.out 800 (.int .i64 (j2 : Int))).trans o3)
                    have Z2 := Lib.hid z2
                    clear o3 z2 z3
                    go_wp2_with fail
                    go_end0
                    refine ⟨rfl, O3.out, g2, n', c, ⟨⟨tr2, Z2.out⟩, fun t ht => Q5.out t (by omega), z4, by omega, by omega⟩, by omega, fun h => ?_⟩
                    have e0 := hA4 h
                    have e1 : m0 / 2 ^ k < m0 := Nat.div_lt_self (by omega) (by omega)
                    omega
                  · have t3 : decide ((m2 : Int) > 0) = true := decide_eq_true (by omega)
                    obtain ⟨x, hx⟩ : ∃ x, x = m2 / 2 ^ k := ⟨_, rfl⟩
                    obtain ⟨y, hy⟩ : ∃ y, y = m2 % 2 ^ k := ⟨_, rfl⟩
                    have hy2 : y < 2 ^ k := by rw [hy]; exact Nat.mod_lt _ (by omega)
                    have hx9 : x ≤ 9 := by rw [hx]; have := (Nat.div_lt_iff_lt_mul (show 0 < 2 ^ k by omega)).2 q2; omega
                    have hmu := muK_next (k := k) hm
                    rw [← hy] at hmu
                    have e1 : ((m2 : Nat) : Int) / 2 ^ k = (x : Int) := by rw [shr_cast, ← hx]
                    have e2 : bits BinOp.and IntKind.u64 (m2 : Int) (IntKind.u64.wrap (IntKind.u64.wrap (2 ^ k) - 1)) = (y : Int) := by
                      have := and_pow2 m2 k (by omega) h2
                      rw [← mask_wrap k h2, ← hy] at this
                      exact this
                    have Q3 := Lib.hid q3; have Q4 := Lib.hid q4; have Q5 := Lib.hid q5; have Q6 := Lib.hid q6; have Q7 := Lib.hid q7; have HX := Lib.hid hx; have HMU := Lib.hid hmu
                    have f1 := q3.free 803
                    have c3 := q3.ctr
                    by_cases hj : j2 < 800
                    · have cj := q3.dig (i := j2) hj
                      have fj := q3.free j2
                      clear q3 q4 q5 q6 q7 hx hy hmu
                      go_wp2_with fail
                      exact ⟨⟨j2 + 1, y * 10, _, tr2, by go_num, by go_num, by omega, by omega, Q3.out.setE (x := x + 48) hj (by omega), only_set Q4.out _ _, fun t ht => by
                          by_cases h : t = j2
                          · subst h; simp only [if_true]; omega
                          · simp only [if_neg h]; exact Q5.out t (by omega),
                        fun h => absurd h (by omega), fun _ => by
                          by_cases h : 0 = j2
                          · subst h; simp only [if_true]; rw [HX.out, Q6.out rfl]; omega
                          · simp only [if_neg h]; exact Q7.out (by omega)⟩, by simp only [intOf]; exact HMU.out⟩
                    · clear q3 q4 q5 q6 q7 hx hy hmu
                      by_cases hx0 : x = 0
                      · subst hx0
                        go_wp2_with fail
                        exact ⟨⟨j2, y * 10, g2, tr2, rfl, by go_num, q1, by omega, Q3.out, Q4.out, Q5.out, fun h => absurd h (by omega), Q7.out⟩, by simp only [intOf]; exact HMU.out⟩
                      · have t4 : decide ((x : Int) > 0) = true := decide_eq_true (by omega)
                        go_wp2_with fail
                        exact ⟨⟨j2, y * 10, g2, true, rfl, by go_num, q1, by omega, Q3.out.setT true, only_set Q4.out _ _, Q5.out, fun h => absurd h (by omega), Q7.out⟩, by simp only [intOf]; exact HMU.out⟩
    · have t1 := shr_ge (Nat.not_lt.1 hK)
      have hA1 : 2 ^ k ≤ nm g i := Nat.not_lt.1 hK
      have hi0 : i ≠ 0 := by rintro rfl; simp only [nm] at hA1; omega
      obtain ⟨c, rfl⟩ : ∃ c, i = c + 1 := ⟨i - 1, by omega⟩
      have hA4 : c = 0 → nm g (c + 1) = g 0 - 48 := by rintro rfl; simp only [nm]; omega
      have hA3 : c + 1 ≤ nd + 20 := by omega
      have hA2 := hn
      clear hK hi0 hi hn
      generalize nm g (c + 1) = m0 at *
      go_wp2_with fail
      go_loopw [4, 5, 6] (fun r v n wr' => RC b g nd m0 (2 ^ k) (dp - (c : Int)) ng w r v n wr') (fun r _ _ _ => nd + 21 - (intOf r).toNat)
      case atStart => exact ⟨c + 1, 0, m0, g, tr, by go_num, rfl, rfl, by omega, by omega, by omega, hA2, HB.out.setP _, only_set (Only.refl _ _) _ _, fun t h => absurd h (by omega), fun _ _ => rfl, fun _ => rfl, fun h => absurd h (by omega)⟩
      case round =>
        clear c0 c1 f0
        obtain ⟨i2, j, m, g', tr', rfl, rfl, rfl, k1, k2, k3, k4, k5, k6, k7, k8, k9, k10⟩ := hrel
        have c0 := k5.cnd
        by_cases hin2 : i2 < nd
        · have hgi2 := HG.out i2 hin2
          obtain ⟨d, hd, hd9⟩ : ∃ d, g i2 = d + 48 ∧ d ≤ 9 := ⟨g i2 - 48, by omega, by omega⟩
          have ci := k5.dig (i := i2) (by omega)
          rw [k8 i2 (by omega), hd] at ci
          have cj := k5.dig (i := j) (by omega)
          have fj := k5.free j
          obtain ⟨x, hx⟩ : ∃ x, x = m / 2 ^ k := ⟨_, rfl⟩
          obtain ⟨y, hy⟩ : ∃ y, y = m % 2 ^ k := ⟨_, rfl⟩
          have hy2 : y < 2 ^ k := by rw [hy]; exact Nat.mod_lt _ (by omega)
          have hx9 : x ≤ 9 := by rw [hx]; have := (Nat.div_lt_iff_lt_mul (show 0 < 2 ^ k by omega)).2 k4; omega
          have e1 : ((m : Nat) : Int) / 2 ^ k = (x : Int) := by rw [shr_cast, ← hx]
          have e2 : bits BinOp.and IntKind.u64 (m : Int) (IntKind.u64.wrap (IntKind.u64.wrap (2 ^ k) - 1)) = (y : Int) := by
            have := and_pow2 m k (by omega) h2
            rw [← mask_wrap k h2, ← hy] at this
            exact this
          have K5 := Lib.hid k5; have K6 := Lib.hid k6; have K7 := Lib.hid k7; have K8 := Lib.hid k8; have K9 := Lib.hid k9; have K10 := Lib.hid k10; have HX := Lib.hid hx
          clear k5 k6 k7 k8 k9 k10 hx hy
          go_wp2_with fail
          exact ⟨⟨i2 + 1, j + 1, y * 10 + d, _, tr', by go_num, by go_num, by congr 1; omega, by omega, by omega, by omega, by omega, K5.out.setE (x := x + 48) (by omega) (by omega), only_set K6.out _ _, fun t ht => by
              by_cases h : t = j
              · subst h; simp only [if_true]; omega
              · simp only [if_neg h]; exact K7.out t (by omega),
            fun t ht => by simp only [if_neg (show ¬ t = j by omega)]; exact K8.out t (by omega), fun h => absurd h (by omega), fun _ => by
              by_cases h : 0 = j
              · subst h; simp only [if_true]; rw [HX.out, K9.out rfl]; omega
              · simp only [if_neg h]; exact K10.out (by omega)⟩, by simp only [intOf]; omega⟩
        · have K5 := Lib.hid k5; have K6 := Lib.hid k6; have K7 := Lib.hid k7; have K9 := Lib.hid k9; have K10 := Lib.hid k10
          clear k5 k6 k7 k8 k9 k10
          go_wp2_with fail
          go_loopw [5, 6] (fun v n wr' => RD b nd m0 (2 ^ k) (dp - (c : Int)) ng w v n wr') (fun _ n _ => muK (intOf n).toNat k)
          case atStart => exact ⟨j, m, g', tr', rfl, rfl, k2, k4, K5.out, K6.out, K7.out, K9.out, K10.out⟩
          case round =>
            clear K5 K6 K7 K9 K10 c0
            obtain ⟨j2, m2, g2, tr2, rfl, rfl, q1, q2, q3, q4, q5, q6, q7⟩ := hrel
            by_cases hm : m2 = 0
            · subst hm
              have hj2 : 1 ≤ j2 := by
                rcases Nat.eq_zero_or_pos j2 with h | h
                · have := q6 h; omega
                · exact h
              have hl := q7 hj2
              have d0 := q3.cnd
              have f0 := q3.free 800
              have Q3 := Lib.hid q3; have Q4 := Lib.hid q4; have Q5 := Lib.hid q5
              have hq9 : 1 ≤ m0 / 2 ^ k := (Nat.le_div_iff_mul_le (Nat.two_pow_pos k)).2 (by omega)
              clear q3 q4 q5 q6 q7
              go_wp2_with fail
              refine (trim_calls (Q3.out.setN j2) q1).mono ?_
              rintro e w3 ⟨rfl, o3, n', z1, z2, z3⟩
              have z4 := z3 hj2 (by omega)
              rw [if_neg (by omega)] at z2
              have O3 := Lib.hid ((only_set Q4.out 800 (.int .i64 (j2 : Int))).trans o3)
              have Z2 := Lib.hid z2
              clear o3 z2 z3
              go_wp2_with fail
              go_end0
              refine ⟨rfl, O3.out, g2, n', c, ⟨⟨tr2, Z2.out⟩, fun t ht => Q5.out t (by omega), z4, by omega, by omega⟩, by omega, fun h => ?_⟩
              have e0 := hA4 h
              have e1 : m0 / 2 ^ k < m0 := Nat.div_lt_self (by omega) (by omega)
              omega
            · have t3 : decide ((m2 : Int) > 0) = true := decide_eq_true (by omega)
              obtain ⟨x, hx⟩ : ∃ x, x = m2 / 2 ^ k := ⟨_, rfl⟩
              obtain ⟨y, hy⟩ : ∃ y, y = m2 % 2 ^ k := ⟨_, rfl⟩
              have hy2 : y < 2 ^ k := by rw [hy]; exact Nat.mod_lt _ (by omega)
              have hx9 : x ≤ 9 := by rw [hx]; have := (Nat.div_lt_iff_lt_mul (show 0 < 2 ^ k by omega)).2 q2; omega
              have hmu := muK_next (k := k) hm
              rw [← hy] at hmu
              have e1 : ((m2 : Nat) : Int) / 2 ^ k = (x : Int) := by rw [shr_cast, ← hx]
              have e2 : bits BinOp.and IntKind.u64 (m2 : Int) (IntKind.u64.wrap (IntKind.u64.wrap (2 ^ k) - 1)) = (y : Int) := by
                have := and_pow2 m2 k (by omega) h2
                rw [← mask_wrap k h2, ← hy] at this
                exact this
              have Q3 := Lib.hid q3; have Q4 := Lib.hid q4; have Q5 := Lib.hid q5; have Q6 := Lib.hid q6; have Q7 := Lib.hid q7; have HX := Lib.hid hx; have HMU := Lib.hid hmu
              have f1 := q3.free 803
              have c3 := q3.ctr
              by_cases hj : j2 < 800
              · have cj := q3.dig (i := j2) hj
                have fj := q3.free j2
                clear q3 q4 q5 q6 q7 hx hy hmu
                go_wp2_with fail
                exact ⟨⟨j2 + 1, y * 10, _, tr2, by go_num, by go_num, by omega, by omega, Q3.out.setE (x := x + 48) hj (by omega), only_set Q4.out _ _, fun t ht => by
                    by_cases h : t = j2
                    · subst h; simp only [if_true]; omega
                    · simp only [if_neg h]; exact Q5.out t (by omega),
                  fun h => absurd h (by omega), fun _ => by
                    by_cases h : 0 = j2
                    · subst h; simp only [if_true]; rw [HX.out, Q6.out rfl]; omega
                    · simp only [if_neg h]; exact Q7.out (by omega)⟩, by simp only [intOf]; exact HMU.out⟩
              · clear q3 q4 q5 q6 q7 hx hy hmu
                by_cases hx0 : x = 0
                · subst hx0
                  go_wp2_with fail
                  exact ⟨⟨j2, y * 10, g2, tr2, rfl, by go_num, q1, by omega, Q3.out, Q4.out, Q5.out, fun h => absurd h (by omega), Q7.out⟩, by simp only [intOf]; exact HMU.out⟩
                · have t4 : decide ((x : Int) > 0) = true := decide_eq_true (by omega)
                  go_wp2_with fail
                  exact ⟨⟨j2, y * 10, g2, true, rfl, by go_num, q1, by omega, Q3.out.setT true, only_set Q4.out _ _, Q5.out, fun h => absurd h (by omega), Q7.out⟩, by simp only [intOf]; exact HMU.out⟩
end Go.Proofs.YthjfdhkahmlolaaGreatDoor
