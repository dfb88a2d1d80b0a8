/- The walks of the reference's floats. -/
import Derived.Test.YtgcjhdcplmfjbaaFrame
import Derived.Test.YtgcjhdcplmfjbaaFlo
import Derived.Deep.QuietTactic
import Derived.BigQuiet
import Derived.Deep.DeepCutAuto
namespace Go.Proofs.Ytgcjhdcplmfjbaa
open Go.RowKit Flt

theorem nat_mag (a : Nat) (_h : a < 18446744073709551616) : a &&& (18446744073709551615 - 9223372036854775808) = mag a := by
  have := Nat.and_two_pow_sub_one_eq_mod a 63
  simpa [mag] using this
theorem mag_bits (a : Nat) (h : a < 18446744073709551616) : bits BinOp.andNot IntKind.u64 (a : Int) 9223372036854775808 = ((mag a : Nat) : Int) := by
  have := u64_andNot_nat a 9223372036854775808 h (by omega)
  rw [nat_mag a h] at this
  exact this

set_option maxHeartbeats 400000 in
theorem isnan_any (a : Nat) (w : World) (ha : a < 18446744073709551616) :
    Calls Try.prog 18 #[.int .u64 a] w fun e w' => e = .returned (.bool (nan a)) ∧ w = w' := by
  have hm := mag_bits a ha
  go_enter Try.func18, Try.ntmps18
  go_wp2
  go_ret
  exact ⟨ret_eq (by unfold nan; exact congrArg Value.bool (decide_eq_decide.2 Int.ofNat_lt)), rfl⟩

def lowbit (m : Nat) : Nat := m % 2
def low3 (m : Nat) : Nat := m % 8
theorem and1 (m : Nat) (h : m < 18446744073709551616) : bits BinOp.and IntKind.u64 (m : Int) 1 = ((lowbit m : Nat) : Int) := by
  have := u64_and_nat m 1 h (by omega)
  rw [nat_mask1] at this; exact this
theorem and7 (m : Nat) (h : m < 18446744073709551616) : bits BinOp.and IntKind.u64 (m : Int) 7 = ((low3 m : Nat) : Int) := by
  have := u64_and_nat m 7 h (by omega)
  rw [nat_mask3] at this; exact this
theorem or_stk (m : Nat) (h : m < 18446744073709551616) : bits BinOp.or IntKind.u64 ((m : Int) / 2) ((lowbit m : Nat) : Int) = ((stk m 1 : Nat) : Int) := by
  have := u64_or_nat (m / 2) (lowbit m) (by omega) (by unfold lowbit; omega)
  rw [show ((m : Int) / 2) = ((m / 2 : Nat) : Int) by omega, this]
  congr 1
  unfold stk lowbit
  have h1 : m % 2 = 0 ∨ m % 2 = 1 := by omega
  rw [show (2 : Nat) ^ 1 = 2 from rfl]
  rcases h1 with h1 | h1
  · rw [h1]; simp
  · rw [h1, if_neg (by omega)]
    have h2 := nat_mask1 (m / 2)
    have hor : m / 2 ||| 1 = m / 2 / 2 * 2 + 1 := by
      have e : m / 2 = m / 2 / 2 * 2 + m / 2 % 2 := by omega
      have j := nat_join 1 (m / 2 / 2 * 2) 1 (by simp) (by decide)
      rcases (show m / 2 % 2 = 0 ∨ m / 2 % 2 = 1 by omega) with q | q
      · rw [q] at e
        rw [Nat.add_zero] at e
        rw [← j]; congr 1
      · have e2 : m / 2 = m / 2 / 2 * 2 ||| 1 := by rw [j]; omega
        have : m / 2 ||| 1 = (m / 2 / 2 * 2 ||| 1) ||| 1 := by rw [← e2]
        rw [this, Nat.or_assoc, Nat.or_self, j]
    exact hor

structure PK (m : Nat) (e : Int) (m' : Nat) (e' : Int) : Prop where
  same : rung m' (e' - 3) = rung m (e - 3)
  lo : -1074 ≤ e'
  hi : e' ≤ 972
theorem stk1_le (m : Nat) : stk m 1 ≤ m / 2 / 2 * 2 + 1 := by unfold stk; rw [show (2 : Nat) ^ 1 = 2 from rfl]; split <;> omega
theorem stk1_ge (m : Nat) : m / 2 ≤ stk m 1 := by unfold stk; rw [show (2 : Nat) ^ 1 = 2 from rfl]; split <;> omega

def lowfrac (k : Nat) : Nat := k % 4503599627370496
theorem and_frac (k : Nat) (h : k < 18446744073709551616) : bits BinOp.and IntKind.u64 (k : Int) 4503599627370495 = ((lowfrac k : Nat) : Int) := by
  have h1 := u64_and_nat k 4503599627370495 h (by omega)
  have h2 := Nat.and_two_pow_sub_one_eq_mod k 52
  rw [show (2 ^ 52 - 1 : Nat) = 4503599627370495 from rfl] at h2
  rw [h2] at h1; exact h1
theorem or_exp (E : Int) (y : Nat) (h0 : 0 ≤ E) (h1 : E ≤ 2048) (hy : y < 4503599627370496) : bits BinOp.or IntKind.u64 (E * 4503599627370496) (y : Int) = ((E.toNat * 4503599627370496 + y : Nat) : Int) := by
  obtain ⟨n, rfl⟩ := Int.eq_ofNat_of_zero_le h0
  have h2 := u64_or_nat (n * 4503599627370496) y (by omega) (by omega)
  have h3 := nat_join 52 (n * 4503599627370496) y (by rw [show (2 ^ 52 : Nat) = 4503599627370496 from rfl]; exact Nat.mul_mod_left _ _) (by rw [show (2 ^ 52 : Nat) = 4503599627370496 from rfl]; exact hy)
  rw [h3] at h2
  rw [Int.toNat_natCast, ← h2]
  congr 1
theorem or_sign (P : Nat) (h : P < 9223372036854775808) : bits BinOp.or IntKind.u64 (P : Int) 9223372036854775808 = ((9223372036854775808 + P : Nat) : Int) := by
  have h2 := u64_or_nat P 9223372036854775808 (by omega) (by omega)
  have h3 := nat_join 63 9223372036854775808 P (by decide) (by rw [show (2 ^ 63 : Nat) = 9223372036854775808 from rfl]; exact h)
  rw [Nat.or_comm, h3] at h2
  exact h2
theorem rung_le (m : Nat) (p : Int) : rung m p ≤ 9218868437227405312 := by
  unfold rung; split
  · omega
  · exact Nat.min_le_right _ _
theorem pack2_a (f : Int) (h : 2047 ≤ f + 1 + 1075) : pack2 9007199254740992 f = 9218868437227405312 := by
  unfold pack2; dsimp only; rw [if_pos rfl, if_pos rfl, if_pos (by omega)]
theorem pack2_b (f : Int) (h : ¬ 2047 ≤ f + 1 + 1075) : pack2 9007199254740992 f = (f + 1 + 1075).toNat * 4503599627370496 + 0 := by
  unfold pack2; dsimp only; rw [if_pos rfl, if_pos rfl, if_neg (by omega), if_pos (by omega)]
theorem pack2_c (k : Nat) (f : Int) (hk : ¬ k = 9007199254740992) (h : 2047 ≤ f + 1075) : pack2 k f = 9218868437227405312 := by
  unfold pack2; dsimp only; rw [if_neg hk, if_neg hk, if_pos (by omega)]
theorem pack2_d (k : Nat) (f : Int) (hk : ¬ k = 9007199254740992) (h2 : 4503599627370496 ≤ k) (h : ¬ 2047 ≤ f + 1075) : pack2 k f = (f + 1075).toNat * 4503599627370496 + lowfrac k := by
  unfold pack2 lowfrac; dsimp only; rw [if_neg hk, if_neg hk, if_neg (by omega), if_pos h2]
theorem pack2_e (k : Nat) (f : Int) (hk : ¬ k = 9007199254740992) (h2 : ¬ 4503599627370496 ≤ k) (h : ¬ 2047 ≤ f + 1075) : pack2 k f = k := by
  unfold pack2; dsimp only; rw [if_neg hk, if_neg hk, if_neg (by omega), if_neg h2]

def up3 (m : Nat) : Bool := decide (4 < m % 8) || (m % 8 == 4 && m / 8 % 2 == 1)
theorem pack1_up (m : Nat) : pack1 m = if up3 m then m / 8 + 1 else m / 8 := by
  unfold pack1 up3
  by_cases h1 : 4 < m % 8
  · simp [h1]
  · by_cases h2 : m % 8 = 4 ∧ m / 8 % 2 = 1
    · simp [h2.1, h2.2]
    · have : (m % 8 == 4 && m / 8 % 2 == 1) = false := by
        rw [Bool.and_eq_false_imp]; intro a; rw [beq_eq_false_iff_ne]; exact fun b => h2 ⟨by simpa using a, b⟩
      simp [h1, h2, this]
theorem up_a (n : Nat) (h : 4 < n % 8) : up3 n = true := by unfold up3; simp [h]
theorem up_b (n : Nat) (h : n % 8 = 4) (k : n / 8 % 2 = 1) : up3 n = true := by unfold up3; simp [h, k]
theorem up_c (n : Nat) (h : n % 8 = 4) (k : ¬ n / 8 % 2 = 1) : up3 n = false := by unfold up3; simp [h, k]
theorem up_d (n : Nat) (h : ¬ 4 < n % 8) (k : ¬ n % 8 = 4) : up3 n = false := by unfold up3; simp [h, k]

set_option maxRecDepth 100000 in
set_option maxHeartbeats 1000000 in
theorem packed_any (s : Bool) (m : Nat) (e : Int) (w : World) (hm : m < 144115188075855872) (h1 : -1074 ≤ e) (h2 : e ≤ 971) :
    Calls Try.prog 44 #[.bool s, .int .u64 m, .int .i64 e] w fun e1 w' => e1 = .returned (.int .u64 (D.word s (rung m (e - 3)) : Nat)) ∧ w = w' := by
  go_enter Try.func44, Try.ntmps44
  go_wp2
  go_loop [1, 2] (fun a b => ∃ (m' : Nat) (e' : Int), a = .int .u64 m' ∧ b = .int .i64 e' ∧ PK m e m' e' ∧ m' < 144115188075855872 ∧ (72057594037927936 ≤ m' → m' = m ∧ e' = e)) (fun a _ => (intOf a).toNat)
  case atStart => exact ⟨m, e, rfl, rfl, ⟨rfl, h1, by omega⟩, hm, fun _ => ⟨rfl, rfl⟩⟩
  case round =>
    obtain ⟨m', e', rfl, rfl, hpk, hm', hback⟩ := hrel
    by_cases hge : 72057594037927936 ≤ m'
    · obtain ⟨rfl, rfl⟩ := hback hge
      have r1 := and1 m' (by omega)
      have r2 := or_stk m' (by omega)
      have hpk2 : Hid (PK m' e' (stk m' 1) (e' + 1)) := by
        refine ⟨?_, by omega, by omega⟩
        rw [rung_stk _ _ _ (by rw [show (2 : Nat) ^ 1 = 2 from rfl]; omega)]
        congr 1; omega
      have l1 := Lib.hid (stk1_le m')
      have ht : decide ((72057594037927936 : Int) ≤ (m' : Int)) = true := by rw [decide_eq_true_iff]; omega
      have hm'' := Lib.hid hm'
      have hge' := Lib.hid hge
      have hm0 := Lib.hid hm
      clear hpk hback hm' hge hm
      go_wp2
      go_round
      case rel => exact ⟨stk m' 1, e' + 1, rfl, rfl, hpk2.out, by have := l1.out; have := hm''.out; omega, by have := l1.out; have := hm''.out; omega⟩
      case measure => have := l1.out; have := hge'.out; simp [intOf]; omega
    · have ht : decide ((72057594037927936 : Int) ≤ (m' : Int)) = false := by rw [decide_eq_false_iff_not]; omega
      have hge' := Lib.hid hge
      have hm0 := Lib.hid hm
      clear hback hm' hge hm
      go_wp2
      clear ht
      go_loop [1, 2] (fun a b => ∃ (n : Nat) (f : Int), a = .int .u64 n ∧ b = .int .i64 f ∧ PK m e n f ∧ n < 72057594037927936) (fun _ b => (intOf b + 1074).toNat)
      case atStart => exact ⟨m', e', rfl, rfl, hpk, by have := hge'.out; omega⟩
      case round =>
        obtain ⟨n, f, rfl, rfl, hpn, hn⟩ := hrel
        have hlo := hpn.lo
        have hhi := hpn.hi
        by_cases hsm : n < 36028797018963968 ∧ -1074 < f
        · obtain ⟨q1, q2⟩ := hsm
          have hpk2 : Hid (PK m e (n * 2 ^ 1) (f - 1)) := by
            refine ⟨?_, by omega, by omega⟩
            rw [rung_scale, ← hpn.same]
            congr 1; omega
          have t1 : decide ((n : Int) < 36028797018963968) = true := by rw [decide_eq_true_iff]; omega
          have hwr : Hid (IntKind.u64.wrap ((n : Int) * 2) = ((n * 2 ^ 1 : Nat) : Int)) := by show _ = _; rw [IntKind.wrap_u64]; omega
          have hsz : Hid (n * 2 ^ 1 < 72057594037927936) := by show _ < _; omega
          have q1' := Lib.hid q1
          clear hpn hpk hn q1
          go_wp2
          go_round
          case rel => exact ⟨n * 2 ^ 1, f - 1, by rw [hwr.out], rfl, hpk2.out, hsz.out⟩
          case measure => simp [intOf]; omega
        · have hfin := pack_final n f hn (by omega) hlo
          rw [hpn.same] at hfin
          have hfin' := Lib.hid hfin
          have hn' := Lib.hid hn
          have r3 := and7 n (by omega)
          have hq : (n : Int) / 8 = ((n / 8 : Nat) : Int) := by omega
          have hq8 : Hid (n / 8 < 9007199254740992) := by show _ < _; omega
          have r4 := and1 (n / 8) (by omega)
          have hl3 : Hid (low3 n = n % 8) := rfl
          have hlb : Hid (lowbit (n / 8) = (n / 8) % 2) := rfl
          have hlt8 : low3 n < 8 := by unfold low3; omega
          have hlt2 : lowbit (n / 8) < 2 := by unfold lowbit; omega
          have htest : Hid (n < 36028797018963968 → f = -1074) := by intro h; omega
          clear hfin hpn hpk hn hsm
          have hlow : ∃ t : Bool, decide ((n : Int) < 36028797018963968) = t ∧ (t = true → decide (-1074 < f) = false) := ⟨_, rfl, fun h => by have := htest.out (by rw [decide_eq_true_iff] at h; omega); rw [decide_eq_false_iff_not]; omega⟩
          obtain ⟨t, ht1, ht2⟩ := hlow
          generalize hqq0 : n / 8 = q at *
          have hqq := Lib.hid hqq0; clear hqq0
          cases t
          all_goals (try have ht3 := ht2 rfl)
          all_goals clear ht2
          all_goals go_upto_region 9 with fail
          all_goals clear ht1
          all_goals (try clear ht3)
          all_goals go_cut [42] (fun a wx => w = wx ∧ a = .bool (up3 n))
          case first =>
            by_cases c1 : 4 < low3 n
            · have g1 : decide ((4 : Int) < (low3 n : Int)) = true := by rw [decide_eq_true_iff]; omega
              go_wp2_with fail
              go_meet
              exact ⟨rfl, by rw [up_a n (by rw [← hl3.out]; exact c1)]⟩
            · have g1 : decide ((4 : Int) < (low3 n : Int)) = false := by rw [decide_eq_false_iff_not]; omega
              by_cases c2 : low3 n = 4
              · have g2 : ((low3 n : Int) == 4) = true := by rw [beq_iff_eq]; omega
                by_cases c3 : lowbit q = 1
                · have g3 : ((lowbit q : Int) == 1) = true := by rw [beq_iff_eq]; omega
                  have hend : Hid (up3 n = true) := up_b n (by rw [← hl3.out]; exact c2) (by rw [hqq.out, ← hlb.out]; exact c3)
                  clear c1 c2 c3
                  go_wp2_with fail
                  go_meet
                  exact ⟨rfl, by rw [hend.out]⟩
                · have g3 : ((lowbit q : Int) == 1) = false := by rw [beq_eq_false_iff_ne]; omega
                  have hend : Hid (up3 n = false) := up_c n (by rw [← hl3.out]; exact c2) (by rw [hqq.out, ← hlb.out]; exact c3)
                  clear c1 c2 c3
                  go_wp2_with fail
                  go_meet
                  exact ⟨rfl, by rw [hend.out]⟩
              · have g2 : ((low3 n : Int) == 4) = false := by rw [beq_eq_false_iff_ne]; omega
                have hend : Hid (up3 n = false) := up_d n (by rw [← hl3.out]; exact c1) (by rw [← hl3.out]; exact c2)
                clear c1 c2
                go_wp2_with fail
                go_meet
                exact ⟨rfl, by rw [hend.out]⟩
          case rest =>
            obtain ⟨rfl, rfl⟩ := hcut
            clear r3 r4 hlt8 hlt2
            have hfk : Hid (pack1 n = if up3 n then q + 1 else q) := by show _ = _; rw [pack1_up, hqq.out]
            have hwq : IntKind.u64.wrap ((q : Int) + 1) = ((q + 1 : Nat) : Int) := by have := hq8.out; rw [IntKind.wrap_u64]; omega
            go_upto_if 42 with fail
            go_cut [1] (fun a wx => w = wx ∧ a = .int .u64 (pack1 n : Nat))
            case first =>
              cases hup : up3 n
              · go_wp2_with fail
                go_meet
                exact ⟨rfl, by rw [hfk.out, hup]; rfl⟩
              · go_wp2_with fail
                go_meet
                exact ⟨rfl, by rw [hfk.out, hup]; rfl⟩
            case rest =>
              obtain ⟨rfl, rfl⟩ := hcut
              clear hwq hq
              have hk0 : Hid (pack1 n ≤ 9007199254740992) := by show _ ≤ _; rw [hfk.out]; have := hq8.out; split <;> omega
              clear hfk
              generalize pack1 n = k at *
              by_cases hk : k = 9007199254740992
              · subst hk
                have rA : bits BinOp.and IntKind.u64 4503599627370496 4503599627370495 = 0 := by decide
                have rO : bits BinOp.or IntKind.u64 ((f + 1 + 1075) * 4503599627370496) 0 = (((f + 1 + 1075).toNat * 4503599627370496 + 0 : Nat) : Int) := or_exp (f + 1 + 1075) 0 (by omega) (by omega) (by omega)
                by_cases hinf : 2047 ≤ f + 1 + 1075
                · have hp2 : Hid (pack2 9007199254740992 f = 9218868437227405312) := pack2_a f hinf
                  go_upto_if 63 with fail
                  go_cut [8] (fun a wx => w = wx ∧ a = .int .u64 (pack2 9007199254740992 f : Nat))
                  case first =>
                    clear rA rO
                    go_wp2_with fail
                    go_meet
                    exact ⟨rfl, by rw [hp2.out]; rfl⟩
                  case rest =>
                    obtain ⟨rfl, rfl⟩ := hcut
                    have hP : Hid (pack2 9007199254740992 f = rung m (e - 3)) := hfin'.out
                    have hPl : pack2 9007199254740992 f < 9223372036854775808 := by rw [hP.out]; exact Nat.lt_of_le_of_lt (rung_le _ _) (by omega)
                    generalize pack2 9007199254740992 f = P at *
                    have hor : bits BinOp.or IntKind.u64 (P : Int) 9223372036854775808 = ((9223372036854775808 + P : Nat) : Int) := or_sign P hPl
                    have hPl' := Lib.hid hPl
                    clear hPl hk0
                    cases s
                    · go_wp2_with fail
                      go_ret
                      exact ⟨by rw [← hP.out, word_eq]; simp, rfl⟩
                    · go_wp2_with fail
                      go_ret
                      exact ⟨by rw [← hP.out, word_eq]; rfl, rfl⟩
                · have hp2 : Hid (pack2 9007199254740992 f = (f + 1 + 1075).toNat * 4503599627370496 + 0) := pack2_b f (by omega)
                  go_upto_if 63 with fail
                  go_cut [8] (fun a wx => w = wx ∧ a = .int .u64 (pack2 9007199254740992 f : Nat))
                  case first =>
                    clear rA rO
                    go_wp2_with fail
                    go_meet
                    exact ⟨rfl, by rw [hp2.out]; congr 1; omega⟩
                  case rest =>
                    obtain ⟨rfl, rfl⟩ := hcut
                    have hP : Hid (pack2 9007199254740992 f = rung m (e - 3)) := hfin'.out
                    have hPl : pack2 9007199254740992 f < 9223372036854775808 := by rw [hP.out]; exact Nat.lt_of_le_of_lt (rung_le _ _) (by omega)
                    generalize pack2 9007199254740992 f = P at *
                    have hor : bits BinOp.or IntKind.u64 (P : Int) 9223372036854775808 = ((9223372036854775808 + P : Nat) : Int) := or_sign P hPl
                    have hPl' := Lib.hid hPl
                    clear hPl hk0
                    cases s
                    · go_wp2_with fail
                      go_ret
                      exact ⟨by rw [← hP.out, word_eq]; simp, rfl⟩
                    · go_wp2_with fail
                      go_ret
                      exact ⟨by rw [← hP.out, word_eq]; rfl, rfl⟩
              · have g1 : ((k : Int) == 9007199254740992) = false := by rw [beq_eq_false_iff_ne]; omega
                by_cases hk2 : 4503599627370496 ≤ k
                · have g2 : decide ((4503599627370496 : Int) ≤ (k : Int)) = true := by rw [decide_eq_true_iff]; omega
                  have rA : bits BinOp.and IntKind.u64 (k : Int) 4503599627370495 = ((lowfrac k : Nat) : Int) := and_frac k (by have := hk0.out; omega)
                  have rO : bits BinOp.or IntKind.u64 ((f + 1075) * 4503599627370496) ((lowfrac k : Nat) : Int) = (((f + 1075).toNat * 4503599627370496 + lowfrac k : Nat) : Int) := or_exp (f + 1075) (lowfrac k) (by omega) (by omega) (by unfold lowfrac; omega)
                  by_cases hinf : 2047 ≤ f + 1075
                  · have hp2 : Hid (pack2 k f = 9218868437227405312) := pack2_c k f hk hinf
                    clear hk hk2
                    go_upto_if 63 with fail
                    go_cut [8] (fun a wx => w = wx ∧ a = .int .u64 (pack2 k f : Nat))
                    case first =>
                      clear rA rO
                      go_wp2_with fail
                      go_meet
                      exact ⟨rfl, by rw [hp2.out]; rfl⟩
                    case rest =>
                      obtain ⟨rfl, rfl⟩ := hcut
                      have hP : Hid (pack2 k f = rung m (e - 3)) := hfin'.out
                      have hPl : pack2 k f < 9223372036854775808 := by rw [hP.out]; exact Nat.lt_of_le_of_lt (rung_le _ _) (by omega)
                      generalize pack2 k f = P at *
                      have hor : bits BinOp.or IntKind.u64 (P : Int) 9223372036854775808 = ((9223372036854775808 + P : Nat) : Int) := or_sign P hPl
                      have hPl' := Lib.hid hPl
                      clear hPl hk0
                      cases s
                      · go_wp2_with fail
                        go_ret
                        exact ⟨by rw [← hP.out, word_eq]; simp, rfl⟩
                      · go_wp2_with fail
                        go_ret
                        exact ⟨by rw [← hP.out, word_eq]; rfl, rfl⟩
                  · have hp2 : Hid (pack2 k f = (f + 1075).toNat * 4503599627370496 + lowfrac k) := pack2_d k f hk hk2 hinf
                    clear hk hk2
                    go_upto_if 63 with fail
                    go_cut [8] (fun a wx => w = wx ∧ a = .int .u64 (pack2 k f : Nat))
                    case first =>
                      clear rA rO
                      go_wp2_with fail
                      go_meet
                      exact ⟨rfl, by rw [hp2.out]; congr 1; omega⟩
                    case rest =>
                      obtain ⟨rfl, rfl⟩ := hcut
                      have hP : Hid (pack2 k f = rung m (e - 3)) := hfin'.out
                      have hPl : pack2 k f < 9223372036854775808 := by rw [hP.out]; exact Nat.lt_of_le_of_lt (rung_le _ _) (by omega)
                      generalize pack2 k f = P at *
                      have hor : bits BinOp.or IntKind.u64 (P : Int) 9223372036854775808 = ((9223372036854775808 + P : Nat) : Int) := or_sign P hPl
                      have hPl' := Lib.hid hPl
                      clear hPl hk0
                      cases s
                      · go_wp2_with fail
                        go_ret
                        exact ⟨by rw [← hP.out, word_eq]; simp, rfl⟩
                      · go_wp2_with fail
                        go_ret
                        exact ⟨by rw [← hP.out, word_eq]; rfl, rfl⟩
                · have g2 : decide ((4503599627370496 : Int) ≤ (k : Int)) = false := by rw [decide_eq_false_iff_not]; omega
                  by_cases hinf : 2047 ≤ f + 1075
                  · have hp2 : Hid (pack2 k f = 9218868437227405312) := pack2_c k f hk hinf
                    clear hk hk2
                    go_upto_if 63 with fail
                    go_cut [8] (fun a wx => w = wx ∧ a = .int .u64 (pack2 k f : Nat))
                    case first =>
                      go_wp2_with fail
                      go_meet
                      exact ⟨rfl, by rw [hp2.out]; rfl⟩
                    case rest =>
                      obtain ⟨rfl, rfl⟩ := hcut
                      have hP : Hid (pack2 k f = rung m (e - 3)) := hfin'.out
                      have hPl : pack2 k f < 9223372036854775808 := by rw [hP.out]; exact Nat.lt_of_le_of_lt (rung_le _ _) (by omega)
                      generalize pack2 k f = P at *
                      have hor : bits BinOp.or IntKind.u64 (P : Int) 9223372036854775808 = ((9223372036854775808 + P : Nat) : Int) := or_sign P hPl
                      have hPl' := Lib.hid hPl
                      clear hPl hk0
                      cases s
                      · go_wp2_with fail
                        go_ret
                        exact ⟨by rw [← hP.out, word_eq]; simp, rfl⟩
                      · go_wp2_with fail
                        go_ret
                        exact ⟨by rw [← hP.out, word_eq]; rfl, rfl⟩
                  · have hp2 : Hid (pack2 k f = k) := pack2_e k f hk hk2 hinf
                    clear hk hk2
                    go_upto_if 63 with fail
                    go_cut [8] (fun a wx => w = wx ∧ a = .int .u64 (pack2 k f : Nat))
                    case first =>
                      go_wp2_with fail
                      go_meet
                      exact ⟨rfl, by rw [hp2.out]⟩
                    case rest =>
                      obtain ⟨rfl, rfl⟩ := hcut
                      have hP : Hid (pack2 k f = rung m (e - 3)) := hfin'.out
                      have hPl : pack2 k f < 9223372036854775808 := by rw [hP.out]; exact Nat.lt_of_le_of_lt (rung_le _ _) (by omega)
                      generalize pack2 k f = P at *
                      have hor : bits BinOp.or IntKind.u64 (P : Int) 9223372036854775808 = ((9223372036854775808 + P : Nat) : Int) := or_sign P hPl
                      have hPl' := Lib.hid hPl
                      clear hPl hk0
                      cases s
                      · go_wp2_with fail
                        go_ret
                        exact ⟨by rw [← hP.out, word_eq]; simp, rfl⟩
                      · go_wp2_with fail
                        go_ret
                        exact ⟨by rw [← hP.out, word_eq]; rfl, rfl⟩
          case first =>
            by_cases c1 : 4 < low3 n
            · have g1 : decide ((4 : Int) < (low3 n : Int)) = true := by rw [decide_eq_true_iff]; omega
              go_wp2_with fail
              go_meet
              exact ⟨rfl, by rw [up_a n (by rw [← hl3.out]; exact c1)]⟩
            · have g1 : decide ((4 : Int) < (low3 n : Int)) = false := by rw [decide_eq_false_iff_not]; omega
              by_cases c2 : low3 n = 4
              · have g2 : ((low3 n : Int) == 4) = true := by rw [beq_iff_eq]; omega
                by_cases c3 : lowbit q = 1
                · have g3 : ((lowbit q : Int) == 1) = true := by rw [beq_iff_eq]; omega
                  have hend : Hid (up3 n = true) := up_b n (by rw [← hl3.out]; exact c2) (by rw [hqq.out, ← hlb.out]; exact c3)
                  clear c1 c2 c3
                  go_wp2_with fail
                  go_meet
                  exact ⟨rfl, by rw [hend.out]⟩
                · have g3 : ((lowbit q : Int) == 1) = false := by rw [beq_eq_false_iff_ne]; omega
                  have hend : Hid (up3 n = false) := up_c n (by rw [← hl3.out]; exact c2) (by rw [hqq.out, ← hlb.out]; exact c3)
                  clear c1 c2 c3
                  go_wp2_with fail
                  go_meet
                  exact ⟨rfl, by rw [hend.out]⟩
              · have g2 : ((low3 n : Int) == 4) = false := by rw [beq_eq_false_iff_ne]; omega
                have hend : Hid (up3 n = false) := up_d n (by rw [← hl3.out]; exact c1) (by rw [← hl3.out]; exact c2)
                clear c1 c2
                go_wp2_with fail
                go_meet
                exact ⟨rfl, by rw [hend.out]⟩
          case rest =>
            obtain ⟨rfl, rfl⟩ := hcut
            clear r3 r4 hlt8 hlt2
            have hfk : Hid (pack1 n = if up3 n then q + 1 else q) := by show _ = _; rw [pack1_up, hqq.out]
            have hwq : IntKind.u64.wrap ((q : Int) + 1) = ((q + 1 : Nat) : Int) := by have := hq8.out; rw [IntKind.wrap_u64]; omega
            go_upto_if 42 with fail
            go_cut [1] (fun a wx => w = wx ∧ a = .int .u64 (pack1 n : Nat))
            case first =>
              cases hup : up3 n
              · go_wp2_with fail
                go_meet
                exact ⟨rfl, by rw [hfk.out, hup]; rfl⟩
              · go_wp2_with fail
                go_meet
                exact ⟨rfl, by rw [hfk.out, hup]; rfl⟩
            case rest =>
              obtain ⟨rfl, rfl⟩ := hcut
              clear hwq hq
              have hk0 : Hid (pack1 n ≤ 9007199254740992) := by show _ ≤ _; rw [hfk.out]; have := hq8.out; split <;> omega
              clear hfk
              generalize pack1 n = k at *
              by_cases hk : k = 9007199254740992
              · subst hk
                have rA : bits BinOp.and IntKind.u64 4503599627370496 4503599627370495 = 0 := by decide
                have rO : bits BinOp.or IntKind.u64 ((f + 1 + 1075) * 4503599627370496) 0 = (((f + 1 + 1075).toNat * 4503599627370496 + 0 : Nat) : Int) := or_exp (f + 1 + 1075) 0 (by omega) (by omega) (by omega)
                by_cases hinf : 2047 ≤ f + 1 + 1075
                · have hp2 : Hid (pack2 9007199254740992 f = 9218868437227405312) := pack2_a f hinf
                  go_upto_if 63 with fail
                  go_cut [8] (fun a wx => w = wx ∧ a = .int .u64 (pack2 9007199254740992 f : Nat))
                  case first =>
                    clear rA rO
                    go_wp2_with fail
                    go_meet
                    exact ⟨rfl, by rw [hp2.out]; rfl⟩
                  case rest =>
                    obtain ⟨rfl, rfl⟩ := hcut
                    have hP : Hid (pack2 9007199254740992 f = rung m (e - 3)) := hfin'.out
                    have hPl : pack2 9007199254740992 f < 9223372036854775808 := by rw [hP.out]; exact Nat.lt_of_le_of_lt (rung_le _ _) (by omega)
                    generalize pack2 9007199254740992 f = P at *
                    have hor : bits BinOp.or IntKind.u64 (P : Int) 9223372036854775808 = ((9223372036854775808 + P : Nat) : Int) := or_sign P hPl
                    have hPl' := Lib.hid hPl
                    clear hPl hk0
                    cases s
                    · go_wp2_with fail
                      go_ret
                      exact ⟨by rw [← hP.out, word_eq]; simp, rfl⟩
                    · go_wp2_with fail
                      go_ret
                      exact ⟨by rw [← hP.out, word_eq]; rfl, rfl⟩
                · have hp2 : Hid (pack2 9007199254740992 f = (f + 1 + 1075).toNat * 4503599627370496 + 0) := pack2_b f (by omega)
                  go_upto_if 63 with fail
                  go_cut [8] (fun a wx => w = wx ∧ a = .int .u64 (pack2 9007199254740992 f : Nat))
                  case first =>
                    clear rA rO
                    go_wp2_with fail
                    go_meet
                    exact ⟨rfl, by rw [hp2.out]; congr 1; omega⟩
                  case rest =>
                    obtain ⟨rfl, rfl⟩ := hcut
                    have hP : Hid (pack2 9007199254740992 f = rung m (e - 3)) := hfin'.out
                    have hPl : pack2 9007199254740992 f < 9223372036854775808 := by rw [hP.out]; exact Nat.lt_of_le_of_lt (rung_le _ _) (by omega)
                    generalize pack2 9007199254740992 f = P at *
                    have hor : bits BinOp.or IntKind.u64 (P : Int) 9223372036854775808 = ((9223372036854775808 + P : Nat) : Int) := or_sign P hPl
                    have hPl' := Lib.hid hPl
                    clear hPl hk0
                    cases s
                    · go_wp2_with fail
                      go_ret
                      exact ⟨by rw [← hP.out, word_eq]; simp, rfl⟩
                    · go_wp2_with fail
                      go_ret
                      exact ⟨by rw [← hP.out, word_eq]; rfl, rfl⟩
              · have g1 : ((k : Int) == 9007199254740992) = false := by rw [beq_eq_false_iff_ne]; omega
                by_cases hk2 : 4503599627370496 ≤ k
                · have g2 : decide ((4503599627370496 : Int) ≤ (k : Int)) = true := by rw [decide_eq_true_iff]; omega
                  have rA : bits BinOp.and IntKind.u64 (k : Int) 4503599627370495 = ((lowfrac k : Nat) : Int) := and_frac k (by have := hk0.out; omega)
                  have rO : bits BinOp.or IntKind.u64 ((f + 1075) * 4503599627370496) ((lowfrac k : Nat) : Int) = (((f + 1075).toNat * 4503599627370496 + lowfrac k : Nat) : Int) := or_exp (f + 1075) (lowfrac k) (by omega) (by omega) (by unfold lowfrac; omega)
                  by_cases hinf : 2047 ≤ f + 1075
                  · have hp2 : Hid (pack2 k f = 9218868437227405312) := pack2_c k f hk hinf
                    clear hk hk2
                    go_upto_if 63 with fail
                    go_cut [8] (fun a wx => w = wx ∧ a = .int .u64 (pack2 k f : Nat))
                    case first =>
                      clear rA rO
                      go_wp2_with fail
                      go_meet
                      exact ⟨rfl, by rw [hp2.out]; rfl⟩
                    case rest =>
                      obtain ⟨rfl, rfl⟩ := hcut
                      have hP : Hid (pack2 k f = rung m (e - 3)) := hfin'.out
                      have hPl : pack2 k f < 9223372036854775808 := by rw [hP.out]; exact Nat.lt_of_le_of_lt (rung_le _ _) (by omega)
                      generalize pack2 k f = P at *
                      have hor : bits BinOp.or IntKind.u64 (P : Int) 9223372036854775808 = ((9223372036854775808 + P : Nat) : Int) := or_sign P hPl
                      have hPl' := Lib.hid hPl
                      clear hPl hk0
                      cases s
                      · go_wp2_with fail
                        go_ret
                        exact ⟨by rw [← hP.out, word_eq]; simp, rfl⟩
                      · go_wp2_with fail
                        go_ret
                        exact ⟨by rw [← hP.out, word_eq]; rfl, rfl⟩
                  · have hp2 : Hid (pack2 k f = (f + 1075).toNat * 4503599627370496 + lowfrac k) := pack2_d k f hk hk2 hinf
                    clear hk hk2
                    go_upto_if 63 with fail
                    go_cut [8] (fun a wx => w = wx ∧ a = .int .u64 (pack2 k f : Nat))
                    case first =>
                      clear rA rO
                      go_wp2_with fail
                      go_meet
                      exact ⟨rfl, by rw [hp2.out]; congr 1; omega⟩
                    case rest =>
                      obtain ⟨rfl, rfl⟩ := hcut
                      have hP : Hid (pack2 k f = rung m (e - 3)) := hfin'.out
                      have hPl : pack2 k f < 9223372036854775808 := by rw [hP.out]; exact Nat.lt_of_le_of_lt (rung_le _ _) (by omega)
                      generalize pack2 k f = P at *
                      have hor : bits BinOp.or IntKind.u64 (P : Int) 9223372036854775808 = ((9223372036854775808 + P : Nat) : Int) := or_sign P hPl
                      have hPl' := Lib.hid hPl
                      clear hPl hk0
                      cases s
                      · go_wp2_with fail
                        go_ret
                        exact ⟨by rw [← hP.out, word_eq]; simp, rfl⟩
                      · go_wp2_with fail
                        go_ret
                        exact ⟨by rw [← hP.out, word_eq]; rfl, rfl⟩
                · have g2 : decide ((4503599627370496 : Int) ≤ (k : Int)) = false := by rw [decide_eq_false_iff_not]; omega
                  by_cases hinf : 2047 ≤ f + 1075
                  · have hp2 : Hid (pack2 k f = 9218868437227405312) := pack2_c k f hk hinf
                    clear hk hk2
                    go_upto_if 63 with fail
                    go_cut [8] (fun a wx => w = wx ∧ a = .int .u64 (pack2 k f : Nat))
                    case first =>
                      go_wp2_with fail
                      go_meet
                      exact ⟨rfl, by rw [hp2.out]; rfl⟩
                    case rest =>
                      obtain ⟨rfl, rfl⟩ := hcut
                      have hP : Hid (pack2 k f = rung m (e - 3)) := hfin'.out
                      have hPl : pack2 k f < 9223372036854775808 := by rw [hP.out]; exact Nat.lt_of_le_of_lt (rung_le _ _) (by omega)
                      generalize pack2 k f = P at *
                      have hor : bits BinOp.or IntKind.u64 (P : Int) 9223372036854775808 = ((9223372036854775808 + P : Nat) : Int) := or_sign P hPl
                      have hPl' := Lib.hid hPl
                      clear hPl hk0
                      cases s
                      · go_wp2_with fail
                        go_ret
                        exact ⟨by rw [← hP.out, word_eq]; simp, rfl⟩
                      · go_wp2_with fail
                        go_ret
                        exact ⟨by rw [← hP.out, word_eq]; rfl, rfl⟩
                  · have hp2 : Hid (pack2 k f = k) := pack2_e k f hk hk2 hinf
                    clear hk hk2
                    go_upto_if 63 with fail
                    go_cut [8] (fun a wx => w = wx ∧ a = .int .u64 (pack2 k f : Nat))
                    case first =>
                      go_wp2_with fail
                      go_meet
                      exact ⟨rfl, by rw [hp2.out]⟩
                    case rest =>
                      obtain ⟨rfl, rfl⟩ := hcut
                      have hP : Hid (pack2 k f = rung m (e - 3)) := hfin'.out
                      have hPl : pack2 k f < 9223372036854775808 := by rw [hP.out]; exact Nat.lt_of_le_of_lt (rung_le _ _) (by omega)
                      generalize pack2 k f = P at *
                      have hor : bits BinOp.or IntKind.u64 (P : Int) 9223372036854775808 = ((9223372036854775808 + P : Nat) : Int) := or_sign P hPl
                      have hPl' := Lib.hid hPl
                      clear hPl hk0
                      cases s
                      · go_wp2_with fail
                        go_ret
                        exact ⟨by rw [← hP.out, word_eq]; simp, rfl⟩
                      · go_wp2_with fail
                        go_ret
                        exact ⟨by rw [← hP.out, word_eq]; rfl, rfl⟩
end Go.Proofs.Ytgcjhdcplmfjbaa
