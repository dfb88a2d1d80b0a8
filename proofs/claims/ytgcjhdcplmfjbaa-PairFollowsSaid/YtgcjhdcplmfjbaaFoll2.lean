/- The walk of PairFollows. -/
import Derived.Test.YtgcjhdcplmfjbaaFollw
namespace Go.Proofs.Ytgcjhdcplmfjbaa
open Go.RowKit Flt

structure Ints (w : World) (a : Option Addr) (len : Nat) (ns : Nat → Int) : Prop where
  at_ : ∀ j, j < len → ∃ p o, a = some ⟨p, o, none⟩ ∧ p < w.heap.size ∧ w.cell? ⟨p, o + j, none⟩ = some (.int .i64 (ns j)) ∧ -9223372036854775808 ≤ ns j ∧ ns j ≤ 9223372036854775807

def sumI (f : Nat → Int) : Nat → Int
  | 0 => 0
  | k + 1 => sumI f k + f k
def sumA (f : Nat → Int) : Nat → Nat
  | 0 => 0
  | k + 1 => sumA f k + (f k).natAbs
theorem sumI_succ (f : Nat → Int) (k : Nat) : sumI f (k + 1) = sumI f k + f k := rfl
theorem sumA_succ (f : Nat → Int) (k : Nat) : sumA f (k + 1) = sumA f k + (f k).natAbs := rfl
theorem sumA_mono (f : Nat → Int) {j k : Nat} (h : j ≤ k) : sumA f j ≤ sumA f k := by
  induction k with
  | zero =>
    obtain rfl : j = 0 := by omega
    exact Nat.le_refl _
  | succ k ih =>
    by_cases e : j = k + 1
    · subst e; exact Nat.le_refl _
    · have := ih (by omega); rw [sumA_succ]; omega
def fstP (f : Nat → Int) (c : Nat) : Nat → Int := fun j => if j < c then f j else 0
def sndP (f : Nat → Int) (c : Nat) : Nat → Int := fun j => if j < c then 0 else f j
theorem sum_parts (f : Nat → Int) (c k : Nat) : sumI (fstP f c) k + sumI (sndP f c) k = sumI f k ∧ (sumI (fstP f c) k).natAbs + (sumI (sndP f c) k).natAbs ≤ sumA f k := by
  induction k with
  | zero => simp [sumI, sumA]
  | succ k ih =>
    rw [sumI_succ, sumI_succ, sumI_succ, sumA_succ]
    obtain ⟨h1, h2⟩ := ih
    by_cases h : k < c
    · have e1 : fstP f c k = f k := by unfold fstP; rw [if_pos h]
      have e2 : sndP f c k = 0 := by unfold sndP; rw [if_pos h]
      rw [e1, e2]; omega
    · have e1 : fstP f c k = 0 := by unfold fstP; rw [if_neg h]
      have e2 : sndP f c k = f k := by unfold sndP; rw [if_neg h]
      rw [e1, e2]; omega

theorem run_conv (z : Int) (w : World) : Sem.run Try.prog (convert 2 33 (.int .i64 z)) w = .ok (.float .f64 (fw z)) w := by
  have h : Sem.run Try.prog (convert 2 33 (.int .i64 z)) w = .ok (.float .f64 (D.nearest (decide (z < 0)) z.natAbs 0)) w := by kernel_rfl
  rw [h, nearest_eq]; rfl
theorem run_ceq (a : Nat) (w : World) (h : (FloatKind.f64.format.order a a == some Ordering.eq) = true) : Sem.run Try.prog (binOp .eql 26 (.complex .f64 a 0) (.complex .f64 a 0)) w = .ok (.bool true) w := by
  have h0 := eq1
  have h' : (FloatKind.f64.format.order a a) = some Ordering.eq := by simpa using h
  have h0' : (FloatKind.f64.format.order 0 0) = some Ordering.eq := by simpa using h0
  simp [binOp, Op.complexOp, Op.Complex.cmp, Op.floatCmp, asBool, h', h0']

def L2R (w : World) (ns : Nat → Int) (len : Nat) (sz i : Value) (wr : World) : Prop :=
  ∃ k : Nat, k ≤ len ∧ i = .int .i64 k ∧ sz = .int .i64 (sumA ns k : Nat) ∧ (∀ j, j < k → (ns j).natAbs ≤ 9007199254740992) ∧ sumA ns k ≤ 18014398509481984 ∧ Only (fun _ => False) w wr
theorem L2R.mk_ {w wr : World} {ns : Nat → Int} {len k : Nat} {sz i : Value} (h1 : k + 1 ≤ len) (h2 : i = .int .i64 ((k + 1 : Nat) : Int)) (h3 : sz = .int .i64 (sumA ns (k + 1) : Nat)) (h4 : ∀ j, j < k + 1 → (ns j).natAbs ≤ 9007199254740992) (h5 : sumA ns (k + 1) ≤ 18014398509481984) (h6 : Only (fun _ => False) w wr) : L2R w ns len sz i wr :=
  ⟨k + 1, h1, h2, h3, h4, h5, h6⟩
def L3R (w : World) (ns : Nat → Int) (len c : Nat) (sum a b i : Value) (wr : World) : Prop :=
  ∃ k : Nat, k ≤ len ∧ i = .int .i64 k ∧ sum = .int .i64 (sumI ns k) ∧ a = .complex .f64 (fw (sumI (fstP ns c) k)) 0 ∧ b = .complex .f64 (fw (sumI (sndP ns c) k)) 0 ∧ Only (fun _ => False) w wr

theorem okw (z : Int) : Ok2 (fw z, 0) := ⟨fw_lt z, by show (0 : Nat) < 18446744073709551616; omega⟩
def outB (cut : Int) (len : Nat) : Bool := decide (cut < 0) || decide ((len : Int) < cut)
def CUT (len : Nat) (v : Value) : Prop := ∃ c : Nat, c ≤ len ∧ v = .int .i64 c

set_option maxRecDepth 100000 in
set_option maxHeartbeats 8000000 in
theorem follows_any (al : Option Addr) (ll cl : Nat) (us : Nat → Nat) (an : Option Addr) (ln cn : Nat) (ns : Nat → Int) (cut : Int) (w : World) (hll : ll ≤ 9223372036854775807) (hln : ln ≤ 9223372036854775807) (hcut : -9223372036854775808 ≤ cut ∧ cut ≤ 9223372036854775807) (hl : Words w al ll us) (hn : Ints w an ln ns) :
    Calls Try.prog 5 #[.slice al ll cl, .slice an ln cn, .int .i64 cut] w fun e w' => e = .returned (.bool true) ∧ Only (fun _ => False) w w' := by
  have hl' := Lib.hid hl
  have hn' := Lib.hid hn
  clear hl hn
  obtain ⟨hcut1, hcut2⟩ := hcut
  go_enter Try.func5, Try.ntmps5
  go_wp2_with fail
  go_loopw [7] (fun i wr => ∃ k : Nat, k ≤ ll ∧ i = .int .i64 k ∧ Only (fun _ => False) w wr) (fun i _ => ll - (intOf i).toNat)
  case atStart => exact ⟨0, Nat.zero_le _, rfl, Only.refl _ _⟩
  case round =>
    obtain ⟨k, hk, rfl, hon⟩ := hrel
    by_cases hlt : k < ll
    · obtain ⟨p, o, rfl, hp, hc, hu⟩ := hl'.out.at_ k hlt
      have hc1 := (hon.cellAt hp (by simp) (o + k)).trans hc
      generalize us k = x at hc hc1 hu
      have hu' := Lib.hid hu
      clear hc hu
      by_cases hmay : mag x ≤ 8930638061075693568
      · have hg : decide (mag x ≤ 8930638061075693568) = true := by rw [decide_eq_true_iff]; exact hmay
        have hfin : Hid (mag x < 9218868437227405312) := by show _ < _; omega
        have hr1 : Hid (rof (fun _ => x) 1 = (plain x, 0)) := rput_0 x hu'.out hfin.out
        have hq : (FloatKind.f64.format.order (plain x) x == some Ordering.eq) = true := order_plain hfin.out
        have hq2 : (FloatKind.f64.format.order (plain x) x != some Ordering.eq) = false := by unfold bne; rw [hq]; rfl
        have k2 := run_frombits
        clear hmay
        go_wp2_with fail
        refine (may_any x _ hu'.out).mono ?_
        rintro e w1 ⟨rfl, rfl⟩
        go_wp2_with fail
        refine (pof_any _ 1 1 _ _ (by omega) (floats_one _ x hu'.out)).mono ?_
        rintro e w2 ⟨m, rfl, m1, _, S2⟩
        rw [hr1.out] at m1
        obtain rfl := m1.eq_of (nan_of_mag (by rw [plain_mag]; exact hfin.out)) nan0
        clear m1
        go_wp2_with fail
        refine (ptotal_any (plain x, 0) _).mono ?_
        rintro e w3 ⟨r, rfl, r1, _, S3⟩
        dsimp only at r1
        rw [plain_add0 hu'.out hfin.out] at r1
        obtain rfl := r1.eq_of (nan_of_mag (by rw [plain_mag]; exact hfin.out))
        clear r1
        go_wp2_with fail
        refine (stays_any (plain x) _ (plain_lt hu'.out) (by rw [plain_mag]; exact hfin.out) plain_ne (plain_add0 hu'.out hfin.out)).mono ?_
        rintro e w4 ⟨rfl, O4⟩
        have hon4 := (((hon.alloc (.cells #[.float .f64 x] 33)).trans (S2.only _)).trans (S3.only _)).trans O4
        clear S2 S3 O4 hq hq2 k2
        go_wp2_with fail
        go_roundw
        case rel => exact ⟨k + 1, by omega, by go_num, hon4⟩
        case measure => simp [intOf]; omega
      · have hg : decide (mag x ≤ 8930638061075693568) = false := by rw [decide_eq_false_iff_not]; exact hmay
        clear hmay
        go_wp2_with fail
        refine (may_any x _ hu'.out).mono ?_
        rintro e w1 ⟨rfl, rfl⟩
        go_wp2_with fail
        go_roundw
        case rel => exact ⟨k + 1, by omega, by go_num, hon⟩
        case measure => simp [intOf]; omega
    · obtain rfl : k = ll := by omega
      go_wp2_with fail
      go_loopw [10, 11] (fun sz i wr => L2R w ns ln sz i wr) (fun _ i _ => ln - (intOf i).toNat)
      case atStart => exact ⟨0, Nat.zero_le _, rfl, rfl, by omega, Nat.zero_le _, hon⟩
      case round =>
        obtain ⟨j, hj, rfl, rfl, hall, hsz, hon2⟩ := hrel
        have hall' := Lib.hid hall
        clear hall
        by_cases hlt2 : j < ln
        · obtain ⟨p, o, rfl, hp, hc, hb1, hb2⟩ := hn'.out.at_ j hlt2
          have hc1 := (hon2.cellAt hp (by simp) (o + j)).trans hc
          have hnx : Hid (sumA ns (j + 1) = sumA ns j + (ns j).natAbs) := rfl
          generalize hzz : ns j = z at *
          have hzz' := Lib.hid hzz
          have hb1' := Lib.hid hb1
          have hb2' := Lib.hid hb2
          have hsz' := Lib.hid hsz
          clear hc hzz hb1 hb2 hsz
          generalize hSS : sumA ns j = T at *
          have hSS' := Lib.hid hSS
          clear hSS
          by_cases c1 : 9007199254740992 < z
          · have t1 : decide (9007199254740992 < z) = true := by rw [decide_eq_true_iff]; exact c1
            clear c1
            go_wp2_with fail
            refine (fixed_any _).mono ?_
            rintro e w2 ⟨rfl, O2⟩
            go_wp2_with fail
            go_ret
            exact ⟨rfl, hon2.trans O2⟩
          · have t1 : decide (9007199254740992 < z) = false := by rw [decide_eq_false_iff_not]; exact c1
            by_cases c2 : z < -9007199254740992
            · have t2 : decide (z < -9007199254740992) = true := by rw [decide_eq_true_iff]; exact c2
              clear c1 c2
              go_wp2_with fail
              refine (fixed_any _).mono ?_
              rintro e w2 ⟨rfl, O2⟩
              go_wp2_with fail
              go_ret
              exact ⟨rfl, hon2.trans O2⟩
            · have t2 : decide (z < -9007199254740992) = false := by rw [decide_eq_false_iff_not]; exact c2
              by_cases c3 : 9007199254740992 < T
              · have t3 : decide ((9007199254740992 : Int) < (T : Int)) = true := by rw [decide_eq_true_iff]; omega
                clear c1 c2 c3
                go_wp2_with fail
                refine (fixed_any _).mono ?_
                rintro e w2 ⟨rfl, O2⟩
                go_wp2_with fail
                go_ret
                exact ⟨rfl, hon2.trans O2⟩
              · have t3 : decide ((9007199254740992 : Int) < (T : Int)) = false := by rw [decide_eq_false_iff_not]; omega
                have hz1 : z ≤ 9007199254740992 := by omega
                have hz2 : -9007199254740992 ≤ z := by omega
                have hT : T ≤ 9007199254740992 := by omega
                clear c1 c2 c3
                go_wp2_with fail
                go_quiet (fail)
                go_wp2_with fail
                go_roundw
                case rel => exact L2R.mk_ (k := j) (by omega) (by go_num) (by rw [hnx.out]; congr 1; split <;> omega) (fun i hi => by rcases (show i < j ∨ i = j by omega) with q | q; exact hall'.out i q; subst q; rw [hzz'.out]; omega) (by rw [hnx.out]; omega) (hon2.drewN _)
                case measure => simp [intOf]; omega
        · obtain rfl : j = ln := by omega
          clear hlt2
          by_cases hbig : 9007199254740992 < sumA ns j
          · have t3 : decide ((9007199254740992 : Int) < (sumA ns j : Int)) = true := by rw [decide_eq_true_iff]; omega
            clear hbig hsz
            go_wp2_with fail
            refine (fixed_any _).mono ?_
            rintro e w2 ⟨rfl, O2⟩
            go_wp2_with fail
            go_ret
            exact ⟨rfl, hon2.trans O2⟩
          · have t3 : decide ((9007199254740992 : Int) < (sumA ns j : Int)) = false := by rw [decide_eq_false_iff_not]; omega
            have hS : Hid (sumA ns j ≤ 9007199254740992) := by show _ ≤ _; omega
            clear hbig hsz
            go_upto_region 18 with fail
            go_cut [92] (fun t wx => wr = wx ∧ t = .bool (outB cut j))
            case first =>
              by_cases k1 : cut < 0
              · have hend : Hid (outB cut j = true) := by show _ = _; unfold outB; simp [k1]
                go_wp2_with fail
                go_meet
                exact ⟨rfl, by rw [hend.out]⟩
              · by_cases k2 : (j : Int) < cut
                · have hend : Hid (outB cut j = true) := by show _ = _; unfold outB; simp [k2]
                  go_wp2_with fail
                  go_meet
                  exact ⟨rfl, by rw [hend.out]⟩
                · have hend : Hid (outB cut j = false) := by show _ = _; unfold outB; simp [k1, k2]
                  go_wp2_with fail
                  go_meet
                  exact ⟨rfl, by rw [hend.out]⟩
            case rest =>
            obtain ⟨rfl, rfl⟩ := hcut
            go_upto_if 92 with fail
            go_cut [2] (fun c wx => wr = wx ∧ CUT j c)
            case first =>
              cases hout : outB cut j
              · have hc : ∃ c : Nat, cut = c ∧ c ≤ j := by
                  unfold outB at hout
                  have h1 : ¬ cut < 0 := by intro q; simp [q] at hout
                  have h2 : ¬ (j : Int) < cut := by intro q; simp [q] at hout
                  exact ⟨cut.toNat, by omega, by omega⟩
                obtain ⟨c, rfl, hcj⟩ := hc
                go_wp2_with fail
                go_meet
                exact ⟨rfl, c, hcj, rfl⟩
              · go_wp2_with fail
                go_meet
                exact ⟨rfl, 0, Nat.zero_le _, rfl⟩
            case rest =>
              obtain ⟨rfl, c, hc, rfl⟩ := hcut
              go_wp2_with fail
              have hfst : ∀ k, k ≤ j → Hid (sm (sumI (fstP ns c) k) ∧ sm (sumI (sndP ns c) k) ∧ sm (sumI ns k)) := fun k hk => by
                have h1 := sum_parts ns c k
                have h2 := sumA_mono ns hk
                have h3 := hS.out
                show _ ∧ _ ∧ _
                unfold sm
                refine ⟨by omega, by omega, by omega⟩
              have hfst' := Lib.hid hfst
              clear hfst
              have kc := run_conv
              go_loopw [12, 13, 14, 15] (fun sum a b i wr => L3R w ns j c sum a b i wr) (fun _ _ _ i _ => j - (intOf i).toNat)
              case atStart => exact ⟨0, Nat.zero_le _, rfl, rfl, by show _ = Value.complex .f64 (fw 0) 0; rw [fw_zero], by show _ = Value.complex .f64 (fw 0) 0; rw [fw_zero], hon2⟩
              case round =>
                obtain ⟨k, hk, rfl, rfl, rfl, rfl, hon3⟩ := hrel
                by_cases hlt3 : k < j
                · obtain ⟨p, o, rfl, hp, hc0, hb1, hb2⟩ := hn'.out.at_ k hlt3
                  have hc1 := (hon3.cellAt hp (by simp) (o + k)).trans hc0
                  obtain ⟨m1, m2, m3⟩ := (hfst'.out k hk).out
                  obtain ⟨n1, n2, n3⟩ := (hfst'.out (k + 1) (by omega)).out
                  have hsmall : Hid (sm (ns k)) := hall'.out k hlt3
                  have hI : Hid (sumI ns (k + 1) = sumI ns k + ns k) := rfl
                  have hw : IntKind.i64.wrap (sumI ns k + ns k) = sumI ns (k + 1) := by
                    rw [hI.out, IntKind.wrap_i64]
                    have h1 := m3
                    have h2 := hsmall.out
                    unfold sm at h1 h2
                    omega
                  have hM1 := Lib.hid m1
                  have hM2 := Lib.hid m2
                  have hN1 := Lib.hid n1
                  have hN2 := Lib.hid n2
                  clear hc0 hb1 hb2 m1 m2 m3 n1 n2 n3
                  by_cases hside : k < c
                  · have e1 : Hid (sumI (fstP ns c) (k + 1) = sumI (fstP ns c) k + ns k) := by show _ = _; rw [sumI_succ]; unfold fstP; rw [if_pos hside]
                    have e2 : Hid (sumI (sndP ns c) (k + 1) = sumI (sndP ns c) k) := by show _ = _; rw [sumI_succ]; unfold sndP; rw [if_pos hside]; omega
                    go_wp2_with fail
                    refine (padd_any (fw (sumI (fstP ns c) k), 0) (fw (ns k)) _ (okw _) (fw_lt _)).mono ?_
                    rintro e w4 ⟨m, rfl, r1, _, S4⟩
                    rw [rput_fw hM1.out hsmall.out (by rw [← e1.out]; exact hN1.out), ← e1.out] at r1
                    obtain rfl := r1.eq_of (fw_nan hN1.out) nan0
                    clear r1
                    go_wp2_with fail
                    go_roundw
                    case rel => exact ⟨k + 1, by omega, by go_num, by rw [hI.out], rfl, by rw [e2.out], hon3.trans (S4.only _)⟩
                    case measure => simp [intOf]; omega
                  · have e1 : Hid (sumI (fstP ns c) (k + 1) = sumI (fstP ns c) k) := by show _ = _; rw [sumI_succ]; unfold fstP; rw [if_neg hside]; omega
                    have e2 : Hid (sumI (sndP ns c) (k + 1) = sumI (sndP ns c) k + ns k) := by show _ = _; rw [sumI_succ]; unfold sndP; rw [if_neg hside]
                    go_wp2_with fail
                    refine (padd_any (fw (sumI (sndP ns c) k), 0) (fw (ns k)) _ (okw _) (fw_lt _)).mono ?_
                    rintro e w4 ⟨m, rfl, r1, _, S4⟩
                    rw [rput_fw hM2.out hsmall.out (by rw [← e2.out]; exact hN2.out), ← e2.out] at r1
                    obtain rfl := r1.eq_of (fw_nan hN2.out) nan0
                    clear r1
                    go_wp2_with fail
                    go_roundw
                    case rel => exact ⟨k + 1, by omega, by go_num, by rw [hI.out], by rw [e1.out], rfl, hon3.trans (S4.only _)⟩
                    case measure => simp [intOf]; omega
                · obtain rfl : k = j := by omega
                  have hpar := (sum_parts ns c k).1
                  obtain ⟨m1, m2, m3⟩ := (hfst'.out k hk).out
                  generalize sumI (fstP ns c) k = A at *
                  generalize sumI (sndP ns c) k = B at *
                  generalize sumI ns k = C at *
                  have hC : Hid (A + B = C) := hpar
                  have hC2 : Hid (B + A = C) := by show _ = _; omega
                  have hM1 := Lib.hid m1
                  have hM2 := Lib.hid m2
                  have hM3 := Lib.hid m3
                  have qC := order_same (fw_nan m3) (fw_nan m3) rfl
                  have qA := run_ceq (fw A)
                  have qA' := fun w => qA w (order_same (fw_nan m1) (fw_nan m1) rfl)
                  clear hpar m1 m2 m3 qA
                  go_wp2_with fail
                  refine (pmerge_any (fw A, 0) (fw B, 0) _ (okw _) (okw _)).mono ?_
                  rintro e w4 ⟨m, rfl, r1, _, S4⟩
                  rw [rmerge_fw hM1.out hM2.out (by rw [hC.out]; exact hM3.out), hC.out] at r1
                  obtain rfl := r1.eq_of (fw_nan hM3.out) nan0
                  clear r1
                  go_wp2_with fail
                  refine (pmerge_any (fw B, 0) (fw A, 0) _ (okw _) (okw _)).mono ?_
                  rintro e w5 ⟨m, rfl, r1, _, S5⟩
                  rw [rmerge_fw hM2.out hM1.out (by rw [hC2.out]; exact hM3.out), hC2.out] at r1
                  obtain rfl := r1.eq_of (fw_nan hM3.out) nan0
                  clear r1
                  go_wp2_with fail
                  refine (ptotal_any (fw C, 0) _).mono ?_
                  rintro e w6 ⟨r, rfl, r1, _, S6⟩
                  dsimp only at r1
                  rw [fw_add0 hM3.out] at r1
                  obtain rfl := r1.eq_of (fw_nan hM3.out)
                  clear r1
                  go_wp2_with fail
                  refine (ptotal_any (fw C, 0) _).mono ?_
                  rintro e w7 ⟨r, rfl, r1, _, S7⟩
                  dsimp only at r1
                  rw [fw_add0 hM3.out] at r1
                  obtain rfl := r1.eq_of (fw_nan hM3.out)
                  clear r1
                  go_wp2_with fail
                  refine (pmerge_any (fw A, 0) (0, 0) _ (okw _) (by have := okw 0; rw [fw_zero] at this; exact this)).mono ?_
                  rintro e w8 ⟨m, rfl, r1, _, S8⟩
                  have z0 : sm 0 := by unfold sm; omega
                  have r2 := rmerge_fw hM1.out z0 (by rw [Int.add_zero]; exact hM1.out)
                  have r3 := rmerge_fw z0 hM1.out (by rw [Int.zero_add]; exact hM1.out)
                  rw [fw_zero, Int.add_zero] at r2
                  rw [fw_zero, Int.zero_add] at r3
                  rw [r2] at r1
                  obtain rfl := r1.eq_of (fw_nan hM1.out) nan0
                  have r3' := Lib.hid r3
                  clear r1 r2 r3 z0
                  go_wp2_with fail
                  refine (pmerge_any (0, 0) (fw A, 0) _ (by have := okw 0; rw [fw_zero] at this; exact this) (okw _)).mono ?_
                  rintro e w9 ⟨m, rfl, r1, _, S9⟩
                  rw [r3'.out] at r1
                  obtain rfl := r1.eq_of (fw_nan hM1.out) nan0
                  clear r1
                  go_wp2_with fail
                  refine (stays_any (fw C) _ (fw_lt _) (fw_fin hM3.out) (fw_ne hM3.out) (fw_add0 hM3.out)).mono ?_
                  rintro e w10 ⟨rfl, O10⟩
                  go_wp2_with fail
                  refine (stays_any (fw C) _ (fw_lt _) (fw_fin hM3.out) (fw_ne hM3.out) (fw_add0 hM3.out)).mono ?_
                  rintro e w11 ⟨rfl, O11⟩
                  go_wp2_with fail
                  refine (fixed_any _).mono ?_
                  rintro e w12 ⟨rfl, O12⟩
                  go_wp2_with fail
                  go_ret
                  exact ⟨rfl, ((((((((hon3.trans (S4.only _)).trans (S5.only _)).trans (S6.only _)).trans (S7.only _)).trans (S8.only _)).trans (S9.only _)).trans O10).trans O11).trans O12⟩
end Go.Proofs.Ytgcjhdcplmfjbaa
