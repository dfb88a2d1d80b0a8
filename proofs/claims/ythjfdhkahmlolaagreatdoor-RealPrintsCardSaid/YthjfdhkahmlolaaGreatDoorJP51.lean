/- The reference's Print; both Mays; the law RealPrints. -/
import Derived.Test.YthjfdhkahmlolaaGreatDoorJP32
import Derived.Test.YthjfdhkahmlolaaGreatDoorJP41
import Derived.Test.YthjfdhkahmlolaaGreatDoorJP50
namespace Go.Proofs.YthjfdhkahmlolaaGreatDoor
open Go.RowKit Usc
set_option maxRecDepth 100000
/-- text, at every finite float above 0 -/
theorem text_calls (b c : Nat) (s : Int) (w : World) (h0 : 1 ≤ b) (hb : b < 9218868437227405312) (hS : Sh b c s) :
    Calls Tryz.prog 27 #[.int .u64 (b : Int)] w fun en w' => en = .returned (.string ⟨(laidB c (exp10 c s)).toArray⟩) ∧ Only (fun _ => False) w w' := by
  have B := hS.bounds (parts b h0 hb)
  have hD : DgC b c (exp10 c s) := fun w => (digitsR_calls b w h0 hb).mono fun en w' ⟨c', s', hS', e1, e2⟩ => by
    obtain ⟨rfl, rfl⟩ := hS'.unique hS
    exact ⟨e1, e2⟩
  have h1 := B.c1; have h2 := B.n0; have h3 := B.n1; have h4 := B.s0; have h5 := B.s1
  have he : exp10 c s = (Lib.nDigits c : Int) + s - 1 := rfl
  by_cases e1 : 0 ≤ exp10 c s ∧ exp10 c s ≤ 20
  · by_cases e2 : (Lib.nDigits c : Int) ≤ exp10 c s + 1
    · exact text_a b c _ hD (by omega) h3 e1 e2 w
    · exact text_b b c _ hD (by omega) h3 e1 e2 w
  · by_cases e3 : -6 ≤ exp10 c s ∧ exp10 c s < 0
    · exact text_c b c _ hD (by omega) h3 e3 w
    · rcases (by omega : (-999 ≤ exp10 c s ∧ exp10 c s < -6) ∨ (20 < exp10 c s ∧ exp10 c s ≤ 999)) with g | g
      · by_cases e4 : Lib.nDigits c = 1
        · exact text_dno b c _ hD (by omega) h3 g e4 w
        · exact text_dnm b c _ hD (by omega) h3 g e4 w
      · by_cases e4 : Lib.nDigits c = 1
        · exact text_dpo b c _ hD (by omega) h3 g e4 w
        · exact text_dpm b c _ hD (by omega) h3 g e4 w
theorem mag_mod (a : Nat) (h : a < 18446744073709551616) : bits BinOp.andNot IntKind.u64 (a : Int) 9223372036854775808 = ((a % 9223372036854775808 : Nat) : Int) := Pq.mag_bits a h
theorem and_lo (a : Nat) (h : a < 9223372036854775808) : bits BinOp.and IntKind.u64 (a : Int) 9223372036854775808 = 0 := by
  have := Pq.and_sign a (by omega)
  unfold Pq.sgn at this
  rw [this]
  have hn : Pq.Flt.neg a = false := by unfold Pq.Flt.neg; rw [beq_eq_false_iff_ne]; omega
  rw [hn]; rfl
theorem and_hi (a : Nat) (h : 9223372036854775808 ≤ a) (h' : a < 18446744073709551616) : bits BinOp.and IntKind.u64 (a : Int) 9223372036854775808 = 9223372036854775808 := by
  have := Pq.and_sign a (by omega)
  unfold Pq.sgn at this
  rw [this]
  have hn : Pq.Flt.neg a = true := by unfold Pq.Flt.neg; rw [beq_iff_eq]; omega
  rw [hn]; rfl
set_option maxHeartbeats 4000000 in
theorem printR_calls (X : Nat) (t : List UInt8) (w : World) (hX : X < 18446744073709551616) (hP : Pr X t) :
    Calls Tryz.prog 12 #[.float .f64 X] w fun en w' => en = .returned (.string ⟨t.toArray⟩) ∧ Only (fun _ => False) w w' := by
  have k1 := run_tobits X
  have k2 := mag_mod X hX
  obtain ⟨m, hm⟩ : ∃ m, m = X % 9223372036854775808 := ⟨_, rfl⟩
  rw [← hm] at k2
  by_cases h1 : 9218868437227405312 < X % 9223372036854775808
  · obtain rfl := (pr_nan h1 t).1 hP
    have u1 : decide ((9218868437227405312 : Int) < (m : Int)) = true := decide_eq_true (by omega)
    clear h1 hm
    go_enter Tryz.func12, Tryz.ntmps12
    go_wp2_with fail
    go_ret
    exact ⟨rfl, Only.refl _ _⟩
  · have u1 : decide ((9218868437227405312 : Int) < (m : Int)) = false := decide_eq_false (by omega)
    by_cases h2 : X % 9223372036854775808 = 9218868437227405312
    · have ht := (pr_inf h2 t).1 hP
      by_cases hs : X < 9223372036854775808
      · rw [if_pos hs] at ht; subst ht
        obtain rfl : X = 9218868437227405312 := by omega
        go_enter Tryz.func12, Tryz.ntmps12
        go_wp2_with fail
        go_ret
        exact ⟨rfl, Only.refl _ _⟩
      · rw [if_neg hs] at ht; subst ht
        obtain rfl : X = 18442240474082181120 := by omega
        go_enter Tryz.func12, Tryz.ntmps12
        go_wp2_with fail
        go_ret
        exact ⟨rfl, Only.refl _ _⟩
    · by_cases h3 : X % 9223372036854775808 = 0
      · have ht := (pr_zero h3 t).1 hP
        by_cases hs : X < 9223372036854775808
        · rw [if_pos hs] at ht; subst ht
          obtain rfl : X = 0 := by omega
          go_enter Tryz.func12, Tryz.ntmps12
          go_wp2_with fail
          go_ret
          exact ⟨rfl, Only.refl _ _⟩
        · rw [if_neg hs] at ht; subst ht
          obtain rfl : X = 9223372036854775808 := by omega
          go_enter Tryz.func12, Tryz.ntmps12
          go_wp2_with fail
          go_ret
          exact ⟨rfl, Only.refl _ _⟩
      · obtain ⟨c, s, hS, rfl⟩ := (pr_fin (by omega) (by omega) t).1 hP
        have TC := Lib.hid (fun w => text_calls m c s w (by omega) (by omega) (by rw [hm]; exact hS))
        have B := hS.bounds (parts _ (by omega) (by omega))
        have hlen := laid_len B
        generalize laidB c (exp10 c s) = T at *
        have u2 : ((X : Int) == 9218868437227405312) = false := by rw [beq_eq_false_iff_ne]; omega
        have u3 : ((X : Int) == 18442240474082181120) = false := by rw [beq_eq_false_iff_ne]; omega
        have u4 : ((X : Int) == 0) = false := by rw [beq_eq_false_iff_ne]; omega
        have u5 : ((X : Int) == 9223372036854775808) = false := by rw [beq_eq_false_iff_ne]; omega
        have hz : (⟨T.toArray⟩ : ByteArray).size = T.length := by rw [ba_size]
        by_cases hs : X < 9223372036854775808
        · rw [if_pos hs, List.nil_append]
          have u6 := and_lo X hs
          obtain rfl : m = X := by omega
          generalize (⟨T.toArray⟩ : ByteArray) = S at *
          clear hS h1 h2 h3 hm hs B hP
          go_enter Tryz.func12, Tryz.ntmps12
          go_wp2_with fail
          refine (TC.out _).mono ?_; rintro en w1 ⟨rfl, hO⟩; have HO1 := Lib.hid hO; clear hO TC
          go_wp2_with fail
          go_ret
          exact ⟨rfl, HO1.out⟩
        · rw [if_neg hs]
          have u6 := and_hi X (by omega) hX
          have hfin := Lib.hid (show (⟨#[45]⟩ : ByteArray) ++ ⟨T.toArray⟩ = ⟨([45] ++ T).toArray⟩ by
            rw [show (⟨#[45]⟩ : ByteArray) = ⟨([45] : List UInt8).toArray⟩ from rfl, ba_append])
          generalize (⟨T.toArray⟩ : ByteArray) = S at *
          clear hS h1 h2 h3 hm hs B hP
          go_enter Tryz.func12, Tryz.ntmps12
          go_wp2_with fail
          refine (TC.out _).mono ?_; rintro en w1 ⟨rfl, hO⟩; have HO1 := Lib.hid hO; clear hO TC
          go_wp2_with fail
          go_ret
          exact ⟨congrArg (fun z => Ending.returned (Value.string z)) hfin.out, HO1.out⟩
def mayV (X : Nat) : Bool := decide (X % 9223372036854775808 ≤ 8930638061075693568)
theorem mayR_calls (X : Nat) (w : World) (hX : X < 18446744073709551616) : Calls Tryz.prog 14 #[.float .f64 X] w fun en w' => en = .returned (.bool (mayV X)) ∧ w' = w := by
  have k1 := run_tobits X
  have k2 := mag_mod X hX
  have k3 : decide (((X % 9223372036854775808 : Nat) : Int) ≤ 8930638061075693568) = mayV X := by unfold mayV; apply decide_eq_decide.2; omega
  generalize X % 9223372036854775808 = m at *
  generalize mayV X = v at *
  go_enter Tryz.func14, Tryz.ntmps14
  go_wp2_with fail
  go_ret
  first | exact ⟨rfl, rfl⟩ | exact ⟨by rw [k3], rfl⟩
theorem abs_calls (X : Nat) (w : World) (hX : X < 18446744073709551616) : Calls Tryz.prog 28 #[.float .f64 X] w fun en w' => en = .returned (.float .f64 (X % 9223372036854775808)) ∧ w' = w := by
  have k1 := run_tobits X
  have k2 := run_frb (X % 9223372036854775808)
  have k3 := mag_mod X hX
  generalize X % 9223372036854775808 = m at *
  go_enter Tryz.func28, Tryz.ntmps28
  go_wp2_with fail
  go_ret
  exact ⟨rfl, rfl⟩
theorem may_calls (X : Nat) (w : World) (hX : X < 18446744073709551616) : Calls Tryz.prog 13 #[.float .f64 X] w fun en w' => en = .returned (.bool (mayV X)) ∧ w' = w := by
  have K := Lib.hid (abs_calls X w hX)
  have o1 : (FloatKind.f64.format.order (X % 9223372036854775808) 8930638061075693568 == some Ordering.lt) = decide (X % 9223372036854775808 < 8930638061075693568) ∧
      (FloatKind.f64.format.order (X % 9223372036854775808) 8930638061075693568 == some Ordering.eq) = decide (X % 9223372036854775808 = 8930638061075693568) := by
    obtain ⟨m, hm⟩ : ∃ m, m = X % 9223372036854775808 := ⟨_, rfl⟩
    rw [← hm]
    by_cases h1 : 9218868437227405312 < m
    · rw [show FloatKind.f64.format.order m 8930638061075693568 = none from Pq.Flt.order_nan m 8930638061075693568 (.inl (by rw [nan_of]; exact decide_eq_true (by omega)))]
      rw [decide_eq_false (by omega), decide_eq_false (by omega)]
      exact ⟨rfl, rfl⟩
    · rw [show FloatKind.f64.format.order m 8930638061075693568 = some (compare (Pq.Flt.key m) (Pq.Flt.key 8930638061075693568)) from Pq.Flt.order_eq m 8930638061075693568 (by rw [nan_of]; exact decide_eq_false (by omega)) rfl]
      rw [key_of m (by omega), key_of 8930638061075693568 (by decide), if_pos (by omega), if_pos (by decide)]
      simp only [compare, compareOfLessAndEq]
      constructor
      · by_cases h : m < 8930638061075693568
        · rw [if_pos (by omega), decide_eq_true h]; rfl
        · rw [if_neg (by omega), decide_eq_false h]; split <;> rfl
      · by_cases h : m < 8930638061075693568
        · rw [if_pos (by omega), decide_eq_false (by omega)]; rfl
        · rw [if_neg (by omega)]
          by_cases h' : m = 8930638061075693568
          · rw [if_pos (by omega), decide_eq_true h']; rfl
          · rw [if_neg (by omega), decide_eq_false h']; rfl
  obtain ⟨o1, o2⟩ := o1
  have hv : mayV X = decide (X % 9223372036854775808 ≤ 8930638061075693568) := rfl
  generalize mayV X = v at *
  generalize X % 9223372036854775808 = m at *
  rcases Nat.lt_trichotomy m 8930638061075693568 with h | h | h
  · rw [decide_eq_true h] at o1
    rw [decide_eq_false (by omega)] at o2
    rw [decide_eq_true (by omega)] at hv
    subst hv
    go_enter Tryz.func13, Tryz.ntmps13
    go_wp2_with fail
    refine K.out.mono ?_; rintro en w1 ⟨rfl, hw⟩; rw [hw]; clear hw w1
    go_wp2_with fail
    go_ret
    exact ⟨rfl, rfl⟩
  · rw [decide_eq_false (by omega)] at o1
    rw [decide_eq_true h] at o2
    rw [decide_eq_true (by omega)] at hv
    subst hv
    go_enter Tryz.func13, Tryz.ntmps13
    go_wp2_with fail
    refine K.out.mono ?_; rintro en w1 ⟨rfl, hw⟩; rw [hw]; clear hw w1
    go_wp2_with fail
    go_ret
    exact ⟨rfl, rfl⟩
  · rw [decide_eq_false (by omega)] at o1
    rw [decide_eq_false (by omega)] at o2
    rw [decide_eq_false (by omega)] at hv
    subst hv
    go_enter Tryz.func13, Tryz.ntmps13
    go_wp2_with fail
    refine K.out.mono ?_; rintro en w1 ⟨rfl, hw⟩; rw [hw]; clear hw w1
    go_wp2_with fail
    go_ret
    exact ⟨rfl, rfl⟩
end Go.Proofs.YthjfdhkahmlolaaGreatDoor
