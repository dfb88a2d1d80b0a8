/- The reference's Print; both Mays; the law RealPrints. -/
import Derived.Test.YthjfdhkahmlolaaGreatDoorJQ35
import Derived.Test.YthjfdhkahmlolaaGreatDoorJQ42
import Derived.Test.YthjfdhkahmlolaaGreatDoorJQ30
import Derived.Test.YthjfdhkahmlolaaGreatDoorJQ33
namespace Go.Proofs.YthjfdhkahmlolaaGreatDoor
open Go.RowKit Usc
set_option maxRecDepth 100000
/-- text, at every finite float above 0 -/
theorem text_calls (b c : Nat) (s : Int) (w : World) (h0 : 1 ≤ b) (hb : b < 9218868437227405312) (hS : Sh b c s) :
    Calls Tryz.prog 27 #[.int .u64 (b : Int)] w fun en w' => en = .returned (.string ⟨(laidB c (exp10 c s)).toArray⟩) ∧ Only (fun _ => False) w w' := by
  have B := hS.bounds (parts b h0 hb)
  have hD : DgC b c (exp10 c s) := fun w => (digitsR_calls b w h0 hb).mono fun en w' ⟨c', s', hS', e1, e2⟩ => by
    obtain ⟨rfl, rfl⟩ := hS'.unique hS
    exact ⟨e1, e2⟩
  have h1 := B.c1; have h2 := B.n0; have h3 := B.n1; have h4 := B.s0; have h5 := B.s1
  have he : exp10 c s = (Lib.nDigits c : Int) + s - 1 := rfl
  by_cases e1 : 0 ≤ exp10 c s ∧ exp10 c s ≤ 20
  · by_cases e2 : (Lib.nDigits c : Int) ≤ exp10 c s + 1
    · exact text_a b c _ hD (by omega) h3 e1 e2 w
    · exact text_b b c _ hD (by omega) h3 e1 e2 w
  · by_cases e3 : -6 ≤ exp10 c s ∧ exp10 c s < 0
    · exact text_c b c _ hD (by omega) h3 e3 w
    · rcases (by omega : (-999 ≤ exp10 c s ∧ exp10 c s < -6) ∨ (20 < exp10 c s ∧ exp10 c s ≤ 999)) with g | g
      · by_cases e4 : Lib.nDigits c = 1
        · exact text_dno b c _ hD (by omega) h3 g e4 w
        · exact text_dnm b c _ hD (by omega) h3 g e4 w
      · by_cases e4 : Lib.nDigits c = 1
        · exact text_dpo b c _ hD (by omega) h3 g e4 w
        · exact text_dpm b c _ hD (by omega) h3 g e4 w
theorem mag_mod (a : Nat) (h : a < 18446744073709551616) : bits BinOp.andNot IntKind.u64 (a : Int) 9223372036854775808 = ((a % 9223372036854775808 : Nat) : Int) := Pq.mag_bits a h
theorem and_lo (a : Nat) (h : a < 9223372036854775808) : bits BinOp.and IntKind.u64 (a : Int) 9223372036854775808 = 0 := by
  have := Pq.and_sign a (by omega)
  unfold Pq.sgn at this
  rw [this]
  have hn : Pq.Flt.neg a = false := by unfold Pq.Flt.neg; rw [beq_eq_false_iff_ne]; omega
  rw [hn]; rfl
theorem and_hi (a : Nat) (h : 9223372036854775808 ≤ a) (h' : a < 18446744073709551616) : bits BinOp.and IntKind.u64 (a : Int) 9223372036854775808 = 9223372036854775808 := by
  have := Pq.and_sign a (by omega)
  unfold Pq.sgn at this
  rw [this]
  have hn : Pq.Flt.neg a = true := by unfold Pq.Flt.neg; rw [beq_iff_eq]; omega
  rw [hn]; rfl
set_option maxHeartbeats 4000000 in
theorem printR_calls (X : Nat) (t : List UInt8) (w : World) (hX : X < 18446744073709551616) (hP : Pr X t) :
    Calls Tryz.prog 12 #[.float .f64 X] w fun en w' => en = .returned (.string ⟨t.toArray⟩) ∧ Only (fun _ => False) w w' := by
  have k1 := run_tobits X
  have k2 := mag_mod X hX
  obtain ⟨m, hm⟩ : ∃ m, m = X % 9223372036854775808 := ⟨_, rfl⟩
  rw [← hm] at k2
  by_cases h1 : 9218868437227405312 < X % 9223372036854775808
  · obtain rfl := (pr_nan h1 t).1 hP
    have u1 : decide ((9218868437227405312 : Int) < (m : Int)) = true := decide_eq_true (by omega)
    clear h1 hm
    go_enter Tryz.func12, Tryz.ntmps12
    go_wp2_with fail
    go_ret
    exact ⟨rfl, Only.refl _ _⟩
  · have u1 : decide ((9218868437227405312 : Int) < (m : Int)) = false := decide_eq_false (by omega)
    by_cases h2 : X % 9223372036854775808 = 9218868437227405312
    · have ht := (pr_inf h2 t).1 hP
      by_cases hs : X < 9223372036854775808
      · rw [if_pos hs] at ht; subst ht
        obtain rfl : X = 9218868437227405312 := by omega
        go_enter Tryz.func12, Tryz.ntmps12
        go_wp2_with fail
        go_ret
        exact ⟨rfl, Only.refl _ _⟩
      · rw [if_neg hs] at ht; subst ht
        obtain rfl : X = 18442240474082181120 := by omega
        go_enter Tryz.func12, Tryz.ntmps12
        go_wp2_with fail
        go_ret
        exact ⟨rfl, Only.refl _ _⟩
    · by_cases h3 : X % 9223372036854775808 = 0
      · have ht := (pr_zero h3 t).1 hP
        by_cases hs : X < 9223372036854775808
        · rw [if_pos hs] at ht; subst ht
          obtain rfl : X = 0 := by omega
          go_enter Tryz.func12, Tryz.ntmps12
          go_wp2_with fail
          go_ret
          exact ⟨rfl, Only.refl _ _⟩
        · rw [if_neg hs] at ht; subst ht
          obtain rfl : X = 9223372036854775808 := by omega
          go_enter Tryz.func12, Tryz.ntmps12
          go_wp2_with fail
          go_ret
          exact ⟨rfl, Only.refl _ _⟩
      · obtain ⟨c, s, hS, rfl⟩ := (pr_fin (by omega) (by omega) t).1 hP
        have TC := Lib.hid (fun w => text_calls m c s w (by omega) (by omega) (by rw [hm]; exact hS))
        have B := hS.bounds (parts _ (by omega) (by omega))
        have hlen := laid_len B
        generalize laidB c (exp10 c s) = T at *
        have u2 : ((X : Int) == 9218868437227405312) = false := by rw [beq_eq_false_iff_ne]; omega
        have u3 : ((X : Int) == 18442240474082181120) = false := by rw [beq_eq_false_iff_ne]; omega
        have u4 : ((X : Int) == 0) = false := by rw [beq_eq_false_iff_ne]; omega
        have u5 : ((X : Int) == 9223372036854775808) = false := by rw [beq_eq_false_iff_ne]; omega
        have hz : (⟨T.toArray⟩ : ByteArray).size = T.length := by rw [ba_size]
        by_cases hs : X < 9223372036854775808
        · rw [if_pos hs, List.nil_append]
          have u6 := and_lo X hs
          obtain rfl : m = X := by omega
          generalize (⟨T.toArray⟩ : ByteArray) = S at *
          clear hS h1 h2 h3 hm hs B hP
          go_enter Tryz.func12, Tryz.ntmps12
          go_wp2_with fail
          refine (TC.out _).mono ?_; rintro en w1 ⟨rfl, hO⟩; have HO1 := Lib.hid hO; clear hO TC
          go_wp2_with fail
          go_ret
          exact ⟨rfl, HO1.out⟩
        · rw [if_neg hs]
          have u6 := and_hi X (by omega) hX
          have hfin := Lib.hid (show (⟨#[45]⟩ : ByteArray) ++ ⟨T.toArray⟩ = ⟨([45] ++ T).toArray⟩ by
            rw [show (⟨#[45]⟩ : ByteArray) = ⟨([45] : List UInt8).toArray⟩ from rfl, ba_append])
          generalize (⟨T.toArray⟩ : ByteArray) = S at *
          clear hS h1 h2 h3 hm hs B hP
          go_enter Tryz.func12, Tryz.ntmps12
          go_wp2_with fail
          refine (TC.out _).mono ?_; rintro en w1 ⟨rfl, hO⟩; have HO1 := Lib.hid hO; clear hO TC
          go_wp2_with fail
          go_ret
          exact ⟨congrArg (fun z => Ending.returned (Value.string z)) hfin.out, HO1.out⟩
def mayV (X : Nat) : Bool := decide (X % 9223372036854775808 ≤ 8930638061075693568)
theorem mayR_calls (X : Nat) (w : World) (hX : X < 18446744073709551616) : Calls Tryz.prog 14 #[.float .f64 X] w fun en w' => en = .returned (.bool (mayV X)) ∧ w' = w := by
  have k1 := run_tobits X
  have k2 := mag_mod X hX
  have k3 : decide (((X % 9223372036854775808 : Nat) : Int) ≤ 8930638061075693568) = mayV X := by unfold mayV; apply decide_eq_decide.2; omega
  generalize X % 9223372036854775808 = m at *
  generalize mayV X = v at *
  go_enter Tryz.func14, Tryz.ntmps14
  go_wp2_with fail
  go_ret
  first | exact ⟨rfl, rfl⟩ | exact ⟨by rw [k3], rfl⟩
theorem abs_calls (X : Nat) (w : World) (hX : X < 18446744073709551616) : Calls Tryz.prog 28 #[.float .f64 X] w fun en w' => en = .returned (.float .f64 (X % 9223372036854775808)) ∧ w' = w := by
  have k1 := run_tobits X
  have k2 := run_frb (X % 9223372036854775808)
  have k3 := mag_mod X hX
  generalize X % 9223372036854775808 = m at *
  go_enter Tryz.func28, Tryz.ntmps28
  go_wp2_with fail
  go_ret
  exact ⟨rfl, rfl⟩
theorem may_calls (X : Nat) (w : World) (hX : X < 18446744073709551616) : Calls Tryz.prog 13 #[.float .f64 X] w fun en w' => en = .returned (.bool (mayV X)) ∧ w' = w := by
  have K := Lib.hid (abs_calls X w hX)
  have o1 : (FloatKind.f64.format.order (X % 9223372036854775808) 8930638061075693568 == some Ordering.lt) = decide (X % 9223372036854775808 < 8930638061075693568) ∧
      (FloatKind.f64.format.order (X % 9223372036854775808) 8930638061075693568 == some Ordering.eq) = decide (X % 9223372036854775808 = 8930638061075693568) := by
    obtain ⟨m, hm⟩ : ∃ m, m = X % 9223372036854775808 := ⟨_, rfl⟩
    rw [← hm]
    by_cases h1 : 9218868437227405312 < m
    · rw [show FloatKind.f64.format.order m 8930638061075693568 = none from Pq.Flt.order_nan m 8930638061075693568 (.inl (by rw [nan_of]; exact decide_eq_true (by omega)))]
      rw [decide_eq_false (by omega), decide_eq_false (by omega)]
      exact ⟨rfl, rfl⟩
    · rw [show FloatKind.f64.format.order m 8930638061075693568 = some (compare (Pq.Flt.key m) (Pq.Flt.key 8930638061075693568)) from Pq.Flt.order_eq m 8930638061075693568 (by rw [nan_of]; exact decide_eq_false (by omega)) rfl]
      rw [key_of m (by omega), key_of 8930638061075693568 (by decide), if_pos (by omega), if_pos (by decide)]
      simp only [compare, compareOfLessAndEq]
      constructor
      · by_cases h : m < 8930638061075693568
        · rw [if_pos (by omega), decide_eq_true h]; rfl
        · rw [if_neg (by omega), decide_eq_false h]; split <;> rfl
      · by_cases h : m < 8930638061075693568
        · rw [if_pos (by omega), decide_eq_false (by omega)]; rfl
        · rw [if_neg (by omega)]
          by_cases h' : m = 8930638061075693568
          · rw [if_pos (by omega), decide_eq_true h']; rfl
          · rw [if_neg (by omega), decide_eq_false h']; rfl
  obtain ⟨o1, o2⟩ := o1
  have hv : mayV X = decide (X % 9223372036854775808 ≤ 8930638061075693568) := rfl
  generalize mayV X = v at *
  generalize X % 9223372036854775808 = m at *
  rcases Nat.lt_trichotomy m 8930638061075693568 with h | h | h
  · rw [decide_eq_true h] at o1
    rw [decide_eq_false (by omega)] at o2
    rw [decide_eq_true (by omega)] at hv
    subst hv
    go_enter Tryz.func13, Tryz.ntmps13
    go_wp2_with fail
    refine K.out.mono ?_; rintro en w1 ⟨rfl, hw⟩; rw [hw]; clear hw w1
    go_wp2_with fail
    go_ret
    exact ⟨rfl, rfl⟩
  · rw [decide_eq_false (by omega)] at o1
    rw [decide_eq_true h] at o2
    rw [decide_eq_true (by omega)] at hv
    subst hv
    go_enter Tryz.func13, Tryz.ntmps13
    go_wp2_with fail
    refine K.out.mono ?_; rintro en w1 ⟨rfl, hw⟩; rw [hw]; clear hw w1
    go_wp2_with fail
    go_ret
    exact ⟨rfl, rfl⟩
  · rw [decide_eq_false (by omega)] at o1
    rw [decide_eq_false (by omega)] at o2
    rw [decide_eq_false (by omega)] at hv
    subst hv
    go_enter Tryz.func13, Tryz.ntmps13
    go_wp2_with fail
    refine K.out.mono ?_; rintro en w1 ⟨rfl, hw⟩; rw [hw]; clear hw w1
    go_wp2_with fail
    go_ret
    exact ⟨rfl, rfl⟩
end Go.Proofs.YthjfdhkahmlolaaGreatDoor

/- The reference's nearest, rank, Same. -/
namespace Go.Proofs.YthjfdhkahmlolaaGreatDoor
open Go.RowKit Usc
set_option maxRecDepth 100000
theorem side_low {m b c : Nat} {s : Int} (h1 : 1 ≤ m) (h2 : m < 9218868437227405312) (hs : sideV m c s = -1) (hb : Rd b c s) : b < m := by
  obtain ⟨i1, i2, _⟩ := side_iff (parts m h1 h2) h2 c s
  rcases Nat.lt_or_ge b m with g | g
  · exact g
  · exfalso
    rcases Nat.eq_or_lt_of_le g with e | e
    · rw [← e] at hb
      have := i1.2 hb
      omega
    · have h3 := mid_lt (show m - 1 < b - 1 by omega)
      have h4 := Nat.mul_lt_mul_of_pos_right h3 (show 0 < 10 ^ (-s).toNat from Nat.pow_pos (by decide))
      have h5 := i2.1 hs
      have h6 := hb.le.1
      have e2 : c * 10 ^ s.toNat * big = c * Gs s := by unfold Gs; rw [Nat.mul_assoc]
      rw [e2] at h6
      generalize c * Gs s = C at *
      split at h5 <;> omega
theorem side_high {m b c : Nat} {s : Int} (h1 : 1 ≤ m) (h2 : m < 9218868437227405312) (hs : sideV m c s = 1) (hb : Rd b c s) : m < b := by
  obtain ⟨i1, i2, _⟩ := side_iff (parts m h1 h2) h2 c s
  rcases Nat.lt_or_ge m b with g | g
  · exact g
  · exfalso
    rcases Nat.eq_or_lt_of_le g with e | e
    · rw [e] at hb
      have := i1.2 hb
      omega
    · have hn : ¬ sideV m c s = -1 := by omega
      rw [i2] at hn
      have e2 : c * 10 ^ s.toNat * big = c * Gs s := by unfold Gs; rw [Nat.mul_assoc]
      have h6 := hb.le.2
      rw [e2] at h6
      rcases Nat.lt_or_ge b (m - 1) with q | q
      · have h4 := Nat.mul_lt_mul_of_pos_right (mid_lt q) (show 0 < 10 ^ (-s).toNat from Nat.pow_pos (by decide))
        generalize c * Gs s = C at *
        split at hn <;> omega
      · obtain rfl : b = m - 1 := by omega
        rw [Rd_zg] at hb
        generalize c * Gs s = C at *
        by_cases hp : m % 2 = 0
        · rw [if_pos hp] at hn
          rw [if_neg (by omega)] at hb
          omega
        · rw [if_neg hp] at hn
          omega
def NrR (w0 : World) (c : Nat) (s : Int) (v5 v6 : Value) (w : World) : Prop :=
  ∃ lo hi : Nat, v5 = .int .u64 (lo : Int) ∧ v6 = .int .u64 (hi : Int) ∧ 1 ≤ lo ∧ lo ≤ hi ∧ hi < 9218868437227405312 ∧ (∀ b, 1 ≤ b → b < 9218868437227405312 → Rd b c s → lo ≤ b ∧ b ≤ hi) ∧ Only (fun _ => False) w0 w
/-- what nearest tells -/
def NrIs (c : Nat) (s : Int) (B : Nat) : Prop := (B = 0 ∧ ∀ b, 1 ≤ b → b < 9218868437227405312 → ¬ Rd b c s) ∨ (1 ≤ B ∧ B < 9218868437227405312 ∧ Rd B c s)
set_option maxHeartbeats 1000000 in
theorem nearest_calls (c : Nat) (s : Int) (w : World) (hc : c < 18446744073709551616) (hs : -5000 ≤ s ∧ s ≤ 5000) :
    Calls Tryz.prog 31 #[.int .u64 (c : Int), .int .i64 s] w fun en w' => ∃ B : Nat, en = .returned (.int .u64 (B : Int)) ∧ NrIs c s B ∧ Only (fun _ => False) w w' := by
  have SC := Lib.hid (fun m w h0 hb => side_calls m c s w h0 hb hc hs)
  have SI := Lib.hid (fun m (h1 : 1 ≤ m) h2 => (side_iff (parts m h1 h2) h2 c s))
  go_enter Tryz.func31, Tryz.ntmps31
  go_wp2_with fail
  go_loopw [5, 6] (fun v5 v6 wr => NrR w c s v5 v6 wr) (fun v5 v6 _ => (intOf v6 - intOf v5).toNat)
  case atStart => exact ⟨1, 9218868437227405311, rfl, rfl, Nat.le_refl _, by decide, by decide, fun b h1 h2 _ => ⟨h1, by omega⟩, Only.refl _ _⟩
  case round =>
    obtain ⟨lo, hi, rfl, rfl, h1, h2, h3, hI, hO⟩ := hrel
    have HI := Lib.hid hI; have HO := Lib.hid hO; clear hI hO
    by_cases hlt : lo < hi
    · have t1 : decide ((lo : Int) < (hi : Int)) = true := decide_eq_true (by omega)
      obtain ⟨m, hm⟩ : ∃ m, m = lo + (hi - lo) / 2 := ⟨_, rfl⟩
      have hm1 : lo ≤ m := by omega
      have hm2 : m < hi := by omega
      have S1 := Lib.hid (fun w => SC.out m w (by omega) (by omega))
      have I1 := SI.out m (by omega) (by omega)
      have HLo := Lib.hid (fun h b hb => side_low (m := m) (b := b) (c := c) (s := s) (by omega) (by omega) h hb)
      have HHi := Lib.hid (fun h b hb => side_high (m := m) (b := b) (c := c) (s := s) (by omega) (by omega) h hb)
      have II := Lib.hid I1; clear I1 SC SI
      generalize sideV m c s = A at *
      have HM := Lib.hid hm
      have hme : (lo : Int) + ((hi : Int) - (lo : Int)) / 2 = (m : Int) := by omega
      clear hm
      go_wp2_with fail
      refine (S1.out _).mono ?_; rintro en w1 ⟨rfl, hO⟩; have HO1 := Lib.hid (HO.out.trans hO); clear hO S1
      rcases II.out.2.2 with g | g | g
      · have u1 : (A == 0) = false := by rw [beq_eq_false_iff_ne]; omega
        have u2 : decide (A < 0) = true := decide_eq_true (by omega)
        have G := Lib.hid g; clear g
        go_wp2_with fail
        exact ⟨⟨lo, m, rfl, rfl, h1, hm1, by omega, fun b b1 b2 hb => ⟨(HI.out b b1 b2 hb).1, Nat.le_of_lt (HLo.out G.out b hb)⟩, HO1.out⟩, by simp only [intOf]; omega⟩
      · have u1 : (A == 0) = true := by rw [beq_iff_eq]; exact g
        have HR := Lib.hid (II.out.1.1 g); clear g
        go_wp2_with fail
        go_ret
        exact ⟨m, rfl, .inr ⟨by omega, by omega, HR.out⟩, HO1.out⟩
      · have u1 : (A == 0) = false := by rw [beq_eq_false_iff_ne]; omega
        have u2 : decide (A < 0) = false := decide_eq_false (by omega)
        have G := Lib.hid g; clear g
        go_wp2_with fail
        exact ⟨⟨m + 1, hi, congrArg (Value.int .u64) (by omega), rfl, by omega, by omega, by omega, fun b b1 b2 hb => ⟨HHi.out G.out b hb, (HI.out b b1 b2 hb).2⟩, HO1.out⟩, by simp only [intOf]; omega⟩
    · obtain rfl : lo = hi := by omega
      have t1 : decide ((lo : Int) < (lo : Int)) = false := decide_eq_false (by omega)
      have S1 := Lib.hid (fun w => SC.out lo w h1 h3)
      have II := Lib.hid (SI.out lo h1 h3)
      clear SC SI
      generalize sideV lo c s = A at *
      go_wp2_with fail
      refine (S1.out _).mono ?_; rintro en w1 ⟨rfl, hO⟩; have HO1 := Lib.hid (HO.out.trans hO); clear hO S1
      by_cases g : A = 0
      · have u1 : (A == 0) = true := by rw [beq_iff_eq]; exact g
        have HR := Lib.hid (II.out.1.1 g); clear g
        go_wp2_with fail
        go_ret
        exact ⟨lo, rfl, .inr ⟨h1, h3, HR.out⟩, HO1.out⟩
      · have u1 : (A == 0) = false := by rw [beq_eq_false_iff_ne]; exact g
        have HR := Lib.hid (show ¬ Rd lo c s from fun h => g (II.out.1.2 h)); clear g
        go_wp2_with fail
        go_ret
        refine ⟨0, rfl, .inl ⟨rfl, fun b b1 b2 hb => ?_⟩, HO1.out⟩
        obtain ⟨q1, q2⟩ := HI.out b b1 b2 hb
        obtain rfl : b = lo := by omega
        exact HR.out hb
/-- what decimal tells is small -/
theorem dcs_bound {st st' : Dst} {b : Nat} (h : dcs st b = some st') (hc : st.c ≤ 999999999999999999) : st'.c ≤ 999999999999999999 ∧ st.s - 1 ≤ st'.s ∧ st'.s ≤ st.s + 1 := by
  unfold dcs at h
  by_cases h1 : b = 46 ∧ st.p < 0
  · rw [if_pos h1] at h
    obtain rfl := Option.some.inj h
    exact ⟨hc, by show st.s - 1 ≤ st.s; omega, by show st.s ≤ st.s + 1; omega⟩
  · rw [if_neg h1] at h
    by_cases h2 : b < 48 ∨ 57 < b
    · rw [if_pos h2] at h; cases h
    · rw [if_neg h2] at h
      by_cases h3 : 999999999999999999 < (if zrl st.c b then st.c else decStep st.c b)
      · rw [if_pos h3] at h; cases h
      · rw [if_neg h3] at h
        obtain rfl := Option.some.inj h
        refine ⟨Nat.le_of_not_lt h3, ?_, ?_⟩
        · show st.s - 1 ≤ (if zrl st.c b then st.s + 1 else st.s) - (if 0 ≤ st.p then 1 else 0)
          split <;> split <;> omega
        · show (if zrl st.c b then st.s + 1 else st.s) - (if 0 ≤ st.p then 1 else 0) ≤ st.s + 1
          split <;> split <;> omega
theorem dc1_bound : ∀ (l : List Nat) (st st' : Dst) (r : List Nat), dc1 l st = some (st', r) → st.c ≤ 999999999999999999 → st'.c ≤ 999999999999999999 ∧ st.s - l.length ≤ st'.s ∧ st'.s ≤ st.s + l.length ∧ r.length ≤ l.length
  | [], st, st', r, h, hc => by
    have h2 := Option.some.inj h
    obtain ⟨rfl, rfl⟩ := Prod.mk.inj h2
    exact ⟨hc, by simp, by simp, Nat.le_refl _⟩
  | b :: l, st, st', r, h, hc => by
    rw [dc1] at h
    by_cases hb : b = 101
    · rw [if_pos hb] at h
      have h2 := Option.some.inj h
      obtain ⟨rfl, rfl⟩ := Prod.mk.inj h2
      exact ⟨hc, by omega, by omega, Nat.le_refl _⟩
    · rw [if_neg hb] at h
      cases hd : dcs st b with
      | none => rw [hd] at h; cases h
      | some st2 =>
        rw [hd] at h
        obtain ⟨a1, a2, a3⟩ := dcs_bound hd hc
        obtain ⟨b1, b2, b3, b4⟩ := dc1_bound l st2 st' r h a1
        simp only [List.length_cons]
        exact ⟨b1, by omega, by omega, by omega⟩
theorem dc2_bound : ∀ (l : List Nat) (e e' : Nat), dc2 l e = some e' → e' < (e + 1) * 10 ^ l.length
  | [], e, e', h => by
    obtain rfl := Option.some.inj h
    simp
  | b :: l, e, e', h => by
    rw [dc2] at h
    by_cases hb : b < 48 ∨ 57 < b
    · rw [if_pos hb] at h; cases h
    · rw [if_neg hb] at h
      have h2 := dc2_bound l _ _ h
      have hs : decStep e b = e * 10 + (b - 48) := rfl
      have h3 : (decStep e b + 1) * 10 ^ l.length ≤ ((e + 1) * 10) * 10 ^ l.length := Nat.mul_le_mul_right _ (by omega)
      have h4 : (e + 1) * 10 * 10 ^ l.length = (e + 1) * 10 ^ (b :: l).length := by rw [List.length_cons, Nat.pow_succ, Nat.mul_assoc, Nat.mul_comm 10]
      omega
theorem dc2_999 {l : List Nat} {e : Nat} (h : dc2 l 0 = some e) (hl : l.length ≤ 3) : e ≤ 999 := by
  have h1 := dc2_bound l 0 e h
  have h2 : 10 ^ l.length ≤ 10 ^ 3 := Nat.pow_le_pow_right (by decide) hl
  rw [show (10 : Nat) ^ 3 = 1000 by decide] at h2
  omega
theorem dcE_bound {r : List Nat} {e : Int} (h : dcE r = some e) : -999 ≤ e ∧ e ≤ 999 := by
  unfold dcE at h
  by_cases h1 : r.head? = some 45
  · rw [if_pos h1] at h
    by_cases h2 : r.tail = [] ∨ 3 < r.tail.length
    · rw [if_pos h2] at h; cases h
    · rw [if_neg h2] at h
      cases h3 : dc2 r.tail 0 with
      | none => rw [h3] at h; cases h
      | some x =>
        rw [h3] at h
        obtain rfl := Option.some.inj h
        have := dc2_999 h3 (by omega)
        first
          | (show -999 ≤ -(x : Int) ∧ -(x : Int) ≤ 999; omega)
          | (show -999 ≤ (x : Int) ∧ (x : Int) ≤ 999; omega)
  · rw [if_neg h1] at h
    by_cases h2 : r = [] ∨ 3 < r.length
    · rw [if_pos h2] at h; cases h
    · rw [if_neg h2] at h
      cases h3 : dc2 r 0 with
      | none => rw [h3] at h; cases h
      | some x =>
        rw [h3] at h
        obtain rfl := Option.some.inj h
        have := dc2_999 h3 (by omega)
        first
          | (show -999 ≤ -(x : Int) ∧ -(x : Int) ≤ 999; omega)
          | (show -999 ≤ (x : Int) ∧ (x : Int) ≤ 999; omega)
theorem decF_bound {u : List Nat} {c : Nat} {s : Int} (h : decF u = some (c, s)) (hu : u.length ≤ 1000) : c < 18446744073709551616 ∧ -5000 ≤ s ∧ s ≤ 5000 := by
  unfold decF dcO at h
  cases h1 : dc1 u st0 with
  | none => rw [h1] at h; cases h
  | some p =>
    obtain ⟨st, r⟩ := p
    rw [h1] at h
    simp only at h
    obtain ⟨b1, b2, b3, b4⟩ := dc1_bound u st0 st r h1 (by decide)
    have s00 : st0.s = 0 := rfl
    rw [s00] at b2 b3
    by_cases h2 : st.d = 0 ∨ st.c = 0
    · rw [if_pos h2] at h; cases h
    · rw [if_neg h2] at h
      cases r with
      | nil =>
        have h3 := Option.some.inj h
        obtain ⟨rfl, rfl⟩ := Prod.mk.inj h3
        omega
      | cons x r =>
        simp only at h
        cases h4 : dcE r with
        | none => rw [h4] at h; cases h
        | some e =>
          rw [h4] at h
          have h3 := Option.some.inj h
          obtain ⟨rfl, rfl⟩ := Prod.mk.inj h3
          have := dcE_bound h4
          omega
theorem nat_xor_all (x : Nat) (h : x < 18446744073709551616) : 18446744073709551615 ^^^ x = 18446744073709551615 - x := by
  have k := congrArg BitVec.toNat (BitVec.allOnes_xor (x := BitVec.ofNat 64 x))
  rw [BitVec.toNat_xor, BitVec.toNat_not, BitVec.toNat_allOnes, BitVec.toNat_ofNat] at k
  rw [show (2 ^ 64 : Nat) = 18446744073709551616 from rfl, Nat.mod_eq_of_lt h] at k
  exact k
theorem xor_all (x : Nat) (h : x < 18446744073709551616) : bits .xor .u64 IntKind.u64.max (x : Int) = ((18446744073709551615 - x : Nat) : Int) := by
  have := u64_xor_nat 18446744073709551615 x (by omega) h
  rw [nat_xor_all x h] at this
  exact this
theorem rank_calls (x : Nat) (w : World) (hx : x < 18446744073709551616) : Calls Tryz.prog 32 #[.float .f64 x] w fun e w' => e = .returned (.int .u64 (rk x : Nat)) ∧ w' = w := by
  have k := run_tobits x
  have m1 := Pq.mag_bits x hx
  have m2 := Pq.and_sign x hx
  have hm : Pq.Flt.mag x < 9223372036854775808 := by unfold Pq.Flt.mag; omega
  cases hn : Pq.Flt.nan x
  · have hm2 : Pq.Flt.mag x ≤ 9218868437227405312 := by unfold Pq.Flt.nan at hn; simpa using hn
    have t1 : decide (((Pq.Flt.mag x : Nat) : Int) > 9218868437227405312) = false := by simp; omega
    cases hg : Pq.Flt.neg x
    · have m3 : Pq.sgn x = 0 := by unfold Pq.sgn; rw [hg]; rfl
      rw [m3] at m2
      have hs : x < 9223372036854775808 := by
        unfold Pq.Flt.neg at hg; rw [beq_eq_false_iff_ne] at hg; omega
      have m4 := Pq.or_sign x hs
      have hr : rk x = 9223372036854775808 + x := by unfold rk; rw [hn, hg]; simp; omega
      have HR := Lib.hid hr
      generalize rk x = r at *
      clear hr hn hg m3
      go_enter Tryz.func32, Tryz.ntmps32
      go_wp2_with fail
      go_ret
      exact ⟨ret_eq (congrArg (Value.int .u64) (by have := HR.out; omega)), rfl⟩
    · have m3 : Pq.sgn x = 9223372036854775808 := by unfold Pq.sgn; rw [hg]; rfl
      rw [m3] at m2
      have hs : 9223372036854775808 ≤ x := by
        unfold Pq.Flt.neg at hg; rw [beq_iff_eq] at hg; omega
      have hr : rk x = 18446744073709551615 - x := by unfold rk; rw [hn, hg]; simp
      have HR := Lib.hid hr
      generalize rk x = r at *
      clear hr hn hg m3
      have mx := xor_all x hx
      go_enter Tryz.func32, Tryz.ntmps32
      go_wp2_with fail
      go_ret
      refine ⟨ret_eq (congrArg (Value.int .u64) (by have := HR.out; omega)), rfl⟩
  · have hm2 : 9218868437227405312 < Pq.Flt.mag x := by unfold Pq.Flt.nan at hn; simpa using hn
    have t1 : decide (((Pq.Flt.mag x : Nat) : Int) > 9218868437227405312) = true := by simp; omega
    have hr : rk x = 0 := by unfold rk; rw [hn]; rfl
    have HR := Lib.hid hr
    generalize rk x = r at *
    clear hr hn
    go_enter Tryz.func32, Tryz.ntmps32
    go_wp2_with fail
    go_ret
    exact ⟨by rw [HR.out]; rfl, rfl⟩
theorem sameR_calls (x y : Nat) (w : World) (hx : x < 18446744073709551616) (hy : y < 18446744073709551616) (h : rk x = rk y) : Calls Tryz.prog 17 #[.float .f64 x, .float .f64 y] w fun e w' => e = .returned (.bool true) ∧ w' = w := by
  have K1 := Lib.hid (fun w => rank_calls x w hx)
  have K2 := Lib.hid (fun w => rank_calls y w hy)
  rw [← h] at K2
  generalize rk x = r at *
  have t1 : ((r : Int) == (r : Int)) = true := beq_self_eq_true _
  go_enter Tryz.func17, Tryz.ntmps17
  go_wp2_with fail
  refine (K1.out _).mono ?_; rintro en w1 ⟨rfl, hw⟩; rw [hw]; clear hw w1 K1
  go_wp2_with fail
  refine (K2.out _).mono ?_; rintro en w1 ⟨rfl, hw⟩; rw [hw]; clear hw w1 K2
  go_wp2_with fail
  go_ret
  exact ⟨rfl, rfl⟩
end Go.Proofs.YthjfdhkahmlolaaGreatDoor
