/- Print at every float. -/
import Derived.Test.YtiijgghholhcnaaGreatDoorJL31
import Derived.Test.YtiijgghholhcnaaGreatDoorJL33
namespace Go.Proofs.YtiijgghholhcnaaGreatDoor.Re
open Go.RowKit Usc
/-- the text of a float by its bits -/
def Pr (X : Nat) (t : List UInt8) : Prop :=
  if 9218868437227405312 < X % 9223372036854775808 then t = [78, 97, 78]
  else if X % 9223372036854775808 = 9218868437227405312 then t = (if X < 9223372036854775808 then [43, 73, 110, 102] else [45, 73, 110, 102])
  else if X % 9223372036854775808 = 0 then t = (if X < 9223372036854775808 then [48] else [45, 48])
  else ∃ c s, Sh (X % 9223372036854775808) c s ∧ t = (if X < 9223372036854775808 then [] else [45]) ++ laidB c (exp10 c s)
theorem Pr.unique {X : Nat} {t t' : List UInt8} (h : Pr X t) (h' : Pr X t') : t = t' := by
  unfold Pr at h h'
  by_cases h1 : 9218868437227405312 < X % 9223372036854775808
  · rw [if_pos h1] at h h'; rw [h, h']
  · rw [if_neg h1] at h h'
    by_cases h2 : X % 9223372036854775808 = 9218868437227405312
    · rw [if_pos h2] at h h'; rw [h, h']
    · rw [if_neg h2] at h h'
      by_cases h3 : X % 9223372036854775808 = 0
      · rw [if_pos h3] at h h'; rw [h, h']
      · rw [if_neg h3] at h h'
        obtain ⟨c, s, hs, rfl⟩ := h
        obtain ⟨c', s', hs', rfl⟩ := h'
        obtain ⟨rfl, rfl⟩ := hs.unique hs'
        rfl
theorem pr_nan {X : Nat} (h : 9218868437227405312 < X % 9223372036854775808) (t : List UInt8) : Pr X t ↔ t = [78, 97, 78] := by unfold Pr; rw [if_pos h]
theorem pr_inf {X : Nat} (h : X % 9223372036854775808 = 9218868437227405312) (t : List UInt8) : Pr X t ↔ t = (if X < 9223372036854775808 then [43, 73, 110, 102] else [45, 73, 110, 102]) := by
  unfold Pr; rw [if_neg (by omega), if_pos h]
theorem pr_zero {X : Nat} (h : X % 9223372036854775808 = 0) (t : List UInt8) : Pr X t ↔ t = (if X < 9223372036854775808 then [48] else [45, 48]) := by
  unfold Pr; rw [if_neg (by omega), if_neg (by omega), if_pos h]
theorem pr_fin {X : Nat} (h0 : 1 ≤ X % 9223372036854775808) (h1 : X % 9223372036854775808 < 9218868437227405312) (t : List UInt8) : Pr X t ↔ ∃ c s, Sh (X % 9223372036854775808) c s ∧ t = (if X < 9223372036854775808 then [] else [45]) ++ laidB c (exp10 c s) := by
  unfold Pr; rw [if_neg (by omega), if_neg (by omega), if_neg (by omega)]
theorem pr_ex (X : Nat) : ∃ t, Pr X t := by
  by_cases h1 : 9218868437227405312 < X % 9223372036854775808
  · exact ⟨_, (pr_nan h1 _).2 rfl⟩
  · by_cases h2 : X % 9223372036854775808 = 9218868437227405312
    · exact ⟨_, (pr_inf h2 _).2 rfl⟩
    · by_cases h3 : X % 9223372036854775808 = 0
      · exact ⟨_, (pr_zero h3 _).2 rfl⟩
      · obtain ⟨c, s, h⟩ := sh_ex (parts (X % 9223372036854775808) (by omega) (by omega))
        exact ⟨_, (pr_fin (by omega) (by omega) _).2 ⟨c, s, h, rfl⟩⟩
theorem key_of (X : Nat) (h : X < 18446744073709551616) : Pq.Flt.key X = if X < 9223372036854775808 then ((X % 9223372036854775808 : Nat) : Int) else -((X % 9223372036854775808 : Nat) : Int) := by
  unfold Pq.Flt.key Pq.Flt.neg Pq.Flt.mag
  by_cases h1 : X < 9223372036854775808
  · rw [if_pos h1, show (X / 9223372036854775808 % 2 == 1) = false by rw [beq_eq_false_iff_ne]; omega]; rfl
  · rw [if_neg h1, show (X / 9223372036854775808 % 2 == 1) = true by rw [beq_iff_eq]; omega]; rfl
theorem nan_of (X : Nat) : Pq.Flt.nan X = decide (9218868437227405312 < X % 9223372036854775808) := rfl
theorem fgt_max (X : Nat) (h : X < 18446744073709551616) : fgt X 9218868437227405311 = decide (X = 9218868437227405312) := by
  rw [fgt_eq, nan_of, nan_of, key_of X h, key_of _ (by decide)]
  rw [show decide (9218868437227405312 < 9218868437227405311 % 9223372036854775808) = false from rfl, Bool.not_false, Bool.and_true, if_pos (by decide)]
  rw [← decide_not, ← Bool.decide_and]
  apply decide_eq_decide.2
  split <;> omega
theorem xor_flip (a : Nat) (h : a < 18446744073709551616) : a ^^^ 9223372036854775808 = Pq.Flt.flip a := by
  have key : ∀ b, b < 9223372036854775808 → b ^^^ 9223372036854775808 = b + 9223372036854775808 := by
    intro b hb
    have h1 := nat_join 63 9223372036854775808 b (by decide) (by rw [show (2 ^ 63 : Nat) = 9223372036854775808 from rfl]; exact hb)
    have h2 : b ^^^ 9223372036854775808 = 9223372036854775808 ||| b := by
      apply Nat.eq_of_testBit_eq
      intro i
      rw [Nat.testBit_xor, Nat.testBit_or, show (9223372036854775808 : Nat) = 2 ^ 63 from rfl, Nat.testBit_two_pow]
      by_cases e : 63 = i
      · subst e
        have : b.testBit 63 = false := Nat.testBit_lt_two_pow (by rw [show (2 ^ 63 : Nat) = 9223372036854775808 from rfl]; exact hb)
        simp [this]
      · simp [e]
    rw [h2, h1]; omega
  unfold Pq.Flt.flip
  by_cases hs : a < 9223372036854775808
  · rw [if_pos hs, key a hs]
  · rw [if_neg hs]
    have h1 := key (a - 9223372036854775808) (by omega)
    have h2 : a - 9223372036854775808 + 9223372036854775808 = a := by omega
    rw [h2] at h1
    have h3 : a ^^^ 9223372036854775808 = (a - 9223372036854775808 ^^^ 9223372036854775808) ^^^ 9223372036854775808 := by rw [h1]
    rw [h3, Nat.xor_assoc, Nat.xor_self, Nat.xor_zero]
theorem fnegf_eq (X : Nat) (h : X < 18446744073709551616) : fnegf X = if X < 9223372036854775808 then X + 9223372036854775808 else X - 9223372036854775808 := xor_flip X h
theorem ord_zero (X : Nat) (h : X < 18446744073709551616) (hn : X % 9223372036854775808 ≤ 9218868437227405312) : (FloatKind.f64.format.order X 0 == some Ordering.eq) = decide (X % 9223372036854775808 = 0) := by
  rw [show FloatKind.f64.format.order X 0 = some (compare (Pq.Flt.key X) (Pq.Flt.key 0)) from Pq.Flt.order_eq X 0 (by rw [nan_of]; exact decide_eq_false (by omega)) rfl]
  rw [key_of X h, key_of 0 (by decide)]
  simp only [compare, compareOfLessAndEq]
  by_cases h0 : X % 9223372036854775808 = 0
  · rw [h0]; simp
  · rw [decide_eq_false h0]
    split <;> split <;> (try split) <;> simp_all <;> omega
theorem ba_nil_append (T : ByteArray) : (⟨#[]⟩ : ByteArray) ++ T = T := by
  apply ByteArray.ext
  simp [ByteArray.data_append]
theorem laid_len {c : Nat} {s : Int} (H : Shb c s) : (laidB c (exp10 c s)).length ≤ 60 := by
  have hl := Lib.decDigits_length c
  have hp := pointB_len c
  have n0 := H.n0; have n1 := H.n1; have s0 := H.s0; have s1 := H.s1
  have hi := itoa_len (exp10 c s) (by unfold exp10; omega)
  unfold laidB
  split
  · split
    · simp; omega
    · simp; omega
  · split
    · simp; omega
    · simp; omega
theorem fsg_of (X : Nat) (h : X < 18446744073709551616) : fsg X = decide (9223372036854775808 ≤ X) := by
  rw [fsg_eq X h]
  unfold Pq.Flt.neg
  by_cases h1 : X < 9223372036854775808
  · rw [decide_eq_false (by omega), beq_eq_false_iff_ne]; omega
  · rw [decide_eq_true (by omega), beq_iff_eq]; omega
theorem fnan_of (X : Nat) : fnan X = decide (9218868437227405312 < X % 9223372036854775808) := by rw [fnan_eq]; rfl
theorem neg_max (X : Nat) (h : X < 18446744073709551616) : fgt (fnegf X) 9218868437227405311 = decide (X = 18442240474082181120) := by
  rw [fgt_max _ (by rw [fnegf_eq X h]; split <;> omega), fnegf_eq X h]
  apply decide_eq_decide.2
  split <;> omega
set_option maxRecDepth 100000
set_option maxHeartbeats 4000000 in
theorem print_nan (X : Nat) (w : World) (h1 : 9218868437227405312 < X % 9223372036854775808) : Calls Tryz.prog 67 #[.float .f64 X] w fun en w' => en = .returned (.string ⟨#[78, 97, 78]⟩) ∧ w' = w := by
  have f1 := fnan_of X
  rw [decide_eq_true h1] at f1
  have K1 := Lib.hid (isnan_calls X w)
  rw [f1] at K1
  clear f1 h1
  go_enter Tryz.func67, Tryz.ntmps67
  go_wp2_with fail
  refine K1.out.mono ?_
  rintro en w1 ⟨rfl, hw⟩; rw [hw]; clear hw w1
  go_wp2_with fail
  go_ret
  exact ⟨rfl, rfl⟩
set_option maxHeartbeats 4000000 in
theorem print_pinf (w : World) : Calls Tryz.prog 67 #[.float .f64 9218868437227405312] w fun en w' => en = .returned (.string ⟨#[43, 73, 110, 102]⟩) ∧ w' = w := by
  go_enter Tryz.func67, Tryz.ntmps67
  go_wp2_with fail
  refine (isnan_calls _ _).mono ?_
  rintro en w1 ⟨rfl, hw⟩; rw [hw]; clear hw w1
  rw [show fnan 9218868437227405312 = false by decide +kernel]
  go_wp2_with fail
  refine (inf_p _ _).mono ?_
  rintro en w1 ⟨rfl, hw⟩; rw [hw]; clear hw w1
  rw [show fgt 9218868437227405312 9218868437227405311 = true by decide +kernel]
  go_wp2_with fail
  go_ret
  exact ⟨rfl, rfl⟩
set_option maxHeartbeats 4000000 in
theorem print_ninf (w : World) : Calls Tryz.prog 67 #[.float .f64 18442240474082181120] w fun en w' => en = .returned (.string ⟨#[45, 73, 110, 102]⟩) ∧ w' = w := by
  go_enter Tryz.func67, Tryz.ntmps67
  go_wp2_with fail
  refine (isnan_calls _ _).mono ?_
  rintro en w1 ⟨rfl, hw⟩; rw [hw]; clear hw w1
  rw [show fnan 18442240474082181120 = false by decide +kernel]
  go_wp2_with fail
  refine (inf_p _ _).mono ?_
  rintro en w1 ⟨rfl, hw⟩; rw [hw]; clear hw w1
  rw [show fgt 18442240474082181120 9218868437227405311 = false by decide +kernel]
  go_wp2_with fail
  refine (inf_m _ _).mono ?_
  rintro en w1 ⟨rfl, hw⟩; rw [hw]; clear hw w1
  rw [show fgt (fnegf 18442240474082181120) 9218868437227405311 = true by decide +kernel]
  go_wp2_with fail
  go_ret
  exact ⟨rfl, rfl⟩
set_option maxHeartbeats 4000000 in
theorem print_pzero (w : World) : Calls Tryz.prog 67 #[.float .f64 0] w fun en w' => en = .returned (.string ⟨#[48]⟩) ∧ w' = w := by
  have z : (FloatKind.f64.format.order 0 0 == some Ordering.eq) = true := by decide +kernel
  go_enter Tryz.func67, Tryz.ntmps67
  go_wp2_with fail
  refine (isnan_calls _ _).mono ?_
  rintro en w1 ⟨rfl, hw⟩; rw [hw]; clear hw w1
  rw [show fnan 0 = false by decide +kernel]
  go_wp2_with fail
  refine (inf_p _ _).mono ?_
  rintro en w1 ⟨rfl, hw⟩; rw [hw]; clear hw w1
  rw [show fgt 0 9218868437227405311 = false by decide +kernel]
  go_wp2_with fail
  refine (inf_m _ _).mono ?_
  rintro en w1 ⟨rfl, hw⟩; rw [hw]; clear hw w1
  rw [show fgt (fnegf 0) 9218868437227405311 = false by decide +kernel]
  go_wp2_with fail
  refine (signbit_calls _ _).mono ?_
  rintro en w1 ⟨rfl, hw⟩; rw [hw]; clear hw w1
  rw [show fsg 0 = false by decide +kernel]
  go_wp2_with fail
  go_ret
  exact ⟨by congr 2, rfl⟩
set_option maxHeartbeats 4000000 in
theorem print_nzero (w : World) : Calls Tryz.prog 67 #[.float .f64 9223372036854775808] w fun en w' => en = .returned (.string ⟨#[45, 48]⟩) ∧ w' = w := by
  have z : (FloatKind.f64.format.order 0 0 == some Ordering.eq) = true := by decide +kernel
  have k := run_fneg 9223372036854775808
  rw [show fnegf 9223372036854775808 = 0 by decide +kernel] at k
  go_enter Tryz.func67, Tryz.ntmps67
  go_wp2_with fail
  refine (isnan_calls _ _).mono ?_
  rintro en w1 ⟨rfl, hw⟩; rw [hw]; clear hw w1
  rw [show fnan 9223372036854775808 = false by decide +kernel]
  go_wp2_with fail
  refine (inf_p _ _).mono ?_
  rintro en w1 ⟨rfl, hw⟩; rw [hw]; clear hw w1
  rw [show fgt 9223372036854775808 9218868437227405311 = false by decide +kernel]
  go_wp2_with fail
  refine (inf_m _ _).mono ?_
  rintro en w1 ⟨rfl, hw⟩; rw [hw]; clear hw w1
  rw [show fgt (fnegf 9223372036854775808) 9218868437227405311 = false by decide +kernel]
  go_wp2_with fail
  refine (signbit_calls _ _).mono ?_
  rintro en w1 ⟨rfl, hw⟩; rw [hw]; clear hw w1
  rw [show fsg 9223372036854775808 = true by decide +kernel]
  go_wp2_with fail
  go_ret
  exact ⟨by congr 2, rfl⟩
set_option maxHeartbeats 4000000 in
theorem print_pos (X c : Nat) (s : Int) (w : World) (h0 : 1 ≤ X) (h1 : X < 9218868437227405312) (hS : Sh X c s) (hE : Env w) :
    Calls Tryz.prog 67 #[.float .f64 X] w fun en w' => en = .returned (.string ⟨(laidB c (exp10 c s)).toArray⟩) ∧ Only (fun _ => False) w w' := by
  have HE := Lib.hid hE; clear hE
  have hb := hS.bounds (parts X h0 h1)
  have n1 := hb.n1; have s0 := hb.s0; have s1 := hb.s1; have n0 := hb.n0
  have K1 := Lib.hid (fun w => isnan_calls X w)
  rw [fnan_of, decide_eq_false (by omega)] at K1
  have K2 := Lib.hid (fun w => inf_p X w)
  rw [fgt_max X (by omega), decide_eq_false (by omega)] at K2
  have K3 := Lib.hid (fun w => inf_m X w)
  rw [neg_max X (by omega), decide_eq_false (by omega)] at K3
  have K4 := Lib.hid (fun w => signbit_calls X w)
  rw [fsg_of X (by omega), decide_eq_false (by omega)] at K4
  have z := ord_zero X (by omega) (by omega)
  rw [decide_eq_false (by omega)] at z
  have D := Lib.hid (dec_pos X c s w h0 h1 hS HE.out)
  have LD := Lib.hid (fun w hU => laid_calls c (exp10 c s) w hU n1 (by unfold exp10; omega))
  have HL := Lib.hid (laid_len (s := s) hb)
  clear hb
  obtain ⟨T, hT⟩ : ∃ T : ByteArray, T = ⟨(laidB c (exp10 c s)).toArray⟩ := ⟨_, rfl⟩
  have hz : T.size ≤ 100 := by rw [hT, ba_size]; have := HL.out; omega
  rw [← hT] at LD ⊢
  clear hT HL
  go_enter Tryz.func67, Tryz.ntmps67
  go_wp2_with fail
  refine (K1.out _).mono ?_
  rintro en w1 ⟨rfl, hw⟩; rw [hw]; clear hw w1
  go_wp2_with fail
  refine (K2.out _).mono ?_
  rintro en w1 ⟨rfl, hw⟩; rw [hw]; clear hw w1
  go_wp2_with fail
  refine (K3.out _).mono ?_
  rintro en w1 ⟨rfl, hw⟩; rw [hw]; clear hw w1
  go_wp2_with fail
  refine (K4.out _).mono ?_
  rintro en w1 ⟨rfl, hw⟩; rw [hw]; clear hw w1 K1 K2 K3 K4
  go_wp2_with fail
  refine D.out.mono ?_
  rintro en w1 ⟨rfl, hO⟩
  have HO := Lib.hid hO; clear hO D
  go_wp2_with fail
  refine (LD.out w1 (HE.out.2.still HO.out (fun h => h))).mono ?_
  rintro en w2 ⟨rfl, hO⟩
  have HO2 := Lib.hid (HO.out.trans hO); clear hO LD
  go_wp2_with fail
  go_ret
  exact ⟨congrArg (fun z => Ending.returned (Value.string z)) (ba_nil_append _), HO2.out⟩
set_option maxHeartbeats 4000000 in
theorem print_neg (X c : Nat) (s : Int) (w : World) (h0 : 1 ≤ X) (h1 : X < 9218868437227405312) (hS : Sh X c s) (hE : Env w) :
    Calls Tryz.prog 67 #[.float .f64 (X + 9223372036854775808)] w fun en w' => en = .returned (.string ⟨(45 :: laidB c (exp10 c s)).toArray⟩) ∧ Only (fun _ => False) w w' := by
  have HE := Lib.hid hE; clear hE
  have hb := hS.bounds (parts X h0 h1)
  have n1 := hb.n1; have s0 := hb.s0; have s1 := hb.s1; have n0 := hb.n0
  have K1 := Lib.hid (fun w => isnan_calls (X + 9223372036854775808) w)
  rw [fnan_of, decide_eq_false (by omega)] at K1
  have K2 := Lib.hid (fun w => inf_p (X + 9223372036854775808) w)
  rw [fgt_max _ (by omega), decide_eq_false (by omega)] at K2
  have K3 := Lib.hid (fun w => inf_m (X + 9223372036854775808) w)
  rw [neg_max _ (by omega), decide_eq_false (by omega)] at K3
  have K4 := Lib.hid (fun w => signbit_calls (X + 9223372036854775808) w)
  rw [fsg_of _ (by omega), decide_eq_true (by omega)] at K4
  have z := ord_zero X (by omega) (by omega)
  rw [decide_eq_false (by omega)] at z
  have k := run_fneg (X + 9223372036854775808)
  rw [fnegf_eq _ (by omega), if_neg (by omega), Nat.add_sub_cancel] at k
  have D := Lib.hid (dec_pos X c s w h0 h1 hS HE.out)
  have LD := Lib.hid (fun w hU => laid_calls c (exp10 c s) w hU n1 (by unfold exp10; omega))
  have HL := Lib.hid (laid_len (s := s) hb)
  clear hb
  obtain ⟨T, hT⟩ : ∃ T : ByteArray, T = ⟨(laidB c (exp10 c s)).toArray⟩ := ⟨_, rfl⟩
  have hz : T.size ≤ 100 := by rw [hT, ba_size]; have := HL.out; omega
  have hfin := Lib.hid (show (⟨#[45]⟩ : ByteArray) ++ T = ⟨(45 :: laidB c (exp10 c s)).toArray⟩ by
    rw [hT, show (⟨#[45]⟩ : ByteArray) = ⟨([45] : List UInt8).toArray⟩ from rfl, ba_append]; rfl)
  rw [← hT] at LD
  clear hT HL
  go_enter Tryz.func67, Tryz.ntmps67
  go_wp2_with fail
  refine (K1.out _).mono ?_
  rintro en w1 ⟨rfl, hw⟩; rw [hw]; clear hw w1
  go_wp2_with fail
  refine (K2.out _).mono ?_
  rintro en w1 ⟨rfl, hw⟩; rw [hw]; clear hw w1
  go_wp2_with fail
  refine (K3.out _).mono ?_
  rintro en w1 ⟨rfl, hw⟩; rw [hw]; clear hw w1
  go_wp2_with fail
  refine (K4.out _).mono ?_
  rintro en w1 ⟨rfl, hw⟩; rw [hw]; clear hw w1 K1 K2 K3 K4
  go_wp2_with fail
  refine D.out.mono ?_
  rintro en w1 ⟨rfl, hO⟩
  have HO := Lib.hid hO; clear hO D
  go_wp2_with fail
  refine (LD.out w1 (HE.out.2.still HO.out (fun h => h))).mono ?_
  rintro en w2 ⟨rfl, hO⟩
  have HO2 := Lib.hid (HO.out.trans hO); clear hO LD
  go_wp2_with fail
  go_ret
  exact ⟨congrArg (fun z => Ending.returned (Value.string z)) hfin.out, HO2.out⟩
/-- Print, at every float -/
theorem print_calls (X : Nat) (t : List UInt8) (w : World) (hX : X < 18446744073709551616) (hp : Pr X t) (hE : Env w) :
    Calls Tryz.prog 67 #[.float .f64 X] w fun en w' => en = .returned (.string ⟨t.toArray⟩) ∧ Only (fun _ => False) w w' := by
  by_cases h1 : 9218868437227405312 < X % 9223372036854775808
  · obtain rfl := (pr_nan h1 _).1 hp
    exact (print_nan X w h1).mono fun e w' ⟨a, b⟩ => ⟨a, by rw [b]; exact Only.refl _ _⟩
  by_cases h2 : X % 9223372036854775808 = 9218868437227405312
  · obtain rfl := (pr_inf h2 _).1 hp
    by_cases hs : X < 9223372036854775808
    · obtain rfl : X = 9218868437227405312 := by omega
      exact (print_pinf w).mono fun e w' ⟨a, b⟩ => ⟨a, by rw [b]; exact Only.refl _ _⟩
    · obtain rfl : X = 18442240474082181120 := by omega
      exact (print_ninf w).mono fun e w' ⟨a, b⟩ => ⟨a, by rw [b]; exact Only.refl _ _⟩
  by_cases h3 : X % 9223372036854775808 = 0
  · obtain rfl := (pr_zero h3 _).1 hp
    by_cases hs : X < 9223372036854775808
    · obtain rfl : X = 0 := by omega
      exact (print_pzero w).mono fun e w' ⟨a, b⟩ => ⟨a, by rw [b]; exact Only.refl _ _⟩
    · obtain rfl : X = 9223372036854775808 := by omega
      exact (print_nzero w).mono fun e w' ⟨a, b⟩ => ⟨a, by rw [b]; exact Only.refl _ _⟩
  obtain ⟨c, s, hS, rfl⟩ := (pr_fin (by omega) (by omega) _).1 hp
  by_cases hs : X < 9223372036854775808
  · rw [Nat.mod_eq_of_lt hs] at hS h2 h3 h1
    rw [if_pos hs]
    exact print_pos X c s w (by omega) (by omega) hS hE
  · obtain ⟨a, rfl⟩ : ∃ a, X = a + 9223372036854775808 := ⟨X - 9223372036854775808, by omega⟩
    rw [show (a + 9223372036854775808) % 9223372036854775808 = a by omega] at hS h2 h3 h1
    rw [if_neg hs]
    exact print_neg a c s w (by omega) (by omega) hS hE
end Go.Proofs.YtiijgghholhcnaaGreatDoor.Re
