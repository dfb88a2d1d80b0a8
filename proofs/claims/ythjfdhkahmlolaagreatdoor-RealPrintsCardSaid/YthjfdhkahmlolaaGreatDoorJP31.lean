/- laid: digits laid down by their exponent. -/
import Derived.Test.YthjfdhkahmlolaaGreatDoorJP30
namespace Go.Proofs.YthjfdhkahmlolaaGreatDoor
open Go.RowKit Usc
/-- a decimal's text -/
def laidB (c : Nat) (e : Int) : List UInt8 :=
  if 0 ≤ e ∧ e ≤ 20 then (if (Lib.nDigits c : Int) ≤ e + 1 then Lib.decDigits c ++ List.replicate (e + 1 - Lib.nDigits c).toNat 48 else (Lib.decDigits c).take (e + 1).toNat ++ 46 :: (Lib.decDigits c).drop (e + 1).toNat)
  else if -6 ≤ e ∧ e < 0 then [48, 46] ++ List.replicate (-e - 1).toNat 48 ++ Lib.decDigits c
  else pointB c ++ 101 :: Lib.itoa e
theorem ba_append (a b : List UInt8) : (⟨a.toArray⟩ : ByteArray) ++ ⟨b.toArray⟩ = ⟨(a ++ b).toArray⟩ := by
  apply ByteArray.ext
  simp [ByteArray.data_append]
theorem rep_l (c : Nat) : Lib.repeatL [48] c = List.replicate c 48 := by
  induction c with
  | zero => rfl
  | succ c ih => simp_all [Lib.repeatL, List.replicate_succ]
theorem grow_only (w : World) (os : Array Obj) : Only (fun _ => False) w (Go.Sort.grow w os) :=
  ⟨rfl, rfl, rfl, by simp [Go.Sort.grow], fun k hk _ => by show (w.heap ++ os)[k]? = _; rw [Array.getElem?_append_left hk]⟩
theorem growN_only (w : World) (k : Nat) (os : Array Obj) : Only (fun _ => False) w (Go.Sort.grow (w.drewN k) os) := ((Only.refl _ w).drewN k).trans (grow_only _ os)
theorem itoa_len_fin : ∀ n : Fin 1000, (Lib.decDigits n.val).length ≤ 3 := by decide +kernel
theorem itoa_len (e : Int) (hx : -999 ≤ e ∧ e ≤ 999) : (Lib.itoa e).length ≤ 20 := by
  unfold Lib.itoa
  have h1 := itoa_len_fin ⟨e.natAbs, by omega⟩
  simp only at h1
  split
  · simp only [List.length_cons]; omega
  · rw [show e.toNat = e.natAbs by omega]; omega
set_option maxRecDepth 100000
theorem zeros_size (k : Nat) : (⟨(Lib.repeatL [48] k).toArray⟩ : ByteArray).size = k := by rw [ba_size, rep_l, List.length_replicate]
set_option maxHeartbeats 4000000 in
theorem laid_a (c : Nat) (e : Int) (w : World) (hn : Lib.nDigits c ≤ 17) (he : 0 ≤ e ∧ e ≤ 20) (h1 : (Lib.nDigits c : Int) ≤ e + 1) :
    Calls Tryz.prog 26 #[.string ⟨(Lib.decDigits c).toArray⟩, .int .i64 e] w fun en w' => en = .returned (.string ⟨(laidB c e).toArray⟩) ∧ Only (fun _ => False) w w' := by
  have hl := Lib.decDigits_length c
  have hr : laidB c e = Lib.decDigits c ++ List.replicate (e + 1 - Lib.nDigits c).toNat 48 := by unfold laidB; rw [if_pos he, if_pos h1]
  rw [hr]
  obtain ⟨S, hS⟩ : ∃ S : ByteArray, S = ⟨(Lib.decDigits c).toArray⟩ := ⟨_, rfl⟩
  have hz : S.size = Lib.nDigits c := by rw [hS, ba_size, hl]
  rw [← hS]
  obtain ⟨k, hk⟩ : ∃ k : Nat, (k : Int) = e + 1 - Lib.nDigits c := ⟨(e + 1 - Lib.nDigits c).toNat, by omega⟩
  obtain ⟨Z, hZ⟩ : ∃ Z : ByteArray, Z = ⟨(Lib.repeatL [48] k).toArray⟩ := ⟨_, rfl⟩
  have R := Lib.hid (Tryz.strings_Repeat ⟨#[48]⟩ k w (by omega) (by simp [ByteArray.size]; omega))
  rw [show (⟨#[48]⟩ : ByteArray).data.toList = [48] from rfl, ← hZ] at R
  have hz2 : Z.size = k := by rw [hZ, zeros_size]
  have hk2 : k ≤ 21 := by omega
  have hfin := Lib.hid (show S ++ Z = ⟨(Lib.decDigits c ++ List.replicate (e + 1 - Lib.nDigits c).toNat 48).toArray⟩ by
    rw [hS, hZ, ba_append, rep_l, show (e + 1 - (Lib.nDigits c : Int)).toNat = k by omega])
  have HK := Lib.hid hk
  clear hl hr hS hk hZ
  generalize Lib.nDigits c = n at *
  go_enter Tryz.func26, Tryz.ntmps26
  go_wp2_with fail
  rw [← HK.out]
  refine R.out.mono ?_
  rintro en w1 ⟨rfl, hO⟩
  have HO := Lib.hid hO; clear hO R
  go_wp2_with fail
  go_ret
  exact ⟨congrArg (fun z => Ending.returned (Value.string z)) hfin.out, Only.ofB HO.out⟩
set_option maxHeartbeats 4000000 in
theorem laid_b (c : Nat) (e : Int) (w : World) (hn : Lib.nDigits c ≤ 17) (he : 0 ≤ e ∧ e ≤ 20) (h1 : ¬ (Lib.nDigits c : Int) ≤ e + 1) :
    Calls Tryz.prog 26 #[.string ⟨(Lib.decDigits c).toArray⟩, .int .i64 e] w fun en w' => en = .returned (.string ⟨(laidB c e).toArray⟩) ∧ Only (fun _ => False) w w' := by
  have hl := Lib.decDigits_length c
  have hr : laidB c e = (Lib.decDigits c).take (e + 1).toNat ++ 46 :: (Lib.decDigits c).drop (e + 1).toNat := by unfold laidB; rw [if_pos he, if_neg h1]
  rw [hr]
  obtain ⟨S, hS⟩ : ∃ S : ByteArray, S = ⟨(Lib.decDigits c).toArray⟩ := ⟨_, rfl⟩
  have hz : S.size = Lib.nDigits c := by rw [hS, ba_size, hl]
  rw [← hS]
  obtain ⟨k, rfl⟩ : ∃ k : Nat, e = (k : Int) := ⟨e.toNat, by omega⟩
  have hfin := Lib.hid (show S.extract 0 (k + 1) ++ ⟨#[46]⟩ ++ S.extract (k + 1) (Lib.nDigits c) = ⟨((Lib.decDigits c).take ((k : Int) + 1).toNat ++ 46 :: (Lib.decDigits c).drop ((k : Int) + 1).toNat).toArray⟩ by
    rw [hS, ba_extract, ba_extract, show (⟨#[46]⟩ : ByteArray) = ⟨([46] : List UInt8).toArray⟩ from rfl, ba_append, ba_append, show ((k : Int) + 1).toNat = k + 1 by omega, ← hl]
    simp
    exact List.take_of_length_le (by simp))
  clear hl hr hS
  generalize Lib.nDigits c = n at *
  go_enter Tryz.func26, Tryz.ntmps26
  go_wp2_with fail
  go_quiet (fail)
  go_wp2_with fail
  go_ret
  first
    | exact ⟨congrArg (fun z => Ending.returned (Value.string z)) hfin.out, Only.refl _ _⟩
    | exact ⟨congrArg (fun z => Ending.returned (Value.string z)) hfin.out, (Only.refl _ _).drewN _⟩
set_option maxHeartbeats 4000000 in
theorem laid_c (c : Nat) (e : Int) (w : World) (hn : Lib.nDigits c ≤ 17) (he : -6 ≤ e ∧ e < 0) :
    Calls Tryz.prog 26 #[.string ⟨(Lib.decDigits c).toArray⟩, .int .i64 e] w fun en w' => en = .returned (.string ⟨(laidB c e).toArray⟩) ∧ Only (fun _ => False) w w' := by
  have hl := Lib.decDigits_length c
  have hr : laidB c e = [48, 46] ++ List.replicate (-e - 1).toNat 48 ++ Lib.decDigits c := by unfold laidB; rw [if_neg (by omega), if_pos he]
  rw [hr]
  obtain ⟨S, hS⟩ : ∃ S : ByteArray, S = ⟨(Lib.decDigits c).toArray⟩ := ⟨_, rfl⟩
  have hz : S.size = Lib.nDigits c := by rw [hS, ba_size, hl]
  rw [← hS]
  obtain ⟨k, hk⟩ : ∃ k : Nat, (k : Int) = -e - 1 := ⟨(-e - 1).toNat, by omega⟩
  obtain ⟨Z, hZ⟩ : ∃ Z : ByteArray, Z = ⟨(Lib.repeatL [48] k).toArray⟩ := ⟨_, rfl⟩
  have R := Lib.hid (Tryz.strings_Repeat ⟨#[48]⟩ k w (by omega) (by simp [ByteArray.size]; omega))
  rw [show (⟨#[48]⟩ : ByteArray).data.toList = [48] from rfl, ← hZ] at R
  have hz2 : Z.size = k := by rw [hZ, zeros_size]
  have hk2 : k ≤ 21 := by omega
  have hfin := Lib.hid (show (⟨#[48, 46]⟩ : ByteArray) ++ Z ++ S = ⟨([48, 46] ++ List.replicate (-e - 1).toNat 48 ++ Lib.decDigits c).toArray⟩ by
    rw [hS, hZ, show (⟨#[48, 46]⟩ : ByteArray) = ⟨([48, 46] : List UInt8).toArray⟩ from rfl, ba_append, ba_append, rep_l, show (-e - 1).toNat = k by omega])
  have HK := Lib.hid hk
  clear hl hr hS hk hZ
  generalize Lib.nDigits c = n at *
  go_enter Tryz.func26, Tryz.ntmps26
  go_wp2_with fail
  rw [← HK.out]
  refine R.out.mono ?_
  rintro en w1 ⟨rfl, hO⟩
  have HO := Lib.hid hO; clear hO R
  go_wp2_with fail
  go_ret
  exact ⟨congrArg (fun z => Ending.returned (Value.string z)) hfin.out, Only.ofB HO.out⟩
set_option maxHeartbeats 4000000 in
theorem laid_d (c : Nat) (e : Int) (w : World) (hU : Tab2 w) (hn : Lib.nDigits c ≤ 17) (he : ¬ (0 ≤ e ∧ e ≤ 20)) (he2 : ¬ (-6 ≤ e ∧ e < 0)) (hx : -999 ≤ e ∧ e ≤ 999) :
    Calls Tryz.prog 26 #[.string ⟨(Lib.decDigits c).toArray⟩, .int .i64 e] w fun en w' => en = .returned (.string ⟨(laidB c e).toArray⟩) ∧ Only (fun _ => False) w w' := by
  have hl := Lib.decDigits_length c
  have hn0 := Lib.nDigits_pos c
  have hpl := pointB_len c
  have hr : laidB c e = pointB c ++ 101 :: Lib.itoa e := by unfold laidB; rw [if_neg he, if_neg he2]
  rw [hr]
  obtain ⟨S, hS⟩ : ∃ S : ByteArray, S = ⟨(Lib.decDigits c).toArray⟩ := ⟨_, rfl⟩
  have hz : S.size = Lib.nDigits c := by rw [hS, ba_size, hl]
  rw [← hS]
  obtain ⟨Z, hZ⟩ : ∃ Z : ByteArray, Z = ⟨(Lib.itoa e).toArray⟩ := ⟨_, rfl⟩
  obtain ⟨Y, hY⟩ : ∃ Y : ByteArray, Y = ⟨(pointB c).toArray⟩ := ⟨_, rfl⟩
  have hy : Y.size ≤ 18 := by rw [hY, ba_size]; omega
  have hz2 : Z.size ≤ 20 := by rw [hZ, ba_size]; exact itoa_len e hx
  have hfin := Lib.hid (show Y ++ ⟨#[101]⟩ ++ Z = ⟨(pointB c ++ 101 :: Lib.itoa e).toArray⟩ by
    rw [hY, hZ, show (⟨#[101]⟩ : ByteArray) = ⟨([101] : List UInt8).toArray⟩ from rfl, ba_append, ba_append]; simp)
  have hmany : Lib.nDigits c ≠ 1 → S.extract 0 1 ++ ⟨#[46]⟩ ++ S.extract 1 (Lib.nDigits c) = Y := fun h => by
    obtain ⟨x, l, h1, h2, h3⟩ := pointB_many h
    rw [hS, hY, ba_extract, ba_extract, show (⟨#[46]⟩ : ByteArray) = ⟨([46] : List UInt8).toArray⟩ from rfl, ba_append, ba_append, h2, ← hl, h1]
    simp
  have hone : Lib.nDigits c = 1 → S = Y := fun h => by rw [hS, hY, pointB_one h]
  have HI := Lib.hid (fun w h => Tryz.strconv_Itoa e (by omega) (by omega) w h)
  rw [← hZ] at HI
  have HU := Lib.hid hU
  clear hl hpl hr hS hZ hY hU
  generalize Lib.nDigits c = n at *
  by_cases h1 : n = 1
  · have e1 := hone h1
    subst e1
    clear hmany hone
    subst h1
    rcases (by omega : e < -6 ∨ 20 < e) with hs | hs
    · clear he he2
      go_enter Tryz.func26, Tryz.ntmps26
      go_wp2_with fail
      refine (HI.out _ HU.out).mono ?_
      rintro en w1 ⟨rfl, k, os, hw⟩
      have HO := Lib.hid (show Only (fun _ => False) w w1 by rw [hw]; exact growN_only _ _ _)
      clear hw HI
      go_wp2_with fail
      go_ret
      exact ⟨congrArg (fun z => Ending.returned (Value.string z)) hfin.out, HO.out⟩
    · clear he he2
      go_enter Tryz.func26, Tryz.ntmps26
      go_wp2_with fail
      refine (HI.out _ HU.out).mono ?_
      rintro en w1 ⟨rfl, k, os, hw⟩
      have HO := Lib.hid (show Only (fun _ => False) w w1 by rw [hw]; exact growN_only _ _ _)
      clear hw HI
      go_wp2_with fail
      go_ret
      exact ⟨congrArg (fun z => Ending.returned (Value.string z)) hfin.out, HO.out⟩
  · have e1 := hmany h1
    clear hmany hone
    have hn2 : 2 ≤ n := by omega
    clear h1
    rcases (by omega : e < -6 ∨ 20 < e) with hs | hs
    · clear he he2
      go_enter Tryz.func26, Tryz.ntmps26
      go_wp2_with fail
      go_quiet (fail)
      go_wp2_with fail
      refine (HI.out _ (HU.out.still (S := fun _ => False) ((Only.refl _ w).drewN _) id)).mono ?_
      rintro en w1 ⟨rfl, k, os, hw⟩
      have HO := Lib.hid (show Only (fun _ => False) w w1 by rw [hw]; exact ((Only.refl _ w).drewN _).trans (growN_only _ _ _))
      clear hw HI
      go_wp2_with fail
      go_ret
      exact ⟨congrArg (fun z => Ending.returned (Value.string z)) hfin.out, HO.out⟩
    · clear he he2
      go_enter Tryz.func26, Tryz.ntmps26
      go_wp2_with fail
      go_quiet (fail)
      go_wp2_with fail
      refine (HI.out _ (HU.out.still (S := fun _ => False) ((Only.refl _ w).drewN _) id)).mono ?_
      rintro en w1 ⟨rfl, k, os, hw⟩
      have HO := Lib.hid (show Only (fun _ => False) w w1 by rw [hw]; exact ((Only.refl _ w).drewN _).trans (growN_only _ _ _))
      clear hw HI
      go_wp2_with fail
      go_ret
      exact ⟨congrArg (fun z => Ending.returned (Value.string z)) hfin.out, HO.out⟩
/-- laid, at every decimal -/
theorem laid_calls (c : Nat) (e : Int) (w : World) (hU : Tab2 w) (hn : Lib.nDigits c ≤ 17) (hx : -999 ≤ e ∧ e ≤ 999) :
    Calls Tryz.prog 26 #[.string ⟨(Lib.decDigits c).toArray⟩, .int .i64 e] w fun en w' => en = .returned (.string ⟨(laidB c e).toArray⟩) ∧ Only (fun _ => False) w w' := by
  by_cases he : 0 ≤ e ∧ e ≤ 20
  · by_cases h1 : (Lib.nDigits c : Int) ≤ e + 1
    · exact laid_a c e w hn he h1
    · exact laid_b c e w hn he h1
  · by_cases he2 : -6 ≤ e ∧ e < 0
    · exact laid_c c e w hn he2
    · exact laid_d c e w hU hn he he2 hx
end Go.Proofs.YthjfdhkahmlolaaGreatDoor
