/- The reference's text of a float above 0. Printed by gen_ntl.py. -/
import Derived.Test.YthjfdhkahmlolaaGreatDoorJP25
import Derived.Test.YthjfdhkahmlolaaGreatDoorJP31
namespace Go.Proofs.YthjfdhkahmlolaaGreatDoor
open Go.RowKit Usc
set_option maxRecDepth 100000
def DgC (b c : Nat) (e : Int) : Prop := ∀ w : World, Calls Tryz.prog 39 #[.int .u64 (b : Int)] w fun en w' => en = .returned (.tuple #[.int .u64 (c : Int), .int .i64 e]) ∧ Only (fun _ => False) w w'
def TxC (b c : Nat) (e : Int) : Prop := ∀ w : World, Calls Tryz.prog 27 #[.int .u64 (b : Int)] w fun en w' => en = .returned (.string ⟨(laidB c e).toArray⟩) ∧ Only (fun _ => False) w w'
theorem zeros_is (k : Nat) : (⟨(List.replicate k (48 : UInt8)).toArray⟩ : ByteArray).size = k := by rw [ba_size, List.length_replicate]
set_option maxHeartbeats 4000000 in
theorem text_a (b c : Nat) (e : Int) (hD : DgC b c e) (hc : c < 18446744073709551616) (_hn : Lib.nDigits c ≤ 17) (he : 0 ≤ e ∧ e ≤ 20) (h1 : (Lib.nDigits c : Int) ≤ e + 1) : TxC b c e := by
  intro w
  have HD := Lib.hid hD; clear hD
  have HN := Lib.hid (fun w => number_calls c w hc)
  have hl := Lib.decDigits_length c
  have hn0 := Lib.nDigits_pos c
  have hr : laidB c e = Lib.decDigits c ++ List.replicate (e + 1 - Lib.nDigits c).toNat 48 := by unfold laidB; rw [if_pos he, if_pos h1]
  rw [hr]
  obtain ⟨S, hS⟩ : ∃ S : ByteArray, S = ⟨(Lib.decDigits c).toArray⟩ := ⟨_, rfl⟩
  have hz : S.size = Lib.nDigits c := by rw [hS, ba_size, hl]
  rw [← hS] at HN
  obtain ⟨k, hk⟩ : ∃ k : Nat, (k : Int) = e + 1 - Lib.nDigits c := ⟨(e + 1 - Lib.nDigits c).toNat, by omega⟩
  obtain ⟨Z, hZ⟩ : ∃ Z : ByteArray, Z = ⟨(List.replicate k (48 : UInt8)).toArray⟩ := ⟨_, rfl⟩
  have HZ := Lib.hid (fun w => zeros_calls k w (by omega))
  rw [← hZ] at HZ
  have hz2 : Z.size = k := by rw [hZ, zeros_is]
  have hk2 : k ≤ 21 := by omega
  have hfin := Lib.hid (show S ++ Z = ⟨(Lib.decDigits c ++ List.replicate (e + 1 - Lib.nDigits c).toNat 48).toArray⟩ by
    rw [hS, hZ, ba_append, show (e + 1 - (Lib.nDigits c : Int)).toNat = k by omega])
  have HK := Lib.hid hk
  clear hl hr hS hk hZ
  generalize Lib.nDigits c = n at *
  go_enter Tryz.func27, Tryz.ntmps27
  go_wp2_with fail
  refine (HD.out _).mono ?_; rintro en w1 ⟨rfl, hO⟩; have HO1 := Lib.hid hO; clear hO HD
  go_wp2_with fail
  refine (HN.out _).mono ?_; rintro en w2 ⟨rfl, hO⟩; have HO2 := Lib.hid (HO1.out.trans hO); clear hO HN HO1
  go_wp2_with fail
  rw [← HK.out]
  refine (HZ.out _).mono ?_; rintro en w3 ⟨rfl, hw⟩; rw [hw]; clear hw w3 HZ
  go_wp2_with fail
  go_ret
  first
    | exact ⟨congrArg (fun z => Ending.returned (Value.string z)) hfin.out, HO2.out⟩
    | exact ⟨congrArg (fun z => Ending.returned (Value.string z)) hfin.out, HO2.out.drewN _⟩
set_option maxHeartbeats 4000000 in
theorem text_b (b c : Nat) (e : Int) (hD : DgC b c e) (hc : c < 18446744073709551616) (_hn : Lib.nDigits c ≤ 17) (he : 0 ≤ e ∧ e ≤ 20) (h1 : ¬ (Lib.nDigits c : Int) ≤ e + 1) : TxC b c e := by
  intro w
  have HD := Lib.hid hD; clear hD
  have HN := Lib.hid (fun w => number_calls c w hc)
  have hl := Lib.decDigits_length c
  have hn0 := Lib.nDigits_pos c
  have hr : laidB c e = (Lib.decDigits c).take (e + 1).toNat ++ 46 :: (Lib.decDigits c).drop (e + 1).toNat := by unfold laidB; rw [if_pos he, if_neg h1]
  rw [hr]
  obtain ⟨S, hS⟩ : ∃ S : ByteArray, S = ⟨(Lib.decDigits c).toArray⟩ := ⟨_, rfl⟩
  have hz : S.size = Lib.nDigits c := by rw [hS, ba_size, hl]
  rw [← hS] at HN
  obtain ⟨k, rfl⟩ : ∃ k : Nat, e = (k : Int) := ⟨e.toNat, by omega⟩
  have hfin := Lib.hid (show S.extract 0 (k + 1) ++ ⟨#[46]⟩ ++ S.extract (k + 1) (Lib.nDigits c) = ⟨((Lib.decDigits c).take ((k : Int) + 1).toNat ++ 46 :: (Lib.decDigits c).drop ((k : Int) + 1).toNat).toArray⟩ by
    rw [hS, ba_extract, ba_extract, show (⟨#[46]⟩ : ByteArray) = ⟨([46] : List UInt8).toArray⟩ from rfl, ba_append, ba_append, show ((k : Int) + 1).toNat = k + 1 by omega, ← hl]
    simp
    exact List.take_of_length_le (by simp))
  clear hl hr hS
  generalize Lib.nDigits c = n at *
  go_enter Tryz.func27, Tryz.ntmps27
  go_wp2_with fail
  refine (HD.out _).mono ?_; rintro en w1 ⟨rfl, hO⟩; have HO1 := Lib.hid hO; clear hO HD
  go_wp2_with fail
  refine (HN.out _).mono ?_; rintro en w2 ⟨rfl, hO⟩; have HO2 := Lib.hid (HO1.out.trans hO); clear hO HN HO1
  go_wp2_with fail
  go_quiet (fail)
  go_wp2_with fail
  go_ret
  first
    | exact ⟨congrArg (fun z => Ending.returned (Value.string z)) hfin.out, HO2.out⟩
    | exact ⟨congrArg (fun z => Ending.returned (Value.string z)) hfin.out, HO2.out.drewN _⟩
set_option maxHeartbeats 4000000 in
theorem text_c (b c : Nat) (e : Int) (hD : DgC b c e) (hc : c < 18446744073709551616) (_hn : Lib.nDigits c ≤ 17) (he : -6 ≤ e ∧ e < 0) : TxC b c e := by
  intro w
  have HD := Lib.hid hD; clear hD
  have HN := Lib.hid (fun w => number_calls c w hc)
  have hl := Lib.decDigits_length c
  have hn0 := Lib.nDigits_pos c
  have hr : laidB c e = [48, 46] ++ List.replicate (-e - 1).toNat 48 ++ Lib.decDigits c := by unfold laidB; rw [if_neg (by omega), if_pos he]
  rw [hr]
  obtain ⟨S, hS⟩ : ∃ S : ByteArray, S = ⟨(Lib.decDigits c).toArray⟩ := ⟨_, rfl⟩
  have hz : S.size = Lib.nDigits c := by rw [hS, ba_size, hl]
  rw [← hS] at HN
  obtain ⟨k, hk⟩ : ∃ k : Nat, (k : Int) = -e - 1 := ⟨(-e - 1).toNat, by omega⟩
  obtain ⟨Z, hZ⟩ : ∃ Z : ByteArray, Z = ⟨(List.replicate k (48 : UInt8)).toArray⟩ := ⟨_, rfl⟩
  have HZ := Lib.hid (fun w => zeros_calls k w (by omega))
  rw [← hZ] at HZ
  have hz2 : Z.size = k := by rw [hZ, zeros_is]
  have hk2 : k ≤ 21 := by omega
  have hfin := Lib.hid (show (⟨#[48, 46]⟩ : ByteArray) ++ Z ++ S = ⟨([48, 46] ++ List.replicate (-e - 1).toNat 48 ++ Lib.decDigits c).toArray⟩ by
    rw [hS, hZ, show (⟨#[48, 46]⟩ : ByteArray) = ⟨([48, 46] : List UInt8).toArray⟩ from rfl, ba_append, ba_append, show (-e - 1).toNat = k by omega])
  have HK := Lib.hid hk
  clear hl hr hS hk hZ
  generalize Lib.nDigits c = n at *
  go_enter Tryz.func27, Tryz.ntmps27
  go_wp2_with fail
  refine (HD.out _).mono ?_; rintro en w1 ⟨rfl, hO⟩; have HO1 := Lib.hid hO; clear hO HD
  go_wp2_with fail
  refine (HN.out _).mono ?_; rintro en w2 ⟨rfl, hO⟩; have HO2 := Lib.hid (HO1.out.trans hO); clear hO HN HO1
  go_wp2_with fail
  rw [← HK.out]
  refine (HZ.out _).mono ?_; rintro en w3 ⟨rfl, hw⟩; rw [hw]; clear hw w3 HZ
  go_wp2_with fail
  go_ret
  first
    | exact ⟨congrArg (fun z => Ending.returned (Value.string z)) hfin.out, HO2.out⟩
    | exact ⟨congrArg (fun z => Ending.returned (Value.string z)) hfin.out, HO2.out.drewN _⟩
set_option maxHeartbeats 4000000 in
theorem text_dno (b c : Nat) (e : Int) (hD : DgC b c e) (hc : c < 18446744073709551616) (_hn : Lib.nDigits c ≤ 17) (he : -999 ≤ e ∧ e < -6) (h1 : Lib.nDigits c = 1) : TxC b c e := by
  intro w
  have HD := Lib.hid hD; clear hD
  have HN := Lib.hid (fun w => number_calls c w hc)
  have hl := Lib.decDigits_length c
  have hn0 := Lib.nDigits_pos c
  have hpl := pointB_len c
  have hr : laidB c e = pointB c ++ 101 :: Lib.itoa e := by unfold laidB; rw [if_neg (by omega), if_neg (by omega)]
  rw [hr]
  obtain ⟨S, hS⟩ : ∃ S : ByteArray, S = ⟨(Lib.decDigits c).toArray⟩ := ⟨_, rfl⟩
  have hz : S.size = Lib.nDigits c := by rw [hS, ba_size, hl]
  rw [← hS] at HN
  obtain ⟨k, hk⟩ : ∃ k : Nat, (k : Int) = -e := ⟨(-e).toNat, by omega⟩
  have hit : Lib.itoa e = 45 :: Lib.decDigits k := by
    unfold Lib.itoa
    rw [if_pos (by omega), show e.natAbs = k by omega]
  obtain ⟨Z, hZ⟩ : ∃ Z : ByteArray, Z = ⟨(Lib.decDigits k).toArray⟩ := ⟨_, rfl⟩
  obtain ⟨Y, hY⟩ : ∃ Y : ByteArray, Y = ⟨(pointB c).toArray⟩ := ⟨_, rfl⟩
  have hy : Y.size ≤ 18 := by rw [hY, ba_size]; omega
  have hz2 : Z.size ≤ 20 := by rw [hZ, ba_size]; exact nd20 (by omega)
  have HZ := Lib.hid (fun w => number_calls k w (by omega))
  rw [← hZ] at HZ
  have hfin := Lib.hid (show Y ++ ⟨#[101, 45]⟩ ++ Z = ⟨(pointB c ++ 101 :: Lib.itoa e).toArray⟩ by
    rw [hY, hZ, hit, show (⟨#[101, 45]⟩ : ByteArray) = ⟨([101, 45] : List UInt8).toArray⟩ from rfl, ba_append, ba_append]; simp)
  have hone : S.extract 0 1 = Y := by
    rw [hS, hY, ba_extract, pointB_one h1]
    congr 2
    simp
    exact List.take_of_length_le (by omega)
  have e1 := Lib.hid hone
  clear hone
  have HK := Lib.hid hk
  clear hl hr hS hk hZ hY hpl hit
  rw [h1] at hz
  clear _hn hn0 h1
  go_enter Tryz.func27, Tryz.ntmps27
  go_wp2_with fail
  refine (HD.out _).mono ?_; rintro en w1 ⟨rfl, hO⟩; have HO1 := Lib.hid hO; clear hO HD
  go_wp2_with fail
  refine (HN.out _).mono ?_; rintro en w2 ⟨rfl, hO⟩; have HO2 := Lib.hid (HO1.out.trans hO); clear hO HN HO1
  go_wp2_with fail
  rw [← HK.out, e1.out]
  first
    | (refine (HZ.out _).mono ?_; rintro en w3 ⟨rfl, hO⟩; have HO3 := Lib.hid (HO2.out.trans hO); clear hO)
    | (refine (HZ.out _).mono ?_; rintro en w3 ⟨rfl, hO⟩; have HO3 := Lib.hid ((HO2.out.drewN _).trans hO); clear hO)
  go_wp2_with fail
  go_ret
  exact ⟨congrArg (fun z => Ending.returned (Value.string z)) hfin.out, HO3.out⟩
set_option maxHeartbeats 4000000 in
theorem text_dnm (b c : Nat) (e : Int) (hD : DgC b c e) (hc : c < 18446744073709551616) (_hn : Lib.nDigits c ≤ 17) (he : -999 ≤ e ∧ e < -6) (h1 : Lib.nDigits c ≠ 1) : TxC b c e := by
  intro w
  have HD := Lib.hid hD; clear hD
  have HN := Lib.hid (fun w => number_calls c w hc)
  have hl := Lib.decDigits_length c
  have hn0 := Lib.nDigits_pos c
  have hpl := pointB_len c
  have hr : laidB c e = pointB c ++ 101 :: Lib.itoa e := by unfold laidB; rw [if_neg (by omega), if_neg (by omega)]
  rw [hr]
  obtain ⟨S, hS⟩ : ∃ S : ByteArray, S = ⟨(Lib.decDigits c).toArray⟩ := ⟨_, rfl⟩
  have hz : S.size = Lib.nDigits c := by rw [hS, ba_size, hl]
  rw [← hS] at HN
  obtain ⟨k, hk⟩ : ∃ k : Nat, (k : Int) = -e := ⟨(-e).toNat, by omega⟩
  have hit : Lib.itoa e = 45 :: Lib.decDigits k := by
    unfold Lib.itoa
    rw [if_pos (by omega), show e.natAbs = k by omega]
  obtain ⟨Z, hZ⟩ : ∃ Z : ByteArray, Z = ⟨(Lib.decDigits k).toArray⟩ := ⟨_, rfl⟩
  obtain ⟨Y, hY⟩ : ∃ Y : ByteArray, Y = ⟨(pointB c).toArray⟩ := ⟨_, rfl⟩
  have hy : Y.size ≤ 18 := by rw [hY, ba_size]; omega
  have hz2 : Z.size ≤ 20 := by rw [hZ, ba_size]; exact nd20 (by omega)
  have HZ := Lib.hid (fun w => number_calls k w (by omega))
  rw [← hZ] at HZ
  have hfin := Lib.hid (show Y ++ ⟨#[101, 45]⟩ ++ Z = ⟨(pointB c ++ 101 :: Lib.itoa e).toArray⟩ by
    rw [hY, hZ, hit, show (⟨#[101, 45]⟩ : ByteArray) = ⟨([101, 45] : List UInt8).toArray⟩ from rfl, ba_append, ba_append]; simp)
  have hmany : S.extract 0 1 ++ ((⟨#[46]⟩ : ByteArray) ++ S.extract 1 (Lib.nDigits c)) = Y := by
    obtain ⟨x, l, h1, h2, h3⟩ := pointB_many h1
    rw [hS, hY, ba_extract, ba_extract, show (⟨#[46]⟩ : ByteArray) = ⟨([46] : List UInt8).toArray⟩ from rfl, ba_append, ba_append, h2, ← hl, h1]
    simp
  have e1 := Lib.hid hmany
  clear hmany
  have hn2 : 2 ≤ Lib.nDigits c := by omega
  clear h1
  have HK := Lib.hid hk
  clear hl hr hS hk hZ hY hpl hit
  generalize Lib.nDigits c = n at *
  go_enter Tryz.func27, Tryz.ntmps27
  go_wp2_with fail
  refine (HD.out _).mono ?_; rintro en w1 ⟨rfl, hO⟩; have HO1 := Lib.hid hO; clear hO HD
  go_wp2_with fail
  refine (HN.out _).mono ?_; rintro en w2 ⟨rfl, hO⟩; have HO2 := Lib.hid (HO1.out.trans hO); clear hO HN HO1
  go_wp2_with fail
  all_goals try (go_quiet (fail); go_wp2_with fail)
  rw [← HK.out, e1.out]
  first
    | (refine (HZ.out _).mono ?_; rintro en w3 ⟨rfl, hO⟩; have HO3 := Lib.hid (HO2.out.trans hO); clear hO)
    | (refine (HZ.out _).mono ?_; rintro en w3 ⟨rfl, hO⟩; have HO3 := Lib.hid ((HO2.out.drewN _).trans hO); clear hO)
  go_wp2_with fail
  go_ret
  exact ⟨congrArg (fun z => Ending.returned (Value.string z)) hfin.out, HO3.out⟩
set_option maxHeartbeats 4000000 in
theorem text_dpo (b c : Nat) (e : Int) (hD : DgC b c e) (hc : c < 18446744073709551616) (_hn : Lib.nDigits c ≤ 17) (he : 20 < e ∧ e ≤ 999) (h1 : Lib.nDigits c = 1) : TxC b c e := by
  intro w
  have HD := Lib.hid hD; clear hD
  have HN := Lib.hid (fun w => number_calls c w hc)
  have hl := Lib.decDigits_length c
  have hn0 := Lib.nDigits_pos c
  have hpl := pointB_len c
  have hr : laidB c e = pointB c ++ 101 :: Lib.itoa e := by unfold laidB; rw [if_neg (by omega), if_neg (by omega)]
  rw [hr]
  obtain ⟨S, hS⟩ : ∃ S : ByteArray, S = ⟨(Lib.decDigits c).toArray⟩ := ⟨_, rfl⟩
  have hz : S.size = Lib.nDigits c := by rw [hS, ba_size, hl]
  rw [← hS] at HN
  obtain ⟨k, hk⟩ : ∃ k : Nat, (k : Int) = e := ⟨e.toNat, by omega⟩
  have hit : Lib.itoa e = Lib.decDigits k := by
    unfold Lib.itoa
    rw [if_neg (by omega), show e.toNat = k by omega]
  obtain ⟨Z, hZ⟩ : ∃ Z : ByteArray, Z = ⟨(Lib.decDigits k).toArray⟩ := ⟨_, rfl⟩
  obtain ⟨Y, hY⟩ : ∃ Y : ByteArray, Y = ⟨(pointB c).toArray⟩ := ⟨_, rfl⟩
  have hy : Y.size ≤ 18 := by rw [hY, ba_size]; omega
  have hz2 : Z.size ≤ 20 := by rw [hZ, ba_size]; exact nd20 (by omega)
  have HZ := Lib.hid (fun w => number_calls k w (by omega))
  rw [← hZ] at HZ
  have hfin := Lib.hid (show Y ++ ⟨#[101]⟩ ++ Z = ⟨(pointB c ++ 101 :: Lib.itoa e).toArray⟩ by
    rw [hY, hZ, hit, show (⟨#[101]⟩ : ByteArray) = ⟨([101] : List UInt8).toArray⟩ from rfl, ba_append, ba_append]; simp)
  have hone : S.extract 0 1 = Y := by
    rw [hS, hY, ba_extract, pointB_one h1]
    congr 2
    simp
    exact List.take_of_length_le (by omega)
  have e1 := Lib.hid hone
  clear hone
  have HK := Lib.hid hk
  clear hl hr hS hk hZ hY hpl hit
  rw [h1] at hz
  clear _hn hn0 h1
  go_enter Tryz.func27, Tryz.ntmps27
  go_wp2_with fail
  refine (HD.out _).mono ?_; rintro en w1 ⟨rfl, hO⟩; have HO1 := Lib.hid hO; clear hO HD
  go_wp2_with fail
  refine (HN.out _).mono ?_; rintro en w2 ⟨rfl, hO⟩; have HO2 := Lib.hid (HO1.out.trans hO); clear hO HN HO1
  go_wp2_with fail
  rw [← HK.out, e1.out]
  first
    | (refine (HZ.out _).mono ?_; rintro en w3 ⟨rfl, hO⟩; have HO3 := Lib.hid (HO2.out.trans hO); clear hO)
    | (refine (HZ.out _).mono ?_; rintro en w3 ⟨rfl, hO⟩; have HO3 := Lib.hid ((HO2.out.drewN _).trans hO); clear hO)
  go_wp2_with fail
  go_ret
  exact ⟨congrArg (fun z => Ending.returned (Value.string z)) hfin.out, HO3.out⟩
set_option maxHeartbeats 4000000 in
theorem text_dpm (b c : Nat) (e : Int) (hD : DgC b c e) (hc : c < 18446744073709551616) (_hn : Lib.nDigits c ≤ 17) (he : 20 < e ∧ e ≤ 999) (h1 : Lib.nDigits c ≠ 1) : TxC b c e := by
  intro w
  have HD := Lib.hid hD; clear hD
  have HN := Lib.hid (fun w => number_calls c w hc)
  have hl := Lib.decDigits_length c
  have hn0 := Lib.nDigits_pos c
  have hpl := pointB_len c
  have hr : laidB c e = pointB c ++ 101 :: Lib.itoa e := by unfold laidB; rw [if_neg (by omega), if_neg (by omega)]
  rw [hr]
  obtain ⟨S, hS⟩ : ∃ S : ByteArray, S = ⟨(Lib.decDigits c).toArray⟩ := ⟨_, rfl⟩
  have hz : S.size = Lib.nDigits c := by rw [hS, ba_size, hl]
  rw [← hS] at HN
  obtain ⟨k, hk⟩ : ∃ k : Nat, (k : Int) = e := ⟨e.toNat, by omega⟩
  have hit : Lib.itoa e = Lib.decDigits k := by
    unfold Lib.itoa
    rw [if_neg (by omega), show e.toNat = k by omega]
  obtain ⟨Z, hZ⟩ : ∃ Z : ByteArray, Z = ⟨(Lib.decDigits k).toArray⟩ := ⟨_, rfl⟩
  obtain ⟨Y, hY⟩ : ∃ Y : ByteArray, Y = ⟨(pointB c).toArray⟩ := ⟨_, rfl⟩
  have hy : Y.size ≤ 18 := by rw [hY, ba_size]; omega
  have hz2 : Z.size ≤ 20 := by rw [hZ, ba_size]; exact nd20 (by omega)
  have HZ := Lib.hid (fun w => number_calls k w (by omega))
  rw [← hZ] at HZ
  have hfin := Lib.hid (show Y ++ ⟨#[101]⟩ ++ Z = ⟨(pointB c ++ 101 :: Lib.itoa e).toArray⟩ by
    rw [hY, hZ, hit, show (⟨#[101]⟩ : ByteArray) = ⟨([101] : List UInt8).toArray⟩ from rfl, ba_append, ba_append]; simp)
  have hmany : S.extract 0 1 ++ ((⟨#[46]⟩ : ByteArray) ++ S.extract 1 (Lib.nDigits c)) = Y := by
    obtain ⟨x, l, h1, h2, h3⟩ := pointB_many h1
    rw [hS, hY, ba_extract, ba_extract, show (⟨#[46]⟩ : ByteArray) = ⟨([46] : List UInt8).toArray⟩ from rfl, ba_append, ba_append, h2, ← hl, h1]
    simp
  have e1 := Lib.hid hmany
  clear hmany
  have hn2 : 2 ≤ Lib.nDigits c := by omega
  clear h1
  have HK := Lib.hid hk
  clear hl hr hS hk hZ hY hpl hit
  generalize Lib.nDigits c = n at *
  go_enter Tryz.func27, Tryz.ntmps27
  go_wp2_with fail
  refine (HD.out _).mono ?_; rintro en w1 ⟨rfl, hO⟩; have HO1 := Lib.hid hO; clear hO HD
  go_wp2_with fail
  refine (HN.out _).mono ?_; rintro en w2 ⟨rfl, hO⟩; have HO2 := Lib.hid (HO1.out.trans hO); clear hO HN HO1
  go_wp2_with fail
  all_goals try (go_quiet (fail); go_wp2_with fail)
  rw [← HK.out, e1.out]
  first
    | (refine (HZ.out _).mono ?_; rintro en w3 ⟨rfl, hO⟩; have HO3 := Lib.hid (HO2.out.trans hO); clear hO)
    | (refine (HZ.out _).mono ?_; rintro en w3 ⟨rfl, hO⟩; have HO3 := Lib.hid ((HO2.out.drewN _).trans hO); clear hO)
  go_wp2_with fail
  go_ret
  exact ⟨congrArg (fun z => Ending.returned (Value.string z)) hfin.out, HO3.out⟩
end Go.Proofs.YthjfdhkahmlolaaGreatDoor
