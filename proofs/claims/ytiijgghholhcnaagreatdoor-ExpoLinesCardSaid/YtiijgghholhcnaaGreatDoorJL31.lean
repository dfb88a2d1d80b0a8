/- decimal at any finite float above 0. -/
import Derived.Test.YtiijgghholhcnaaGreatDoorJL28
import Derived.Test.YtiijgghholhcnaaGreatDoorJL30
namespace Go.Proofs.YtiijgghholhcnaaGreatDoor.Re
open Go.RowKit Usc
theorem fto_pos {b c : Nat} {s : Int} (h0 : 1 ≤ b) (h1 : b < 9218868437227405312) (hS : Sh b c s) : Fto b (Lib.byteCells (efgB c s)) := by
  intro B d0 w hT hU hB ho
  refine (ftoa_pos b h0 h1 B d0 w hT hU hB ho).mono ?_
  rintro e w' ⟨v, he, c', s', hS', hA⟩
  obtain ⟨rfl, rfl⟩ := hS.unique hS'
  exact ⟨v, he, hA⟩
theorem efgB_ne (c : Nat) (s : Int) : efgB c s ≠ [] := by unfold efgB; simp
theorem sh_ex {b : Nat} (H : Parts b) : ∃ c s, Sh b c s := by
  have h1 := (short H).1
  generalize hD : sfd (mB b) (eB b) = D at *
  have key : ∀ D : Nat, 1 ≤ D → ∃ k c, 10 ^ k * c = D ∧ c % 10 ≠ 0 := by
    intro D
    induction D using Nat.strongRecOn with
    | _ D ih =>
      intro h
      by_cases h0 : D % 10 = 0
      · obtain ⟨k, c, e, hc⟩ := ih (D / 10) (by omega) (by omega)
        refine ⟨k + 1, c, ?_, hc⟩
        rw [Nat.pow_succ, Nat.mul_comm (10 ^ k) 10, Nat.mul_assoc, e]; omega
      · exact ⟨0, D, by simp, h0⟩
  obtain ⟨k, c, e, hc⟩ := key D h1
  exact ⟨c, _, k, by rw [hD]; exact e, rfl, hc⟩
theorem cut_after (A : List UInt8) (c : UInt8) (B : List UInt8) : ((A ++ c :: B).drop (A.length + 1)).take B.length = B := by
  rw [show A ++ c :: B = (A ++ [c]) ++ B by simp, List.drop_left' (by simp), List.take_length]
set_option maxRecDepth 100000
theorem rep_none (S : ByteArray) (w : World) (hS : (46 : UInt8) ∉ S.data.toList) : Calls Tryz.prog 160 #[.string S, .string ⟨#[46]⟩, .string ⟨#[]⟩, .int .i64 1] w fun en w' => en = .returned (.string S) ∧ w' = w := by
  have hc : Lib.countByte S.data.toList 46 = 0 := by unfold Lib.countByte; exact List.count_eq_zero_of_not_mem hS
  have C := Lib.hid (Tryz.strings_Count_one S 46 w)
  rw [hc] at C
  clear hS hc
  go_enter Tryz.func160, Tryz.ntmps160
  go_wp2_with fail
  refine C.out.mono ?_
  rintro en w1 ⟨rfl, hw⟩; rw [hw]; clear hw w1
  go_wp2_with fail
  go_ret
  exact ⟨rfl, rfl⟩
/-- the point is struck -/
theorem rep_calls (c : Nat) (S : ByteArray) (w : World) (hS : S = ⟨(pointB c).toArray⟩) (hn : Lib.nDigits c ≤ 17) : Calls Tryz.prog 160 #[.string S, .string ⟨#[46]⟩, .string ⟨#[]⟩, .int .i64 1] w fun en w' => en = .returned (.string ⟨(Lib.decDigits c).toArray⟩) ∧ Only (fun _ => False) w w' := by
  by_cases h : Lib.nDigits c = 1
  · rw [pointB_one h] at hS
    refine (rep_none S w (by rw [hS]; exact dec_not c 46 (by decide))).mono ?_
    rintro en w' ⟨rfl, rfl⟩
    exact ⟨by rw [hS], Only.refl _ _⟩
  · obtain ⟨x, l, h1, h2, h3⟩ := pointB_many h
    have hd := dec_not c 46 (by decide)
    rw [h1] at hd
    have hl := Lib.decDigits_length c
    rw [h1] at hl
    simp at hd hl
    rw [h1]
    exact rep_point x l S w (by rw [hS, h2]) (fun e => hd.1 e.symm) hd.2 h3 (by omega)
set_option maxHeartbeats 4000000 in
theorem dec_pos (b c : Nat) (s : Int) (w : World) (h0 : 1 ≤ b) (h1 : b < 9218868437227405312) (hS : Sh b c s) (hE : Env w) :
    Calls Tryz.prog 118 #[.float .f64 b] w fun en w' => en = .returned (.tuple #[.string ⟨(Lib.decDigits c).toArray⟩, .int .i64 (exp10 c s)]) ∧ Only (fun _ => False) w w' := by
  have HE := Lib.hid hE; clear hE
  have hb := hS.bounds (parts b h0 h1)
  have n0 := hb.n0; have n1 := hb.n1; have s0 := hb.s0; have s1 := hb.s1
  have hx : -999 ≤ exp10 c s ∧ exp10 c s ≤ 999 := by unfold exp10; omega
  have F := Lib.hid (fmt33 b (efgB c s) (efgB_ne c s) (fto_pos h0 h1 hS) w HE.out.1 HE.out.2)
  obtain ⟨T, hT⟩ : ∃ T : ByteArray, T = ⟨(efgB c s).toArray⟩ := ⟨_, rfl⟩
  rw [← hT] at F
  have hTd : T.data.toList = pointB c ++ 101 :: tailB (exp10 c s) := by rw [hT]; rfl
  obtain ⟨k, hk⟩ : ∃ k, k = (pointB c).length := ⟨_, rfl⟩
  obtain ⟨n, hn⟩ : ∃ n, n = T.size := ⟨_, rfl⟩
  have hpl := pointB_len c
  have htl := tailB_len (exp10 c s) hx
  have hnk : n = k + 1 + (tailB (exp10 c s)).length := by rw [hn, hT, ba_size]; unfold efgB; simp; omega
  have I := Lib.hid (fun w => Tryz.strings_IndexByte T 101 w)
  have hidx : Lib.indexByte T.data.toList (101 : Int).toNat.toUInt8 = (k : Int) := by rw [hTd, hk]; exact idx_at _ _ _ (pointB_not c)
  simp only [hidx] at I
  have x1 : T.extract (k + 1) n = ⟨(tailB (exp10 c s)).toArray⟩ := by
    rw [hT, ba_extract, hk, show n - ((pointB c).length + 1) = (tailB (exp10 c s)).length by rw [hnk, hk]; omega]; unfold efgB
    rw [cut_after]
  have x2 : T.extract 0 k = ⟨(pointB c).toArray⟩ := by
    rw [hT, ba_extract, hk]; unfold efgB
    simp
  have A := Lib.hid (fun w => Tryz.strconv_Atoi ⟨(tailB (exp10 c s)).toArray⟩ (exp10 c s) (by rw [ba_size]; omega) (atoi_tail _ hx) w)
  have R := Lib.hid (fun w => rep_calls c ⟨(pointB c).toArray⟩ w rfl n1)
  have hk2 : k ≤ 18 := by omega
  have hn2 : k + 1 ≤ n ∧ n ≤ 30 := by omega
  have HN := Lib.hid hn.symm
  have hsz : T.size = n := hn.symm
  clear hb hTd hk hn hpl htl hnk hidx hT hS
  generalize tailB (exp10 c s) = tl at *
  generalize exp10 c s = x at *
  go_enter Tryz.func118, Tryz.ntmps118
  go_wp2_with fail
  refine F.out.mono ?_
  rintro en w1 ⟨rfl, hO⟩
  have HO := Lib.hid hO; clear hO F
  go_wp2_with fail
  refine (I.out _).mono ?_
  rintro en w2 ⟨rfl, hw⟩; rw [hw]; clear hw w2 I
  go_wp2_with fail
  refine (A.out _).mono ?_
  rintro en w2 ⟨rfl, t, hw⟩
  have O2 : Only (fun _ => False) w w2 := by rw [hw]; exact bw_only HO.out t
  have HO2 := Lib.hid O2; clear O2 hw A
  go_wp2_with fail
  refine (R.out _).mono ?_
  rintro en w3 ⟨rfl, hO⟩
  have HO3 := Lib.hid (HO2.out.trans hO); clear hO
  go_wp2_with fail
  go_ret2
  first
    | exact ⟨rfl, HO3.out⟩
    | exact ⟨rfl, HO3.out.drewN _⟩
    | exact ⟨rfl, HO3.out.drew⟩
end Go.Proofs.YtiijgghholhcnaaGreatDoor.Re

/- laid: digits laid down by their exponent. -/
namespace Go.Proofs.YtiijgghholhcnaaGreatDoor.Re
open Go.RowKit Usc
/-- a decimal's text -/
def laidB (c : Nat) (e : Int) : List UInt8 :=
  if 0 ≤ e ∧ e ≤ 20 then (if (Lib.nDigits c : Int) ≤ e + 1 then Lib.decDigits c ++ List.replicate (e + 1 - Lib.nDigits c).toNat 48 else (Lib.decDigits c).take (e + 1).toNat ++ 46 :: (Lib.decDigits c).drop (e + 1).toNat)
  else if -6 ≤ e ∧ e < 0 then [48, 46] ++ List.replicate (-e - 1).toNat 48 ++ Lib.decDigits c
  else pointB c ++ 101 :: Lib.itoa e
theorem ba_append (a b : List UInt8) : (⟨a.toArray⟩ : ByteArray) ++ ⟨b.toArray⟩ = ⟨(a ++ b).toArray⟩ := by
  apply ByteArray.ext
  simp [ByteArray.data_append]
theorem rep_l (c : Nat) : Lib.repeatL [48] c = List.replicate c 48 := by
  induction c with
  | zero => rfl
  | succ c ih => simp_all [Lib.repeatL, List.replicate_succ]
theorem grow_only (w : World) (os : Array Obj) : Only (fun _ => False) w (Go.Sort.grow w os) :=
  ⟨rfl, rfl, rfl, by simp [Go.Sort.grow], fun k hk _ => by show (w.heap ++ os)[k]? = _; rw [Array.getElem?_append_left hk]⟩
theorem growN_only (w : World) (k : Nat) (os : Array Obj) : Only (fun _ => False) w (Go.Sort.grow (w.drewN k) os) := ((Only.refl _ w).drewN k).trans (grow_only _ os)
theorem itoa_len_fin : ∀ n : Fin 1000, (Lib.decDigits n.val).length ≤ 3 := by decide +kernel
theorem itoa_len (e : Int) (hx : -999 ≤ e ∧ e ≤ 999) : (Lib.itoa e).length ≤ 20 := by
  unfold Lib.itoa
  have h1 := itoa_len_fin ⟨e.natAbs, by omega⟩
  simp only at h1
  split
  · simp only [List.length_cons]; omega
  · rw [show e.toNat = e.natAbs by omega]; omega
set_option maxRecDepth 100000
theorem zeros_size (k : Nat) : (⟨(Lib.repeatL [48] k).toArray⟩ : ByteArray).size = k := by rw [ba_size, rep_l, List.length_replicate]
set_option maxHeartbeats 4000000 in
theorem laid_a (c : Nat) (e : Int) (w : World) (hn : Lib.nDigits c ≤ 17) (he : 0 ≤ e ∧ e ≤ 20) (h1 : (Lib.nDigits c : Int) ≤ e + 1) :
    Calls Tryz.prog 119 #[.string ⟨(Lib.decDigits c).toArray⟩, .int .i64 e] w fun en w' => en = .returned (.string ⟨(laidB c e).toArray⟩) ∧ Only (fun _ => False) w w' := by
  have hl := Lib.decDigits_length c
  have hr : laidB c e = Lib.decDigits c ++ List.replicate (e + 1 - Lib.nDigits c).toNat 48 := by unfold laidB; rw [if_pos he, if_pos h1]
  rw [hr]
  obtain ⟨S, hS⟩ : ∃ S : ByteArray, S = ⟨(Lib.decDigits c).toArray⟩ := ⟨_, rfl⟩
  have hz : S.size = Lib.nDigits c := by rw [hS, ba_size, hl]
  rw [← hS]
  obtain ⟨k, hk⟩ : ∃ k : Nat, (k : Int) = e + 1 - Lib.nDigits c := ⟨(e + 1 - Lib.nDigits c).toNat, by omega⟩
  obtain ⟨Z, hZ⟩ : ∃ Z : ByteArray, Z = ⟨(Lib.repeatL [48] k).toArray⟩ := ⟨_, rfl⟩
  have R := Lib.hid (Tryz.strings_Repeat ⟨#[48]⟩ k w (by omega) (by simp [ByteArray.size]; omega))
  rw [show (⟨#[48]⟩ : ByteArray).data.toList = [48] from rfl, ← hZ] at R
  have hz2 : Z.size = k := by rw [hZ, zeros_size]
  have hk2 : k ≤ 21 := by omega
  have hfin := Lib.hid (show S ++ Z = ⟨(Lib.decDigits c ++ List.replicate (e + 1 - Lib.nDigits c).toNat 48).toArray⟩ by
    rw [hS, hZ, ba_append, rep_l, show (e + 1 - (Lib.nDigits c : Int)).toNat = k by omega])
  have HK := Lib.hid hk
  clear hl hr hS hk hZ
  generalize Lib.nDigits c = n at *
  go_enter Tryz.func119, Tryz.ntmps119
  go_wp2_with fail
  rw [← HK.out]
  refine R.out.mono ?_
  rintro en w1 ⟨rfl, hO⟩
  have HO := Lib.hid hO; clear hO R
  go_wp2_with fail
  go_ret
  exact ⟨congrArg (fun z => Ending.returned (Value.string z)) hfin.out, Only.ofB HO.out⟩
set_option maxHeartbeats 4000000 in
theorem laid_b (c : Nat) (e : Int) (w : World) (hn : Lib.nDigits c ≤ 17) (he : 0 ≤ e ∧ e ≤ 20) (h1 : ¬ (Lib.nDigits c : Int) ≤ e + 1) :
    Calls Tryz.prog 119 #[.string ⟨(Lib.decDigits c).toArray⟩, .int .i64 e] w fun en w' => en = .returned (.string ⟨(laidB c e).toArray⟩) ∧ Only (fun _ => False) w w' := by
  have hl := Lib.decDigits_length c
  have hr : laidB c e = (Lib.decDigits c).take (e + 1).toNat ++ 46 :: (Lib.decDigits c).drop (e + 1).toNat := by unfold laidB; rw [if_pos he, if_neg h1]
  rw [hr]
  obtain ⟨S, hS⟩ : ∃ S : ByteArray, S = ⟨(Lib.decDigits c).toArray⟩ := ⟨_, rfl⟩
  have hz : S.size = Lib.nDigits c := by rw [hS, ba_size, hl]
  rw [← hS]
  obtain ⟨k, rfl⟩ : ∃ k : Nat, e = (k : Int) := ⟨e.toNat, by omega⟩
  have hfin := Lib.hid (show S.extract 0 (k + 1) ++ ⟨#[46]⟩ ++ S.extract (k + 1) (Lib.nDigits c) = ⟨((Lib.decDigits c).take ((k : Int) + 1).toNat ++ 46 :: (Lib.decDigits c).drop ((k : Int) + 1).toNat).toArray⟩ by
    rw [hS, ba_extract, ba_extract, show (⟨#[46]⟩ : ByteArray) = ⟨([46] : List UInt8).toArray⟩ from rfl, ba_append, ba_append, show ((k : Int) + 1).toNat = k + 1 by omega, ← hl]
    simp
    exact List.take_of_length_le (by simp))
  clear hl hr hS
  generalize Lib.nDigits c = n at *
  go_enter Tryz.func119, Tryz.ntmps119
  go_wp2_with fail
  go_quiet (fail)
  go_wp2_with fail
  go_ret
  first
    | exact ⟨congrArg (fun z => Ending.returned (Value.string z)) hfin.out, Only.refl _ _⟩
    | exact ⟨congrArg (fun z => Ending.returned (Value.string z)) hfin.out, (Only.refl _ _).drewN _⟩
set_option maxHeartbeats 4000000 in
theorem laid_c (c : Nat) (e : Int) (w : World) (hn : Lib.nDigits c ≤ 17) (he : -6 ≤ e ∧ e < 0) :
    Calls Tryz.prog 119 #[.string ⟨(Lib.decDigits c).toArray⟩, .int .i64 e] w fun en w' => en = .returned (.string ⟨(laidB c e).toArray⟩) ∧ Only (fun _ => False) w w' := by
  have hl := Lib.decDigits_length c
  have hr : laidB c e = [48, 46] ++ List.replicate (-e - 1).toNat 48 ++ Lib.decDigits c := by unfold laidB; rw [if_neg (by omega), if_pos he]
  rw [hr]
  obtain ⟨S, hS⟩ : ∃ S : ByteArray, S = ⟨(Lib.decDigits c).toArray⟩ := ⟨_, rfl⟩
  have hz : S.size = Lib.nDigits c := by rw [hS, ba_size, hl]
  rw [← hS]
  obtain ⟨k, hk⟩ : ∃ k : Nat, (k : Int) = -e - 1 := ⟨(-e - 1).toNat, by omega⟩
  obtain ⟨Z, hZ⟩ : ∃ Z : ByteArray, Z = ⟨(Lib.repeatL [48] k).toArray⟩ := ⟨_, rfl⟩
  have R := Lib.hid (Tryz.strings_Repeat ⟨#[48]⟩ k w (by omega) (by simp [ByteArray.size]; omega))
  rw [show (⟨#[48]⟩ : ByteArray).data.toList = [48] from rfl, ← hZ] at R
  have hz2 : Z.size = k := by rw [hZ, zeros_size]
  have hk2 : k ≤ 21 := by omega
  have hfin := Lib.hid (show (⟨#[48, 46]⟩ : ByteArray) ++ Z ++ S = ⟨([48, 46] ++ List.replicate (-e - 1).toNat 48 ++ Lib.decDigits c).toArray⟩ by
    rw [hS, hZ, show (⟨#[48, 46]⟩ : ByteArray) = ⟨([48, 46] : List UInt8).toArray⟩ from rfl, ba_append, ba_append, rep_l, show (-e - 1).toNat = k by omega])
  have HK := Lib.hid hk
  clear hl hr hS hk hZ
  generalize Lib.nDigits c = n at *
  go_enter Tryz.func119, Tryz.ntmps119
  go_wp2_with fail
  rw [← HK.out]
  refine R.out.mono ?_
  rintro en w1 ⟨rfl, hO⟩
  have HO := Lib.hid hO; clear hO R
  go_wp2_with fail
  go_ret
  exact ⟨congrArg (fun z => Ending.returned (Value.string z)) hfin.out, Only.ofB HO.out⟩
set_option maxHeartbeats 4000000 in
theorem laid_d (c : Nat) (e : Int) (w : World) (hU : Tab2 w) (hn : Lib.nDigits c ≤ 17) (he : ¬ (0 ≤ e ∧ e ≤ 20)) (he2 : ¬ (-6 ≤ e ∧ e < 0)) (hx : -999 ≤ e ∧ e ≤ 999) :
    Calls Tryz.prog 119 #[.string ⟨(Lib.decDigits c).toArray⟩, .int .i64 e] w fun en w' => en = .returned (.string ⟨(laidB c e).toArray⟩) ∧ Only (fun _ => False) w w' := by
  have hl := Lib.decDigits_length c
  have hn0 := Lib.nDigits_pos c
  have hpl := pointB_len c
  have hr : laidB c e = pointB c ++ 101 :: Lib.itoa e := by unfold laidB; rw [if_neg he, if_neg he2]
  rw [hr]
  obtain ⟨S, hS⟩ : ∃ S : ByteArray, S = ⟨(Lib.decDigits c).toArray⟩ := ⟨_, rfl⟩
  have hz : S.size = Lib.nDigits c := by rw [hS, ba_size, hl]
  rw [← hS]
  obtain ⟨Z, hZ⟩ : ∃ Z : ByteArray, Z = ⟨(Lib.itoa e).toArray⟩ := ⟨_, rfl⟩
  obtain ⟨Y, hY⟩ : ∃ Y : ByteArray, Y = ⟨(pointB c).toArray⟩ := ⟨_, rfl⟩
  have hy : Y.size ≤ 18 := by rw [hY, ba_size]; omega
  have hz2 : Z.size ≤ 20 := by rw [hZ, ba_size]; exact itoa_len e hx
  have hfin := Lib.hid (show Y ++ ⟨#[101]⟩ ++ Z = ⟨(pointB c ++ 101 :: Lib.itoa e).toArray⟩ by
    rw [hY, hZ, show (⟨#[101]⟩ : ByteArray) = ⟨([101] : List UInt8).toArray⟩ from rfl, ba_append, ba_append]; simp)
  have hmany : Lib.nDigits c ≠ 1 → S.extract 0 1 ++ ⟨#[46]⟩ ++ S.extract 1 (Lib.nDigits c) = Y := fun h => by
    obtain ⟨x, l, h1, h2, h3⟩ := pointB_many h
    rw [hS, hY, ba_extract, ba_extract, show (⟨#[46]⟩ : ByteArray) = ⟨([46] : List UInt8).toArray⟩ from rfl, ba_append, ba_append, h2, ← hl, h1]
    simp
  have hone : Lib.nDigits c = 1 → S = Y := fun h => by rw [hS, hY, pointB_one h]
  have HI := Lib.hid (fun w h => Tryz.strconv_Itoa e (by omega) (by omega) w h)
  rw [← hZ] at HI
  have HU := Lib.hid hU
  clear hl hpl hr hS hZ hY hU
  generalize Lib.nDigits c = n at *
  by_cases h1 : n = 1
  · have e1 := hone h1
    subst e1
    clear hmany hone
    subst h1
    rcases (by omega : e < -6 ∨ 20 < e) with hs | hs
    · clear he he2
      go_enter Tryz.func119, Tryz.ntmps119
      go_wp2_with fail
      refine (HI.out _ HU.out).mono ?_
      rintro en w1 ⟨rfl, k, os, hw⟩
      have HO := Lib.hid (show Only (fun _ => False) w w1 by rw [hw]; exact growN_only _ _ _)
      clear hw HI
      go_wp2_with fail
      go_ret
      exact ⟨congrArg (fun z => Ending.returned (Value.string z)) hfin.out, HO.out⟩
    · clear he he2
      go_enter Tryz.func119, Tryz.ntmps119
      go_wp2_with fail
      refine (HI.out _ HU.out).mono ?_
      rintro en w1 ⟨rfl, k, os, hw⟩
      have HO := Lib.hid (show Only (fun _ => False) w w1 by rw [hw]; exact growN_only _ _ _)
      clear hw HI
      go_wp2_with fail
      go_ret
      exact ⟨congrArg (fun z => Ending.returned (Value.string z)) hfin.out, HO.out⟩
  · have e1 := hmany h1
    clear hmany hone
    have hn2 : 2 ≤ n := by omega
    clear h1
    rcases (by omega : e < -6 ∨ 20 < e) with hs | hs
    · clear he he2
      go_enter Tryz.func119, Tryz.ntmps119
      go_wp2_with fail
      go_quiet (fail)
      go_wp2_with fail
      refine (HI.out _ (HU.out.still (S := fun _ => False) ((Only.refl _ w).drewN _) id)).mono ?_
      rintro en w1 ⟨rfl, k, os, hw⟩
      have HO := Lib.hid (show Only (fun _ => False) w w1 by rw [hw]; exact ((Only.refl _ w).drewN _).trans (growN_only _ _ _))
      clear hw HI
      go_wp2_with fail
      go_ret
      exact ⟨congrArg (fun z => Ending.returned (Value.string z)) hfin.out, HO.out⟩
    · clear he he2
      go_enter Tryz.func119, Tryz.ntmps119
      go_wp2_with fail
      go_quiet (fail)
      go_wp2_with fail
      refine (HI.out _ (HU.out.still (S := fun _ => False) ((Only.refl _ w).drewN _) id)).mono ?_
      rintro en w1 ⟨rfl, k, os, hw⟩
      have HO := Lib.hid (show Only (fun _ => False) w w1 by rw [hw]; exact ((Only.refl _ w).drewN _).trans (growN_only _ _ _))
      clear hw HI
      go_wp2_with fail
      go_ret
      exact ⟨congrArg (fun z => Ending.returned (Value.string z)) hfin.out, HO.out⟩
/-- laid, at every decimal -/
theorem laid_calls (c : Nat) (e : Int) (w : World) (hU : Tab2 w) (hn : Lib.nDigits c ≤ 17) (hx : -999 ≤ e ∧ e ≤ 999) :
    Calls Tryz.prog 119 #[.string ⟨(Lib.decDigits c).toArray⟩, .int .i64 e] w fun en w' => en = .returned (.string ⟨(laidB c e).toArray⟩) ∧ Only (fun _ => False) w w' := by
  by_cases he : 0 ≤ e ∧ e ≤ 20
  · by_cases h1 : (Lib.nDigits c : Int) ≤ e + 1
    · exact laid_a c e w hn he h1
    · exact laid_b c e w hn he h1
  · by_cases he2 : -6 ≤ e ∧ e < 0
    · exact laid_c c e w hn he2
    · exact laid_d c e w hU hn he he2 hx
end Go.Proofs.YtiijgghholhcnaaGreatDoor.Re
