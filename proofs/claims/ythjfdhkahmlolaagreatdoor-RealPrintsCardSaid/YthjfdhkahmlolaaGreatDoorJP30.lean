/- decimal at any finite float above 0. -/
import Derived.Test.YthjfdhkahmlolaaGreatDoorJP27
import Derived.Test.YthjfdhkahmlolaaGreatDoorJP29
namespace Go.Proofs.YthjfdhkahmlolaaGreatDoor
open Go.RowKit Usc
theorem fto_pos {b c : Nat} {s : Int} (h0 : 1 ≤ b) (h1 : b < 9218868437227405312) (hS : Sh b c s) : Fto b (Lib.byteCells (efgB c s)) := by
  intro B d0 w hT hU hB ho
  refine (ftoa_pos b h0 h1 B d0 w hT hU hB ho).mono ?_
  rintro e w' ⟨v, he, c', s', hS', hA⟩
  obtain ⟨rfl, rfl⟩ := hS.unique hS'
  exact ⟨v, he, hA⟩
theorem efgB_ne (c : Nat) (s : Int) : efgB c s ≠ [] := by unfold efgB; simp
theorem sh_ex {b : Nat} (H : Parts b) : ∃ c s, Sh b c s := by
  have h1 := (short H).1
  generalize hD : sfd (mB b) (eB b) = D at *
  have key : ∀ D : Nat, 1 ≤ D → ∃ k c, 10 ^ k * c = D ∧ c % 10 ≠ 0 := by
    intro D
    induction D using Nat.strongRecOn with
    | _ D ih =>
      intro h
      by_cases h0 : D % 10 = 0
      · obtain ⟨k, c, e, hc⟩ := ih (D / 10) (by omega) (by omega)
        refine ⟨k + 1, c, ?_, hc⟩
        rw [Nat.pow_succ, Nat.mul_comm (10 ^ k) 10, Nat.mul_assoc, e]; omega
      · exact ⟨0, D, by simp, h0⟩
  obtain ⟨k, c, e, hc⟩ := key D h1
  exact ⟨c, _, k, by rw [hD]; exact e, rfl, hc⟩
theorem cut_after (A : List UInt8) (c : UInt8) (B : List UInt8) : ((A ++ c :: B).drop (A.length + 1)).take B.length = B := by
  rw [show A ++ c :: B = (A ++ [c]) ++ B by simp, List.drop_left' (by simp), List.take_length]
set_option maxRecDepth 100000
theorem rep_none (S : ByteArray) (w : World) (hS : (46 : UInt8) ∉ S.data.toList) : Calls Tryz.prog 36 #[.string S, .string ⟨#[46]⟩, .string ⟨#[]⟩, .int .i64 1] w fun en w' => en = .returned (.string S) ∧ w' = w := by
  have hc : Lib.countByte S.data.toList 46 = 0 := by unfold Lib.countByte; exact List.count_eq_zero_of_not_mem hS
  have C := Lib.hid (Tryz.strings_Count_one S 46 w)
  rw [hc] at C
  clear hS hc
  go_enter Tryz.func36, Tryz.ntmps36
  go_wp2_with fail
  refine C.out.mono ?_
  rintro en w1 ⟨rfl, hw⟩; rw [hw]; clear hw w1
  go_wp2_with fail
  go_ret
  exact ⟨rfl, rfl⟩
/-- the point is struck -/
theorem rep_calls (c : Nat) (S : ByteArray) (w : World) (hS : S = ⟨(pointB c).toArray⟩) (hn : Lib.nDigits c ≤ 17) : Calls Tryz.prog 36 #[.string S, .string ⟨#[46]⟩, .string ⟨#[]⟩, .int .i64 1] w fun en w' => en = .returned (.string ⟨(Lib.decDigits c).toArray⟩) ∧ Only (fun _ => False) w w' := by
  by_cases h : Lib.nDigits c = 1
  · rw [pointB_one h] at hS
    refine (rep_none S w (by rw [hS]; exact dec_not c 46 (by decide))).mono ?_
    rintro en w' ⟨rfl, rfl⟩
    exact ⟨by rw [hS], Only.refl _ _⟩
  · obtain ⟨x, l, h1, h2, h3⟩ := pointB_many h
    have hd := dec_not c 46 (by decide)
    rw [h1] at hd
    have hl := Lib.decDigits_length c
    rw [h1] at hl
    simp at hd hl
    rw [h1]
    exact rep_point x l S w (by rw [hS, h2]) (fun e => hd.1 e.symm) hd.2 h3 (by omega)
set_option maxHeartbeats 4000000 in
theorem dec_pos (b c : Nat) (s : Int) (w : World) (h0 : 1 ≤ b) (h1 : b < 9218868437227405312) (hS : Sh b c s) (hE : Env w) :
    Calls Tryz.prog 25 #[.float .f64 b] w fun en w' => en = .returned (.tuple #[.string ⟨(Lib.decDigits c).toArray⟩, .int .i64 (exp10 c s)]) ∧ Only (fun _ => False) w w' := by
  have HE := Lib.hid hE; clear hE
  have hb := hS.bounds (parts b h0 h1)
  have n0 := hb.n0; have n1 := hb.n1; have s0 := hb.s0; have s1 := hb.s1
  have hx : -999 ≤ exp10 c s ∧ exp10 c s ≤ 999 := by unfold exp10; omega
  have F := Lib.hid (fmt33 b (efgB c s) (efgB_ne c s) (fto_pos h0 h1 hS) w HE.out.1 HE.out.2)
  obtain ⟨T, hT⟩ : ∃ T : ByteArray, T = ⟨(efgB c s).toArray⟩ := ⟨_, rfl⟩
  rw [← hT] at F
  have hTd : T.data.toList = pointB c ++ 101 :: tailB (exp10 c s) := by rw [hT]; rfl
  obtain ⟨k, hk⟩ : ∃ k, k = (pointB c).length := ⟨_, rfl⟩
  obtain ⟨n, hn⟩ : ∃ n, n = T.size := ⟨_, rfl⟩
  have hpl := pointB_len c
  have htl := tailB_len (exp10 c s) hx
  have hnk : n = k + 1 + (tailB (exp10 c s)).length := by rw [hn, hT, ba_size]; unfold efgB; simp; omega
  have I := Lib.hid (fun w => Tryz.strings_IndexByte T 101 w)
  have hidx : Lib.indexByte T.data.toList (101 : Int).toNat.toUInt8 = (k : Int) := by rw [hTd, hk]; exact idx_at _ _ _ (pointB_not c)
  simp only [hidx] at I
  have x1 : T.extract (k + 1) n = ⟨(tailB (exp10 c s)).toArray⟩ := by
    rw [hT, ba_extract, hk, show n - ((pointB c).length + 1) = (tailB (exp10 c s)).length by rw [hnk, hk]; omega]; unfold efgB
    rw [cut_after]
  have x2 : T.extract 0 k = ⟨(pointB c).toArray⟩ := by
    rw [hT, ba_extract, hk]; unfold efgB
    simp
  have A := Lib.hid (fun w => Tryz.strconv_Atoi ⟨(tailB (exp10 c s)).toArray⟩ (exp10 c s) (by rw [ba_size]; omega) (atoi_tail _ hx) w)
  have R := Lib.hid (fun w => rep_calls c ⟨(pointB c).toArray⟩ w rfl n1)
  have hk2 : k ≤ 18 := by omega
  have hn2 : k + 1 ≤ n ∧ n ≤ 30 := by omega
  have HN := Lib.hid hn.symm
  have hsz : T.size = n := hn.symm
  clear hb hTd hk hn hpl htl hnk hidx hT hS
  generalize tailB (exp10 c s) = tl at *
  generalize exp10 c s = x at *
  go_enter Tryz.func25, Tryz.ntmps25
  go_wp2_with fail
  refine F.out.mono ?_
  rintro en w1 ⟨rfl, hO⟩
  have HO := Lib.hid hO; clear hO F
  go_wp2_with fail
  refine (I.out _).mono ?_
  rintro en w2 ⟨rfl, hw⟩; rw [hw]; clear hw w2 I
  go_wp2_with fail
  refine (A.out _).mono ?_
  rintro en w2 ⟨rfl, t, hw⟩
  have O2 : Only (fun _ => False) w w2 := by rw [hw]; exact bw_only HO.out t
  have HO2 := Lib.hid O2; clear O2 hw A
  go_wp2_with fail
  refine (R.out _).mono ?_
  rintro en w3 ⟨rfl, hO⟩
  have HO3 := Lib.hid (HO2.out.trans hO); clear hO
  go_wp2_with fail
  go_ret2
  first
    | exact ⟨rfl, HO3.out⟩
    | exact ⟨rfl, HO3.out.drewN _⟩
    | exact ⟨rfl, HO3.out.drew⟩
end Go.Proofs.YthjfdhkahmlolaaGreatDoor
