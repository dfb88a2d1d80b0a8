/- strings.Replace of the one point in a decimal. -/
import Derived.Test.YthjfdhkahmlolaaGreatDoorRdf
import Derived.Test.YthjfdhkahmlolaaGreatDoorBax
namespace Go.Proofs.YthjfdhkahmlolaaGreatDoor
open Go.RowKit Go.Lib
theorem Tryz.ws (B b : Nat) (bs : List Value) (s : ByteArray) (w : World) (h : Lib.IsBuilder 69 5 B b bs w) (hlen : bs.length + s.size ≤ 140737488355328) (hBw : B ≤ w.heap.size) :
    Calls Tryz.prog 51 #[.pointer (some ⟨b, 0, none⟩), .string s] w fun e w' => e = .returned (.tuple #[.int .i64 s.size, .nilIface]) ∧ (Lib.BuilderAt 69 5 B b (.pointer (some ⟨b, 0, none⟩)) (bs ++ Lib.strCells s) w' ∧ Below B w w') := Any.Builder_WriteString { Tryz.lays105 with } Tryz.Builder_Extra_105 B b bs s w h hlen hBw
theorem below_of {w w' : World} {B : Nat} (h : Below B w w') : Only (fun k => B ≤ k) w w' := by
  obtain ⟨a, b, c, d, e⟩ := h
  exact ⟨a, b, c, d, fun k hk hs => e k (by omega)⟩
set_option maxRecDepth 100000
set_option maxHeartbeats 4000000 in
theorem rep_point (x : UInt8) (l : List UInt8) (S : ByteArray) (w : World) (hS : S = ⟨(x :: 46 :: l).toArray⟩) (hx : x ≠ 46) (hl : 46 ∉ l) (hl0 : l ≠ []) (hl1 : l.length ≤ 100) :
    Calls Tryz.prog 36 #[.string S, .string ⟨#[46]⟩, .string ⟨#[]⟩, .int .i64 1] w fun en w' => en = .returned (.string ⟨(x :: l).toArray⟩) ∧ Only (fun _ => False) w w' := by
  have hd : S.data.toList = x :: 46 :: l := by rw [hS]
  have hsz : S.size = l.length + 2 := by rw [hS]; simp [ByteArray.size]
  have hn : ∃ n, n = l.length + 2 := ⟨_, rfl⟩
  obtain ⟨n, hn⟩ := hn
  have hcnt : Lib.countByte S.data.toList 46 = 1 := by
    rw [hd]; unfold Lib.countByte
    rw [List.count_cons, List.count_cons, List.count_eq_zero_of_not_mem hl]
    simp [hx]
  have hidx : Lib.indexByte S.data.toList 46 = 1 := by
    rw [hd]; exact idx_at [x] 46 l (by simpa using fun h => hx h.symm)
  have e1 : S.extract 0 1 = ⟨#[x]⟩ := by rw [hS, ba_extract]; rfl
  have e2 : S.extract 2 n = ⟨l.toArray⟩ := by
    rw [hS, ba_extract]; simp [hn]
  have e0 : S.extract 0 n = S := by
    rw [hS, ba_extract]; simp [hn]
  have sz : S.size = n := by omega
  have C := Lib.hid (Tryz.strings_Count_one S 46 w)
  rw [hcnt] at C
  have HS := Lib.hid hS; have HX := Lib.hid hx; have HL := Lib.hid hl
  have hn2 : 3 ≤ n ∧ n ≤ 102 := by
    have : 1 ≤ l.length := by cases l <;> simp_all
    omega
  clear hS hd hsz hn hcnt hx hl hl0
  go_enter Tryz.func36, Tryz.ntmps36
  go_wp2_with fail
  refine C.out.mono ?_
  rintro en w1 ⟨rfl, hw⟩; rw [hw]; clear hw w1 C
  go_wp2_with fail
  rw [show (n : Int) + -1 = ((n - 1 : Nat) : Int) by omega]
  refine (Tryz.Builder_Grow_fresh w.heap.size w.heap.size (n - 1) (w.alloc (.cells #[.pointer none, .slice none 0 0] 69)) (Nat.le_refl _) (blk_new _ _) (by simp) (by omega)).mono ?_
  rintro en w1 ⟨rfl, hB1, hO1⟩
  have HB1 := Lib.hid hB1
  have HO1 := Lib.hid (((Only.refl (fun _ => False) w).alloc (.cells #[.pointer none, .slice none 0 0] 69)).seq2 (below_of hO1) (fun i hi => .inl hi))
  have hz1 : w.heap.size + 1 ≤ w1.heap.size := by have := hO1.size; simp at this; omega
  clear hB1 hO1
  go_wp2_with fail
  refine wp_loop_rounds 2 ?_
  rw [rounds_succ]
  have I := Lib.hid (Tryz.strings_Index_one S 46 w1)
  rw [hidx] at I
  go_wp2_with fail
  refine (I.out).mono ?_
  rintro en w2 ⟨rfl, hw⟩; rw [hw]; clear hw w2 I hidx
  go_wp2_with fail
  refine (Tryz.ws w.heap.size w.heap.size [] ⟨#[x]⟩ w1 (.inr HB1.out) (by simp [ByteArray.size]) (by omega)).mono ?_
  rintro en w2 ⟨rfl, hB2, hO2⟩
  have HB2 := Lib.hid hB2
  have HO2 := Lib.hid (HO1.out.seq2 (below_of hO2) (fun i hi => .inl hi))
  have hz2 : w1.heap.size ≤ w2.heap.size := hO2.size
  clear hB2 hO2
  go_wp2_with fail
  refine (Tryz.ws w.heap.size w.heap.size _ ⟨#[]⟩ w2 (.inr HB2.out) (by simp [ByteArray.size, Lib.strCells]) (by omega)).mono ?_
  rintro en w3 ⟨rfl, hB3, hO3⟩
  have HB3 := Lib.hid hB3
  have HO3 := Lib.hid (HO2.out.seq2 (below_of hO3) (fun i hi => .inl hi))
  have hz3 : w2.heap.size ≤ w3.heap.size := hO3.size
  clear hB3 hO3
  go_wp2_with fail
  rw [rounds_succ]
  go_wp2_with fail
  refine (Tryz.ws w.heap.size w.heap.size _ ⟨l.toArray⟩ w3 (.inr HB3.out) (by simp [ByteArray.size, Lib.strCells]; omega) (by omega)).mono ?_
  rintro en w4 ⟨rfl, hB4, hO4⟩
  have hcells : [] ++ Lib.strCells ⟨#[x]⟩ ++ Lib.strCells ⟨#[]⟩ ++ Lib.strCells ⟨l.toArray⟩ = Lib.byteCells (x :: l) := by simp [Lib.strCells, Lib.byteCells]
  rw [hcells] at hB4
  have HB4 := Lib.hid hB4
  have HO4 := Lib.hid (HO3.out.seq2 (below_of hO4) (fun i hi => .inl hi))
  clear hB4 hO4 hcells
  go_wp2_with fail
  refine (Tryz.Builder_String w.heap.size w.heap.size (x :: l) w4 (.inr HB4.out) (by simp)).mono ?_
  rintro en w5 ⟨rfl, hO5⟩
  have HO5 := Lib.hid (HO4.out.seq2 (below_of hO5) (fun i hi => .inl hi))
  clear hO5
  go_wp2_with fail
  go_ret
  exact ⟨rfl, HO5.out⟩
end Go.Proofs.YthjfdhkahmlolaaGreatDoor
