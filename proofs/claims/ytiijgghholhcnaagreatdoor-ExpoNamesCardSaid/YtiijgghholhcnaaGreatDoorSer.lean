/- The walks of a counter's line: Concat of nothing, label.Print at no labels, series, counter; the kinds. -/
import Derived.Test.YtiijgghholhcnaaGreatDoorNum
import Derived.Test.YtiijgghholhcnaaGreatDoorLix
namespace Go.Proofs.YtiijgghholhcnaaGreatDoor
open Go.RowKit
set_option maxRecDepth 1000000
theorem pcs_of {w : World} {sb t : Nat} {l : List (List UInt8)} (h : w.heap[sb]? = some (.cells (l.map fun s => Value.string ⟨s.toArray⟩).toArray t (0, 0))) : Pcs w sb l.length (fun i => l.getD i []) :=
  ⟨fun i hi => by rw [blk_cell h]; simp [List.getD, List.getElem?_eq_getElem hi], blk_lt h⟩
theorem jn_flat (l : List (List UInt8)) : ∀ k, k ≤ l.length → jn (fun i => l.getD i []) k = (l.take k).flatten
  | 0, _ => by simp [jn]
  | k + 1, h => by
    rw [jn, jn_flat l k (by omega), List.take_succ_eq_append_getElem (by omega), List.flatten_append]
    simp [List.getD, List.getElem?_eq_getElem (show k < l.length by omega)]
/-- a line of pieces that were just laid -/
theorem line_new (pb B : Nat) (prec : Int) (v : Value) (l : List UInt8) (ps : List (List UInt8)) (w1 : World) (t k cap : Nat) (W : World) (hP : Pg w1 pb B prec v l) (hl : ps.length ≤ 1000) (hb : l.length + ps.flatten.length + 1 ≤ 140737488355328) (hk : k = ps.length)
    (hW : W = w1.alloc (.cells (ps.map fun s => Value.string ⟨s.toArray⟩).toArray t)) :
    Calls Tryz.prog 15 #[.pointer (some ⟨pb, 0, none⟩), .slice (some ⟨w1.heap.size, 0, none⟩) k cap] W fun e w' => e = .returned (.tuple #[]) ∧ ∃ v', Pg w' pb B prec v' (l ++ ps.flatten ++ [10]) ∧ Wrote w1 pb v v' w' := by
  subst hW
  subst hk
  have hj : jn (fun i => ps.getD i []) ps.length = ps.flatten := by rw [jn_flat ps _ (Nat.le_refl _), List.take_of_length_le (Nat.le_refl _)]
  have h1 := hP.lt
  have h2 := hP.le
  refine (line_calls pb B w1.heap.size ps.length cap prec v l (fun i => ps.getD i []) _ (by omega) (hP.alloc _) (pcs_of (blk_new w1 _)) (by omega) (fun e => by have := (hP.own.lt _ e).2; omega) (by rw [hj]; exact hb)).mono ?_
  rintro e w' ⟨rfl, v', h3, h4⟩
  rw [hj] at h3
  exact ⟨rfl, v', h3, h4.ofAlloc⟩
theorem grow_nil (w : World) : Calls Tryz.prog 150 #[.slice none 0 0, .int .i64 0] w fun e w' => e = .returned (.slice none 0 0) ∧ w' = w := by
  go_enter Tryz.func150, Tryz.ntmps150
  go_wp2_with fail
  go_ret
  exact ⟨rfl, rfl⟩
theorem concat_nil (b : Nat) (w : World) (h0 : w.cell? ⟨b, 0, none⟩ = some (.slice none 0 0)) (h1 : w.cell? ⟨b, 1, none⟩ = some (.slice none 0 0)) :
    Calls Tryz.prog 113 #[.slice (some ⟨b, 0, none⟩) 2 2] w fun e w' => e = .returned (.slice none 0 0) ∧ w' = w := by
  go_enter Tryz.func113, Tryz.ntmps113
  go_wp2_with fail
  refine wp_loop_rounds 3 ?_
  rw [rounds_succ]
  go_wp2_with fail
  rw [rounds_succ]
  go_wp2_with fail
  rw [rounds_succ]
  go_wp2_with fail
  refine (grow_nil _).mono ?_
  rintro e w1 ⟨rfl, hw⟩; rw [hw]; clear hw w1
  go_wp2_with fail
  refine wp_loop_rounds 3 ?_
  rw [rounds_succ]
  go_wp2_with fail
  rw [rounds_succ]
  go_wp2_with fail
  rw [rounds_succ]
  go_wp2_with fail
  go_ret
  exact ⟨rfl, rfl⟩
theorem print0_calls (nm : List UInt8) (w : World) : Calls Tryz.prog 112 #[.string ⟨nm.toArray⟩, .slice none 0 0] w fun e w' => e = .returned (.string ⟨nm.toArray⟩) ∧ w' = w := by
  go_enter Tryz.func112, Tryz.ntmps112
  go_wp2_with fail
  go_ret
  exact ⟨rfl, rfl⟩
end Go.Proofs.YtiijgghholhcnaaGreatDoor
