/- The walks of a recorder's Add: the closure, record, Add. -/
import Derived.Test.YtlipngdfhpaodaaGreatTurn
import Derived.StillTailTactics
namespace Go.Proofs.YtlipngdfhpaodaaGreat
open Go.RowKit

/-- what the closure has captured, and the recorder -/
structure ClosAt (B rb s sh : Nat) (i : Nat) (n : Int) (w : World) : Prop where
  q0 : w.heap[B]? = some (.cells #[.pointer (some ⟨rb, 0, none⟩)] 55 (0, 0))
  q1 : w.heap[B + 1]? = some (.cells #[.pointer none] 165 (0, 0))
  q2 : w.heap[B + 1 + 1]? = some (.cells #[.pointer (some ⟨s, 0, none⟩)] 34 (0, 0))
  q3 : w.heap[B + 1 + 1 + 1]? = some (.cells #[.int .i64 n] 2 (0, 0))
  rcb : w.heap[rb]? = some (.cells #[.pointer (some ⟨sh, 0, none⟩), .int .i64 i, .bool false] 250 (0, 0))
section
variable {base s c : Nat} {p : Int} {st : Nat} {u : Nat → Value} {L : Nat → Nat} {R : Nat → Nat → Nat} {V : Nat → Nat → Nat → Int} {w : World} {B rb sh : Nat} {i : Nat} {n : Int}
set_option maxRecDepth 100000 in
theorem clos_calls (hC : ClosAt B rb s sh i n w) (h : SlabAt base s c 1 p st 2 u L R V w) (h0 : 0 < st) (hm : st ≤ 16) (b : Nat) (hb : b < 2) (hi : i < st) (hx : -9223372036854775808 ≤ V b i 0 ∧ V b i 0 ≤ 9223372036854775807) :
    Calls Tryz.prog 95 #[.int .i64 b, .pointer (some ⟨B + 1 + 1, 0, none⟩), .pointer (some ⟨B + 1, 0, none⟩), .pointer (some ⟨B, 0, none⟩), .pointer (some ⟨B + 1 + 1 + 1, 0, none⟩)] w (AddcRes base s c p st u L R V b i n w.drew) := by
  have c0 : w.cell? ⟨B, 0, none⟩ = some (.pointer (some ⟨rb, 0, none⟩)) := by rw [blk_cell hC.q0]; rfl
  have c1 : w.cell? ⟨B + 1, 0, none⟩ = some (.pointer none) := by rw [blk_cell hC.q1]; rfl
  have c2 : w.cell? ⟨B + 1 + 1, 0, none⟩ = some (.pointer (some ⟨s, 0, none⟩)) := by rw [blk_cell hC.q2]; rfl
  have c3 : w.cell? ⟨B + 1 + 1 + 1, 0, none⟩ = some (.int .i64 n) := by rw [blk_cell hC.q3]; rfl
  have c4 : w.cell? ⟨rb, 1, none⟩ = some (.int .i64 i) := by rw [blk_cell hC.rcb]; rfl
  have K := Lib.hid (addc_calls w.drew (h.only (Only.refl (fun _ => False) w).drew) h0 hm b i hb hi n hx)
  clear hC h hx
  go_enter Tryz.func95, Tryz.ntmps95
  go_wp2_with fail
  go_still_tail 8, (by kernel_rfl)
  change wpList _ _ _ _ _ w.drew
  generalize w.drew = w1 at *
  go_wp2_with fail
  refine K.out.mono ?_
  intro e w2 hq
  unfold AddcRes at hq
  split at hq
  · obtain ⟨rfl, O2, S2⟩ := hq
    rename_i hn
    have HA : Hid (AddcRes base s c p st u L R V b i n w1 (.returned (.int .i64 0)) w2) := Lib.hid (by unfold AddcRes; rw [if_pos hn]; exact ⟨rfl, O2, S2⟩)
    clear O2 S2 hn c0 c1 c2 c3 c4 K
    go_wp2_with fail
    go_ret
    exact HA.out
  · obtain ⟨rfl, O2, S2⟩ := hq
    rename_i hn
    have HA : Hid (AddcRes base s c p st u L R V b i n w1 (.returned (.int .i64 2)) w2) := Lib.hid (by unfold AddcRes; rw [if_neg hn]; exact ⟨rfl, O2, S2⟩)
    clear O2 S2 hn c0 c1 c2 c3 c4 K
    go_wp2_with fail
    go_ret
    exact HA.out
end
end Go.Proofs.YtlipngdfhpaodaaGreat
