/- The walks of recorder.New, Recorder, and of the phaser's small functions. -/
import Derived.Test.YtlipngdfhpaodaaGreatSums
import Derived.Deep.RegionLaw
namespace Go.Proofs.YtlipngdfhpaodaaGreat
open Go.RowKit

/-- what the recorders share, in memory -/
structure RecAt (base sh ph : Nat) (act : Int) (rf : Nat → Int) (now start : Int) (en : Nat → Int) (w : World) : Prop where
  sge : base ≤ sh
  pge : base ≤ ph
  sobj : w.heap[sh]? = some (.cells #[.pointer (some ⟨ph, 0, none⟩), .int .i64 act, .int .i64 (rf 0), .int .i64 (rf 1), .int .i64 now] 123 (0, 0))
  pobj : w.heap[ph]? = some (.cells #[.int .i64 start, .int .i64 (en 0), .int .i64 (en 1)] 258 (0, 0))
def begins (phase : Int) : Int := if phase = 1 then -9223372036854775808 else 0
def phaseOf (start : Int) : Int := if start < 0 then 1 else 0
theorem begins_0 (w : World) : Calls Tryz.prog 99 #[.int .i64 0] w fun e w' => e = .returned (.int .i64 0) ∧ w' = w := by
  go_enter Tryz.func99, Tryz.ntmps99
  go_wp2_with fail
  go_ret
  exact ⟨rfl, rfl⟩
theorem begins_1 (w : World) : Calls Tryz.prog 99 #[.int .i64 1] w fun e w' => e = .returned (.int .i64 (-9223372036854775808)) ∧ w' = w := by
  go_enter Tryz.func99, Tryz.ntmps99
  go_wp2_with fail
  go_ret
  exact ⟨rfl, rfl⟩
theorem phaseOf_calls (x : Int) (w : World) : Calls Tryz.prog 215 #[.int .i64 x] w fun e w' => e = .returned (.int .i64 (phaseOf x)) ∧ w' = w := by
  unfold phaseOf
  by_cases h : x < 0
  · rw [if_pos h]
    have hd : decide (x < 0) = true := decide_eq_true h
    clear h
    go_enter Tryz.func215, Tryz.ntmps215
    go_wp2_with fail
    go_ret
    exact ⟨rfl, rfl⟩
  · rw [if_neg h]
    have hd : decide (x < 0) = false := decide_eq_false h
    clear h
    go_enter Tryz.func215, Tryz.ntmps215
    go_wp2_with fail
    go_ret
    exact ⟨rfl, rfl⟩
theorem point_nil (w : World) : Calls Tryz.prog 97 #[.pointer none] w fun e w' => e = .returned (.tuple #[]) ∧ w' = w := by
  go_enter Tryz.func97, Tryz.ntmps97
  go_wp2_with fail
  go_end0
  exact ⟨rfl, rfl⟩
def PhNew (w : World) (e : Ending) (w' : World) : Prop :=
  e = .returned (.pointer (some ⟨w.heap.size, 0, none⟩)) ∧ Only (fun _ => False) w w' ∧ w'.heap[w.heap.size]? = some (.cells #[.int .i64 0, .int .i64 0, .int .i64 (-9223372036854775808)] 258 (0, 0))
theorem phnew_calls (w : World) : Calls Tryz.prog 42 #[] w (PhNew w) := by
  go_enter Tryz.func42, Tryz.ntmps42
  go_upto_region 2 with fail
  have hb := blk_new w (.cells #[.int .i64 0, .int .i64 0, .int .i64 0] 258)
  have hO := (Only.refl (fun _ => False) w).alloc (.cells #[.int .i64 0, .int .i64 0, .int .i64 0] 258)
  generalize w.alloc (.cells #[.int .i64 0, .int .i64 0, .int .i64 0] 258) = w1 at *
  have Hb := Lib.hid hb; have HO := Lib.hid hO; clear hb hO
  have c2 : w1.drew.cell? ⟨w.heap.size, 2, none⟩ = some (.int .i64 0) := by rw [blk_cell (blk_drew Hb.out)]; rfl
  have f2 : w1.drew.frozen? ⟨w.heap.size, 2, none⟩ = false := blk_free (blk_drew Hb.out) _
  go_region_law (first | (go_simp; go_at_call 99; refine (begins_1 _).mono ?_; rintro e w2 ⟨rfl, hw⟩; rw [hw]; clear hw w2) | (go_simp; go_at_call 47; refine (wstore ⟨w.heap.size, 2, none⟩ _ _ _ c2 f2).mono ?_; rintro e w2 ⟨rfl, hw⟩; rw [hw]; clear hw w2))
  all_goals
    go_wp2_with fail
    go_ret
    exact ⟨rfl, HO.out.drew.setCell (.inl (Nat.le_refl _)) _, blk_set (blk_drew Hb.out) 2 _⟩
end Go.Proofs.YtlipngdfhpaodaaGreat
