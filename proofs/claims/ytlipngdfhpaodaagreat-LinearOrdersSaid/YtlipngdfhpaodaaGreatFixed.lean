/- The walk of fixed: New, Add and Drain of a counter. -/
import Derived.Test.YtlipngdfhpaodaaGreatAddc
import Derived.Test.YtlipngdfhpaodaaGreatNew3
namespace Go.Proofs.YtlipngdfhpaodaaGreat
open Go.RowKit

theorem sum_fixed (f : Nat → Nat → Int) (h00 : f 0 0 = 0) (h01 : f 0 1 = 0) (h10 : f 1 0 = 5) (h11 : f 1 1 = 0) : sumTo f 2 = (0, 5) := by
  simp only [sumTo, h00, h01, h10, h11]; kernel_rfl
theorem run_eq35 (w : World) : Sem.run Tryz.prog (binOp .eql 105 (.agg #[.int .i64 0, .int .u64 5]) (.agg #[.int .i64 0, .int .u64 5])) w = .ok (.bool true) w := by kernel_rfl
theorem run_pn24 (a : Addr) (w : World) : Sem.run Tryz.prog (binOp .eql 34 (.pointer (some a)) (.pointer none)) w = .ok (.bool false) w := by kernel_rfl
theorem rge_at {base s c : Nat} {kind p : Int} {st wd : Nat} {u : Nat → Value} {L : Nat → Nat} {R : Nat → Nat → Nat} {V : Nat → Nat → Nat → Int} {w : World} (h : SlabAt base s c kind p st wd u L R V w) {b i : Nat} (hb : b < 2) (hi : i < st) : base ≤ R b i := h.held.rge b hb i (by rw [h.len hb]; exact hi)
theorem addV_at (V : Nat → Nat → Nat → Int) (h : ∀ b i k, b < 2 → i < 2 → k < 2 → V b i k = 0) : addV V 0 1 5 0 0 0 = 0 ∧ addV V 0 1 5 0 0 1 = 0 ∧ addV V 0 1 5 0 1 0 = 5 ∧ addV V 0 1 5 0 1 1 = 0 := by
  have e0 := h 0 1 0 (by decide) (by decide) (by decide)
  have e1 := h 0 1 1 (by decide) (by decide) (by decide)
  refine ⟨?_, ?_, ?_, ?_⟩
  · unfold addV; rw [upd2_ne _ _ (by omega)]; exact h _ _ _ (by decide) (by decide) (by decide)
  · unfold addV; rw [upd2_ne _ _ (by omega)]; exact h _ _ _ (by decide) (by decide) (by decide)
  · unfold addV; rw [upd2_same, upd_ne _ _ (by decide), upd_same, e0]; kernel_rfl
  · unfold addV; rw [upd2_same, upd_same, e0, e1]; decide

end Go.Proofs.YtlipngdfhpaodaaGreat
