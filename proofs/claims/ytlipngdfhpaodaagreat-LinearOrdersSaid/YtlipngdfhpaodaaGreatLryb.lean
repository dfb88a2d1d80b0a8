/- Facts of the row of LinearOrders. -/
import Derived.Test.YtlipngdfhpaodaaGreatRows
import Derived.Conc.HoldsTime
import Derived.Deep.Matrix
namespace Go.Proofs.YtlipngdfhpaodaaGreat.linearOrders
open Go.RowKit Go.Deep
theorem named7 : Tryz.pinned.checked.prog.funcNamed Rows.linearOrdersRow.func = some 7 := by kernel_rfl
theorem inst7 : Tryz.f7.isInstance Tryz.pinned.checked.prog Rows.linearOrdersRow.origin Rows.linearOrdersRow.targs := of_decide_eq_true (by kernel_rfl)
theorem wrap7 : Tryz.f7.isWrapper Tryz.pinned.checked.prog Rows.linearOrdersRow.wrapper Rows.linearOrdersRow.mainSum := by unfold Func.isWrapper; first | (rw [if_pos (by decide +kernel)]; kernel_rfl) | (rw [if_neg (by decide +kernel)]; exact ⟨rfl, rfl⟩)
end Go.Proofs.YtlipngdfhpaodaaGreat.linearOrders
