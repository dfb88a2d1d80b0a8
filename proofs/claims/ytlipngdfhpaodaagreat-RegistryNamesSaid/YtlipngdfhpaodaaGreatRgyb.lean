/- Facts of the row of RegistryNames. -/
import Derived.Test.YtlipngdfhpaodaaGreatRows
import Derived.Conc.HoldsTime
import Derived.Deep.Matrix
namespace Go.Proofs.YtlipngdfhpaodaaGreat.registryNames
open Go.RowKit Go.Deep
theorem named4 : Tryz.pinned.checked.prog.funcNamed Rows.registryNamesRow.func = some 4 := by kernel_rfl
theorem inst4 : Tryz.f4.isInstance Tryz.pinned.checked.prog Rows.registryNamesRow.origin Rows.registryNamesRow.targs := of_decide_eq_true (by kernel_rfl)
theorem wrap4 : Tryz.f4.isWrapper Tryz.pinned.checked.prog Rows.registryNamesRow.wrapper Rows.registryNamesRow.mainSum := by unfold Func.isWrapper; first | (rw [if_pos (by decide +kernel)]; kernel_rfl) | (rw [if_neg (by decide +kernel)]; exact ⟨rfl, rfl⟩)
end Go.Proofs.YtlipngdfhpaodaaGreat.registryNames
