/- A fact of the row of LinearOrders. -/
import Derived.Test.YtlipngdfhpaodaaGreatRows
import Derived.Conc.HoldsTime
import Derived.Deep.Matrix
namespace Go.Proofs.YtlipngdfhpaodaaGreat.linearOrders
open Go.RowKit Go.Deep
theorem f_inPlace : (Rows.linearOrdersRow.inPlace == Tryz.pinned.checked.prog.inPlace 7) = true := by kernel_rfl
end Go.Proofs.YtlipngdfhpaodaaGreat.linearOrders
