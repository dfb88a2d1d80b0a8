/- Facts of the row of LinearOrders. -/
import Derived.Test.YtlipngdfhpaodaaGreatLr1
import Derived.Test.YtlipngdfhpaodaaGreatLr2
import Derived.Test.YtlipngdfhpaodaaGreatLr3
import Derived.Test.YtlipngdfhpaodaaGreatLr4
namespace Go.Proofs.YtlipngdfhpaodaaGreat.linearOrders
open Go.RowKit Go.Deep
theorem closed7 : joinedFacts Tryz.pinned.checked.prog 7 Tryz.f7 Rows.linearOrdersSpec Rows.linearOrdersRow = true := by
  unfold joinedFacts
  rw [f_inPlace, f_unf, f_rec, f_vars]
  kernel_rfl
end Go.Proofs.YtlipngdfhpaodaaGreat.linearOrders
