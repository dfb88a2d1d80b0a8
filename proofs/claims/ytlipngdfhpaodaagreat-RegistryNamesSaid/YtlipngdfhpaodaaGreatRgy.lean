/- Facts of the row of RegistryNames: what the row says of the code that it reaches. -/
import Derived.Test.YtlipngdfhpaodaaGreatRows
import Derived.Conc.HoldsTime
import Derived.Deep.Matrix
namespace Go.Proofs.YtlipngdfhpaodaaGreat.registryNames
open Go.RowKit Go.Deep
theorem inPlace4 : Tryz.pinned.checked.prog.inPlace 4 = Rows.registryNamesRow.inPlace := by kernel_rfl
theorem unfollowed4 : Tryz.pinned.checked.prog.unfollowed 4 = Rows.registryNamesRow.unfollowed := by kernel_rfl
theorem recurses4 : Tryz.pinned.checked.prog.recurses 4 = Rows.registryNamesRow.recurses := by kernel_rfl
theorem varsNamed4 : Tryz.pinned.checked.prog.varsNamed 4 = Rows.registryNamesRow.named := by kernel_rfl
theorem closed4 : joinedFacts Tryz.pinned.checked.prog 4 Tryz.f4 Rows.registryNamesSpec Rows.registryNamesRow = true := by
  unfold joinedFacts
  rw [inPlace4, unfollowed4, recurses4, varsNamed4]
  kernel_rfl
end Go.Proofs.YtlipngdfhpaodaaGreat.registryNames
