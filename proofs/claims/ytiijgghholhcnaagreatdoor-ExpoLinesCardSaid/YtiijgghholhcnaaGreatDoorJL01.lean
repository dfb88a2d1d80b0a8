/- Facts of the row of ExpoLines: the closed facts. -/
import Derived.Test.YtiijgghholhcnaaGreatDoorJL00
namespace Go.Proofs.YtiijgghholhcnaaGreatDoor.expoLines
theorem closed5 : joinedFacts Tryz.pinned.checked.prog 5 Tryz.f5 Rows.expoLinesSpec Rows.expoLinesRow = true := by
  unfold joinedFacts
  rw [inPlace5, unfollowed5, recurses5, varsNamed5]
  kernel_rfl
end Go.Proofs.YtiijgghholhcnaaGreatDoor.expoLines
