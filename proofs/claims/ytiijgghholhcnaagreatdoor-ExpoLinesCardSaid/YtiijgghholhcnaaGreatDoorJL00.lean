/- Facts of the row of ExpoLines: what the row says of the code that it reaches. -/
import Derived.Test.YtiijgghholhcnaaGreatDoorRows
import Derived.JoinedOf
namespace Go.Proofs.YtiijgghholhcnaaGreatDoor.expoLines
theorem inPlace5 : Tryz.pinned.checked.prog.inPlace 5 = Rows.expoLinesRow.inPlace := by kernel_rfl
theorem unfollowed5 : Tryz.pinned.checked.prog.unfollowed 5 = Rows.expoLinesRow.unfollowed := by kernel_rfl
theorem recurses5 : Tryz.pinned.checked.prog.recurses 5 = Rows.expoLinesRow.recurses := by kernel_rfl
theorem varsNamed5 : Tryz.pinned.checked.prog.varsNamed 5 = Rows.expoLinesRow.named := by kernel_rfl
end Go.Proofs.YtiijgghholhcnaaGreatDoor.expoLines
