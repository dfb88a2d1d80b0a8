/- The law RealNames. -/
import Derived.Test.YthjfdhkahmlolaaGreatDoorAwk
namespace Go.Proofs.YthjfdhkahmlolaaGreatDoor
open Go.RowKit
theorem names_calls (w : World) (hE : Env w) (hE2 : Env2 w) : Calls Tryz.prog 3 #[] w fun en w' => en = .returned (.bool true) ∧ Only (fun _ => False) w w' := by
  have K := Lib.hid (awake_calls w hE hE2); clear hE hE2
  go_enter Tryz.func3, Tryz.ntmps3
  go_wp2_with fail
  refine K.out.mono ?_
  rintro en w1 ⟨rfl, hO⟩
  have O1 := Lib.hid hO; clear hO
  go_wp2_with fail
  go_ret
  exact ⟨rfl, O1.out⟩
end Go.Proofs.YthjfdhkahmlolaaGreatDoor
