/- The walk of the law: a registry approves and refuses its configurations. -/
import Derived.Test.YtlipngdfhpaodaaGreatRgk
namespace Go.Proofs.YtlipngdfhpaodaaGreat
open Go.RowKit
set_option maxRecDepth 1000000
theorem run_nnr (w : World) : Sem.run Tryz.prog (binOp .eql 48 (.pointer none) (.pointer none)) w = .ok (.bool true) w := by kernel_rfl
set_option maxHeartbeats 4000000 in
theorem law4 (w : World) : Calls Tryz.prog 4 #[] w fun e w' => e = .returned (.bool true) ∧ Only (fun _ => False) w w' := by
  have q1 := run_nnr
  have q2 := run_pnn
  go_enter Tryz.func4, Tryz.ntmps4
  go_wp2_with fail
  refine (regnew_stripes 0 1 1 w (by decide)).mono ?_
  rintro e w1 ⟨rfl, O1⟩
  have H1 := Lib.hid O1; clear O1
  go_wp2_with fail
  refine (regnew_stripes 17 1 1 w1 (by decide)).mono ?_
  rintro e w2 ⟨rfl, O2⟩
  have H2 := Lib.hid (H1.out.trans O2); clear O2 H1
  go_wp2_with fail
  refine (regnew_prec w2).mono ?_
  rintro e w3 ⟨rfl, O3⟩
  have H3 := Lib.hid (H2.out.trans O3); clear O3 H2
  go_wp2_with fail
  refine (regnew_cells w3).mono ?_
  rintro e w4 ⟨rfl, O4⟩
  have H4 := Lib.hid (H3.out.trans O4); clear O4 H3
  go_wp2_with fail
  refine (regnew_ok 16 14 1048576 65535 w4 (by decide) (by decide) poolnew_16).mono ?_
  rintro e w5 ⟨r, sh, ph, mp, pl, rfl, O5, _⟩
  have H5 := Lib.hid (H4.out.trans O5); clear O5 H4
  go_wp2_with fail
  refine (awake18 w5).mono ?_
  rintro e w6 ⟨rfl, O6⟩
  have H6 := Lib.hid (H5.out.trans O6); clear O6 H5
  go_wp2_with fail
  go_ret
  exact ⟨rfl, H6.out⟩
end Go.Proofs.YtlipngdfhpaodaaGreat
