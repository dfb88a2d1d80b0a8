/- Parse, May and the closed run awake. -/
import Derived.Test.YthjfdhkahmlolaaGreatDoorJP10
namespace Go.Proofs.YthjfdhkahmlolaaGreatDoor
open Go.RowKit
set_option maxRecDepth 1000000
set_option maxHeartbeats 4000000
theorem parse_tenth (w : World) (hE : Env w) (hE2 : Env2 w) : Calls Tryz.prog 15 #[.string ⟨#[48, 46, 49]⟩] w fun en w' => en = .returned (.tuple #[.float .f64 4591870180066957722, .int .i64 0]) ∧ Only (fun _ => False) w w' := by
  have HE := Lib.hid hE; have HE2 := Lib.hid hE2; clear hE hE2
  go_enter Tryz.func15, Tryz.ntmps15
  go_wp2_with fail
  refine (pf_tenth _ HE2.out).mono ?_
  rintro en w1 ⟨rfl, hw⟩; rw [hw]; clear hw w1
  go_wp2_with fail
  refine (print_tenth w HE.out).mono ?_
  rintro en w1 ⟨rfl, hO⟩
  have HO := Lib.hid hO; clear hO
  go_wp2_with fail
  go_ret2
  exact ⟨rfl, HO.out⟩
theorem parse_one (w : World) (hE : Env w) (hE2 : Env2 w) : Calls Tryz.prog 15 #[.string ⟨#[49, 46, 48]⟩] w fun en w' => en = .returned (.tuple #[.float .f64 0, .int .i64 5]) ∧ Only (fun _ => False) w w' := by
  have HE := Lib.hid hE; have HE2 := Lib.hid hE2; clear hE hE2
  go_enter Tryz.func15, Tryz.ntmps15
  go_wp2_with fail
  refine (pf_one _ HE2.out).mono ?_
  rintro en w1 ⟨rfl, hw⟩; rw [hw]; clear hw w1
  go_wp2_with fail
  refine (print_one w HE.out).mono ?_
  rintro en w1 ⟨rfl, hO⟩
  have HO := Lib.hid hO; clear hO
  go_wp2_with fail
  go_ret2
  exact ⟨rfl, HO.out⟩
theorem run_frb_one (w : World) : Sem.run Tryz.prog (callFunc 10 #[.int .u64 4607182418800017408]) w = .ok (.value (.float .f64 4607182418800017408)) w := by kernel_rfl
theorem abs_one (w : World) : Calls Tryz.prog 28 #[.float .f64 4607182418800017408] w fun en w' => en = .returned (.float .f64 4607182418800017408) ∧ w' = w := by
  have k1 := run_tobits 4607182418800017408
  have k2 := run_frb_one
  have k3 : bits BinOp.andNot IntKind.u64 4607182418800017408 9223372036854775808 = 4607182418800017408 := by decide +kernel
  go_enter Tryz.func28, Tryz.ntmps28
  go_wp2_with fail
  go_ret
  exact ⟨rfl, rfl⟩
theorem may_one (w : World) : Calls Tryz.prog 13 #[.float .f64 4607182418800017408] w fun en w' => en = .returned (.bool true) ∧ w' = w := by
  go_enter Tryz.func13, Tryz.ntmps13
  go_wp2_with fail
  refine (abs_one w).mono ?_
  rintro en w1 ⟨rfl, hw⟩; rw [hw]; clear hw w1
  have z : (FloatKind.f64.format.order 4607182418800017408 8930638061075693568 == some Ordering.lt) = true := by decide +kernel
  go_wp2_with fail
  go_ret
  exact ⟨rfl, rfl⟩
theorem same_two (w : World) : Calls Tryz.prog 18 #[.float .f64 4611686018427387904, .float .f64 4611686018427387904] w fun en w' => en = .returned (.bool true) ∧ w' = w := by
  go_enter Tryz.func18, Tryz.ntmps18
  go_wp2_with fail
  refine (compare_calls 4611686018427387904 4611686018427387904 w).mono ?_
  rintro en w1 ⟨rfl, hw⟩; rw [hw]; clear hw w1
  rw [show fcmp 4611686018427387904 4611686018427387904 = 0 by decide +kernel]
  go_wp2_with fail
  go_ret
  exact ⟨rfl, rfl⟩
theorem awake_calls (w : World) (hE : Env w) (hE2 : Env2 w) : Calls Tryz.prog 9 #[] w fun en w' => en = .returned (.bool true) ∧ Only (fun _ => False) w w' := by
  have HE := Lib.hid hE; have HE2 := Lib.hid hE2; clear hE hE2
  go_enter Tryz.func9, Tryz.ntmps9
  go_wp2_with fail
  refine (parse_tenth w HE.out HE2.out).mono ?_
  rintro en w1 ⟨rfl, hO⟩
  have O1 := Lib.hid hO; clear hO
  go_wp2_with fail
  refine (parse_one w1 (HE.out.still O1.out (fun _ _ h => h)) (HE2.out.still O1.out)).mono ?_
  rintro en w2 ⟨rfl, hO⟩
  have O2 := Lib.hid (O1.out.trans hO); clear hO
  go_wp2_with fail
  refine (print_e21 w2 (HE.out.still O2.out (fun _ _ h => h))).mono ?_
  rintro en w3 ⟨rfl, hO⟩
  have O3 := Lib.hid (O2.out.trans hO); clear hO
  go_wp2_with fail
  refine (print_tenth w3 (HE.out.still O3.out (fun _ _ h => h))).mono ?_
  rintro en w4 ⟨rfl, hO⟩
  have O4 := Lib.hid (O3.out.trans hO); clear hO
  have z : (FloatKind.f64.format.order 4591870180066957722 4591870180066957722 == some Ordering.eq) = true := by decide +kernel
  go_wp2_with fail
  refine (compare_calls 4607182418800017408 4611686018427387904 w4).mono ?_
  rintro en w5 ⟨rfl, hw⟩; rw [hw]; clear hw w5
  rw [show fcmp 4607182418800017408 4611686018427387904 = -1 by decide +kernel]
  go_wp2_with fail
  refine (same_two w4).mono ?_
  rintro en w5 ⟨rfl, hw⟩; rw [hw]; clear hw w5
  go_wp2_with fail
  refine (may_one w4).mono ?_
  rintro en w5 ⟨rfl, hw⟩; rw [hw]; clear hw w5
  go_wp2_with fail
  go_ret
  exact ⟨rfl, O4.out⟩
end Go.Proofs.YthjfdhkahmlolaaGreatDoor

/- The law RealNames. -/
namespace Go.Proofs.YthjfdhkahmlolaaGreatDoor
open Go.RowKit
theorem names_calls (w : World) (hE : Env w) (hE2 : Env2 w) : Calls Tryz.prog 3 #[] w fun en w' => en = .returned (.bool true) ∧ Only (fun _ => False) w w' := by
  have K := Lib.hid (awake_calls w hE hE2); clear hE hE2
  go_enter Tryz.func3, Tryz.ntmps3
  go_wp2_with fail
  refine K.out.mono ?_
  rintro en w1 ⟨rfl, hO⟩
  have O1 := Lib.hid hO; clear hO
  go_wp2_with fail
  go_ret
  exact ⟨rfl, O1.out⟩
end Go.Proofs.YthjfdhkahmlolaaGreatDoor
