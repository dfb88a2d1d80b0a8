/- real.Compare, IsNaN, IsInf, Signbit: the walks (turned from the Slab seat). -/
import Derived.Test.YthjfdhkahmlolaaGreatDoorFmt
namespace Go.Proofs.YthjfdhkahmlolaaGreatDoor
open Go.RowKit
theorem run_tobits (x : Nat) (w : World) : Sem.run Tryz.prog (callFunc 19 #[.float .f64 x]) w = .ok (.value (.int .u64 (x : Nat))) w := by kernel_rfl
theorem run_abs (x : Nat) (w : World) : Sem.run Tryz.prog (callFunc 10 #[.int .u64 (x : Nat)]) w = .ok (.value (.float .f64 x)) w := by kernel_rfl

def fnan (x : Nat) : Bool := Ieee.double.order x x != some .eq
def flt (x y : Nat) : Bool := Ieee.double.order x y == some .lt
def fgt (x y : Nat) : Bool := Ieee.double.order x y == some .gt
theorem run_fneq (x : Nat) (w : World) : Sem.run Tryz.prog (binOp .neq 25 (.float .f64 x) (.float .f64 x)) w = .ok (.bool (fnan x)) w := by
  simp [binOp, Op.floatCmp, FloatKind.format, fnan]
theorem run_flt (x y : Nat) (w : World) : Sem.run Tryz.prog (binOp .lss 25 (.float .f64 x) (.float .f64 y)) w = .ok (.bool (flt x y)) w := by
  simp [binOp, Op.floatCmp, FloatKind.format, flt]
theorem run_fgt (x y : Nat) (w : World) : Sem.run Tryz.prog (binOp .gtr 25 (.float .f64 x) (.float .f64 y)) w = .ok (.bool (fgt x y)) w := by
  simp [binOp, Op.floatCmp, FloatKind.format, fgt]
theorem isnan_calls (x : Nat) (w : World) : Calls Tryz.prog 22 #[.float .f64 x] w fun e w' => e = .returned (.bool (fnan x)) ∧ w' = w := by
  have k := run_fneq x
  go_enter Tryz.func22, Tryz.ntmps22
  go_wp2_with fail
  go_ret
  exact ⟨rfl, rfl⟩
def fsg (x : Nat) : Bool := decide (wrap64 (x : Int) < 0)
theorem signbit_calls (x : Nat) (w : World) : Calls Tryz.prog 24 #[.float .f64 x] w fun e w' => e = .returned (.bool (fsg x)) ∧ w' = w := by
  have k := run_tobits x
  go_enter Tryz.func24, Tryz.ntmps24
  go_wp2_with fail
  go_ret
  exact ⟨rfl, rfl⟩
def cmpB (p q l g sa sb : Bool) : Int := if p && q then 0 else if p || l then -1 else if q || g then 1 else if sa == sb then 0 else if sa then -1 else 1
/-- how two floats stand -/
def fcmp (x y : Nat) : Int := cmpB (fnan x) (fnan y) (flt x y) (fgt x y) (fsg x) (fsg y)
set_option maxRecDepth 100000 in
set_option maxHeartbeats 4000000 in
theorem compare_calls (x y : Nat) (w : World) : Calls Tryz.prog 21 #[.float .f64 x, .float .f64 y] w fun e w' => e = .returned (.int .i64 (fcmp x y)) ∧ w' = w := by
  have K1 := Lib.hid (fun w => isnan_calls x w)
  have K2 := Lib.hid (fun w => isnan_calls y w)
  have K3 := Lib.hid (fun w => signbit_calls x w)
  have K4 := Lib.hid (fun w => signbit_calls y w)
  unfold fcmp
  have k1 : (FloatKind.f64.format.order x y == some Ordering.lt) = flt x y := rfl
  have k2 : (FloatKind.f64.format.order x y == some Ordering.gt) = fgt x y := rfl
  generalize fnan x = p at *
  generalize fnan y = q at *
  generalize flt x y = l at *
  generalize fgt x y = g at *
  generalize fsg x = sa at *
  generalize fsg y = sb at *
  go_enter Tryz.func21, Tryz.ntmps21
  go_wp2_with fail
  refine (K1.out _).mono ?_
  rintro e w1 ⟨rfl, rfl⟩
  go_wp2_with fail
  refine (K2.out _).mono ?_
  rintro e w1 ⟨rfl, rfl⟩
  cases p <;> cases q <;> cases l <;> cases g <;> cases sa <;> cases sb <;> (go_wp2_with (first | (refine (K3.out _).mono ?_; rintro e w1 ⟨rfl, rfl⟩) | (refine (K4.out _).mono ?_; rintro e w1 ⟨rfl, rfl⟩)); go_ret; exact ⟨rfl, rfl⟩)
theorem inf_p (x : Nat) (w : World) : Calls Tryz.prog 23 #[.float .f64 x, .int .i64 1] w fun en w' => en = .returned (.bool (fgt x 9218868437227405311)) ∧ w' = w := by
  go_enter Tryz.func23, Tryz.ntmps23
  go_wp2_with fail
  go_ret
  exact ⟨rfl, rfl⟩
def fnegf (x : Nat) : Nat := Op.negFloat .f64 x
theorem run_fneg (x : Nat) (w : World) : Sem.run Tryz.prog (Op.unary .neg (.float .f64 x)) w = .ok (.float .f64 (fnegf x)) w := rfl
theorem inf_m (x : Nat) (w : World) : Calls Tryz.prog 23 #[.float .f64 x, .int .i64 (-1)] w fun en w' => en = .returned (.bool (fgt (fnegf x) 9218868437227405311)) ∧ w' = w := by
  have k := run_fneg x
  go_enter Tryz.func23, Tryz.ntmps23
  go_wp2_with fail
  go_ret
  exact ⟨rfl, rfl⟩
end Go.Proofs.YthjfdhkahmlolaaGreatDoor
