/- The walk of real.Compare. -/
import Derived.Test.YtlipngdfhpaodaaGreatPartc
namespace Go.Proofs.YtlipngdfhpaodaaGreat
open Go.RowKit

def fnan (x : Nat) : Bool := Ieee.double.order x x != some .eq
def flt (x y : Nat) : Bool := Ieee.double.order x y == some .lt
def fgt (x y : Nat) : Bool := Ieee.double.order x y == some .gt
theorem run_fneq (x : Nat) (w : World) : Sem.run Tryz.prog (binOp .neq 40 (.float .f64 x) (.float .f64 x)) w = .ok (.bool (fnan x)) w := by
  simp [binOp, Op.floatCmp, FloatKind.format, fnan]
theorem run_flt (x y : Nat) (w : World) : Sem.run Tryz.prog (binOp .lss 40 (.float .f64 x) (.float .f64 y)) w = .ok (.bool (flt x y)) w := by
  simp [binOp, Op.floatCmp, FloatKind.format, flt]
theorem run_fgt (x y : Nat) (w : World) : Sem.run Tryz.prog (binOp .gtr 40 (.float .f64 x) (.float .f64 y)) w = .ok (.bool (fgt x y)) w := by
  simp [binOp, Op.floatCmp, FloatKind.format, fgt]
theorem isnan_calls (x : Nat) (w : World) : Calls Tryz.prog 201 #[.float .f64 x] w fun e w' => e = .returned (.bool (fnan x)) ∧ w' = w := by
  have k := run_fneq x
  go_enter Tryz.func201, Tryz.ntmps201
  go_wp2_with fail
  go_ret
  exact ⟨rfl, rfl⟩
def fsg (x : Nat) : Bool := decide (wrap64 (x : Int) < 0)
theorem signbit_calls (x : Nat) (w : World) : Calls Tryz.prog 202 #[.float .f64 x] w fun e w' => e = .returned (.bool (fsg x)) ∧ w' = w := by
  have k := run_tobits x
  go_enter Tryz.func202, Tryz.ntmps202
  go_wp2_with fail
  go_ret
  exact ⟨rfl, rfl⟩
def cmpB (p q l g sa sb : Bool) : Int := if p && q then 0 else if p || l then -1 else if q || g then 1 else if sa == sb then 0 else if sa then -1 else 1
/-- how two floats stand -/
def fcmp (x y : Nat) : Int := cmpB (fnan x) (fnan y) (flt x y) (fgt x y) (fsg x) (fsg y)
set_option maxRecDepth 100000 in
set_option maxHeartbeats 4000000 in
theorem compare_calls (x y : Nat) (w : World) : Calls Tryz.prog 141 #[.float .f64 x, .float .f64 y] w fun e w' => e = .returned (.int .i64 (fcmp x y)) ∧ w' = w := by
  have K1 := Lib.hid (fun w => isnan_calls x w)
  have K2 := Lib.hid (fun w => isnan_calls y w)
  have K3 := Lib.hid (fun w => signbit_calls x w)
  have K4 := Lib.hid (fun w => signbit_calls y w)
  unfold fcmp
  have k1 : (FloatKind.f64.format.order x y == some Ordering.lt) = flt x y := rfl
  have k2 : (FloatKind.f64.format.order x y == some Ordering.gt) = fgt x y := rfl
  generalize fnan x = p at *
  generalize fnan y = q at *
  generalize flt x y = l at *
  generalize fgt x y = g at *
  generalize fsg x = sa at *
  generalize fsg y = sb at *
  go_enter Tryz.func141, Tryz.ntmps141
  go_wp2_with fail
  refine (K1.out _).mono ?_
  rintro e w1 ⟨rfl, rfl⟩
  go_wp2_with fail
  refine (K2.out _).mono ?_
  rintro e w1 ⟨rfl, rfl⟩
  cases p <;> cases q <;> cases l <;> cases g <;> cases sa <;> cases sb <;> (go_wp2_with (first | (refine (K3.out _).mono ?_; rintro e w1 ⟨rfl, rfl⟩) | (refine (K4.out _).mono ?_; rintro e w1 ⟨rfl, rfl⟩)); go_ret; exact ⟨rfl, rfl⟩)
end Go.Proofs.YtlipngdfhpaodaaGreat
