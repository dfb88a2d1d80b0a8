/- The walks of snap.zeros and snap.finite at any three floats. -/
import Derived.Test.YtiijgghholhcnaaGreatDoorJL15
import Derived.Test.YtiijgghholhcnaaGreatDoorJL20
import Derived.Laws.BitsAllLaws
namespace Go.Proofs.YtiijgghholhcnaaGreatDoor
open Go.RowKit
set_option maxRecDepth 1000000
/-- the first of three that is so, from number i on -/
def idx3 (p0 p1 p2 : Bool) : Int := if p0 then 0 else if p1 then 1 else if p2 then 2 else -1
set_option maxHeartbeats 1600000 in
theorem index3_96 (b x0 x1 x2 : Nat) (p0 p1 p2 : Bool) (w : World) (h0 : w.cell? ⟨b, 0, none⟩ = some (.float .f64 x0)) (h1 : w.cell? ⟨b, 1, none⟩ = some (.float .f64 x1)) (h2 : w.cell? ⟨b, 2, none⟩ = some (.float .f64 x2))
    (k0 : Calls Tryz.prog 96 #[.float .f64 x0] w fun e w' => e = .returned (.bool p0) ∧ w' = w) (k1 : Calls Tryz.prog 96 #[.float .f64 x1] w fun e w' => e = .returned (.bool p1) ∧ w' = w) (k2 : Calls Tryz.prog 96 #[.float .f64 x2] w fun e w' => e = .returned (.bool p2) ∧ w' = w) :
    Calls Tryz.prog 136 #[.slice (some ⟨b, 0, none⟩) 3 3, .func (Fn.func 96) #[] #[]] w fun e w' => e = .returned (.int .i64 (idx3 p0 p1 p2)) ∧ w' = w := by
  have K0 := Lib.hid k0; have K1 := Lib.hid k1; have K2 := Lib.hid k2
  clear k0 k1 k2
  go_enter Tryz.func136, Tryz.ntmps136
  go_wp2_with fail
  refine wp_loop_rounds 4 ?_
  rw [rounds_succ]
  go_wp2_with fail
  refine K0.out.mono ?_
  rintro e w1 ⟨rfl, hw⟩; rw [hw]; clear hw w1
  rcases p0
  case true =>
    go_wp2_with fail
    go_ret
    exact ⟨rfl, rfl⟩
  go_wp2_with fail
  rw [rounds_succ]
  go_wp2_with fail
  refine K1.out.mono ?_
  rintro e w1 ⟨rfl, hw⟩; rw [hw]; clear hw w1
  rcases p1
  case true =>
    go_wp2_with fail
    go_ret
    exact ⟨rfl, rfl⟩
  go_wp2_with fail
  rw [rounds_succ]
  go_wp2_with fail
  refine K2.out.mono ?_
  rintro e w1 ⟨rfl, hw⟩; rw [hw]; clear hw w1
  rcases p2
  case true =>
    go_wp2_with fail
    go_ret
    exact ⟨rfl, rfl⟩
  go_wp2_with fail
  rw [rounds_succ]
  go_wp2_with fail
  go_ret
  exact ⟨rfl, rfl⟩
theorem contains3_96 (b x0 x1 x2 : Nat) (p0 p1 p2 : Bool) (w : World) (h0 : w.cell? ⟨b, 0, none⟩ = some (.float .f64 x0)) (h1 : w.cell? ⟨b, 1, none⟩ = some (.float .f64 x1)) (h2 : w.cell? ⟨b, 2, none⟩ = some (.float .f64 x2))
    (k0 : Calls Tryz.prog 96 #[.float .f64 x0] w fun e w' => e = .returned (.bool p0) ∧ w' = w) (k1 : Calls Tryz.prog 96 #[.float .f64 x1] w fun e w' => e = .returned (.bool p1) ∧ w' = w) (k2 : Calls Tryz.prog 96 #[.float .f64 x2] w fun e w' => e = .returned (.bool p2) ∧ w' = w) :
    Calls Tryz.prog 95 #[.slice (some ⟨b, 0, none⟩) 3 3, .func (Fn.func 96) #[] #[]] w fun e w' => e = .returned (.bool (p0 || p1 || p2)) ∧ w' = w := by
  have K := Lib.hid (index3_96 b x0 x1 x2 p0 p1 p2 w h0 h1 h2 k0 k1 k2)
  clear h0 h1 h2 k0 k1 k2
  have hd : decide ((0 : Int) ≤ idx3 p0 p1 p2) = (p0 || p1 || p2) := by cases p0 <;> cases p1 <;> cases p2 <;> rfl
  generalize idx3 p0 p1 p2 = D at *
  generalize (p0 || p1 || p2) = E at *
  go_enter Tryz.func95, Tryz.ntmps95
  go_wp2_with fail
  refine K.out.mono ?_
  rintro e w1 ⟨rfl, hw⟩; rw [hw]; clear hw w1
  go_wp2_with fail
  go_ret
  first
    | exact ⟨rfl, rfl⟩
    | (refine ⟨?_, rfl⟩; rw [← hd]; rfl)
set_option maxHeartbeats 1600000 in
theorem index3_103 (b x0 x1 x2 : Nat) (p0 p1 p2 : Bool) (w : World) (h0 : w.cell? ⟨b, 0, none⟩ = some (.float .f64 x0)) (h1 : w.cell? ⟨b, 1, none⟩ = some (.float .f64 x1)) (h2 : w.cell? ⟨b, 2, none⟩ = some (.float .f64 x2))
    (k0 : Calls Tryz.prog 103 #[.float .f64 x0] w fun e w' => e = .returned (.bool p0) ∧ w' = w) (k1 : Calls Tryz.prog 103 #[.float .f64 x1] w fun e w' => e = .returned (.bool p1) ∧ w' = w) (k2 : Calls Tryz.prog 103 #[.float .f64 x2] w fun e w' => e = .returned (.bool p2) ∧ w' = w) :
    Calls Tryz.prog 136 #[.slice (some ⟨b, 0, none⟩) 3 3, .func (Fn.func 103) #[] #[]] w fun e w' => e = .returned (.int .i64 (idx3 p0 p1 p2)) ∧ w' = w := by
  have K0 := Lib.hid k0; have K1 := Lib.hid k1; have K2 := Lib.hid k2
  clear k0 k1 k2
  go_enter Tryz.func136, Tryz.ntmps136
  go_wp2_with fail
  refine wp_loop_rounds 4 ?_
  rw [rounds_succ]
  go_wp2_with fail
  refine K0.out.mono ?_
  rintro e w1 ⟨rfl, hw⟩; rw [hw]; clear hw w1
  rcases p0
  case true =>
    go_wp2_with fail
    go_ret
    exact ⟨rfl, rfl⟩
  go_wp2_with fail
  rw [rounds_succ]
  go_wp2_with fail
  refine K1.out.mono ?_
  rintro e w1 ⟨rfl, hw⟩; rw [hw]; clear hw w1
  rcases p1
  case true =>
    go_wp2_with fail
    go_ret
    exact ⟨rfl, rfl⟩
  go_wp2_with fail
  rw [rounds_succ]
  go_wp2_with fail
  refine K2.out.mono ?_
  rintro e w1 ⟨rfl, hw⟩; rw [hw]; clear hw w1
  rcases p2
  case true =>
    go_wp2_with fail
    go_ret
    exact ⟨rfl, rfl⟩
  go_wp2_with fail
  rw [rounds_succ]
  go_wp2_with fail
  go_ret
  exact ⟨rfl, rfl⟩
theorem contains3_103 (b x0 x1 x2 : Nat) (p0 p1 p2 : Bool) (w : World) (h0 : w.cell? ⟨b, 0, none⟩ = some (.float .f64 x0)) (h1 : w.cell? ⟨b, 1, none⟩ = some (.float .f64 x1)) (h2 : w.cell? ⟨b, 2, none⟩ = some (.float .f64 x2))
    (k0 : Calls Tryz.prog 103 #[.float .f64 x0] w fun e w' => e = .returned (.bool p0) ∧ w' = w) (k1 : Calls Tryz.prog 103 #[.float .f64 x1] w fun e w' => e = .returned (.bool p1) ∧ w' = w) (k2 : Calls Tryz.prog 103 #[.float .f64 x2] w fun e w' => e = .returned (.bool p2) ∧ w' = w) :
    Calls Tryz.prog 95 #[.slice (some ⟨b, 0, none⟩) 3 3, .func (Fn.func 103) #[] #[]] w fun e w' => e = .returned (.bool (p0 || p1 || p2)) ∧ w' = w := by
  have K := Lib.hid (index3_103 b x0 x1 x2 p0 p1 p2 w h0 h1 h2 k0 k1 k2)
  clear h0 h1 h2 k0 k1 k2
  have hd : decide ((0 : Int) ≤ idx3 p0 p1 p2) = (p0 || p1 || p2) := by cases p0 <;> cases p1 <;> cases p2 <;> rfl
  generalize idx3 p0 p1 p2 = D at *
  generalize (p0 || p1 || p2) = E at *
  go_enter Tryz.func95, Tryz.ntmps95
  go_wp2_with fail
  refine K.out.mono ?_
  rintro e w1 ⟨rfl, hw⟩; rw [hw]; clear hw w1
  go_wp2_with fail
  go_ret
  first
    | exact ⟨rfl, rfl⟩
    | (refine ⟨?_, rfl⟩; rw [← hd]; rfl)
theorem zeroq_calls (x : Nat) (w : World) : Calls Tryz.prog 96 #[.float .f64 x] w fun e w' => e = .returned (.bool (decide (x ≠ 0))) ∧ w' = w := by
  have k := Re.run_tobits x
  by_cases h : x = 0
  · subst h
    go_enter Tryz.func96, Tryz.ntmps96
    go_wp2_with fail
    go_ret
    exact ⟨rfl, rfl⟩
  · have q : ((x : Int) != 0) = true := by simp; omega
    rw [show decide (x ≠ 0) = true from decide_eq_true h]
    go_enter Tryz.func96, Tryz.ntmps96
    go_wp2_with fail
    go_ret
    first
      | exact ⟨rfl, rfl⟩
      | (refine ⟨?_, rfl⟩; simp [h])
/-- three floats that are 0, without a sign -/
def zerosB (x0 x1 x2 : Nat) : Bool := !(decide (x0 ≠ 0) || decide (x1 ≠ 0) || decide (x2 ≠ 0))
theorem zeros_calls (b x0 x1 x2 : Nat) (w : World) (h0 : w.cell? ⟨b, 0, none⟩ = some (.float .f64 x0)) (h1 : w.cell? ⟨b, 1, none⟩ = some (.float .f64 x1)) (h2 : w.cell? ⟨b, 2, none⟩ = some (.float .f64 x2)) :
    Calls Tryz.prog 53 #[.slice (some ⟨b, 0, none⟩) 3 3] w fun e w' => e = .returned (.bool (zerosB x0 x1 x2)) ∧ w' = w := by
  have K := Lib.hid (contains3_96 b x0 x1 x2 _ _ _ w h0 h1 h2 (zeroq_calls x0 w) (zeroq_calls x1 w) (zeroq_calls x2 w))
  clear h0 h1 h2
  unfold zerosB
  generalize (decide (x0 ≠ 0) || decide (x1 ≠ 0) || decide (x2 ≠ 0)) = E at *
  go_enter Tryz.func53, Tryz.ntmps53
  go_wp2_with fail
  refine K.out.mono ?_
  rintro e w1 ⟨rfl, hw⟩; rw [hw]; clear hw w1
  go_wp2_with fail
  go_ret
  exact ⟨rfl, rfl⟩
end Go.Proofs.YtiijgghholhcnaaGreatDoor

/- The walk of snap.finite at any three floats. -/
namespace Go.Proofs.YtiijgghholhcnaaGreatDoor
open Go.RowKit
set_option maxRecDepth 1000000
theorem andn_63 (x : Nat) (hx : x < 18446744073709551616) : bits BinOp.andNot IntKind.u64 (x : Int) 9223372036854775808 = ((x % 9223372036854775808 : Nat) : Int) := by
  have h := u64_andNot_nat x 9223372036854775808 hx (by decide)
  have e : x &&& (18446744073709551615 - 9223372036854775808) = x % 9223372036854775808 := Nat.and_two_pow_sub_one_eq_mod x 63
  rw [e] at h
  exact h
theorem run_andn (x : Nat) (w : World) (hx : x < 18446744073709551616) : Sem.run Tryz.prog (binOp .andNot 24 (.int .u64 (x : Int)) (.int .u64 9223372036854775808)) w = .ok (.int .u64 ((x % 9223372036854775808 : Nat) : Int)) w := by
  have h := andn_63 x hx
  generalize ((x % 9223372036854775808 : Nat) : Int) = y at *
  go_simp
theorem abs_calls (x : Nat) (w : World) (hx : x < 18446744073709551616) : Calls Tryz.prog 140 #[.float .f64 x] w fun e w' => e = .returned (.float .f64 (x % 9223372036854775808)) ∧ w' = w := by
  have k1 := Re.run_tobits x
  have k2 := Re.run_abs (x % 9223372036854775808)
  have k3 := fun w => run_andn x w hx
  have k4 := andn_63 x hx
  generalize x % 9223372036854775808 = y at *
  go_enter Tryz.func140, Tryz.ntmps140
  go_wp2_with fail
  go_ret
  exact ⟨rfl, rfl⟩
/-- neither a NaN nor infinite -/
def infq (x : Nat) : Bool := Re.fgt (x % 9223372036854775808) 9218868437227405311
theorem inf_0 (x : Nat) (w : World) (hx : x < 18446744073709551616) : Calls Tryz.prog 105 #[.float .f64 x, .int .i64 0] w fun en w' => en = .returned (.bool (infq x)) ∧ w' = w := by
  have K := Lib.hid (fun w => abs_calls x w hx)
  unfold infq
  generalize x % 9223372036854775808 = y at *
  go_enter Tryz.func105, Tryz.ntmps105
  go_wp2_with fail
  refine (K.out _).mono ?_
  rintro e w1 ⟨rfl, hw⟩; rw [hw]; clear hw w1
  go_wp2_with fail
  go_ret
  exact ⟨rfl, rfl⟩
theorem finq_calls (x : Nat) (w : World) (hx : x < 18446744073709551616) : Calls Tryz.prog 103 #[.float .f64 x] w fun e w' => e = .returned (.bool (Re.fnan x || infq x)) ∧ w' = w := by
  have K1 := Lib.hid (fun w => Re.isnan_calls x w)
  have K2 := Lib.hid (fun w => inf_0 x w hx)
  generalize Re.fnan x = a at *
  generalize infq x = b at *
  go_enter Tryz.func103, Tryz.ntmps103
  go_wp2_with fail
  refine (K1.out _).mono ?_
  rintro e w1 ⟨rfl, hw⟩; rw [hw]; clear hw w1
  rcases a
  · go_wp2_with fail
    refine (K2.out _).mono ?_
    rintro e w1 ⟨rfl, hw⟩; rw [hw]; clear hw w1
    go_wp2_with fail
    go_ret
    exact ⟨rfl, rfl⟩
  · go_wp2_with fail
    go_ret
    exact ⟨rfl, rfl⟩
def finiteB (x0 x1 x2 : Nat) : Bool := !((Re.fnan x0 || infq x0) || (Re.fnan x1 || infq x1) || (Re.fnan x2 || infq x2))
theorem finite_calls (b x0 x1 x2 : Nat) (w : World) (g0 : x0 < 18446744073709551616) (g1 : x1 < 18446744073709551616) (g2 : x2 < 18446744073709551616) (h0 : w.cell? ⟨b, 0, none⟩ = some (.float .f64 x0)) (h1 : w.cell? ⟨b, 1, none⟩ = some (.float .f64 x1)) (h2 : w.cell? ⟨b, 2, none⟩ = some (.float .f64 x2)) :
    Calls Tryz.prog 56 #[.slice (some ⟨b, 0, none⟩) 3 3] w fun e w' => e = .returned (.bool (finiteB x0 x1 x2)) ∧ w' = w := by
  have K := Lib.hid (contains3_103 b x0 x1 x2 _ _ _ w h0 h1 h2 (finq_calls x0 w g0) (finq_calls x1 w g1) (finq_calls x2 w g2))
  clear h0 h1 h2
  unfold finiteB
  generalize ((Re.fnan x0 || infq x0) || (Re.fnan x1 || infq x1) || (Re.fnan x2 || infq x2)) = E at *
  go_enter Tryz.func56, Tryz.ntmps56
  go_wp2_with fail
  refine K.out.mono ?_
  rintro e w1 ⟨rfl, hw⟩; rw [hw]; clear hw w1
  go_wp2_with fail
  go_ret
  exact ⟨rfl, rfl⟩
end Go.Proofs.YtiijgghholhcnaaGreatDoor
