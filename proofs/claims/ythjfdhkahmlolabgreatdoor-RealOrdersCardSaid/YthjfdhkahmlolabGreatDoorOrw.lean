/- The law RealOrders. -/
import Derived.Test.YthjfdhkahmlolabGreatDoorOrd
namespace Go.Proofs.YthjfdhkahmlolabGreatDoor
open Go.RowKit
theorem cmpR_anti (a b : Nat) : cmpR b a = - cmpR a b := by unfold cmpR; repeat' split <;> omega
theorem flt_lt {x y : Nat} (hx : x < 18446744073709551616) (hy : y < 18446744073709551616) (h : flt x y = true) : rk x < rk y := by
  rw [flt_eq] at h
  simp only [Bool.and_eq_true, Bool.not_eq_true', decide_eq_true_eq] at h
  obtain ⟨⟨h1, h2⟩, h3⟩ := h
  rcases rk_cases x hx with ⟨a1, a2⟩ | ⟨a1, a2, a3, a4, a5⟩ | ⟨a1, a2, a3, a4⟩ <;> rcases rk_cases y hy with ⟨b1, b2⟩ | ⟨b1, b2, b3, b4, b5⟩ | ⟨b1, b2, b3, b4⟩ <;> simp_all <;> omega
theorem fgt_lt {x y : Nat} (hx : x < 18446744073709551616) (hy : y < 18446744073709551616) (h : fgt x y = true) : rk y < rk x := by
  rw [fgt_eq] at h
  simp only [Bool.and_eq_true, Bool.not_eq_true', decide_eq_true_eq] at h
  obtain ⟨⟨h1, h2⟩, h3⟩ := h
  rcases rk_cases x hx with ⟨a1, a2⟩ | ⟨a1, a2, a3, a4, a5⟩ | ⟨a1, a2, a3, a4⟩ <;> rcases rk_cases y hy with ⟨b1, b2⟩ | ⟨b1, b2, b3, b4, b5⟩ | ⟨b1, b2, b3, b4⟩ <;> simp_all <;> omega
theorem same_calls (x y : Nat) (w : World) : Calls Tryz.prog 8 #[.float .f64 x, .float .f64 y] w fun e w' => e = .returned (.bool (fcmp x y == 0)) ∧ w' = w := by
  have K := Lib.hid (compare_calls x y w)
  go_enter Tryz.func8, Tryz.ntmps8
  go_wp2_with fail
  refine K.out.mono ?_
  rintro e w1 ⟨rfl, hw⟩; rw [hw]; clear hw w1
  go_wp2_with fail
  go_ret
  exact ⟨rfl, rfl⟩
/-- three numbers as they stand -/
def Tri (c1 c2 c3 : Int) (l g : Bool) : Prop := (c1 = -1 ∨ c1 = 0 ∨ c1 = 1) ∧ (c2 = -1 ∨ c2 = 0 ∨ c2 = 1) ∧ (c3 = -1 ∨ c3 = 0 ∨ c3 = 1) ∧ (c1 ≤ 0 → c2 ≤ 0 → c3 ≤ 0) ∧ (l = true → c1 = -1) ∧ (g = true → c1 = 1)
theorem tri (x y z : Nat) (hx : x < 18446744073709551616) (hy : y < 18446744073709551616) (_hz : z < 18446744073709551616) : Tri (cmpR (rk x) (rk y)) (cmpR (rk y) (rk z)) (cmpR (rk x) (rk z)) (flt x y) (fgt x y) := by
  have k1 := @flt_lt x y hx hy
  have k2 := @fgt_lt x y hx hy
  generalize rk x = a at *
  generalize rk y = b at *
  generalize rk z = c at *
  generalize flt x y = l at *
  generalize fgt x y = g at *
  unfold Tri cmpR
  refine ⟨?_, ?_, ?_, ?_, fun h => ?_, fun h => ?_⟩
  · (repeat' split) <;> simp
  · (repeat' split) <;> simp
  · (repeat' split) <;> simp
  · (repeat' split) <;> omega
  · rw [if_pos (k1 h)]
  · have := k2 h; rw [if_neg (by omega), if_pos this]
set_option maxRecDepth 100000 in
set_option maxHeartbeats 4000000 in
theorem orders_calls (x y z : Nat) (w : World) (hx : x < 18446744073709551616) (hy : y < 18446744073709551616) (hz : z < 18446744073709551616) (hE : Env w) (hE2 : Env2 w) :
    Calls Tryz.prog 3 #[.int .u64 (x : Nat), .int .u64 (y : Nat), .int .u64 (z : Nat)] w fun en w' => en = .returned (.bool true) ∧ Only (fun _ => False) w w' := by
  have KA := Lib.hid (awake_calls w hE hE2)
  have T := tri x y z hx hy hz
  have f := run_abs
  have C1 : Hid (∀ w, Calls Tryz.prog 6 #[.float .f64 x, .float .f64 y] w fun e w' => e = .returned (.int .i64 (cmpR (rk x) (rk y))) ∧ w' = w) := Lib.hid (fun w => by have := compare_calls x y w; rwa [fcmp_rk x y hx hy] at this)
  have C2 : Hid (∀ w, Calls Tryz.prog 6 #[.float .f64 y, .float .f64 x] w fun e w' => e = .returned (.int .i64 (- cmpR (rk x) (rk y))) ∧ w' = w) := Lib.hid (fun w => by have := compare_calls y x w; rwa [fcmp_rk y x hy hx, cmpR_anti] at this)
  have C3 : Hid (∀ w, Calls Tryz.prog 6 #[.float .f64 y, .float .f64 z] w fun e w' => e = .returned (.int .i64 (cmpR (rk y) (rk z))) ∧ w' = w) := Lib.hid (fun w => by have := compare_calls y z w; rwa [fcmp_rk y z hy hz] at this)
  have C4 : Hid (∀ w, Calls Tryz.prog 6 #[.float .f64 x, .float .f64 z] w fun e w' => e = .returned (.int .i64 (cmpR (rk x) (rk z))) ∧ w' = w) := Lib.hid (fun w => by have := compare_calls x z w; rwa [fcmp_rk x z hx hz] at this)
  have C5 : Hid (∀ w, Calls Tryz.prog 7 #[.float .f64 x, .float .f64 y] w fun e w' => e = .returned (.int .i64 (cmpR (rk x) (rk y))) ∧ w' = w) := Lib.hid (fun w => rcmp_calls x y w hx hy)
  have C6 : Hid (∀ w, Calls Tryz.prog 8 #[.float .f64 x, .float .f64 y] w fun e w' => e = .returned (.bool (cmpR (rk x) (rk y) == 0)) ∧ w' = w) := Lib.hid (fun w => by have := same_calls x y w; rwa [fcmp_rk x y hx hy] at this)
  have k1 : (FloatKind.f64.format.order x y == some Ordering.lt) = flt x y := rfl
  have k2 : (FloatKind.f64.format.order x y == some Ordering.gt) = fgt x y := rfl
  clear hx hy hz hE hE2
  generalize cmpR (rk x) (rk y) = c1 at *
  generalize cmpR (rk y) (rk z) = c2 at *
  generalize cmpR (rk x) (rk z) = c3 at *
  generalize flt x y = l at *
  generalize fgt x y = g at *
  obtain ⟨t1, t2, t3, t4, t5, t6⟩ := T
  go_enter Tryz.func3, Tryz.ntmps3
  go_wp2_with fail
  refine KA.out.mono ?_
  rintro en w1 ⟨rfl, hO⟩
  have O1 := Lib.hid hO; clear hO
  clear KA
  rcases t1 with rfl | rfl | rfl <;> rcases t2 with rfl | rfl | rfl <;> rcases t3 with rfl | rfl | rfl <;> cases l <;> cases g <;> first
    | (exfalso; simp at t4 t5 t6; done)
    | (clear t4 t5 t6; go_wp2_with (first
        | ((with_reducible refine (C1.out _).mono ?_); rintro en w2 ⟨rfl, rfl⟩)
        | ((with_reducible refine (C2.out _).mono ?_); rintro en w2 ⟨rfl, rfl⟩)
        | ((with_reducible refine (C3.out _).mono ?_); rintro en w2 ⟨rfl, rfl⟩)
        | ((with_reducible refine (C4.out _).mono ?_); rintro en w2 ⟨rfl, rfl⟩)
        | ((with_reducible refine (C5.out _).mono ?_); rintro en w2 ⟨rfl, rfl⟩)
        | ((with_reducible refine (C6.out _).mono ?_); rintro en w2 ⟨rfl, rfl⟩))
       go_ret
       exact ⟨rfl, O1.out⟩)
end Go.Proofs.YthjfdhkahmlolabGreatDoor
