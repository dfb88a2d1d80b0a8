/- The walks of snap.holds at a counter. -/
import Derived.Test.YtiijgghholhcnaaGreatDoorChk
import Derived.Test.YtiijgghholhcnaaGreatDoorGrow
namespace Go.Proofs.YtiijgghholhcnaaGreatDoor
open Go.RowKit
set_option maxRecDepth 1000000
theorem run_tobits (x : Nat) (w : World) : Sem.run Tryz.prog (callFunc 84 #[.float .f64 x]) w = .ok (.value (.int .u64 x)) w := by kernel_rfl
theorem zero_x (w : World) : Calls Tryz.prog 96 #[.float .f64 0] w fun e w' => e = .returned (.bool false) ∧ w' = w := by
  have k := run_tobits 0
  go_enter Tryz.func96, Tryz.ntmps96
  go_wp2_with fail
  go_ret
  exact ⟨rfl, rfl⟩
theorem index_0 (b : Nat) (w : World) (h0 : w.cell? ⟨b, 0, none⟩ = some (.float .f64 0)) (h1 : w.cell? ⟨b, 1, none⟩ = some (.float .f64 0)) (h2 : w.cell? ⟨b, 2, none⟩ = some (.float .f64 0)) :
    Calls Tryz.prog 136 #[.slice (some ⟨b, 0, none⟩) 3 3, .func (Fn.func 96) #[] #[]] w fun e w' => e = .returned (.int .i64 (-1)) ∧ w' = w := by
  go_enter Tryz.func136, Tryz.ntmps136
  go_wp2_with fail
  refine wp_loop_rounds 4 ?_
  rw [rounds_succ]
  go_wp2_with fail
  refine (zero_x w).mono ?_
  rintro e w1 ⟨rfl, hw⟩; rw [hw]; clear hw w1
  go_wp2_with fail
  rw [rounds_succ]
  go_wp2_with fail
  refine (zero_x w).mono ?_
  rintro e w1 ⟨rfl, hw⟩; rw [hw]; clear hw w1
  go_wp2_with fail
  rw [rounds_succ]
  go_wp2_with fail
  refine (zero_x w).mono ?_
  rintro e w1 ⟨rfl, hw⟩; rw [hw]; clear hw w1
  go_wp2_with fail
  rw [rounds_succ]
  go_wp2_with fail
  go_ret
  exact ⟨rfl, rfl⟩
theorem contains_0 (b : Nat) (w : World) (h0 : w.cell? ⟨b, 0, none⟩ = some (.float .f64 0)) (h1 : w.cell? ⟨b, 1, none⟩ = some (.float .f64 0)) (h2 : w.cell? ⟨b, 2, none⟩ = some (.float .f64 0)) :
    Calls Tryz.prog 95 #[.slice (some ⟨b, 0, none⟩) 3 3, .func (Fn.func 96) #[] #[]] w fun e w' => e = .returned (.bool false) ∧ w' = w := by
  have K := Lib.hid (index_0 b w h0 h1 h2)
  clear h0 h1 h2
  go_enter Tryz.func95, Tryz.ntmps95
  go_wp2_with fail
  refine K.out.mono ?_
  rintro e w1 ⟨rfl, hw⟩; rw [hw]; clear hw w1
  go_wp2_with fail
  go_ret
  exact ⟨rfl, rfl⟩
theorem zeros_0 (b : Nat) (w : World) (h0 : w.cell? ⟨b, 0, none⟩ = some (.float .f64 0)) (h1 : w.cell? ⟨b, 1, none⟩ = some (.float .f64 0)) (h2 : w.cell? ⟨b, 2, none⟩ = some (.float .f64 0)) :
    Calls Tryz.prog 53 #[.slice (some ⟨b, 0, none⟩) 3 3] w fun e w' => e = .returned (.bool true) ∧ w' = w := by
  have K := Lib.hid (contains_0 b w h0 h1 h2)
  clear h0 h1 h2
  go_enter Tryz.func53, Tryz.ntmps53
  go_wp2_with fail
  refine K.out.mono ?_
  rintro e w1 ⟨rfl, hw⟩; rw [hw]; clear hw w1
  go_wp2_with fail
  go_ret
  exact ⟨rfl, rfl⟩
/-- a number of 128 bits -/
def intV (hi lo : Int) : Value := .agg #[.int .i64 hi, .int .u64 lo]
theorem compare_7 (w : World) : Calls Tryz.prog 97 #[intV 0 7, intV 0 0] w fun e w' => e = .returned (.int .i64 1) ∧ Only (fun _ => False) w w' := by
  unfold intV
  go_enter Tryz.func97, Tryz.ntmps97
  go_wp2_with fail
  go_ret
  exact ⟨rfl, ((Only.refl _ w).alloc _).alloc _⟩
theorem sign_7 (w : World) : Calls Tryz.prog 54 #[intV 0 7] w fun e w' => e = .returned (.int .i64 1) ∧ Only (fun _ => False) w w' := by
  have K := Lib.hid (fun w => compare_7 w)
  unfold intV at *
  go_enter Tryz.func54, Tryz.ntmps54
  go_wp2_with fail
  refine (K.out _).mono ?_
  rintro e w1 ⟨rfl, hO⟩
  have HO := Lib.hid (((Only.refl (fun _ => False) w).alloc _).trans hO); clear hO
  go_wp2_with fail
  go_ret
  exact ⟨rfl, HO.out⟩
theorem two_cell (w : World) (A : Obj) (c : Array Value) (t : TypeId) (i : Nat) : ((w.alloc A).alloc (.cells c t)).cell? ⟨w.heap.size + 1, i, none⟩ = c[i]? := by
  have h := blk_new (w.alloc A) (.cells c t)
  rw [show (w.alloc A).heap.size = w.heap.size + 1 from Array.size_push ..] at h
  exact blk_cell h i
/-- the counter "a" of 7 -/
def valA : Value := .agg #[.int .i64 1, .string ⟨#[97]⟩, .string ⟨#[]⟩, .slice none 0 0, .int .i64 0, .int .u64 7, .slice none 0 0, .int .u64 0, .float .f64 0, .float .f64 0, .float .f64 0]
theorem holds_a (w : World) : Calls Tryz.prog 27 #[.int .i64 1, valA] w fun e w' => e = .returned (.bool true) ∧ Only (fun _ => False) w w' := by
  unfold valA
  go_enter Tryz.func27, Tryz.ntmps27
  go_wp2_with fail
  refine (zeros_0 _ _ (by rw [two_cell]; rfl) (by rw [two_cell]; rfl) (by rw [two_cell]; rfl)).mono ?_
  rintro e w1 ⟨rfl, hw⟩; rw [hw]; clear hw w1
  go_wp2_with fail
  refine (sign_7 _).mono ?_
  rintro e w1 ⟨rfl, hO⟩
  have HO := Lib.hid ((((Only.refl (fun _ => False) w).alloc _).alloc _).trans hO); clear hO
  go_wp2_with fail
  go_ret
  exact ⟨rfl, HO.out⟩
end Go.Proofs.YtiijgghholhcnaaGreatDoor
