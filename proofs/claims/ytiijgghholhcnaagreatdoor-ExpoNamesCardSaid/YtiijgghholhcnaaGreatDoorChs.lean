/- The walks of snap.Check at the two snapshots. -/
import Derived.Test.YtiijgghholhcnaaGreatDoorHol
namespace Go.Proofs.YtiijgghholhcnaaGreatDoor
open Go.RowKit
set_option maxRecDepth 1000000
def cellsA : Array Value := #[.int .i64 1, .string ⟨#[97]⟩, .string ⟨#[]⟩, .slice none 0 0, .int .i64 0, .int .u64 7, .slice none 0 0, .int .u64 0, .float .f64 0, .float .f64 0, .float .f64 0]
def snapA (b : Nat) : Value := .agg #[.int .i64 1, .slice (some ⟨b, 0, none⟩) 1 1, .int .u64 0]
theorem run_stf (a : Addr) (x : Nat) (w : World) : (store a (.float .f64 x)).run Tryz.prog w = stored Tryz.prog w a (.float .f64 x) .plain := run_store Tryz.prog w a _ _ rfl
theorem check_e (w : World) : Calls Tryz.prog 14 #[.agg #[.int .i64 0, .slice none 0 0, .int .u64 0]] w fun e w' => e = .returned (.tuple #[.int .i64 1, .int .i64 0]) ∧ Only (fun _ => False) w w' := by
  go_enter Tryz.func14, Tryz.ntmps14
  go_wp2_with fail
  go_ret2
  exact ⟨rfl, (Only.refl _ w).alloc _⟩
theorem check_s (b : Nat) (w : World) (hb : w.heap[b]? = some (.cells cellsA 42)) : Calls Tryz.prog 14 #[snapA b] w fun e w' => e = .returned (.tuple #[.int .i64 0, .int .i64 0]) ∧ Only (fun _ => False) w w' := by
  have K1 := Lib.hid (fun w => check_c w)
  have K2 := Lib.hid (fun w => holds_a w)
  have ks1 := run_stf
  unfold cellsA at hb
  unfold descC at K1
  unfold valA at K2
  unfold snapA
  go_enter Tryz.func14, Tryz.ntmps14
  go_wp2_with fail
  have hO := (Only.refl (fun _ => False) w).alloc (.cells #[.int .i64 1, .slice (some ⟨b, 0, none⟩) 1 1, .int .u64 0] 26)
  have hb1 := hO.blk hb (by simp)
  have hs := blk_new w (.cells #[.int .i64 1, .slice (some ⟨b, 0, none⟩) 1 1, .int .u64 0] 26)
  generalize w.alloc (.cells #[.int .i64 1, .slice (some ⟨b, 0, none⟩) 1 1, .int .u64 0] 26) = w1 at *
  have HO := Lib.hid hO; clear hO hb
  have c0 : w1.cell? ⟨w.heap.size, 0, none⟩ = some (.int .i64 1) := by rw [blk_cell hs]; rfl
  have e0 : w1.cell? ⟨b, 0, none⟩ = some (.int .i64 1) := by rw [blk_cell hb1]; rfl
  have e1 : w1.cell? ⟨b, 1, none⟩ = some (.string ⟨#[97]⟩) := by rw [blk_cell hb1]; rfl
  have e2 : w1.cell? ⟨b, 2, none⟩ = some (.string ⟨#[]⟩) := by rw [blk_cell hb1]; rfl
  have e3 : w1.cell? ⟨b, 3, none⟩ = some (.slice none 0 0) := by rw [blk_cell hb1]; rfl
  have e4 : w1.cell? ⟨b, 4, none⟩ = some (.int .i64 0) := by rw [blk_cell hb1]; rfl
  have e5 : w1.cell? ⟨b, 5, none⟩ = some (.int .u64 7) := by rw [blk_cell hb1]; rfl
  have e6 : w1.cell? ⟨b, 6, none⟩ = some (.slice none 0 0) := by rw [blk_cell hb1]; rfl
  have e7 : w1.cell? ⟨b, 7, none⟩ = some (.int .u64 0) := by rw [blk_cell hb1]; rfl
  have e8 : w1.cell? ⟨b, 8, none⟩ = some (.float .f64 0) := by rw [blk_cell hb1]; rfl
  have e9 : w1.cell? ⟨b, 9, none⟩ = some (.float .f64 0) := by rw [blk_cell hb1]; rfl
  have e10 : w1.cell? ⟨b, 10, none⟩ = some (.float .f64 0) := by rw [blk_cell hb1]; rfl
  clear hb1
  refine wp_loop_rounds 2 ?_
  rw [rounds_succ]
  go_wp2_with fail
  have hv := blk_new w1 (.cells #[.int .i64 1, .string ⟨#[97]⟩, .string ⟨#[]⟩, .slice none 0 0, .int .i64 0, .int .u64 7, .slice none 0 0, .int .u64 0, .float .f64 0, .float .f64 0, .float .f64 0] 42)
  have hs2 := ((Only.refl (fun _ => False) w1).alloc (.cells #[.int .i64 1, .string ⟨#[97]⟩, .string ⟨#[]⟩, .slice none 0 0, .int .i64 0, .int .u64 7, .slice none 0 0, .int .u64 0, .float .f64 0, .float .f64 0, .float .f64 0] 42)).blk hs (by simp)
  have hO2 := Lib.hid (HO.out.trans ((Only.refl (fun _ => False) w1).alloc (.cells #[.int .i64 1, .string ⟨#[97]⟩, .string ⟨#[]⟩, .slice none 0 0, .int .i64 0, .int .u64 7, .slice none 0 0, .int .u64 0, .float .f64 0, .float .f64 0, .float .f64 0] 42)))
  generalize w1.alloc (.cells #[.int .i64 1, .string ⟨#[97]⟩, .string ⟨#[]⟩, .slice none 0 0, .int .i64 0, .int .u64 7, .slice none 0 0, .int .u64 0, .float .f64 0, .float .f64 0, .float .f64 0] 42) = w2 at *
  clear e0 e1 e2 e3 e4 e5 e6 e7 e8 e9 e10 c0 hs HO
  refine (K1.out _).mono ?_
  rintro e w3 ⟨rfl, hO3⟩
  have hv3 := hO3.blk hv (by simp)
  have hs3 := hO3.blk hs2 (by simp)
  have HO3 := Lib.hid (hO2.out.trans hO3)
  clear hO3 hO2 hv hs2
  have f0 : w3.cell? ⟨w1.heap.size, 0, none⟩ = some (.int .i64 1) := by rw [blk_cell hv3]; rfl
  have f1 : w3.cell? ⟨w1.heap.size, 1, none⟩ = some (.string ⟨#[97]⟩) := by rw [blk_cell hv3]; rfl
  have f2 : w3.cell? ⟨w1.heap.size, 2, none⟩ = some (.string ⟨#[]⟩) := by rw [blk_cell hv3]; rfl
  have f3 : w3.cell? ⟨w1.heap.size, 3, none⟩ = some (.slice none 0 0) := by rw [blk_cell hv3]; rfl
  have f4 : w3.cell? ⟨w1.heap.size, 4, none⟩ = some (.int .i64 0) := by rw [blk_cell hv3]; rfl
  have f5 : w3.cell? ⟨w1.heap.size, 5, none⟩ = some (.int .u64 7) := by rw [blk_cell hv3]; rfl
  have f6 : w3.cell? ⟨w1.heap.size, 6, none⟩ = some (.slice none 0 0) := by rw [blk_cell hv3]; rfl
  have f7 : w3.cell? ⟨w1.heap.size, 7, none⟩ = some (.int .u64 0) := by rw [blk_cell hv3]; rfl
  have f8 : w3.cell? ⟨w1.heap.size, 8, none⟩ = some (.float .f64 0) := by rw [blk_cell hv3]; rfl
  have f9 : w3.cell? ⟨w1.heap.size, 9, none⟩ = some (.float .f64 0) := by rw [blk_cell hv3]; rfl
  have f10 : w3.cell? ⟨w1.heap.size, 10, none⟩ = some (.float .f64 0) := by rw [blk_cell hv3]; rfl
  have c0 : w3.cell? ⟨w.heap.size, 0, none⟩ = some (.int .i64 1) := by rw [blk_cell hs3]; rfl
  clear hv3 hs3
  go_wp2_with fail
  refine (K2.out _).mono ?_
  rintro e w4 ⟨rfl, hO4⟩
  have HO4 := Lib.hid (HO3.out.trans hO4)
  clear hO4 HO3
  go_wp2_with fail
  rw [rounds_succ]
  go_wp2_with fail
  go_ret2
  exact ⟨rfl, HO4.out⟩
end Go.Proofs.YtiijgghholhcnaaGreatDoor
