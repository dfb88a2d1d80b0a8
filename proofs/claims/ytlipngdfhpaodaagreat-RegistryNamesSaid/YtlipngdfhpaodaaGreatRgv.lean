/- The walks of slab.Value at a counter without labels, of the sort of one value. -/
import Derived.Test.YtlipngdfhpaodaaGreatRga
import Derived.Shelf.LaysC
namespace Go.Proofs.YtlipngdfhpaodaaGreat
open Go.RowKit
set_option maxRecDepth 1000000
/-- a counter's value -/
def valc (d : ByteArray) (hi lo : Int) : Value := .agg #[.int .i64 1, .string d, .string ⟨#[]⟩, .slice none 0 0, .int .i64 hi, .int .u64 lo, .slice none 0 0, .int .u64 0, .float .f64 0, .float .f64 0, .float .f64 0]
set_option maxHeartbeats 4000000 in
theorem value_c (d : ByteArray) (hi lo : Int) (w : World) : Calls Tryz.prog 134 #[.agg #[.int .i64 1, .string d, .string ⟨#[]⟩, .slice none 0 0], partc hi lo] w fun e w' => e = .returned (valc d hi lo) ∧ Only (fun _ => False) w w' := by
  unfold partc
  have ks1 := run_stf
  have ks2 := run_stc
  go_enter Tryz.func134, Tryz.ntmps134
  go_wp2_with fail
  refine (clone_nil _).mono ?_
  rintro e w1 ⟨rfl, hw⟩; rw [hw]; clear hw w1
  go_wp2_with fail
  exact bodyPost_ret (v := valc d hi lo) (by simp [valc, results, Tryz.results134, go_sem]) rfl ⟨rfl, ((((Only.refl _ w).alloc _).alloc _).alloc _).alloc _⟩
theorem insort_1 (a : Addr) (c : Nat) (f : Value) (w : World) : Calls Tryz.prog 235 #[.slice (some a) 1 c, .int .i64 0, .int .i64 1, f] w fun e w' => e = .returned (.tuple #[]) ∧ w' = w := by
  go_enter Tryz.func235, Tryz.ntmps235
  go_wp2_with fail
  refine wp_loop_rounds 1 ?_
  rw [rounds_succ]
  go_wp2_with fail
  go_end0
  exact ⟨rfl, rfl⟩
theorem pdq_1 (a : Addr) (c : Nat) (k : Int) (f : Value) (w : World) : Calls Tryz.prog 189 #[.slice (some a) 1 c, .int .i64 0, .int .i64 1, .int .i64 k, f] w fun e w' => e = .returned (.tuple #[]) ∧ w' = w := by
  have K := Lib.hid (insort_1 a c f w)
  go_enter Tryz.func189, Tryz.ntmps189
  go_wp2_with fail
  refine wp_loop_rounds 1 ?_
  rw [rounds_succ]
  go_wp2_with fail
  refine K.out.mono ?_
  rintro e w1 ⟨rfl, hw⟩; rw [hw]; clear hw w1
  go_wp2_with fail
  exact bodyPost_ret (results_none rfl _ _ _) rfl ⟨rfl, rfl⟩
theorem len64_1 (w : World) : Calls Tryz.prog 244 #[.int .u64 1] w fun e w' => e = .returned (.int .i64 1) ∧ w' = w := by
  go_enter Tryz.func244, Tryz.ntmps244
  go_wp2_with fail
  go_ret
  exact ⟨by kernel_rfl, rfl⟩
theorem len_1 (w : World) : Calls Tryz.prog 190 #[.int .u64 1] w fun e w' => e = .returned (.int .i64 1) ∧ w' = w := by
  go_enter Tryz.func190, Tryz.ntmps190
  go_wp2_with fail
  refine (len64_1 _).mono ?_
  rintro e w1 ⟨rfl, hw⟩; rw [hw]; clear hw w1
  go_wp2_with fail
  go_ret
  exact ⟨rfl, rfl⟩
theorem sort_1 (a : Addr) (c : Nat) (f : Value) (w : World) : Calls Tryz.prog 135 #[.slice (some a) 1 c, f] w fun e w' => e = .returned (.tuple #[]) ∧ w' = w := by
  have K := Lib.hid (pdq_1 a c 1 f w)
  go_enter Tryz.func135, Tryz.ntmps135
  go_wp2_with fail
  refine (len_1 _).mono ?_
  rintro e w1 ⟨rfl, hw⟩; rw [hw]; clear hw w1
  go_wp2_with fail
  refine K.out.mono ?_
  rintro e w1 ⟨rfl, hw⟩; rw [hw]; clear hw w1
  go_wp2_with fail
  go_end0
  exact ⟨rfl, rfl⟩
end Go.Proofs.YtlipngdfhpaodaaGreat
