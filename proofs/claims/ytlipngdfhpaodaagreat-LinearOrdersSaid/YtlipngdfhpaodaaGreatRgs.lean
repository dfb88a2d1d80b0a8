/- The walks of Register's small callees. -/
import Derived.Test.YtlipngdfhpaodaaGreatRgn
namespace Go.Proofs.YtlipngdfhpaodaaGreat
open Go.RowKit Go.Maps
set_option maxRecDepth 1000000

theorem inst_0 {w : World} {r : Nat} {F : Nat → Value} (h : Fb w r 267 176 F) (e : F 265 = .int .i64 0) :
    Calls Tryz.prog 63 #[.pointer (some ⟨r, 0, none⟩)] w fun e w' => e = .returned (.slice (some ⟨r, 9, none⟩) 0 256) ∧ Still w w' := by
  have c : w.cell? ⟨r, 265, none⟩ = some (.int .i64 0) := by rw [h.cell (by decide), e]
  clear h e
  go_enter Tryz.func63, Tryz.ntmps63
  go_wp2_with fail
  go_quiet ((go_at_call 121; exact Calls.quiet_of_same (aload _ _ _ c)))
  go_wp2_with fail
  go_ret
  exact ⟨rfl, (Still.refl w).drewN _⟩
theorem inst_1 {w : World} {r : Nat} {F : Nat → Value} (h : Fb w r 267 176 F) (e : F 265 = .int .i64 1) :
    Calls Tryz.prog 63 #[.pointer (some ⟨r, 0, none⟩)] w fun e w' => e = .returned (.slice (some ⟨r, 9, none⟩) 1 256) ∧ Still w w' := by
  have c : w.cell? ⟨r, 265, none⟩ = some (.int .i64 1) := by rw [h.cell (by decide), e]
  clear h e
  go_enter Tryz.func63, Tryz.ntmps63
  go_wp2_with fail
  go_quiet ((go_at_call 121; exact Calls.quiet_of_same (aload _ _ _ c)))
  go_wp2_with fail
  go_ret
  exact ⟨rfl, (Still.refl w).drewN _⟩
theorem find_nil (a : Addr) (f : Value) (w : World) : Calls Tryz.prog 122 #[.slice (some a) 0 256, f] w fun e w' => e = .returned (.int .i64 (-1)) ∧ w' = w := by
  go_enter Tryz.func122, Tryz.ntmps122
  go_wp2_with fail
  refine wp_loop_rounds 1 ?_
  rw [rounds_succ]
  go_wp2_with fail
  go_ret
  exact ⟨rfl, rfl⟩
theorem contains_nil (a : Addr) (f : Value) (w : World) : Calls Tryz.prog 64 #[.slice (some a) 0 256, f] w fun e w' => e = .returned (.bool false) ∧ w' = w := by
  have K := Lib.hid (find_nil a f w)
  go_enter Tryz.func64, Tryz.ntmps64
  go_wp2_with fail
  refine K.out.mono ?_
  rintro e w1 ⟨rfl, hw⟩; rw [hw]; clear hw w1
  go_wp2_with fail
  go_ret
  exact ⟨rfl, rfl⟩
theorem print_nil (s : ByteArray) (w : World) : Calls Tryz.prog 67 #[.string s, .slice none 0 0] w fun e w' => e = .returned (.string s) ∧ w' = w := by
  go_enter Tryz.func67, Tryz.ntmps67
  go_wp2_with fail
  go_ret
  exact ⟨rfl, rfl⟩
theorem run_nil60 (w : World) : Sem.run Tryz.prog (binOp .eql 60 (.slice none 0 0) (.slice none 0 0)) w = .ok (.bool true) w := by kernel_rfl
theorem clone_nil (w : World) : Calls Tryz.prog 129 #[.slice none 0 0] w fun e w' => e = .returned (.slice none 0 0) ∧ w' = w := by
  have k := run_nil60
  go_enter Tryz.func129, Tryz.ntmps129
  go_wp2_with fail
  go_ret
  exact ⟨rfl, rfl⟩
theorem clip_nil (w : World) : Calls Tryz.prog 128 #[.slice none 0 0] w fun e w' => e = .returned (.slice none 0 0) ∧ w' = w := by
  go_enter Tryz.func128, Tryz.ntmps128
  go_wp2_with fail
  go_ret
  exact ⟨rfl, rfl⟩
theorem desc_nil (k : Int) (s t : ByteArray) (w : World) : Calls Tryz.prog 68 #[.agg #[.int .i64 k, .string s, .string t, .slice none 0 0]] w fun e w' => e = .returned (.agg #[.int .i64 k, .string s, .string t, .slice none 0 0]) ∧ Only (fun _ => False) w w' := by
  go_enter Tryz.func68, Tryz.ntmps68
  go_wp2_with fail
  refine (clone_nil _).mono ?_
  rintro e w1 ⟨rfl, hw⟩; rw [hw]; clear hw w1
  go_wp2_with fail
  refine (clip_nil _).mono ?_
  rintro e w1 ⟨rfl, hw⟩; rw [hw]; clear hw w1
  go_wp2_with fail
  exact bodyPost_ret (v := .agg #[.int .i64 k, .string s, .string t, .slice none 0 0]) (by simp [results, Tryz.results68, go_sem]) rfl ⟨rfl, ((Only.refl _ w).alloc _).alloc _⟩
end Go.Proofs.YtlipngdfhpaodaaGreat
