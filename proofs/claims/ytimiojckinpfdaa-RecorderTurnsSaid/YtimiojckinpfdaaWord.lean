/- The walks of package word's calls without a gate. -/
import Derived.Test.YtimiojckinpfdaaGrow
import Derived.Laws.LoneSync
namespace Go.Proofs.Ytimiojckinpfdaa
open Go.RowKit

theorem run_store64 {a : Addr} {y : Int} {u : Value} {w : World} (hc : w.cell? a = some u) (hz : w.frozen? a = false) :
    Sem.run Try.prog (callFunc 94 #[.pointer (some a), .int .i64 y]) w = .ok (.value (.tuple #[])) (w.setCell a (.int .i64 y)) :=
  run_call_store (fn := Try.f94) (by kernel_rfl) (by kernel_rfl) (by kernel_rfl) (by kernel_rfl) (by kernel_rfl) hc hz
theorem run_load64 {a : Addr} {x : Int} {w : World} (hc : w.cell? a = some (.int .i64 x)) :
    Sem.run Try.prog (callFunc 113 #[.pointer (some a)]) w = .ok (.value (.int .i64 x)) w :=
  run_call_load (fn := Try.f113) (by kernel_rfl) (by kernel_rfl) (by kernel_rfl) (by kernel_rfl) .i64 (by kernel_rfl) hc
/-- the sum of two int64, cut to 64 bits -/
def add64 (x y : Int) : Int := wrap64 (x + y)
theorem run_add64 {a : Addr} {x y : Int} {w : World} (hc : w.cell? a = some (.int .i64 x)) (hz : w.frozen? a = false) :
    Sem.run Try.prog (callFunc 114 #[.pointer (some a), .int .i64 y]) w = .ok (.value (.int .i64 (add64 x y))) (w.setCell a (.int .i64 (add64 x y))) :=
  run_call_add (fn := Try.f114) (by kernel_rfl) (by kernel_rfl) (by kernel_rfl) (by kernel_rfl) .i64 (by kernel_rfl) hc hz (by unfold add64 wrap64; rw [← IntKind.wrap_i64]; rfl)
theorem run_swap64 {a : Addr} {x y : Int} {w : World} (hc : w.cell? a = some (.int .i64 x)) (hz : w.frozen? a = false) :
    Sem.run Try.prog (callFunc 110 #[.pointer (some a), .int .i64 y]) w = .ok (.value (.int .i64 x)) (w.setCell a (.int .i64 y)) := by
  rw [run_callFunc_extern (fn := Try.f110) (by kernel_rfl) (by kernel_rfl) (by kernel_rfl) (by kernel_rfl) (e := Extern.Atomic.swapT (.int .i64)) (by kernel_rfl)]
  change (Sem.run Try.prog (do
    let a' ← asAddr (.pointer (some a))
    let old ← Extern.Atomic.read (.int .i64) a'
    store a' (.int .i64 y) .atomic
    pure old) w).andThen _ = _
  simp [Extern.Atomic.read, asAddr, hc, hz, run_store Try.prog w a (.int .i64 y) .atomic rfl, Result.andThen]


theorem gstep_nil (w : World) : Calls Try.prog 67 #[.pointer none] w fun e w' => e = .returned (.tuple #[]) ∧ w' = w := by
  go_enter Try.func67, Try.ntmps67
  go_wp2_with fail
  refine bodyPost_ret (results_none rfl _ _ _) rfl ⟨rfl, rfl⟩

theorem astore (a : Addr) (y : Int) (u : Value) (w : World) (hc : w.cell? a = some u) (hz : w.frozen? a = false) :
    Calls Try.prog 68 #[.pointer (some a), .int .i64 y] w fun e w' => e = .returned (.tuple #[]) ∧ w' = w.setCell a (.int .i64 y) := by
  have k := run_store64 (y := y) hc hz
  go_enter Try.func68, Try.ntmps68
  go_wp2_with fail
  go_end0
  exact ⟨rfl, rfl⟩
theorem aload (a : Addr) (x : Int) (w : World) (hc : w.cell? a = some (.int .i64 x)) :
    Calls Try.prog 106 #[.pointer (some a)] w fun e w' => e = .returned (.int .i64 x) ∧ w' = w := by
  have k := run_load64 hc
  go_enter Try.func106, Try.ntmps106
  go_wp2_with fail
  go_ret
  exact ⟨rfl, rfl⟩
theorem add64_back (x y : Int) (h1 : -9223372036854775808 ≤ x) (h2 : x ≤ 9223372036854775807) : wrap64 (add64 x y - y) = x := by
  unfold add64 wrap64; omega
theorem aadd (a : Addr) (x y : Int) (w : World) (hc : w.cell? a = some (.int .i64 x)) (hz : w.frozen? a = false) :
    Calls Try.prog 107 #[.pointer (some a), .int .i64 y] w fun e w' => e = .returned (.int .i64 (add64 x y)) ∧ w' = w.setCell a (.int .i64 (add64 x y)) := by
  have k := run_add64 (y := y) hc hz
  go_enter Try.func107, Try.ntmps107
  go_wp2_with fail
  go_ret
  exact ⟨rfl, rfl⟩
theorem aswap (a : Addr) (x y : Int) (w : World) (hc : w.cell? a = some (.int .i64 x)) (hz : w.frozen? a = false) :
    Calls Try.prog 91 #[.pointer (some a), .int .i64 y] w fun e w' => e = .returned (.int .i64 x) ∧ w' = w.setCell a (.int .i64 y) := by
  have k := run_swap64 (y := y) hc hz
  go_enter Try.func91, Try.ntmps91
  go_wp2_with fail
  go_ret
  exact ⟨rfl, rfl⟩
theorem wstore (a : Addr) (y : Int) (u : Value) (w : World) (hc : w.cell? a = some u) (hz : w.frozen? a = false) :
    Calls Try.prog 39 #[.pointer (some a), .pointer none, .int .i64 y] w fun e w' => e = .returned (.tuple #[]) ∧ w' = w.setCell a (.int .i64 y) := by
  go_enter Try.func39, Try.ntmps39
  go_wp2_with fail
  refine (gstep_nil _).mono ?_
  rintro e w1 ⟨rfl, rfl⟩
  go_wp2_with fail
  refine (astore a y u _ hc hz).mono ?_
  rintro e w1 ⟨rfl, rfl⟩
  go_wp2_with fail
  go_end0
  exact ⟨rfl, rfl⟩
theorem wload (a : Addr) (x : Int) (w : World) (hc : w.cell? a = some (.int .i64 x)) :
    Calls Try.prog 87 #[.pointer (some a), .pointer none] w fun e w' => e = .returned (.int .i64 x) ∧ w' = w := by
  go_enter Try.func87, Try.ntmps87
  go_wp2_with fail
  refine (gstep_nil _).mono ?_
  rintro e w1 ⟨rfl, rfl⟩
  go_wp2_with fail
  refine (aload a x _ hc).mono ?_
  rintro e w1 ⟨rfl, rfl⟩
  go_wp2_with fail
  go_ret
  exact ⟨rfl, rfl⟩
theorem wadd (a : Addr) (x y : Int) (w : World) (hc : w.cell? a = some (.int .i64 x)) (hz : w.frozen? a = false) :
    Calls Try.prog 88 #[.pointer (some a), .pointer none, .int .i64 y] w fun e w' => e = .returned (.int .i64 (wrap64 (add64 x y - y))) ∧ w' = w.setCell a (.int .i64 (add64 x y)) := by
  go_enter Try.func88, Try.ntmps88
  go_wp2_with fail
  refine (gstep_nil _).mono ?_
  rintro e w1 ⟨rfl, rfl⟩
  go_wp2_with fail
  refine (aadd a x y _ hc hz).mono ?_
  rintro e w1 ⟨rfl, rfl⟩
  go_wp2_with fail
  go_ret
  exact ⟨rfl, rfl⟩
theorem wswap (a : Addr) (x y : Int) (w : World) (hc : w.cell? a = some (.int .i64 x)) (hz : w.frozen? a = false) :
    Calls Try.prog 62 #[.pointer (some a), .pointer none, .int .i64 y] w fun e w' => e = .returned (.int .i64 x) ∧ w' = w.setCell a (.int .i64 y) := by
  go_enter Try.func62, Try.ntmps62
  go_wp2_with fail
  refine (gstep_nil _).mono ?_
  rintro e w1 ⟨rfl, rfl⟩
  go_wp2_with fail
  refine (aswap a x y _ hc hz).mono ?_
  rintro e w1 ⟨rfl, rfl⟩
  go_wp2_with fail
  go_ret
  exact ⟨rfl, rfl⟩
end Go.Proofs.Ytimiojckinpfdaa
