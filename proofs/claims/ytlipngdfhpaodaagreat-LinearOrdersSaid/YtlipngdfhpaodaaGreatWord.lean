/- The walks of package word's calls without a gate. -/
import Derived.Test.YtlipngdfhpaodaaGreatGrow
import Derived.Laws.LoneSync
namespace Go.Proofs.YtlipngdfhpaodaaGreat
open Go.RowKit

theorem run_store64 {a : Addr} {y : Int} {u : Value} {w : World} (hc : w.cell? a = some u) (hz : w.frozen? a = false) :
    Sem.run Tryz.prog (callFunc 130 #[.pointer (some a), .int .i64 y]) w = .ok (.value (.tuple #[])) (w.setCell a (.int .i64 y)) :=
  run_call_store (fn := Tryz.f130) (by kernel_rfl) (by kernel_rfl) (by kernel_rfl) (by kernel_rfl) (by kernel_rfl) hc hz
theorem run_load64 {a : Addr} {x : Int} {w : World} (hc : w.cell? a = some (.int .i64 x)) :
    Sem.run Tryz.prog (callFunc 181 #[.pointer (some a)]) w = .ok (.value (.int .i64 x)) w :=
  run_call_load (fn := Tryz.f181) (by kernel_rfl) (by kernel_rfl) (by kernel_rfl) (by kernel_rfl) .i64 (by kernel_rfl) hc
/-- the sum of two int64, cut to 64 bits -/
def add64 (x y : Int) : Int := wrap64 (x + y)
theorem run_add64 {a : Addr} {x y : Int} {w : World} (hc : w.cell? a = some (.int .i64 x)) (hz : w.frozen? a = false) :
    Sem.run Tryz.prog (callFunc 227 #[.pointer (some a), .int .i64 y]) w = .ok (.value (.int .i64 (add64 x y))) (w.setCell a (.int .i64 (add64 x y))) :=
  run_call_add (fn := Tryz.f227) (by kernel_rfl) (by kernel_rfl) (by kernel_rfl) (by kernel_rfl) .i64 (by kernel_rfl) hc hz (by unfold add64 wrap64; rw [← IntKind.wrap_i64]; rfl)
theorem run_swap64 {a : Addr} {x y : Int} {w : World} (hc : w.cell? a = some (.int .i64 x)) (hz : w.frozen? a = false) :
    Sem.run Tryz.prog (callFunc 173 #[.pointer (some a), .int .i64 y]) w = .ok (.value (.int .i64 x)) (w.setCell a (.int .i64 y)) := by
  rw [run_callFunc_extern (fn := Tryz.f173) (by kernel_rfl) (by kernel_rfl) (by kernel_rfl) (by kernel_rfl) (e := Extern.Atomic.swapT (.int .i64)) (by kernel_rfl)]
  change (Sem.run Tryz.prog (do
    let a' ← asAddr (.pointer (some a))
    let old ← Extern.Atomic.read (.int .i64) a'
    store a' (.int .i64 y) .atomic
    pure old) w).andThen _ = _
  simp [Extern.Atomic.read, asAddr, hc, hz, run_store Tryz.prog w a (.int .i64 y) .atomic rfl, Result.andThen]


theorem gstep_nil (w : World) : Calls Tryz.prog 101 #[.pointer none] w fun e w' => e = .returned (.tuple #[]) ∧ w' = w := by
  go_enter Tryz.func101, Tryz.ntmps101
  go_wp2_with fail
  refine bodyPost_ret (results_none rfl _ _ _) rfl ⟨rfl, rfl⟩

theorem astore (a : Addr) (y : Int) (u : Value) (w : World) (hc : w.cell? a = some u) (hz : w.frozen? a = false) :
    Calls Tryz.prog 69 #[.pointer (some a), .int .i64 y] w fun e w' => e = .returned (.tuple #[]) ∧ w' = w.setCell a (.int .i64 y) := by
  have k := run_store64 (y := y) hc hz
  go_enter Tryz.func69, Tryz.ntmps69
  go_wp2_with fail
  go_end0
  exact ⟨rfl, rfl⟩
theorem aload (a : Addr) (x : Int) (w : World) (hc : w.cell? a = some (.int .i64 x)) :
    Calls Tryz.prog 121 #[.pointer (some a)] w fun e w' => e = .returned (.int .i64 x) ∧ w' = w := by
  have k := run_load64 hc
  go_enter Tryz.func121, Tryz.ntmps121
  go_wp2_with fail
  go_ret
  exact ⟨rfl, rfl⟩
theorem add64_back (x y : Int) (h1 : -9223372036854775808 ≤ x) (h2 : x ≤ 9223372036854775807) : wrap64 (add64 x y - y) = x := by
  unfold add64 wrap64; omega
theorem aadd (a : Addr) (x y : Int) (w : World) (hc : w.cell? a = some (.int .i64 x)) (hz : w.frozen? a = false) :
    Calls Tryz.prog 174 #[.pointer (some a), .int .i64 y] w fun e w' => e = .returned (.int .i64 (add64 x y)) ∧ w' = w.setCell a (.int .i64 (add64 x y)) := by
  have k := run_add64 (y := y) hc hz
  go_enter Tryz.func174, Tryz.ntmps174
  go_wp2_with fail
  go_ret
  exact ⟨rfl, rfl⟩
theorem aswap (a : Addr) (x y : Int) (w : World) (hc : w.cell? a = some (.int .i64 x)) (hz : w.frozen? a = false) :
    Calls Tryz.prog 110 #[.pointer (some a), .int .i64 y] w fun e w' => e = .returned (.int .i64 x) ∧ w' = w.setCell a (.int .i64 y) := by
  have k := run_swap64 (y := y) hc hz
  go_enter Tryz.func110, Tryz.ntmps110
  go_wp2_with fail
  go_ret
  exact ⟨rfl, rfl⟩
theorem wstore (a : Addr) (y : Int) (u : Value) (w : World) (hc : w.cell? a = some u) (hz : w.frozen? a = false) :
    Calls Tryz.prog 47 #[.pointer (some a), .pointer none, .int .i64 y] w fun e w' => e = .returned (.tuple #[]) ∧ w' = w.setCell a (.int .i64 y) := by
  go_enter Tryz.func47, Tryz.ntmps47
  go_wp2_with fail
  refine (gstep_nil _).mono ?_
  rintro e w1 ⟨rfl, rfl⟩
  go_wp2_with fail
  refine (astore a y u _ hc hz).mono ?_
  rintro e w1 ⟨rfl, rfl⟩
  go_wp2_with fail
  go_end0
  exact ⟨rfl, rfl⟩
theorem wload (a : Addr) (x : Int) (w : World) (hc : w.cell? a = some (.int .i64 x)) :
    Calls Tryz.prog 113 #[.pointer (some a), .pointer none] w fun e w' => e = .returned (.int .i64 x) ∧ w' = w := by
  go_enter Tryz.func113, Tryz.ntmps113
  go_wp2_with fail
  refine (gstep_nil _).mono ?_
  rintro e w1 ⟨rfl, rfl⟩
  go_wp2_with fail
  refine (aload a x _ hc).mono ?_
  rintro e w1 ⟨rfl, rfl⟩
  go_wp2_with fail
  go_ret
  exact ⟨rfl, rfl⟩
theorem wadd (a : Addr) (x y : Int) (w : World) (hc : w.cell? a = some (.int .i64 x)) (hz : w.frozen? a = false) :
    Calls Tryz.prog 111 #[.pointer (some a), .pointer none, .int .i64 y] w fun e w' => e = .returned (.int .i64 (wrap64 (add64 x y - y))) ∧ w' = w.setCell a (.int .i64 (add64 x y)) := by
  go_enter Tryz.func111, Tryz.ntmps111
  go_wp2_with fail
  refine (gstep_nil _).mono ?_
  rintro e w1 ⟨rfl, rfl⟩
  go_wp2_with fail
  refine (aadd a x y _ hc hz).mono ?_
  rintro e w1 ⟨rfl, rfl⟩
  go_wp2_with fail
  go_ret
  exact ⟨rfl, rfl⟩
theorem wswap (a : Addr) (x y : Int) (w : World) (hc : w.cell? a = some (.int .i64 x)) (hz : w.frozen? a = false) :
    Calls Tryz.prog 57 #[.pointer (some a), .pointer none, .int .i64 y] w fun e w' => e = .returned (.int .i64 x) ∧ w' = w.setCell a (.int .i64 y) := by
  go_enter Tryz.func57, Tryz.ntmps57
  go_wp2_with fail
  refine (gstep_nil _).mono ?_
  rintro e w1 ⟨rfl, rfl⟩
  go_wp2_with fail
  refine (aswap a x y _ hc hz).mono ?_
  rintro e w1 ⟨rfl, rfl⟩
  go_wp2_with fail
  go_ret
  exact ⟨rfl, rfl⟩
end Go.Proofs.YtlipngdfhpaodaaGreat
