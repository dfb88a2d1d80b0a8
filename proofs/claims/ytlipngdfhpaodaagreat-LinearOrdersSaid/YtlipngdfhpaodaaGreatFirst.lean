/- The walks of what a cell is at first, and of the kinds. -/
import Derived.Test.YtlipngdfhpaodaaGreatWidth
namespace Go.Proofs.YtlipngdfhpaodaaGreat
open Go.RowKit

theorem run_tobits (x : Nat) (w : World) : Sem.run Tryz.prog (callFunc 79 #[.float .f64 x]) w = .ok (.value (.int .u64 (x : Nat))) w := by kernel_rfl
theorem run_frombits (x : Nat) (w : World) : Sem.run Tryz.prog (callFunc 262 #[.int .u64 (x : Nat)]) w = .ok (.value (.float .f64 x)) w := by kernel_rfl

/-- what a cell is at first -/
def first (kind k : Int) : Int := if kind = 3 ∧ k = 3 then 9218868437227405312 else if kind = 3 ∧ k = 4 then -4503599627370496 else 0

theorem run_inf (w : World) : Sem.run Tryz.prog (callFunc 262 #[.int .u64 9218868437227405312]) w = .ok (.value (.float .f64 9218868437227405312)) w := by kernel_rfl
theorem run_ninf (w : World) : Sem.run Tryz.prog (callFunc 262 #[.int .u64 18442240474082181120]) w = .ok (.value (.float .f64 18442240474082181120)) w := by kernel_rfl
theorem inf_pos (w : World) : Calls Tryz.prog 349 #[.int .i64 1] w fun e w' => e = .returned (.float .f64 9218868437227405312) ∧ w' = w := by
  have k := run_inf
  go_enter Tryz.func349, Tryz.ntmps349
  go_wp2_with fail
  go_ret
  exact ⟨rfl, rfl⟩
theorem inf_neg (w : World) : Calls Tryz.prog 349 #[.int .i64 (-1)] w fun e w' => e = .returned (.float .f64 18442240474082181120) ∧ w' = w := by
  have k := run_ninf
  go_enter Tryz.func349, Tryz.ntmps349
  go_wp2_with fail
  go_ret
  exact ⟨rfl, rfl⟩
/-- the bits of a float, as an int64 -/
def sbits (x : Nat) : Int := wrap64 (x : Int)
theorem sbits_calls (x : Nat) (w : World) : Calls Tryz.prog 223 #[.float .f64 x] w fun e w' => e = .returned (.int .i64 (sbits x)) ∧ w' = w := by
  have k := run_tobits x w
  go_enter Tryz.func223, Tryz.ntmps223
  go_wp2_with fail
  go_ret
  exact ⟨rfl, rfl⟩

theorem first_counter (v : Value) (k : Int) (w : World) : Calls Tryz.prog 339 #[.agg #[v], .int .i64 k] w fun e w' => e = .returned (.int .i64 0) ∧ Only (fun _ => False) w w' := by
  go_enter Tryz.func339, Tryz.ntmps339
  go_wp2_with fail
  go_ret
  exact ⟨rfl, (Only.refl _ w).alloc _⟩
theorem first_hist (v u : Value) (k : Int) (w : World) : Calls Tryz.prog 343 #[.agg #[v, u], .int .i64 k] w fun e w' => e = .returned (.int .i64 0) ∧ Only (fun _ => False) w w' := by
  go_enter Tryz.func343, Tryz.ntmps343
  go_wp2_with fail
  go_ret
  exact ⟨rfl, (Only.refl _ w).alloc _⟩
theorem first_summary (v : Value) (k : Int) (w : World) : Calls Tryz.prog 346 #[.agg #[v], .int .i64 k] w fun e w' => e = .returned (.int .i64 (first 3 k)) ∧ Only (fun _ => False) w w' := by
  by_cases h3 : k = 3
  · subst h3
    go_enter Tryz.func346, Tryz.ntmps346
    go_wp2_with fail
    refine (inf_pos _).mono ?_
    rintro e w1 ⟨rfl, rfl⟩
    go_wp2_with fail
    refine (sbits_calls _ _).mono ?_
    rintro e w1 ⟨rfl, rfl⟩
    go_wp2_with fail
    go_ret
    exact ⟨by kernel_rfl, (Only.refl _ w).alloc _⟩
  · have g3 : (k == 3) = false := by simpa using h3
    by_cases h4 : k = 4
    · subst h4
      go_enter Tryz.func346, Tryz.ntmps346
      go_wp2_with fail
      refine (inf_neg _).mono ?_
      rintro e w1 ⟨rfl, rfl⟩
      go_wp2_with fail
      refine (sbits_calls _ _).mono ?_
      rintro e w1 ⟨rfl, rfl⟩
      go_wp2_with fail
      go_ret
      exact ⟨by kernel_rfl, (Only.refl _ w).alloc _⟩
    · have g4 : (k == 4) = false := by simpa using h4
      have e1 : first 3 k = 0 := by unfold first; rw [if_neg (by omega), if_neg (by omega)]
      rw [e1]
      go_enter Tryz.func346, Tryz.ntmps346
      go_wp2_with fail
      go_ret
      exact ⟨rfl, (Only.refl _ w).alloc _⟩
theorem kind_counter (v : Value) (w : World) : Calls Tryz.prog 340 #[.agg #[v]] w fun e w' => e = .returned (.int .i64 1) ∧ Only (fun _ => False) w w' := by
  go_enter Tryz.func340, Tryz.ntmps340
  go_wp2_with fail
  go_ret
  exact ⟨rfl, (Only.refl _ w).alloc _⟩
theorem kind_hist (v u : Value) (w : World) : Calls Tryz.prog 344 #[.agg #[v, u]] w fun e w' => e = .returned (.int .i64 2) ∧ Only (fun _ => False) w w' := by
  go_enter Tryz.func344, Tryz.ntmps344
  go_wp2_with fail
  go_ret
  exact ⟨rfl, (Only.refl _ w).alloc _⟩
theorem kind_summary (v : Value) (w : World) : Calls Tryz.prog 347 #[.agg #[v]] w fun e w' => e = .returned (.int .i64 3) ∧ Only (fun _ => False) w w' := by
  go_enter Tryz.func347, Tryz.ntmps347
  go_wp2_with fail
  go_ret
  exact ⟨rfl, (Only.refl _ w).alloc _⟩

/-- the instrument of a kind, over the cells at an address -/
def inst (kind : Int) (c : Nat) (p : Int) : Value :=
  if kind = 1 then .iface 132 (.agg #[.pointer (some ⟨c, 0, none⟩)]) else if kind = 2 then .iface 134 (.agg #[.pointer (some ⟨c, 0, none⟩), .int .i64 p]) else .iface 135 (.agg #[.pointer (some ⟨c, 0, none⟩)])

set_option maxRecDepth 200000 in
theorem kind_calls (a : Nat) (kind : Int) (c : Nat) (p : Int) (w : World) (hk : kind = 1 ∨ kind = 2 ∨ kind = 3) (h : w.heap[a]? = some (.cells #[inst kind c p] 130 (0, 0))) :
    Calls Tryz.prog 156 #[.pointer (some ⟨a, 0, none⟩)] w fun e w' => e = .returned (.int .i64 kind) ∧ Only (fun _ => False) w w' := by
  have hc : w.cell? ⟨a, 0, none⟩ = some (inst kind c p) := by rw [blk_cell h]; rfl
  clear h
  rcases hk with rfl | rfl | rfl
  · change w.cell? _ = some (.iface 132 (.agg #[.pointer (some ⟨c, 0, none⟩)])) at hc
    go_enter Tryz.func156, Tryz.ntmps156
    go_wp2_with fail
    refine (kind_counter _ _).mono ?_
    rintro e w1 ⟨rfl, O1⟩
    go_wp2_with fail
    go_ret
    exact ⟨rfl, O1⟩
  · change w.cell? _ = some (.iface 134 (.agg #[.pointer (some ⟨c, 0, none⟩), .int .i64 p])) at hc
    go_enter Tryz.func156, Tryz.ntmps156
    go_wp2_with fail
    refine (kind_hist _ _ _).mono ?_
    rintro e w1 ⟨rfl, O1⟩
    go_wp2_with fail
    go_ret
    exact ⟨rfl, O1⟩
  · change w.cell? _ = some (.iface 135 (.agg #[.pointer (some ⟨c, 0, none⟩)])) at hc
    go_enter Tryz.func156, Tryz.ntmps156
    go_wp2_with fail
    refine (kind_summary _ _).mono ?_
    rintro e w1 ⟨rfl, O1⟩
    go_wp2_with fail
    go_ret
    exact ⟨rfl, O1⟩
end Go.Proofs.YtlipngdfhpaodaaGreat
