/- The walks of total, a counter's part, and of pair.Merge at pairs that are 0. -/
import Derived.Test.YtlipngdfhpaodaaGreatWide
namespace Go.Proofs.YtlipngdfhpaodaaGreat
open Go.RowKit

theorem run_fzz (w : World) : Sem.run Tryz.prog (binOp .add 40 (.float .f64 0) (.float .f64 0)) w = .ok (.float .f64 0) w := by kernel_rfl
theorem run_szz (w : World) : Sem.run Tryz.prog (binOp .sub 40 (.float .f64 0) (.float .f64 0)) w = .ok (.float .f64 0) w := by kernel_rfl
theorem run_gzz (w : World) : Sem.run Tryz.prog (binOp .geq 40 (.float .f64 0) (.float .f64 0)) w = .ok (.bool true) w := by kernel_rfl
theorem run_tob0 (w : World) : Sem.run Tryz.prog (callFunc 79 #[.float .f64 0]) w = .ok (.value (.int .u64 0)) w := by kernel_rfl
theorem run_frb0 (w : World) : Sem.run Tryz.prog (callFunc 262 #[.int .u64 0]) w = .ok (.value (.float .f64 0)) w := by kernel_rfl
set_option maxRecDepth 100000 in
theorem abs_zero (w : World) : Calls Tryz.prog 219 #[.float .f64 0] w fun e w' => e = .returned (.float .f64 0) ∧ w' = w := by
  have k1 := run_tob0
  have k2 := run_frb0
  have k3 : bits .andNot .u64 0 9223372036854775808 = 0 := by kernel_rfl
  go_enter Tryz.func219, Tryz.ntmps219
  go_wp2_with fail
  go_ret
  exact ⟨rfl, rfl⟩
theorem loss_zero (w : World) : Calls Tryz.prog 200 #[.float .f64 0, .float .f64 0, .float .f64 0] w fun e w' => e = .returned (.float .f64 0) ∧ w' = w := by
  have k1 := run_fzz
  have k2 := run_szz
  have k3 := run_gzz
  go_enter Tryz.func200, Tryz.ntmps200
  go_wp2_with fail
  refine (abs_zero _).mono ?_
  rintro e w1 ⟨rfl, rfl⟩
  go_wp2_with fail
  refine (abs_zero _).mono ?_
  rintro e w1 ⟨rfl, rfl⟩
  go_wp2_with fail
  go_ret
  exact ⟨rfl, rfl⟩
theorem pmerge_zero (w : World) : Calls Tryz.prog 140 #[.complex .f64 0 0, .complex .f64 0 0] w fun e w' => e = .returned (.complex .f64 0 0) ∧ w' = w := by
  have k1 := run_fzz
  have k2 := run_szz
  go_enter Tryz.func140, Tryz.ntmps140
  go_wp2_with fail
  refine (loss_zero _).mono ?_
  rintro e w1 ⟨rfl, rfl⟩
  go_wp2_with fail
  go_ret
  exact ⟨rfl, rfl⟩

/-- a row of int64 cells -/
def Nums (w : World) (b : Nat) (l : List Int) : Prop := ∀ k, k < l.length → w.cell? ⟨b, k, none⟩ = some (.int .i64 (l.getD k 0))
/-- the part of a counter whose sum is (hi, lo) -/
def partc (hi lo : Int) : Value := .agg #[.int .i64 hi, .int .u64 lo, .slice none 0 0, .int .u64 0, .complex .f64 0 0, .float .f64 0, .float .f64 0]
theorem cell_lt {w : World} {b i : Nat} {v : Value} (h : w.cell? ⟨b, i, none⟩ = some v) : b < w.heap.size := World.block_lt_of_cell? w _ h
theorem cell_alloc {w : World} {b i : Nat} {v : Value} (h : w.cell? ⟨b, i, none⟩ = some v) (o : Obj) : (w.alloc o).cell? ⟨b, i, none⟩ = some v := by
  rw [← h]; exact World.cell?_of_block (w := w) (Below.heap_alloc _ _ _ (cell_lt h))
theorem Only.cel {S : Nat → Prop} {w w' : World} (h : Only S w w') {b i : Nat} {v : Value} (hc : w.cell? ⟨b, i, none⟩ = some v) (hs : ¬ S b) : w'.cell? ⟨b, i, none⟩ = some v := by
  rw [h.cellAt (cell_lt hc) hs, hc]
/-- seven cells of a block are written -/
def put7 (w : World) (b : Nat) (v0 v1 v2 v3 v4 v5 v6 : Value) : World := ((((((w.setCell ⟨b, 0, none⟩ v0).setCell ⟨b, 1, none⟩ v1).setCell ⟨b, 2, none⟩ v2).setCell ⟨b, 3, none⟩ v3).setCell ⟨b, 4, none⟩ v4).setCell ⟨b, 5, none⟩ v5).setCell ⟨b, 6, none⟩ v6
theorem put7_blk {w : World} {b : Nat} {c0 c1 c2 c3 c4 c5 c6 : Value} {t : TypeId} {f : Nat × Nat} (h : w.heap[b]? = some (.cells #[c0, c1, c2, c3, c4, c5, c6] t f)) (v0 v1 v2 v3 v4 v5 v6 : Value) :
    (put7 w b v0 v1 v2 v3 v4 v5 v6).heap[b]? = some (.cells #[v0, v1, v2, v3, v4, v5, v6] t f) := by
  have h0 : (w.setCell ⟨b, 0, none⟩ v0).heap[b]? = some (.cells #[v0, c1, c2, c3, c4, c5, c6] t f) := blk_set h 0 v0
  have h1 : ((w.setCell ⟨b, 0, none⟩ v0).setCell ⟨b, 1, none⟩ v1).heap[b]? = some (.cells #[v0, v1, c2, c3, c4, c5, c6] t f) := blk_set h0 1 v1
  have h2 : (((w.setCell ⟨b, 0, none⟩ v0).setCell ⟨b, 1, none⟩ v1).setCell ⟨b, 2, none⟩ v2).heap[b]? = some (.cells #[v0, v1, v2, c3, c4, c5, c6] t f) := blk_set h1 2 v2
  have h3 : ((((w.setCell ⟨b, 0, none⟩ v0).setCell ⟨b, 1, none⟩ v1).setCell ⟨b, 2, none⟩ v2).setCell ⟨b, 3, none⟩ v3).heap[b]? = some (.cells #[v0, v1, v2, v3, c4, c5, c6] t f) := blk_set h2 3 v3
  have h4 : (((((w.setCell ⟨b, 0, none⟩ v0).setCell ⟨b, 1, none⟩ v1).setCell ⟨b, 2, none⟩ v2).setCell ⟨b, 3, none⟩ v3).setCell ⟨b, 4, none⟩ v4).heap[b]? = some (.cells #[v0, v1, v2, v3, v4, c5, c6] t f) := blk_set h3 4 v4
  have h5 : ((((((w.setCell ⟨b, 0, none⟩ v0).setCell ⟨b, 1, none⟩ v1).setCell ⟨b, 2, none⟩ v2).setCell ⟨b, 3, none⟩ v3).setCell ⟨b, 4, none⟩ v4).setCell ⟨b, 5, none⟩ v5).heap[b]? = some (.cells #[v0, v1, v2, v3, v4, v5, c6] t f) := blk_set h4 5 v5
  have h6 : (((((((w.setCell ⟨b, 0, none⟩ v0).setCell ⟨b, 1, none⟩ v1).setCell ⟨b, 2, none⟩ v2).setCell ⟨b, 3, none⟩ v3).setCell ⟨b, 4, none⟩ v4).setCell ⟨b, 5, none⟩ v5).setCell ⟨b, 6, none⟩ v6).heap[b]? = some (.cells #[v0, v1, v2, v3, v4, v5, v6] t f) := blk_set h5 6 v6
  exact h6
theorem Only.put7 {S : Nat → Prop} {a w : World} (h : Only S a w) {b : Nat} (hb : a.heap.size ≤ b ∨ S b) (v0 v1 v2 v3 v4 v5 v6 : Value) : Only S a (put7 w b v0 v1 v2 v3 v4 v5 v6) :=
  ((((((h.setCell (p := ⟨b, 0, none⟩) hb v0).setCell (p := ⟨b, 1, none⟩) hb v1).setCell (p := ⟨b, 2, none⟩) hb v2).setCell (p := ⟨b, 3, none⟩) hb v3).setCell (p := ⟨b, 4, none⟩) hb v4).setCell (p := ⟨b, 5, none⟩) hb v5).setCell (p := ⟨b, 6, none⟩) hb v6
/-- a block of seven cells, each fact apart -/
structure Seven (w : World) (b : Nat) (v0 v1 v2 v3 v4 v5 v6 : Value) : Prop where
  d0 : w.cell? ⟨b, 0, none⟩ = some v0
  d1 : w.cell? ⟨b, 1, none⟩ = some v1
  d2 : w.cell? ⟨b, 2, none⟩ = some v2
  d3 : w.cell? ⟨b, 3, none⟩ = some v3
  d4 : w.cell? ⟨b, 4, none⟩ = some v4
  d5 : w.cell? ⟨b, 5, none⟩ = some v5
  d6 : w.cell? ⟨b, 6, none⟩ = some v6
  f0 : w.frozen? ⟨b, 0, none⟩ = false
  f1 : w.frozen? ⟨b, 1, none⟩ = false
  f2 : w.frozen? ⟨b, 2, none⟩ = false
  f3 : w.frozen? ⟨b, 3, none⟩ = false
  f4 : w.frozen? ⟨b, 4, none⟩ = false
  f5 : w.frozen? ⟨b, 5, none⟩ = false
  f6 : w.frozen? ⟨b, 6, none⟩ = false
theorem seven {w : World} {b : Nat} {c0 c1 c2 c3 c4 c5 c6 : Value} {t : TypeId} (h : w.heap[b]? = some (.cells #[c0, c1, c2, c3, c4, c5, c6] t (0, 0))) : Seven w b c0 c1 c2 c3 c4 c5 c6 :=
  ⟨blk_cell h 0, blk_cell h 1, blk_cell h 2, blk_cell h 3, blk_cell h 4, blk_cell h 5, blk_cell h 6, blk_free h 0, blk_free h 1, blk_free h 2, blk_free h 3, blk_free h 4, blk_free h 5, blk_free h 6⟩
theorem run_stf (a : Addr) (x : Nat) (w : World) : (store a (.float .f64 x)).run Tryz.prog w = stored Tryz.prog w a (.float .f64 x) .plain := run_store Tryz.prog w a _ _ rfl
theorem run_stc (a : Addr) (x y : Nat) (w : World) : (store a (.complex .f64 x y)).run Tryz.prog w = stored Tryz.prog w a (.complex .f64 x y) .plain := run_store Tryz.prog w a _ _ rfl
theorem total_calls (b cap : Nat) (x y : Int) (w : World) (h0 : w.cell? ⟨b, 0, none⟩ = some (.int .i64 x)) (h1 : w.cell? ⟨b, 1, none⟩ = some (.int .i64 y)) :
    Calls Tryz.prog 342 #[.slice (some ⟨b, 0, none⟩) 2 cap] w fun e w' => e = .returned (.agg #[.int .i64 y, .int .u64 (IntKind.u64.wrap x)]) ∧ Only (fun _ => False) w w' := by
  have c0 := cell_alloc h0 (.cells #[.int .i64 0, .int .u64 0] 105)
  have c1 := cell_alloc h1 (.cells #[.int .i64 0, .int .u64 0] 105)
  go_enter Tryz.func342, Tryz.ntmps342
  go_wp2_with fail
  go_region
  all_goals
    go_wp2_with fail
    refine bodyPost_ret (v := .agg #[.int .i64 y, .int .u64 (IntKind.u64.wrap x)]) (by simp [results, Tryz.results342, go_sem]) rfl ⟨rfl, ?_⟩
    exact ((Only.refl _ w).alloc _).drew
set_option maxHeartbeats 1000000 in
theorem partc_calls (c : Value) (b cap : Nat) (x y : Int) (w : World) (h0 : w.cell? ⟨b, 0, none⟩ = some (.int .i64 x)) (h1 : w.cell? ⟨b, 1, none⟩ = some (.int .i64 y)) :
    Calls Tryz.prog 341 #[.agg #[c], .slice (some ⟨b, 0, none⟩) 2 cap] w fun e w' => e = .returned (partc y (IntKind.u64.wrap x)) ∧ Only (fun _ => False) w w' := by
  have K := Lib.hid (total_calls b cap x y _ (cell_alloc (cell_alloc h0 (.cells #[c] 132)) (.cells #[.int .i64 0, .int .u64 0, .slice none 0 0, .int .u64 0, .complex .f64 0 0, .float .f64 0, .float .f64 0] 109)) (cell_alloc (cell_alloc h1 (.cells #[c] 132)) (.cells #[.int .i64 0, .int .u64 0, .slice none 0 0, .int .u64 0, .complex .f64 0 0, .float .f64 0, .float .f64 0] 109)))
  clear h0 h1
  go_enter Tryz.func341, Tryz.ntmps341
  go_wp2_with fail
  refine K.out.mono ?_
  rintro e w1 ⟨rfl, O1⟩
  have hb := O1.blk (blk_new _ _) (by simp)
  have hsz : (w.alloc (.cells #[c] 132)).heap.size = w.heap.size + 1 := by simp
  rw [hsz] at hb
  obtain ⟨d0, d1, d2, d3, d4, d5, d6, f0, f1, f2, f3, f4, f5, f6⟩ := seven hb
  have Hb := Lib.hid hb; clear hb hsz
  have ks1 := run_stf
  have ks2 := run_stc
  go_wp2_with fail
  have e7 := seven (put7_blk Hb.out (.int .i64 y) (.int .u64 (IntKind.u64.wrap x)) (.slice none 0 0) (.int .u64 0) (.complex .f64 0 0) (.float .f64 0) (.float .f64 0))
  have O7 : Only (fun _ => False) w (put7 w1 (w.heap.size + 1) (.int .i64 y) (.int .u64 (IntKind.u64.wrap x)) (.slice none 0 0) (.int .u64 0) (.complex .f64 0 0) (.float .f64 0) (.float .f64 0)) :=
    ((((Only.refl _ w).alloc _).alloc _).trans O1).put7 (.inl (by omega)) _ _ _ _ _ _ _
  refine bodyPost_ret (w := put7 w1 (w.heap.size + 1) (.int .i64 y) (.int .u64 (IntKind.u64.wrap x)) (.slice none 0 0) (.int .u64 0) (.complex .f64 0 0) (.float .f64 0) (.float .f64 0)) (v := partc y (IntKind.u64.wrap x)) ?_ rfl ⟨rfl, O7⟩
  clear O7 O1
  generalize put7 w1 (w.heap.size + 1) (.int .i64 y) (.int .u64 (IntKind.u64.wrap x)) (.slice none 0 0) (.int .u64 0) (.complex .f64 0 0) (.float .f64 0) (.float .f64 0) = w7 at *
  obtain ⟨d0, d1, d2, d3, d4, d5, d6, f0, f1, f2, f3, f4, f5, f6⟩ := e7
  simp [results, Tryz.results341, go_sem, d0, d1, d2, d3, d4, d5, d6, partc]
end Go.Proofs.YtlipngdfhpaodaaGreat
