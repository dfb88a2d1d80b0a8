/- Small maps: what a look-up and a store do. -/
import Derived.Test.YtlipngdfhpaodaaGreatFrame
import Derived.Maps.OwnSet
import Derived.Laws.StructEq
import Derived.Test.YtlipngdfhpaodaaGreatRgr
import Derived.StillTailTactics
namespace Go.Proofs.YtlipngdfhpaodaaGreat.Lo
open Go.RowKit

theorem chk72 (w : World) (x : Bool) : Sem.run Tryz.prog (Instr.checkKey x 10000 72 (.agg #[.int .i64 0, .int .i64 0])) w = .ok () w := by kernel_rfl
theorem fnd72e (w : World) : Sem.run Tryz.prog (Instr.findKey 72 (.agg #[.int .i64 0, .int .i64 0]) []) w = .ok none w := by kernel_rfl
theorem fnd72 (w : World) : Sem.run Tryz.prog (Instr.findKey 72 (.agg #[.int .i64 0, .int .i64 0]) [{ key := .agg #[.int .i64 0, .int .i64 0], val := .int .i64 0, born := 0 }]) w = .ok (some (0, .int .i64 0)) w := by kernel_rfl
theorem zv3 (w : World) : Sem.run Tryz.prog (zeroValue 3) w = .ok (.int .i64 0) w := by kernel_rfl
theorem chk3 (w : World) (x : Bool) : Sem.run Tryz.prog (Instr.checkKey x 10000 3 (.int .i64 0)) w = .ok () w := by kernel_rfl
theorem fnd3e (w : World) : Sem.run Tryz.prog (Instr.findKey 3 (.int .i64 0) []) w = .ok none w := by kernel_rfl
theorem run_getObj {w : World} {b : Nat} {es : Array MapEntry} {ck : Nat} (h : w.heap[b]? = some (.map es ck)) : Sem.run Tryz.prog (getObj b) w = .ok (.map es ck) w := by
  simp [getObj, Sem.run, h]
theorem look_235e (b : Nat) (w : World) (h : w.heap[b]? = some (.map #[] 0)) : Sem.run Tryz.prog (Instr.lookup 235 (.map (some b)) (.agg #[.int .i64 0, .int .i64 0]) true) w = .ok (.tuple #[.int .i64 0, .bool false]) w := by
  have u := Tryz.underlying235
  unfold Instr.lookup
  simp [go_sem, u, run_getObj h, chk72, fnd72e, zv3]
/-- a map with the first call -/
def one72 : Obj := .map #[{ key := .agg #[.int .i64 0, .int .i64 0], val := .int .i64 0, born := 0 }] 1
theorem look_235 (b : Nat) (w : World) (h : w.heap[b]? = some one72) : Sem.run Tryz.prog (Instr.lookup 235 (.map (some b)) (.agg #[.int .i64 0, .int .i64 0]) true) w = .ok (.tuple #[.int .i64 0, .bool true]) w := by
  have u := Tryz.underlying235
  unfold one72 at h
  unfold Instr.lookup
  simp [go_sem, u, run_getObj h, chk72, fnd72]
theorem look_236e (b : Nat) (w : World) (h : w.heap[b]? = some (.map #[] 0)) : Sem.run Tryz.prog (Instr.lookup 236 (.map (some b)) (.int .i64 0) true) w = .ok (.tuple #[.int .i64 0, .bool false]) w := by
  have u := Tryz.underlying236
  unfold Instr.lookup
  simp [go_sem, u, run_getObj h, chk3, fnd3e, zv3]
def setM (w : World) (b : Nat) (o : Obj) : World := { w with heap := w.heap.set! b o }
theorem put_235 (b : Nat) (w : World) (h : w.heap[b]? = some (.map #[] 0)) : Sem.run Tryz.prog (Instr.mapUpdate 235 (.map (some b)) (.agg #[.int .i64 0, .int .i64 0]) (.int .i64 0)) w = .ok () (setM w b one72) := by
  have u := Tryz.underlying235
  unfold Instr.mapUpdate
  simp [go_sem, u, run_getObj h, chk72, fnd72e, setObj, setM, one72]
  simp [Sem.run, h]
theorem put_236 (b : Nat) (w : World) (h : w.heap[b]? = some (.map #[] 0)) : Sem.run Tryz.prog (Instr.mapUpdate 236 (.map (some b)) (.int .i64 0) (.int .i64 0)) w = .ok () (setM w b (.map #[{ key := .int .i64 0, val := .int .i64 0, born := 0 }] 1)) := by
  have u := Tryz.underlying236
  unfold Instr.mapUpdate
  simp [go_sem, u, run_getObj h, chk3, fnd3e, setObj, setM]
  simp [Sem.run, h]
theorem only_setM (w : World) (b : Nat) (o : Obj) : Only (· = b) w (setM w b o) := by
  refine ⟨rfl, rfl, rfl, by simp [setM], fun k hk hne => ?_⟩
  simp [setM, Array.getElem?_setIfInBounds_ne (fun e : b = k => hne e.symm)]
theorem at_setM {w : World} {b : Nat} {o : Obj} (h : b < w.heap.size) : (setM w b o).heap[b]? = some o := by
  simp [setM, h]
end Go.Proofs.YtlipngdfhpaodaaGreat.Lo

/- The walks of the parts of linear.Fits at one call. -/
namespace Go.Proofs.YtlipngdfhpaodaaGreat.Lo
open Go.RowKit
set_option maxRecDepth 100000

/-- the call's cells, and what became of it -/
def doneA : Array Value := #[.int .i64 0, .int .i64 0, .int .i64 0, .slice none 0 0, .int .u64 0, .int .i64 0, .int .i64 3, .int .i64 2, .int .i64 3, .int .i64 0, .bool true]
def doneZ : Array Value := #[.int .i64 0, .int .i64 0, .int .i64 0, .slice none 0 0, .int .u64 0, .int .i64 0, .int .i64 0, .int .i64 0, .int .i64 0, .int .i64 0, .bool false]
def callA : Array Value := #[.int .i64 1, .int .i64 0, .int .i64 0, .int .i64 1, .string ⟨#[99]⟩, .string ⟨#[]⟩, .slice none 0 0, .int .i64 0, .float .f64 0]
/-- the script and the history of one call -/
structure FIn (sb cb hb db : Nat) (w : World) : Prop where
  s1 : w.heap[sb]? = some (.cells #[.slice (some ⟨cb, 0, none⟩) 1 1] 218 (0, 0))
  s2 : w.heap[cb]? = some (.cells callA 217 (0, 0))
  h1 : w.heap[hb]? = some (.cells #[.slice (some ⟨db, 0, none⟩) 1 1] 221 (0, 0))
  h2 : w.heap[db]? = some (.cells doneA 220 (0, 0))
theorem FIn.only {sb cb hb db : Nat} {w w' : World} {S : Nat → Prop} (h : FIn sb cb hb db w) (O : Only S w w') (q1 : ¬ S sb) (q2 : ¬ S cb) (q3 : ¬ S hb) (q4 : ¬ S db) : FIn sb cb hb db w' :=
  ⟨O.blk h.s1 q1, O.blk h.s2 q2, O.blk h.h1 q3, O.blk h.h2 q4⟩
def scrV (sb : Nat) : Value := .agg #[.slice (some ⟨sb, 0, none⟩) 1 1, .slice none 0 0, .bool false]
def hisV (hb : Nat) : Value := .agg #[.slice (some ⟨hb, 0, none⟩) 1 1, .int .i64 3]

theorem slot_0 (w : World) : Calls Tryz.prog 212 #[.int .i64 0] w fun e w' => e = .returned (.bool true) ∧ w' = w := by
  go_enter Tryz.func212, Tryz.ntmps212
  go_wp2_with fail
  go_ret
  exact ⟨rfl, rfl⟩
theorem eqf_nil (w : World) : Calls Tryz.prog 213 #[.slice none 0 0, .slice none 0 0, .func (.func 214) #[] #[]] w fun e w' => e = .returned (.bool true) ∧ w' = w := by
  go_enter Tryz.func213, Tryz.ntmps213
  go_wp2_with fail
  go_loopw [17] (fun v wr => v = .int .i64 0 ∧ wr = w) (fun _ _ => 0)
  case atStart => exact ⟨rfl, rfl⟩
  case round =>
    obtain ⟨rfl, rfl⟩ := hrel
    go_wp2_with fail
    go_ret
    exact ⟨rfl, rfl⟩
theorem same_0 (w : World) : Calls Tryz.prog 153 #[.agg #[.int .i64 0, .slice none 0 0, .int .u64 0], .agg #[.int .i64 0, .slice none 0 0, .int .u64 0]] w fun e w' => e = .returned (.bool true) ∧ Only (fun _ => False) w w' := by
  have O := Lib.hid (((Only.refl (fun _ => False) w).alloc (.cells #[.int .i64 0, .slice none 0 0, .int .u64 0] 69)).alloc (.cells #[.int .i64 0, .slice none 0 0, .int .u64 0] 69))
  go_enter Tryz.func153, Tryz.ntmps153
  go_wp2_with fail
  refine (eqf_nil _).mono ?_
  rintro e w1 ⟨rfl, hw⟩; rw [hw]; clear hw w1
  go_wp2_with fail
  go_ret
  exact ⟨rfl, O.out⟩
theorem told_0 (w : World) : Calls Tryz.prog 93 #[.agg doneZ, .agg doneA] w fun e w' => e = .returned (.bool true) ∧ Only (fun _ => False) w w' := by
  unfold doneZ doneA
  have O := Lib.hid (((Only.refl (fun _ => False) w).alloc (.cells doneZ 220)).alloc (.cells doneA 220))
  unfold doneZ doneA at O
  go_enter Tryz.func93, Tryz.ntmps93
  go_wp2_with fail
  refine (same_0 _).mono ?_
  rintro e w1 ⟨rfl, O1⟩
  have X := Lib.hid (O.out.trans O1)
  clear O1 O
  go_wp2_with fail
  go_ret
  exact ⟨rfl, X.out⟩
end Go.Proofs.YtlipngdfhpaodaaGreat.Lo

/- The walks of linear.call, time, register and do at one call. -/
namespace Go.Proofs.YtlipngdfhpaodaaGreat.Lo
open Go.RowKit
set_option maxRecDepth 100000

theorem cells_of {w : World} {b : Nat} {X : Array Value} {t : TypeId} (h : w.heap[b]? = some (.cells X t (0, 0))) {i : Nat} {v : Value} (hv : X[i]? = some v) : w.cell? ⟨b, i, none⟩ = some v := by rw [blk_cell h, hv]
/-- eleven cells laid -/
def put11 (w : World) (b : Nat) (v0 v1 v2 v3 v4 v5 v6 v7 v8 v9 v10 : Value) : World := (((((((((((w.setCell ⟨b, 0, none⟩ v0).setCell ⟨b, 1, none⟩ v1).setCell ⟨b, 2, none⟩ v2).setCell ⟨b, 3, none⟩ v3).setCell ⟨b, 4, none⟩ v4).setCell ⟨b, 5, none⟩ v5).setCell ⟨b, 6, none⟩ v6).setCell ⟨b, 7, none⟩ v7).setCell ⟨b, 8, none⟩ v8).setCell ⟨b, 9, none⟩ v9).setCell ⟨b, 10, none⟩ v10)
theorem put11_blk {w : World} {b : Nat} {u0 u1 u2 u3 u4 u5 u6 u7 u8 u9 u10 : Value} (h : w.heap[b]? = some (.cells #[u0, u1, u2, u3, u4, u5, u6, u7, u8, u9, u10] 220 (0, 0))) (v0 v1 v2 v3 v4 v5 v6 v7 v8 v9 v10 : Value) : (put11 w b v0 v1 v2 v3 v4 v5 v6 v7 v8 v9 v10).heap[b]? = some (.cells #[v0, v1, v2, v3, v4, v5, v6, v7, v8, v9, v10] 220 (0, 0)) := by
  have h0 : (w.setCell ⟨b, 0, none⟩ v0).heap[b]? = some (.cells #[v0, u1, u2, u3, u4, u5, u6, u7, u8, u9, u10] 220 (0, 0)) := by rw [blk_set h]; rfl
  have h1 : ((w.setCell ⟨b, 0, none⟩ v0).setCell ⟨b, 1, none⟩ v1).heap[b]? = some (.cells #[v0, v1, u2, u3, u4, u5, u6, u7, u8, u9, u10] 220 (0, 0)) := by rw [blk_set h0]; rfl
  have h2 : (((w.setCell ⟨b, 0, none⟩ v0).setCell ⟨b, 1, none⟩ v1).setCell ⟨b, 2, none⟩ v2).heap[b]? = some (.cells #[v0, v1, v2, u3, u4, u5, u6, u7, u8, u9, u10] 220 (0, 0)) := by rw [blk_set h1]; rfl
  have h3 : ((((w.setCell ⟨b, 0, none⟩ v0).setCell ⟨b, 1, none⟩ v1).setCell ⟨b, 2, none⟩ v2).setCell ⟨b, 3, none⟩ v3).heap[b]? = some (.cells #[v0, v1, v2, v3, u4, u5, u6, u7, u8, u9, u10] 220 (0, 0)) := by rw [blk_set h2]; rfl
  have h4 : (((((w.setCell ⟨b, 0, none⟩ v0).setCell ⟨b, 1, none⟩ v1).setCell ⟨b, 2, none⟩ v2).setCell ⟨b, 3, none⟩ v3).setCell ⟨b, 4, none⟩ v4).heap[b]? = some (.cells #[v0, v1, v2, v3, v4, u5, u6, u7, u8, u9, u10] 220 (0, 0)) := by rw [blk_set h3]; rfl
  have h5 : ((((((w.setCell ⟨b, 0, none⟩ v0).setCell ⟨b, 1, none⟩ v1).setCell ⟨b, 2, none⟩ v2).setCell ⟨b, 3, none⟩ v3).setCell ⟨b, 4, none⟩ v4).setCell ⟨b, 5, none⟩ v5).heap[b]? = some (.cells #[v0, v1, v2, v3, v4, v5, u6, u7, u8, u9, u10] 220 (0, 0)) := by rw [blk_set h4]; rfl
  have h6 : (((((((w.setCell ⟨b, 0, none⟩ v0).setCell ⟨b, 1, none⟩ v1).setCell ⟨b, 2, none⟩ v2).setCell ⟨b, 3, none⟩ v3).setCell ⟨b, 4, none⟩ v4).setCell ⟨b, 5, none⟩ v5).setCell ⟨b, 6, none⟩ v6).heap[b]? = some (.cells #[v0, v1, v2, v3, v4, v5, v6, u7, u8, u9, u10] 220 (0, 0)) := by rw [blk_set h5]; rfl
  have h7 : ((((((((w.setCell ⟨b, 0, none⟩ v0).setCell ⟨b, 1, none⟩ v1).setCell ⟨b, 2, none⟩ v2).setCell ⟨b, 3, none⟩ v3).setCell ⟨b, 4, none⟩ v4).setCell ⟨b, 5, none⟩ v5).setCell ⟨b, 6, none⟩ v6).setCell ⟨b, 7, none⟩ v7).heap[b]? = some (.cells #[v0, v1, v2, v3, v4, v5, v6, v7, u8, u9, u10] 220 (0, 0)) := by rw [blk_set h6]; rfl
  have h8 : (((((((((w.setCell ⟨b, 0, none⟩ v0).setCell ⟨b, 1, none⟩ v1).setCell ⟨b, 2, none⟩ v2).setCell ⟨b, 3, none⟩ v3).setCell ⟨b, 4, none⟩ v4).setCell ⟨b, 5, none⟩ v5).setCell ⟨b, 6, none⟩ v6).setCell ⟨b, 7, none⟩ v7).setCell ⟨b, 8, none⟩ v8).heap[b]? = some (.cells #[v0, v1, v2, v3, v4, v5, v6, v7, v8, u9, u10] 220 (0, 0)) := by rw [blk_set h7]; rfl
  have h9 : ((((((((((w.setCell ⟨b, 0, none⟩ v0).setCell ⟨b, 1, none⟩ v1).setCell ⟨b, 2, none⟩ v2).setCell ⟨b, 3, none⟩ v3).setCell ⟨b, 4, none⟩ v4).setCell ⟨b, 5, none⟩ v5).setCell ⟨b, 6, none⟩ v6).setCell ⟨b, 7, none⟩ v7).setCell ⟨b, 8, none⟩ v8).setCell ⟨b, 9, none⟩ v9).heap[b]? = some (.cells #[v0, v1, v2, v3, v4, v5, v6, v7, v8, v9, u10] 220 (0, 0)) := by rw [blk_set h8]; rfl
  have h10 : (((((((((((w.setCell ⟨b, 0, none⟩ v0).setCell ⟨b, 1, none⟩ v1).setCell ⟨b, 2, none⟩ v2).setCell ⟨b, 3, none⟩ v3).setCell ⟨b, 4, none⟩ v4).setCell ⟨b, 5, none⟩ v5).setCell ⟨b, 6, none⟩ v6).setCell ⟨b, 7, none⟩ v7).setCell ⟨b, 8, none⟩ v8).setCell ⟨b, 9, none⟩ v9).setCell ⟨b, 10, none⟩ v10).heap[b]? = some (.cells #[v0, v1, v2, v3, v4, v5, v6, v7, v8, v9, v10] 220 (0, 0)) := by rw [blk_set h9]; rfl
  exact h10
theorem put11_only {w0 w : World} {b : Nat} (h : Only (fun _ => False) w0 w) (hb : w0.heap.size ≤ b) (v0 v1 v2 v3 v4 v5 v6 v7 v8 v9 v10 : Value) : Only (fun _ => False) w0 (put11 w b v0 v1 v2 v3 v4 v5 v6 v7 v8 v9 v10) := by
  unfold put11
  iterate 11 refine Only.setCell ?_ (.inl hb) _
  exact h
theorem put11_cells {w : World} {b : Nat} {v0 v1 v2 v3 v4 v5 v6 v7 v8 v9 v10 : Value} (h : w.heap[b]? = some (.cells #[v0, v1, v2, v3, v4, v5, v6, v7, v8, v9, v10] 220 (0, 0))) :
    w.cell? ⟨b, 0, none⟩ = some v0 ∧ w.cell? ⟨b, 1, none⟩ = some v1 ∧ w.cell? ⟨b, 2, none⟩ = some v2 ∧ w.cell? ⟨b, 3, none⟩ = some v3 ∧ w.cell? ⟨b, 4, none⟩ = some v4 ∧ w.cell? ⟨b, 5, none⟩ = some v5 ∧ w.cell? ⟨b, 6, none⟩ = some v6 ∧ w.cell? ⟨b, 7, none⟩ = some v7 ∧ w.cell? ⟨b, 8, none⟩ = some v8 ∧ w.cell? ⟨b, 9, none⟩ = some v9 ∧ w.cell? ⟨b, 10, none⟩ = some v10 :=
  ⟨cells_of h rfl, cells_of h rfl, cells_of h rfl, cells_of h rfl, cells_of h rfl, cells_of h rfl, cells_of h rfl, cells_of h rfl, cells_of h rfl, cells_of h rfl, cells_of h rfl⟩
set_option maxHeartbeats 4000000 in
theorem call_0 {sb cb hb db : Nat} {w : World} (h : FIn sb cb hb db w) :
    Calls Tryz.prog 90 #[hisV hb, scrV sb, .agg #[.int .i64 0, .int .i64 0]] w fun e w' => e = .returned (.tuple #[.agg doneA, .bool true]) ∧ Only (fun _ => False) w w' := by
  unfold hisV scrV
  obtain ⟨W1, hW⟩ : ∃ W1, W1 = (((w.alloc (.cells #[.slice (some ⟨hb, 0, none⟩) 1 1, .int .i64 3] 90)).alloc (.cells #[.slice (some ⟨sb, 0, none⟩) 1 1, .slice none 0 0, .bool false] 96)).alloc (.cells #[.int .i64 0, .int .i64 0] 72)).alloc (.cells doneZ 220) := ⟨_, rfl⟩
  have O1 : Only (fun _ => False) w W1 := by rw [hW]; exact ((((Only.refl (fun _ => False) w).alloc _).alloc _).alloc _).alloc _
  have F1 := h.only O1 id id id id
  have c1 : W1.cell? ⟨sb, 0, none⟩ = some (.slice (some ⟨cb, 0, none⟩) 1 1) := cells_of F1.s1 rfl
  have c2 : W1.cell? ⟨hb, 0, none⟩ = some (.slice (some ⟨db, 0, none⟩) 1 1) := cells_of F1.h1 rfl
  have z0 : W1.cell? ⟨db, 0, none⟩ = some (.int .i64 0) := cells_of F1.h2 rfl
  have z1 : W1.cell? ⟨db, 1, none⟩ = some (.int .i64 0) := cells_of F1.h2 rfl
  have z2 : W1.cell? ⟨db, 2, none⟩ = some (.int .i64 0) := cells_of F1.h2 rfl
  have z3 : W1.cell? ⟨db, 3, none⟩ = some (.slice none 0 0) := cells_of F1.h2 rfl
  have z4 : W1.cell? ⟨db, 4, none⟩ = some (.int .u64 0) := cells_of F1.h2 rfl
  have z5 : W1.cell? ⟨db, 5, none⟩ = some (.int .i64 0) := cells_of F1.h2 rfl
  have z6 : W1.cell? ⟨db, 6, none⟩ = some (.int .i64 3) := cells_of F1.h2 rfl
  have z7 : W1.cell? ⟨db, 7, none⟩ = some (.int .i64 2) := cells_of F1.h2 rfl
  have z8 : W1.cell? ⟨db, 8, none⟩ = some (.int .i64 3) := cells_of F1.h2 rfl
  have z9 : W1.cell? ⟨db, 9, none⟩ = some (.int .i64 0) := cells_of F1.h2 rfl
  have z10 : W1.cell? ⟨db, 10, none⟩ = some (.bool true) := cells_of F1.h2 rfl
  have b0 : W1.heap[w.heap.size]? = some (.cells #[.slice (some ⟨hb, 0, none⟩) 1 1, .int .i64 3] 90 (0, 0)) := by rw [hW]; exact blk_alloc (blk_alloc (blk_alloc (blk_new _ _) _) _) _
  have s1 : (w.alloc (.cells #[.slice (some ⟨hb, 0, none⟩) 1 1, .int .i64 3] 90)).heap.size = w.heap.size + 1 := by simp
  have s2 : ((w.alloc (.cells #[.slice (some ⟨hb, 0, none⟩) 1 1, .int .i64 3] 90)).alloc (.cells #[.slice (some ⟨sb, 0, none⟩) 1 1, .slice none 0 0, .bool false] 96)).heap.size = w.heap.size + 2 := by simp
  have s3 : (((w.alloc (.cells #[.slice (some ⟨hb, 0, none⟩) 1 1, .int .i64 3] 90)).alloc (.cells #[.slice (some ⟨sb, 0, none⟩) 1 1, .slice none 0 0, .bool false] 96)).alloc (.cells #[.int .i64 0, .int .i64 0] 72)).heap.size = w.heap.size + 3 := by simp
  have b1 : W1.heap[w.heap.size + 1]? = some (.cells #[.slice (some ⟨sb, 0, none⟩) 1 1, .slice none 0 0, .bool false] 96 (0, 0)) := by rw [hW, ← s1]; exact blk_alloc (blk_alloc (blk_new _ _) _) _
  have b2 : W1.heap[w.heap.size + 2]? = some (.cells #[.int .i64 0, .int .i64 0] 72 (0, 0)) := by rw [hW, ← s2]; exact blk_alloc (blk_new _ _) _
  have b3 : W1.heap[w.heap.size + 3]? = some (.cells doneZ 220 (0, 0)) := by rw [hW, ← s3]; exact blk_new _ _
  have e0 : W1.cell? ⟨w.heap.size, 0, none⟩ = some (.slice (some ⟨hb, 0, none⟩) 1 1) := cells_of b0 rfl
  have e1 : W1.cell? ⟨w.heap.size + 1, 0, none⟩ = some (.slice (some ⟨sb, 0, none⟩) 1 1) := cells_of b1 rfl
  have e2 : W1.cell? ⟨w.heap.size + 2, 0, none⟩ = some (.int .i64 0) := cells_of b2 rfl
  have e3 : W1.cell? ⟨w.heap.size + 2, 1, none⟩ = some (.int .i64 0) := cells_of b2 rfl
  have y0 : W1.cell? ⟨w.heap.size + 1 + 1 + 1, 0, none⟩ = some (.int .i64 0) := cells_of b3 rfl
  have f0 : W1.frozen? ⟨w.heap.size + 1 + 1 + 1, 0, none⟩ = false := blk_free b3 _
  have y1 : W1.cell? ⟨w.heap.size + 1 + 1 + 1, 1, none⟩ = some (.int .i64 0) := cells_of b3 rfl
  have f1 : W1.frozen? ⟨w.heap.size + 1 + 1 + 1, 1, none⟩ = false := blk_free b3 _
  have y2 : W1.cell? ⟨w.heap.size + 1 + 1 + 1, 2, none⟩ = some (.int .i64 0) := cells_of b3 rfl
  have f2 : W1.frozen? ⟨w.heap.size + 1 + 1 + 1, 2, none⟩ = false := blk_free b3 _
  have y3 : W1.cell? ⟨w.heap.size + 1 + 1 + 1, 3, none⟩ = some (.slice none 0 0) := cells_of b3 rfl
  have f3 : W1.frozen? ⟨w.heap.size + 1 + 1 + 1, 3, none⟩ = false := blk_free b3 _
  have y4 : W1.cell? ⟨w.heap.size + 1 + 1 + 1, 4, none⟩ = some (.int .u64 0) := cells_of b3 rfl
  have f4 : W1.frozen? ⟨w.heap.size + 1 + 1 + 1, 4, none⟩ = false := blk_free b3 _
  have y5 : W1.cell? ⟨w.heap.size + 1 + 1 + 1, 5, none⟩ = some (.int .i64 0) := cells_of b3 rfl
  have f5 : W1.frozen? ⟨w.heap.size + 1 + 1 + 1, 5, none⟩ = false := blk_free b3 _
  have y6 : W1.cell? ⟨w.heap.size + 1 + 1 + 1, 6, none⟩ = some (.int .i64 0) := cells_of b3 rfl
  have f6 : W1.frozen? ⟨w.heap.size + 1 + 1 + 1, 6, none⟩ = false := blk_free b3 _
  have y7 : W1.cell? ⟨w.heap.size + 1 + 1 + 1, 7, none⟩ = some (.int .i64 0) := cells_of b3 rfl
  have f7 : W1.frozen? ⟨w.heap.size + 1 + 1 + 1, 7, none⟩ = false := blk_free b3 _
  have y8 : W1.cell? ⟨w.heap.size + 1 + 1 + 1, 8, none⟩ = some (.int .i64 0) := cells_of b3 rfl
  have f8 : W1.frozen? ⟨w.heap.size + 1 + 1 + 1, 8, none⟩ = false := blk_free b3 _
  have y9 : W1.cell? ⟨w.heap.size + 1 + 1 + 1, 9, none⟩ = some (.int .i64 0) := cells_of b3 rfl
  have f9 : W1.frozen? ⟨w.heap.size + 1 + 1 + 1, 9, none⟩ = false := blk_free b3 _
  have y10 : W1.cell? ⟨w.heap.size + 1 + 1 + 1, 10, none⟩ = some (.bool false) := cells_of b3 rfl
  have f10 : W1.frozen? ⟨w.heap.size + 1 + 1 + 1, 10, none⟩ = false := blk_free b3 _
  have HO := Lib.hid O1
  have HB3 := Lib.hid b3
  unfold doneZ at hW
  have HW' := Lib.hid hW
  clear F1 b0 b1 b2 b3 s1 s2 s3 O1 h hW
  go_enter Tryz.func90, Tryz.ntmps90
  go_wp2_with fail
  rw [← HW'.out]
  go_region
  go_wp2_with fail
  obtain ⟨k0, k1, k2, k3, k4, k5, k6, k7, k8, k9, k10⟩ := put11_cells (put11_blk HB3.out (.int .i64 0) (.int .i64 0) (.int .i64 0) (.slice none 0 0) (.int .u64 0) (.int .i64 0) (.int .i64 3) (.int .i64 2) (.int .i64 3) (.int .i64 0) (.bool true))
  refine bodyPost_ret (w := (put11 W1 (w.heap.size + 3) (.int .i64 0) (.int .i64 0) (.int .i64 0) (.slice none 0 0) (.int .u64 0) (.int .i64 0) (.int .i64 3) (.int .i64 2) (.int .i64 3) (.int .i64 0) (.bool true)).drew) (v := .tuple #[.agg doneA, .bool true]) (by simp [results, Tryz.results90, go_sem, doneA, k0, k1, k2, k3, k4, k5, k6, k7, k8, k9, k10]) rfl ⟨rfl, ?_⟩
  exact (put11_only HO.out (by omega) _ _ _ _ _ _ _ _ _ _ _).drew
end Go.Proofs.YtlipngdfhpaodaaGreat.Lo

/- The walk of time at the first call. -/
namespace Go.Proofs.YtlipngdfhpaodaaGreat.Lo
open Go.RowKit
set_option maxRecDepth 100000
def TimeRes (pb m1 m2 : Nat) (w : World) (e : Ending) (w' : World) : Prop := e = .returned (.bool true) ∧ Only (fun k => k = pb ∨ k = m2) w w' ∧ w'.heap[pb]? = some (.cells #[.map (some m1), .map (some m2), .int .i64 0, .bool true] 238 (0, 0))
set_option maxHeartbeats 4000000 in
theorem time_0 {pb m1 m2 : Nat} {w : World} (hp : w.heap[pb]? = some (.cells #[.map (some m1), .map (some m2), .int .i64 0, .bool false] 238 (0, 0))) (hm : w.heap[m2]? = some (.map #[] 0)) :
    Calls Tryz.prog 91 #[.pointer (some ⟨pb, 0, none⟩), .agg #[.int .i64 0, .int .i64 0], .agg doneA] w (TimeRes pb m1 m2 w) := by
  have hne : pb ≠ m2 := by rintro rfl; rw [hp] at hm; cases hm
  obtain ⟨W1, hW⟩ : ∃ W1, W1 = (w.alloc (.cells #[.int .i64 0, .int .i64 0] 72)).alloc (.cells doneA 220) := ⟨_, rfl⟩
  have O1 : Only (fun k => k = pb ∨ k = m2) w W1 := by rw [hW]; exact ((Only.refl _ w).alloc _).alloc _
  have p1 : W1.heap[pb]? = some (.cells #[.map (some m1), .map (some m2), .int .i64 0, .bool false] 238 (0, 0)) := by rw [hW]; exact blk_alloc (blk_alloc hp _) _
  have q1 : W1.heap[m2]? = some (.map #[] 0) := by rw [hW]; exact blk_alloc (blk_alloc hm _) _
  have s1 : (w.alloc (.cells #[.int .i64 0, .int .i64 0] 72)).heap.size = w.heap.size + 1 := by simp
  have b0 : W1.heap[w.heap.size]? = some (.cells #[.int .i64 0, .int .i64 0] 72 (0, 0)) := by rw [hW]; exact blk_alloc (blk_new _ _) _
  have b1 : W1.heap[w.heap.size + 1]? = some (.cells doneA 220 (0, 0)) := by rw [hW, ← s1]; exact blk_new _ _
  have c0 : W1.cell? ⟨pb, 0, none⟩ = some (.map (some m1)) := cells_of p1 rfl
  have c1 : W1.cell? ⟨pb, 1, none⟩ = some (.map (some m2)) := cells_of p1 rfl
  have c2 : W1.cell? ⟨pb, 2, none⟩ = some (.int .i64 0) := cells_of p1 rfl
  have c3 : W1.cell? ⟨pb, 3, none⟩ = some (.bool false) := cells_of p1 rfl
  have a0 : W1.cell? ⟨w.heap.size, 0, none⟩ = some (.int .i64 0) := cells_of b0 rfl
  have a1 : W1.cell? ⟨w.heap.size, 1, none⟩ = some (.int .i64 0) := cells_of b0 rfl
  have lk := look_236e m2 W1.drew q1
  have hlt := blk_lt hp
  have hlm := blk_lt hm
  obtain ⟨W4, hW4⟩ : ∃ W4, W4 = setM W1.drew.drew.drew m2 (.map #[{ key := .int .i64 0, val := .int .i64 0, born := 0 }] 1) := ⟨_, rfl⟩
  have pt := put_236 m2 W1.drew.drew.drew q1
  rw [← hW4] at pt
  have O4 : Only (fun k => k = pb ∨ k = m2) w W4 := by rw [hW4]; exact O1.drew.drew.drew.trans ((only_setM _ _ _).mono fun k _ e => .inr e)
  have O5 : Only (· = m2) W1 W4 := by rw [hW4]; exact (Only.refl _ W1).drew.drew.drew.trans (only_setM _ _ _)
  have p4 := O5.blk p1 hne
  have b4 := O5.blk b0 (show ¬ w.heap.size = m2 by have := blk_lt hm; omega)
  have b5 := O5.blk b1 (show ¬ w.heap.size + 1 = m2 by have := blk_lt hm; omega)
  have d3 : W4.cell? ⟨pb, 3, none⟩ = some (.bool false) := cells_of p4 rfl
  have d2 : W4.cell? ⟨pb, 2, none⟩ = some (.int .i64 0) := cells_of p4 rfl
  have g3 : W4.frozen? ⟨pb, 3, none⟩ = false := blk_free p4 _
  have g2 : W4.frozen? ⟨pb, 2, none⟩ = false := blk_free p4 _
  have d5 : W4.cell? ⟨w.heap.size + 1, 5, none⟩ = some (.int .i64 0) := cells_of b5 rfl
  have a4 : W4.cell? ⟨w.heap.size, 0, none⟩ = some (.int .i64 0) := cells_of b4 rfl
  have HO4 := Lib.hid O4; have HP4 := Lib.hid p4
  clear hW4 O4 O5 p4 b4 b5
  unfold doneA at hW
  have HW := Lib.hid hW; have HO := Lib.hid O1; have HP := Lib.hid p1; have HQ := Lib.hid q1; have HB0 := Lib.hid b0; have HB1 := Lib.hid b1
  clear hW O1 p1 q1 s1 b0 b1 hp hm
  unfold doneA
  go_enter Tryz.func91, Tryz.ntmps91
  go_wp2_with fail
  rw [← HW.out]
  go_region
  all_goals
    go_wp2_with fail
    go_region
    all_goals
      go_wp2_with fail
      go_region
      all_goals
        go_wp2_with fail
        go_region
        all_goals
          go_wp2_with fail
          go_ret
          refine ⟨rfl, ?_, ?_⟩
          · exact ((HO4.out.setCell (p := ⟨pb, 2, none⟩) (.inr (.inl rfl)) _).setCell (p := ⟨pb, 3, none⟩) (.inr (.inl rfl)) _).drew
          · exact blk_set (blk_set HP4.out 2 (.int .i64 0)) 3 (.bool true)
end Go.Proofs.YtlipngdfhpaodaaGreat.Lo

/- The walks of register and do at the first call. -/
namespace Go.Proofs.YtlipngdfhpaodaaGreat.Lo
open Go.RowKit
set_option maxRecDepth 100000
theorem put11_onlyS {S : Nat → Prop} {w0 w : World} {b : Nat} (h : Only S w0 w) (hb : w0.heap.size ≤ b ∨ S b) (v0 v1 v2 v3 v4 v5 v6 v7 v8 v9 v10 : Value) : Only S w0 (put11 w b v0 v1 v2 v3 v4 v5 v6 v7 v8 v9 v10) := by
  unfold put11
  iterate 11 refine Only.setCell ?_ hb _
  exact h
/-- the block of the slots -/
def slotA (r m3 : Nat) : Array Value := #[.pointer (some ⟨r, 0, none⟩), .int .i64 0, .int .i64 0, .int .i64 0, .int .i64 0, .int .i64 0, .int .i64 0, .int .i64 0, .int .i64 0, .int .i64 0, .int .i64 0, .int .i64 0, .int .i64 0, .int .i64 0, .int .i64 0, .int .i64 0, .int .i64 0, .bool false, .bool false, .bool false, .bool false, .bool false, .bool false, .bool false, .bool false, .bool false, .bool false, .bool false, .bool false, .bool false, .bool false, .bool false, .bool false, .map (some m3)]
/-- ahead of the Register -/
structure R0 (base r sh ph mp pl : Nat) (fr : Int) (sl m3 B : Nat) (W1 w' : World) : Prop where
  only : Only (fun _ => False) W1 w'
  new : RgNew base r sh ph mp pl 1 1 100 fr w'
  slb : w'.heap[sl]? = some (.cells (slotA r m3) 243 (0, 0))
  box : w'.heap[B]? = some (.cells callA 217 (0, 0))
  dn : w'.heap[B + 1]? = some (.cells doneZ 220 (0, 0))
section
variable {base r sh ph mp pl : Nat} {fr : Int} {sl m3 B : Nat} {W1 w' : World}
theorem R0.drew (h : R0 base r sh ph mp pl fr sl m3 B W1 w') : R0 base r sh ph mp pl fr sl m3 B W1 w'.drew :=
  ⟨h.only.drew, h.new.only (Only.refl _ _).drew, h.slb, h.box, h.dn⟩
def C0 (r sl B : Nat) (w' : World) : Prop :=
  w'.cell? ⟨sl, 0, none⟩ = some (.pointer (some ⟨r, 0, none⟩)) ∧ w'.cell? ⟨B, 3, none⟩ = some (.int .i64 1) ∧ w'.cell? ⟨B, 4, none⟩ = some (.string ⟨#[99]⟩) ∧ w'.cell? ⟨B, 5, none⟩ = some (.string ⟨#[]⟩) ∧ w'.cell? ⟨B, 6, none⟩ = some (.slice none 0 0)
theorem R0.cells (h : R0 base r sh ph mp pl fr sl m3 B W1 w') : w'.cell? ⟨sl, 0, none⟩ = some (.pointer (some ⟨r, 0, none⟩)) ∧ w'.cell? ⟨B, 3, none⟩ = some (.int .i64 1) ∧ w'.cell? ⟨B, 4, none⟩ = some (.string ⟨#[99]⟩) ∧ w'.cell? ⟨B, 5, none⟩ = some (.string ⟨#[]⟩) ∧ w'.cell? ⟨B, 6, none⟩ = some (.slice none 0 0) :=
  ⟨cells_of h.slb rfl, cells_of h.box rfl, cells_of h.box rfl, cells_of h.box rfl, cells_of h.box rfl⟩
end
def RegR (r mp sl : Nat) (w : World) (e : Ending) (w' : World) : Prop := e = .returned (.agg doneZ) ∧ Only (fun k => k = r ∨ k = mp ∨ k = sl) w w'
set_option maxHeartbeats 8000000 in
theorem register_0 {base r sh ph mp pl : Nat} {fr : Int} {sl m3 : Nat} {w : World} (h : RgNew base r sh ph mp pl 1 1 100 fr w) (hs : w.heap[sl]? = some (.cells (slotA r m3) 243 (0, 0))) :
    Calls Tryz.prog 150 #[.pointer (some ⟨sl, 0, none⟩), .agg callA] w (RegR r mp sl w) := by
  obtain ⟨W1, hW⟩ : ∃ W1, W1 = (w.alloc (.cells callA 217)).alloc (.cells doneZ 220) := ⟨_, rfl⟩
  have O1 : Only (fun _ => False) w W1 := by rw [hW]; exact ((Only.refl _ w).alloc _).alloc _
  have s1 : (w.alloc (.cells callA 217)).heap.size = w.heap.size + 1 := by simp
  have b0 : W1.heap[w.heap.size]? = some (.cells callA 217 (0, 0)) := by rw [hW]; exact blk_alloc (blk_new _ _) _
  have b1 : W1.heap[w.heap.size + 1]? = some (.cells doneZ 220 (0, 0)) := by rw [hW, ← s1]; exact blk_new _ _
  have hR : R0 base r sh ph mp pl fr sl m3 w.heap.size W1 W1 := ⟨Only.refl _ _, h.only O1, O1.blk hs id, b0, b1⟩
  have n1 : sl ≠ r := h.blk.ne hs (by decide)
  have n2 : sl ≠ mp := by rintro rfl; rw [h.mapb] at hs; cases hs
  have n3 := blk_lt h.mapb
  have n4 : r < w.heap.size := by
    obtain ⟨cs, q, _⟩ := h.blk
    exact blk_lt q
  have n5 := blk_lt hs
  unfold callA doneZ at hW
  have HW := Lib.hid hW; have HO := Lib.hid O1
  have a1 : W1.cell? ⟨w.heap.size, 1, none⟩ = some (.int .i64 0) := cells_of b0 rfl
  obtain ⟨c0, c3, c4, c5, c6⟩ := hR.cells
  clear hW O1 b0 b1 s1 h hs
  unfold callA
  go_enter Tryz.func150, Tryz.ntmps150
  go_wp2_with fail
  rw [← HW.out]
  refine (slot_0 W1).mono ?_
  rintro e w1 ⟨rfl, hw⟩; rw [hw]; clear hw w1
  go_wp2_with fail
  have H1 := Lib.hid hR.drew
  clear hR
  go_region_law (first | (go_simp; go_at_call 20; refine (reg_c H1.out.new).mono ?_; rintro e w8 ⟨ib, s, cb, u, L, R, V, rfl, h8⟩; have H8 := Lib.hid h8.only; clear h8))
  all_goals
    have O9 : Only (fun k => k = r ∨ k = mp) W1.drew w8 := H8.out
    have P9 := O9.blk H1.out.slb (by rintro (e | e); exact n1 e; exact n2 e)
    have B9 := O9.blk H1.out.box (by rintro (e | e) <;> omega)
    have D9 := O9.blk H1.out.dn (by rintro (e | e) <;> omega)
    have OW : Only (fun k => k = r ∨ k = mp ∨ k = sl) w w8 := (HO.out.mono fun _ _ q => q.elim).trans (((Only.refl _ W1).drew).trans (O9.mono fun k _ e => by rcases e with e | e; exact .inl e; exact .inr (.inl e)))
    generalize w8 = w9 at *
    have x1 : w9.cell? ⟨w.heap.size, 1, none⟩ = some (.int .i64 0) := cells_of B9 rfl
    have l1 : w9.cell? ⟨sl, 1, none⟩ = some (.int .i64 0) := cells_of P9 rfl
    have l17 : w9.cell? ⟨sl, 17, none⟩ = some (.bool false) := cells_of P9 rfl
    have g1 : w9.frozen? ⟨sl, 1, none⟩ = false := blk_free P9 _
    have g17 : w9.frozen? ⟨sl, 17, none⟩ = false := blk_free P9 _
    have m1 : w.heap.size + 1 ≠ sl := by omega
    have m2 : w.heap.size ≠ sl := by omega
    have m3' : sl ≠ w.heap.size + 1 := by omega
    obtain ⟨w10, hw10⟩ : ∃ w10, w10 = ((w9.setCell ⟨sl, 1, none⟩ (.int .i64 0)).setCell ⟨sl, 17, none⟩ (.bool true)).drew.drew := ⟨_, rfl⟩
    have HD10 : Hid (w10.heap[w.heap.size + 1]? = some (.cells doneZ 220 (0, 0))) := Lib.hid (by rw [hw10]; exact blk_set_ne (blk_set_ne D9 _ _ m1) _ _ m1)
    have HOW10 : Hid (Only (fun k => k = r ∨ k = mp ∨ k = sl) w w10) := Lib.hid (by rw [hw10]; exact ((OW.setCell (p := ⟨sl, 1, none⟩) (.inr (.inr (.inr rfl))) _).setCell (p := ⟨sl, 17, none⟩) (.inr (.inr (.inr rfl))) _).drew.drew)
    have HW10 := Lib.hid hw10
    clear hw10
    clear H8 H1 O9 P9 B9 D9 OW
    go_wp2_with fail
    go_simp
    go_region
    all_goals
      go_wp2_with fail
      go_region
      all_goals
        clear x1 l1 l17 g1 g17
        rw [← HW10.out]
        have y0 : w10.cell? ⟨w.heap.size + 1, 0, none⟩ = some (.int .i64 0) := cells_of HD10.out rfl
        have f0 : w10.frozen? ⟨w.heap.size + 1, 0, none⟩ = false := blk_free HD10.out _
        have y1 : w10.cell? ⟨w.heap.size + 1, 1, none⟩ = some (.int .i64 0) := cells_of HD10.out rfl
        have f1 : w10.frozen? ⟨w.heap.size + 1, 1, none⟩ = false := blk_free HD10.out _
        have y2 : w10.cell? ⟨w.heap.size + 1, 2, none⟩ = some (.int .i64 0) := cells_of HD10.out rfl
        have f2 : w10.frozen? ⟨w.heap.size + 1, 2, none⟩ = false := blk_free HD10.out _
        have y3 : w10.cell? ⟨w.heap.size + 1, 3, none⟩ = some (.slice none 0 0) := cells_of HD10.out rfl
        have f3 : w10.frozen? ⟨w.heap.size + 1, 3, none⟩ = false := blk_free HD10.out _
        have y4 : w10.cell? ⟨w.heap.size + 1, 4, none⟩ = some (.int .u64 0) := cells_of HD10.out rfl
        have f4 : w10.frozen? ⟨w.heap.size + 1, 4, none⟩ = false := blk_free HD10.out _
        have y5 : w10.cell? ⟨w.heap.size + 1, 5, none⟩ = some (.int .i64 0) := cells_of HD10.out rfl
        have f5 : w10.frozen? ⟨w.heap.size + 1, 5, none⟩ = false := blk_free HD10.out _
        have y6 : w10.cell? ⟨w.heap.size + 1, 6, none⟩ = some (.int .i64 0) := cells_of HD10.out rfl
        have f6 : w10.frozen? ⟨w.heap.size + 1, 6, none⟩ = false := blk_free HD10.out _
        have y7 : w10.cell? ⟨w.heap.size + 1, 7, none⟩ = some (.int .i64 0) := cells_of HD10.out rfl
        have f7 : w10.frozen? ⟨w.heap.size + 1, 7, none⟩ = false := blk_free HD10.out _
        have y8 : w10.cell? ⟨w.heap.size + 1, 8, none⟩ = some (.int .i64 0) := cells_of HD10.out rfl
        have f8 : w10.frozen? ⟨w.heap.size + 1, 8, none⟩ = false := blk_free HD10.out _
        have y9 : w10.cell? ⟨w.heap.size + 1, 9, none⟩ = some (.int .i64 0) := cells_of HD10.out rfl
        have f9 : w10.frozen? ⟨w.heap.size + 1, 9, none⟩ = false := blk_free HD10.out _
        have y10 : w10.cell? ⟨w.heap.size + 1, 10, none⟩ = some (.bool false) := cells_of HD10.out rfl
        have f10 : w10.frozen? ⟨w.heap.size + 1, 10, none⟩ = false := blk_free HD10.out _
        go_wp2_with fail
        obtain ⟨k0, k1, k2, k3, k4, k5, k6, k7, k8, k9, k10⟩ := put11_cells (put11_blk HD10.out (.int .i64 0) (.int .i64 0) (.int .i64 0) (.slice none 0 0) (.int .u64 0) (.int .i64 0) (.int .i64 0) (.int .i64 0) (.int .i64 0) (.int .i64 0) (.bool false))
        refine bodyPost_ret (w := (put11 w10 (w.heap.size + 1) (.int .i64 0) (.int .i64 0) (.int .i64 0) (.slice none 0 0) (.int .u64 0) (.int .i64 0) (.int .i64 0) (.int .i64 0) (.int .i64 0) (.int .i64 0) (.bool false))) (v := .agg doneZ) (by simp [results, Tryz.results150, go_sem, doneZ, k0, k1, k2, k3, k4, k5, k6, k7, k8, k9, k10]) rfl ⟨rfl, ?_⟩
        exact put11_onlyS HOW10.out (.inl (by omega)) _ _ _ _ _ _ _ _ _ _ _
end Go.Proofs.YtlipngdfhpaodaaGreat.Lo

/- The walk of do at the first call. -/
namespace Go.Proofs.YtlipngdfhpaodaaGreat.Lo
open Go.RowKit
set_option maxRecDepth 100000
set_option maxHeartbeats 8000000 in
theorem do_0 {base r sh ph mp pl : Nat} {fr : Int} {sl m3 : Nat} {w : World} (h : RgNew base r sh ph mp pl 1 1 100 fr w) (hs : w.heap[sl]? = some (.cells (slotA r m3) 243 (0, 0))) :
    Calls Tryz.prog 92 #[.pointer (some ⟨sl, 0, none⟩), .int .i64 0, .agg callA] w (RegR r mp sl w) := by
  obtain ⟨W1, hW⟩ : ∃ W1, W1 = (w.alloc (.cells callA 217)).alloc (.cells doneZ 220) := ⟨_, rfl⟩
  have O1 : Only (fun _ => False) w W1 := by rw [hW]; exact ((Only.refl _ w).alloc _).alloc _
  have s1 : (w.alloc (.cells callA 217)).heap.size = w.heap.size + 1 := by simp
  have b0 : W1.heap[w.heap.size]? = some (.cells callA 217 (0, 0)) := by rw [hW]; exact blk_alloc (blk_new _ _) _
  have b1 : W1.heap[w.heap.size + 1]? = some (.cells doneZ 220 (0, 0)) := by rw [hW, ← s1]; exact blk_new _ _
  have n1 : sl < w.heap.size := blk_lt hs
  have n2 : mp < w.heap.size := blk_lt h.mapb
  have n4 : r < w.heap.size := by
    obtain ⟨cs, q, _⟩ := h.blk
    exact blk_lt q
  have K := Lib.hid (register_0 (h.only O1) (O1.blk hs id))
  unfold callA doneZ at hW
  have HW := Lib.hid hW; have HO := Lib.hid O1; have HB1 := Lib.hid b1
  have a0 : W1.cell? ⟨w.heap.size, 0, none⟩ = some (.int .i64 1) := cells_of b0 rfl
  have a1 : W1.cell? ⟨w.heap.size, 1, none⟩ = some (.int .i64 0) := cells_of b0 rfl
  have a2 : W1.cell? ⟨w.heap.size, 2, none⟩ = some (.int .i64 0) := cells_of b0 rfl
  have a3 : W1.cell? ⟨w.heap.size, 3, none⟩ = some (.int .i64 1) := cells_of b0 rfl
  have a4 : W1.cell? ⟨w.heap.size, 4, none⟩ = some (.string ⟨#[99]⟩) := cells_of b0 rfl
  have a5 : W1.cell? ⟨w.heap.size, 5, none⟩ = some (.string ⟨#[]⟩) := cells_of b0 rfl
  have a6 : W1.cell? ⟨w.heap.size, 6, none⟩ = some (.slice none 0 0) := cells_of b0 rfl
  have a7 : W1.cell? ⟨w.heap.size, 7, none⟩ = some (.int .i64 0) := cells_of b0 rfl
  have a8 : W1.cell? ⟨w.heap.size, 8, none⟩ = some (.float .f64 0) := cells_of b0 rfl
  clear hW O1 b0 b1 s1 h hs
  unfold callA at K
  unfold callA
  go_enter Tryz.func92, Tryz.ntmps92
  go_wp2_with fail
  rw [← HW.out]
  go_wp2_with fail
  refine K.out.mono ?_
  rintro e w8 ⟨rfl, O8⟩
  have D8 := O8.blk HB1.out (by rintro (e | e | e) <;> omega)
  have HOW := Lib.hid ((HO.out.mono (T := fun k => k = r ∨ k = mp ∨ k = sl) fun _ _ q => q.elim).trans O8)
  have HD8 := Lib.hid D8
  have y0 : w8.cell? ⟨w.heap.size + 1, 0, none⟩ = some (.int .i64 0) := cells_of D8 rfl
  have y1 : w8.cell? ⟨w.heap.size + 1, 1, none⟩ = some (.int .i64 0) := cells_of D8 rfl
  have y2 : w8.cell? ⟨w.heap.size + 1, 2, none⟩ = some (.int .i64 0) := cells_of D8 rfl
  have y3 : w8.cell? ⟨w.heap.size + 1, 3, none⟩ = some (.slice none 0 0) := cells_of D8 rfl
  have y4 : w8.cell? ⟨w.heap.size + 1, 4, none⟩ = some (.int .u64 0) := cells_of D8 rfl
  have y5 : w8.cell? ⟨w.heap.size + 1, 5, none⟩ = some (.int .i64 0) := cells_of D8 rfl
  have y6 : w8.cell? ⟨w.heap.size + 1, 6, none⟩ = some (.int .i64 0) := cells_of D8 rfl
  have y7 : w8.cell? ⟨w.heap.size + 1, 7, none⟩ = some (.int .i64 0) := cells_of D8 rfl
  have y8 : w8.cell? ⟨w.heap.size + 1, 8, none⟩ = some (.int .i64 0) := cells_of D8 rfl
  have y9 : w8.cell? ⟨w.heap.size + 1, 9, none⟩ = some (.int .i64 0) := cells_of D8 rfl
  have y10 : w8.cell? ⟨w.heap.size + 1, 10, none⟩ = some (.bool false) := cells_of D8 rfl
  have fz : ∀ j, w8.frozen? ⟨w.heap.size + 1, j, none⟩ = false := fun j => blk_free D8 j
  clear D8 O8 K a0 a1 a2 a3 a4 a5 a6 a7 a8 HW HO HB1
  unfold doneZ
  go_wp2_with fail
  obtain ⟨k0, k1, k2, k3, k4, k5, k6, k7, k8, k9, k10⟩ := put11_cells (put11_blk HD8.out (.int .i64 0) (.int .i64 0) (.int .i64 0) (.slice none 0 0) (.int .u64 0) (.int .i64 0) (.int .i64 0) (.int .i64 0) (.int .i64 0) (.int .i64 0) (.bool false))
  refine bodyPost_ret (w := (put11 w8 (w.heap.size + 1) (.int .i64 0) (.int .i64 0) (.int .i64 0) (.slice none 0 0) (.int .u64 0) (.int .i64 0) (.int .i64 0) (.int .i64 0) (.int .i64 0) (.int .i64 0) (.bool false))) (v := .agg doneZ) (by simp [results, Tryz.results92, go_sem, doneZ, k0, k1, k2, k3, k4, k5, k6, k7, k8, k9, k10]) rfl ⟨rfl, ?_⟩
  exact put11_onlyS HOW.out (.inl (by omega)) _ _ _ _ _ _ _ _ _ _ _
end Go.Proofs.YtlipngdfhpaodaaGreat.Lo
