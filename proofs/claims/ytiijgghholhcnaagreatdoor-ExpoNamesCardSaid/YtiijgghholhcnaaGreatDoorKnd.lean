/- The walk of expo.kinds: a map of three kinds; a look-up in it. -/
import Derived.Test.YtiijgghholhcnaaGreatDoorSes
namespace Go.Proofs.YtiijgghholhcnaaGreatDoor
open Go.RowKit
set_option maxRecDepth 1000000
def kC : Value := .agg #[.string ⟨#[99, 111, 117, 110, 116, 101, 114]⟩, .func (Fn.func 32) #[] #[]]
def kH : Value := .agg #[.string ⟨#[104, 105, 115, 116, 111, 103, 114, 97, 109]⟩, .func (Fn.func 33) #[] #[]]
def kS : Value := .agg #[.string ⟨#[115, 117, 109, 109, 97, 114, 121]⟩, .func (Fn.func 34) #[] #[]]
def m1 : Obj := .map #[{ key := .int .i64 1, val := kC, born := 0 }] 1
def m2 : Obj := .map #[{ key := .int .i64 1, val := kC, born := 0 }, { key := .int .i64 2, val := kH, born := 1 }] 2
/-- the map of the kinds -/
def m3 : Obj := .map #[{ key := .int .i64 1, val := kC, born := 0 }, { key := .int .i64 2, val := kH, born := 1 }, { key := .int .i64 3, val := kS, born := 2 }] 3
theorem run_getObj {w : World} {b : Nat} {es : Array MapEntry} {ck : Nat} (h : w.heap[b]? = some (.map es ck)) : Sem.run Tryz.prog (getObj b) w = .ok (.map es ck) w := by
  simp [getObj, Sem.run, h]
def setM (w : World) (b : Nat) (o : Obj) : World := { w with heap := w.heap.set! b o }
theorem only_setM (w : World) (b : Nat) (o : Obj) : Only (· = b) w (setM w b o) := by
  refine ⟨rfl, rfl, rfl, by simp [setM], fun k hk hne => ?_⟩
  simp [setM, Array.getElem?_setIfInBounds_ne (fun e : b = k => hne e.symm)]
theorem at_setM {w : World} {b : Nat} {o : Obj} (h : b < w.heap.size) : (setM w b o).heap[b]? = some o := by
  simp [setM, h]
theorem chk3 (w : World) (x : Bool) (i : Int) : Sem.run Tryz.prog (Instr.checkKey x 10000 3 (.int .i64 i)) w = .ok () w := by cases x <;> kernel_rfl
theorem fnd0 (w : World) (v : Value) : Sem.run Tryz.prog (Instr.findKey 3 v []) w = .ok none w := by kernel_rfl
theorem fnd1 (w : World) : Sem.run Tryz.prog (Instr.findKey 3 (.int .i64 2) [{ key := .int .i64 1, val := kC, born := 0 }]) w = .ok none w := by kernel_rfl
theorem fnd2 (w : World) : Sem.run Tryz.prog (Instr.findKey 3 (.int .i64 3) [{ key := .int .i64 1, val := kC, born := 0 }, { key := .int .i64 2, val := kH, born := 1 }]) w = .ok none w := by kernel_rfl
theorem fndC (w : World) : Sem.run Tryz.prog (Instr.findKey 3 (.int .i64 1) [{ key := .int .i64 1, val := kC, born := 0 }, { key := .int .i64 2, val := kH, born := 1 }, { key := .int .i64 3, val := kS, born := 2 }]) w = .ok (some (0, kC)) w := by kernel_rfl
theorem fndH (w : World) : Sem.run Tryz.prog (Instr.findKey 3 (.int .i64 2) [{ key := .int .i64 1, val := kC, born := 0 }, { key := .int .i64 2, val := kH, born := 1 }, { key := .int .i64 3, val := kS, born := 2 }]) w = .ok (some (1, kH)) w := by kernel_rfl
theorem fndS (w : World) : Sem.run Tryz.prog (Instr.findKey 3 (.int .i64 3) [{ key := .int .i64 1, val := kC, born := 0 }, { key := .int .i64 2, val := kH, born := 1 }, { key := .int .i64 3, val := kS, born := 2 }]) w = .ok (some (2, kS)) w := by kernel_rfl
theorem put_1 (b : Nat) (w : World) (h : w.heap[b]? = some (.map #[] 0)) : Sem.run Tryz.prog (Instr.mapUpdate 56 (.map (some b)) (.int .i64 1) kC) w = .ok () (setM w b m1) := by
  unfold Instr.mapUpdate
  simp [go_sem, run_getObj h, chk3, fnd0, setObj, setM, m1]
  simp [Sem.run, h]
theorem put_2 (b : Nat) (w : World) (h : w.heap[b]? = some m1) : Sem.run Tryz.prog (Instr.mapUpdate 56 (.map (some b)) (.int .i64 2) kH) w = .ok () (setM w b m2) := by
  unfold m1 at h
  unfold Instr.mapUpdate
  simp [go_sem, run_getObj h, chk3, fnd1, setObj, setM, m2]
  simp [Sem.run, h]
theorem put_3 (b : Nat) (w : World) (h : w.heap[b]? = some m2) : Sem.run Tryz.prog (Instr.mapUpdate 56 (.map (some b)) (.int .i64 3) kS) w = .ok () (setM w b m3) := by
  unfold m2 at h
  unfold Instr.mapUpdate
  simp [go_sem, run_getObj h, chk3, fnd2, setObj, setM, m3]
  simp [Sem.run, h]
theorem look_C (b : Nat) (w : World) (h : w.heap[b]? = some m3) : Sem.run Tryz.prog (Instr.lookup 56 (.map (some b)) (.int .i64 1) false) w = .ok kC w := by
  unfold m3 at h
  unfold Instr.lookup
  simp [go_sem, run_getObj h, chk3, fndC]
theorem look_H (b : Nat) (w : World) (h : w.heap[b]? = some m3) : Sem.run Tryz.prog (Instr.lookup 56 (.map (some b)) (.int .i64 2) false) w = .ok kH w := by
  unfold m3 at h
  unfold Instr.lookup
  simp [go_sem, run_getObj h, chk3, fndH]
theorem look_S (b : Nat) (w : World) (h : w.heap[b]? = some m3) : Sem.run Tryz.prog (Instr.lookup 56 (.map (some b)) (.int .i64 3) false) w = .ok kS w := by
  unfold m3 at h
  unfold Instr.lookup
  simp [go_sem, run_getObj h, chk3, fndS]
theorem kinds_calls (w : World) : Calls Tryz.prog 18 #[] w fun e w' => e = .returned (.map (some w.heap.size)) ∧ w'.heap[w.heap.size]? = some m3 ∧ Only (fun _ => False) w w' := by
  have hmm := @run_makeMap Tryz.prog
  have h0 := blk_new w (.map #[] 0)
  have O0 := (Only.refl (fun _ => False) w).alloc (.map #[] 0)
  have l0 := blk_lt h0
  have p1 := put_1 _ _ h0
  have h1 := at_setM (o := m1) l0
  have O1 := only_setM (w.alloc (.map #[] 0)) w.heap.size m1
  have l1 := blk_lt h1
  have p2 := put_2 _ _ h1
  have h2 := at_setM (o := m2) l1
  have O2 := only_setM (setM (w.alloc (.map #[] 0)) w.heap.size m1) w.heap.size m2
  have l2 := blk_lt h2
  have p3 := put_3 _ _ h2
  have H3 := Lib.hid (at_setM (o := m3) l2)
  have OO := Lib.hid (O0.seq2 ((O1.trans O2).trans (only_setM (setM (setM (w.alloc (.map #[] 0)) w.heap.size m1) w.heap.size m2) w.heap.size m3)) (fun i hi => .inl (by rw [hi]; exact Nat.le_refl _)))
  clear h0 O0 l0 h1 O1 l1 h2 O2 l2
  unfold kC at p1
  unfold kH at p2
  unfold kS at p3
  go_enter Tryz.func18, Tryz.ntmps18
  go_wp2_with fail
  go_ret
  exact ⟨rfl, H3.out, OO.out⟩
end Go.Proofs.YtiijgghholhcnaaGreatDoor
