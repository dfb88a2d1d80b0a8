/- The walk of expo.kinds: a map of three kinds; a look-up in it. -/
import Derived.Test.YtiijgghholhcnaaGreatDoorJL14
import Derived.Test.YtiijgghholhcnaaGreatDoorJL10
namespace Go.Proofs.YtiijgghholhcnaaGreatDoor
open Go.RowKit
set_option maxRecDepth 1000000
def kC : Value := .agg #[.string ⟨#[99, 111, 117, 110, 116, 101, 114]⟩, .func (Fn.func 32) #[] #[]]
def kH : Value := .agg #[.string ⟨#[104, 105, 115, 116, 111, 103, 114, 97, 109]⟩, .func (Fn.func 33) #[] #[]]
def kS : Value := .agg #[.string ⟨#[115, 117, 109, 109, 97, 114, 121]⟩, .func (Fn.func 34) #[] #[]]
def m1 : Obj := .map #[{ key := .int .i64 1, val := kC, born := 0 }] 1
def m2 : Obj := .map #[{ key := .int .i64 1, val := kC, born := 0 }, { key := .int .i64 2, val := kH, born := 1 }] 2
/-- the map of the kinds -/
def m3 : Obj := .map #[{ key := .int .i64 1, val := kC, born := 0 }, { key := .int .i64 2, val := kH, born := 1 }, { key := .int .i64 3, val := kS, born := 2 }] 3
theorem run_getObj {w : World} {b : Nat} {es : Array MapEntry} {ck : Nat} (h : w.heap[b]? = some (.map es ck)) : Sem.run Tryz.prog (getObj b) w = .ok (.map es ck) w := by
  simp [getObj, Sem.run, h]
def setM (w : World) (b : Nat) (o : Obj) : World := { w with heap := w.heap.set! b o }
theorem only_setM (w : World) (b : Nat) (o : Obj) : Only (· = b) w (setM w b o) := by
  refine ⟨rfl, rfl, rfl, by simp [setM], fun k hk hne => ?_⟩
  simp [setM, Array.getElem?_setIfInBounds_ne (fun e : b = k => hne e.symm)]
theorem at_setM {w : World} {b : Nat} {o : Obj} (h : b < w.heap.size) : (setM w b o).heap[b]? = some o := by
  simp [setM, h]
theorem chk3 (w : World) (x : Bool) (i : Int) : Sem.run Tryz.prog (Instr.checkKey x 10000 3 (.int .i64 i)) w = .ok () w := by cases x <;> kernel_rfl
theorem fnd0 (w : World) (v : Value) : Sem.run Tryz.prog (Instr.findKey 3 v []) w = .ok none w := by kernel_rfl
theorem fnd1 (w : World) : Sem.run Tryz.prog (Instr.findKey 3 (.int .i64 2) [{ key := .int .i64 1, val := kC, born := 0 }]) w = .ok none w := by kernel_rfl
theorem fnd2 (w : World) : Sem.run Tryz.prog (Instr.findKey 3 (.int .i64 3) [{ key := .int .i64 1, val := kC, born := 0 }, { key := .int .i64 2, val := kH, born := 1 }]) w = .ok none w := by kernel_rfl
theorem fndC (w : World) : Sem.run Tryz.prog (Instr.findKey 3 (.int .i64 1) [{ key := .int .i64 1, val := kC, born := 0 }, { key := .int .i64 2, val := kH, born := 1 }, { key := .int .i64 3, val := kS, born := 2 }]) w = .ok (some (0, kC)) w := by kernel_rfl
theorem fndH (w : World) : Sem.run Tryz.prog (Instr.findKey 3 (.int .i64 2) [{ key := .int .i64 1, val := kC, born := 0 }, { key := .int .i64 2, val := kH, born := 1 }, { key := .int .i64 3, val := kS, born := 2 }]) w = .ok (some (1, kH)) w := by kernel_rfl
theorem fndS (w : World) : Sem.run Tryz.prog (Instr.findKey 3 (.int .i64 3) [{ key := .int .i64 1, val := kC, born := 0 }, { key := .int .i64 2, val := kH, born := 1 }, { key := .int .i64 3, val := kS, born := 2 }]) w = .ok (some (2, kS)) w := by kernel_rfl
theorem put_1 (b : Nat) (w : World) (h : w.heap[b]? = some (.map #[] 0)) : Sem.run Tryz.prog (Instr.mapUpdate 56 (.map (some b)) (.int .i64 1) kC) w = .ok () (setM w b m1) := by
  unfold Instr.mapUpdate
  simp [go_sem, run_getObj h, chk3, fnd0, setObj, setM, m1]
  simp [Sem.run, h]
theorem put_2 (b : Nat) (w : World) (h : w.heap[b]? = some m1) : Sem.run Tryz.prog (Instr.mapUpdate 56 (.map (some b)) (.int .i64 2) kH) w = .ok () (setM w b m2) := by
  unfold m1 at h
  unfold Instr.mapUpdate
  simp [go_sem, run_getObj h, chk3, fnd1, setObj, setM, m2]
  simp [Sem.run, h]
theorem put_3 (b : Nat) (w : World) (h : w.heap[b]? = some m2) : Sem.run Tryz.prog (Instr.mapUpdate 56 (.map (some b)) (.int .i64 3) kS) w = .ok () (setM w b m3) := by
  unfold m2 at h
  unfold Instr.mapUpdate
  simp [go_sem, run_getObj h, chk3, fnd2, setObj, setM, m3]
  simp [Sem.run, h]
theorem look_C (b : Nat) (w : World) (h : w.heap[b]? = some m3) : Sem.run Tryz.prog (Instr.lookup 56 (.map (some b)) (.int .i64 1) false) w = .ok kC w := by
  unfold m3 at h
  unfold Instr.lookup
  simp [go_sem, run_getObj h, chk3, fndC]
theorem look_H (b : Nat) (w : World) (h : w.heap[b]? = some m3) : Sem.run Tryz.prog (Instr.lookup 56 (.map (some b)) (.int .i64 2) false) w = .ok kH w := by
  unfold m3 at h
  unfold Instr.lookup
  simp [go_sem, run_getObj h, chk3, fndH]
theorem look_S (b : Nat) (w : World) (h : w.heap[b]? = some m3) : Sem.run Tryz.prog (Instr.lookup 56 (.map (some b)) (.int .i64 3) false) w = .ok kS w := by
  unfold m3 at h
  unfold Instr.lookup
  simp [go_sem, run_getObj h, chk3, fndS]
theorem kinds_calls (w : World) : Calls Tryz.prog 18 #[] w fun e w' => e = .returned (.map (some w.heap.size)) ∧ w'.heap[w.heap.size]? = some m3 ∧ Only (fun _ => False) w w' := by
  have hmm := @run_makeMap Tryz.prog
  have h0 := blk_new w (.map #[] 0)
  have O0 := (Only.refl (fun _ => False) w).alloc (.map #[] 0)
  have l0 := blk_lt h0
  have p1 := put_1 _ _ h0
  have h1 := at_setM (o := m1) l0
  have O1 := only_setM (w.alloc (.map #[] 0)) w.heap.size m1
  have l1 := blk_lt h1
  have p2 := put_2 _ _ h1
  have h2 := at_setM (o := m2) l1
  have O2 := only_setM (setM (w.alloc (.map #[] 0)) w.heap.size m1) w.heap.size m2
  have l2 := blk_lt h2
  have p3 := put_3 _ _ h2
  have H3 := Lib.hid (at_setM (o := m3) l2)
  have OO := Lib.hid (O0.seq2 ((O1.trans O2).trans (only_setM (setM (setM (w.alloc (.map #[] 0)) w.heap.size m1) w.heap.size m2) w.heap.size m3)) (fun i hi => .inl (by rw [hi]; exact Nat.le_refl _)))
  clear h0 O0 l0 h1 O1 l1 h2 O2 l2
  unfold kC at p1
  unfold kH at p2
  unfold kS at p3
  go_enter Tryz.func18, Tryz.ntmps18
  go_wp2_with fail
  go_ret
  exact ⟨rfl, H3.out, OO.out⟩
end Go.Proofs.YtiijgghholhcnaaGreatDoor

/- The walk of expo.Write at the snapshot of one counter, and at an empty one. -/
namespace Go.Proofs.YtiijgghholhcnaaGreatDoor
open Go.RowKit
set_option maxRecDepth 1000000
theorem write_e (w : World) : Calls Tryz.prog 9 #[.agg #[.int .i64 0, .slice none 0 0, .int .u64 0]] w fun e w' => e = .returned (.tuple #[.slice none 0 0, .int .i64 1]) ∧ Only (fun _ => False) w w' := by
  have K := Lib.hid (fun w => check_e w)
  go_enter Tryz.func9, Tryz.ntmps9
  go_wp2_with fail
  have hO := Lib.hid ((Only.refl (fun _ => False) w).alloc (.cells #[.int .i64 0, .slice none 0 0, .int .u64 0] 26))
  generalize w.alloc (.cells #[.int .i64 0, .slice none 0 0, .int .u64 0] 26) = w1 at *
  refine (K.out _).mono ?_
  rintro e w2 ⟨rfl, hO2⟩
  have HO2 := Lib.hid (hO.out.trans hO2); clear hO2 hO
  go_wp2_with fail
  go_ret2
  exact ⟨rfl, HO2.out⟩
theorem run_stfn (a : Addr) (f : FuncId) (w : World) : (store a (.func (Fn.func f) #[] #[])).run Tryz.prog w = stored Tryz.prog w a (.func (Fn.func f) #[] #[]) .plain := run_store Tryz.prog w a _ _ rfl
/-- a block beside the page -/
structure Xb (w : World) (pb : Nat) (v : Value) (x : Nat) (o : Obj) : Prop where
  blk : w.heap[x]? = some o
  own : v.ownBlock ≠ some x
  ne : x ≠ pb
theorem Xb.next {w w' : World} {pb x : Nat} {v v' : Value} {o : Obj} (h : Xb w pb v x o) (k : Wrote w pb v v' w') : Xb w' pb v' x o := by
  refine ⟨k.only.blk h.blk (by rintro (e | e); exact h.ne e; exact h.own e), fun e => ?_, h.ne⟩
  rcases k.which with q | ⟨g, q, hg⟩
  · exact h.own (by rw [← q]; exact e)
  · rw [q] at e; cases e; exact absurd (blk_lt h.blk) (by omega)
theorem Xb.still {w w' : World} {pb x : Nat} {v : Value} {o : Obj} (h : Xb w pb v x o) (O : Only (fun _ => False) w w') : Xb w' pb v x o := ⟨O.blk h.blk (fun e => e), h.own, h.ne⟩
/-- between the lines -/
structure St (w0 w : World) (b sb pb B : Nat) (v : Value) (l : List UInt8) : Prop where
  src : w.heap[b]? = some (.cells cellsA 42)
  snap : w.heap[sb]? = some (.cells #[.int .i64 1, .slice (some ⟨b, 0, none⟩) 1 1, .int .u64 0] 26)
  pg : Pg w pb B 1 v l
  only : Only (fun _ => False) w0 w
  lb : b < w0.heap.size
  ls : w0.heap.size ≤ sb
  lp : sb < pb
theorem St.next {w0 w w' : World} {b sb pb B : Nat} {v v' : Value} {l l' : List UInt8} (h : St w0 w b sb pb B v l) (hp : Pg w' pb B 1 v' l') (hw : Wrote w pb v v' w') : St w0 w' b sb pb B v' l' := by
  have h1 := h.lb; have h2 := h.ls; have h3 := h.lp; have h4 := h.pg.lt
  have hB : ∀ k, v.ownBlock = some k → B ≤ k := fun k hk => (h.pg.own.lt k hk).1
  refine ⟨hw.only.blk h.src ?_, hw.only.blk h.snap ?_, hp, h.only.seq2 hw.only ?_, h1, h2, h3⟩
  · rintro (e | e)
    · omega
    · have := hB _ e; omega
  · rintro (e | e)
    · omega
    · have := hB _ e; omega
  · rintro i (e | e)
    · left; omega
    · left; have := hB _ e; omega
theorem St.still {w0 w w' : World} {b sb pb B : Nat} {v : Value} {l : List UInt8} (h : St w0 w b sb pb B v l) (O : Only (fun _ => False) w w') : St w0 w' b sb pb B v l :=
  ⟨O.blk h.src (fun e => e), O.blk h.snap (fun e => e), h.pg.still O, h.only.trans O, h.lb, h.ls, h.lp⟩
theorem St.new {w0 w : World} {b sb pb B : Nat} {v : Value} {l : List UInt8} (h : St w0 w b sb pb B v l) (o : Obj) : Xb (w.alloc o) pb v w.heap.size o := by
  refine ⟨blk_new w o, fun e => ?_, ?_⟩
  · have := (h.pg.own.lt _ e).2; omega
  · have := h.pg.lt; have := h.pg.le; omega
theorem St.fresh {w0 w w' : World} {b sb pb B : Nat} {v : Value} {l : List UInt8} (h : St w0 w b sb pb B v l) {o : Obj} (hk : w'.heap[w.heap.size]? = some o) : Xb w' pb v w.heap.size o := by
  refine ⟨hk, fun e => ?_, ?_⟩
  · have := (h.pg.own.lt _ e).2; omega
  · have := h.pg.lt; have := h.pg.le; omega
theorem St.c {w0 w : World} {b sb pb B : Nat} {v : Value} {l : List UInt8} (h : St w0 w b sb pb B v l) : w.cell? ⟨sb, 0, none⟩ = some (.int .i64 1) ∧ w.cell? ⟨sb, 1, none⟩ = some (.slice (some ⟨b, 0, none⟩) 1 1) ∧ w.cell? ⟨sb, 2, none⟩ = some (.int .u64 0) :=
  ⟨by rw [blk_cell h.snap]; rfl, by rw [blk_cell h.snap]; rfl, by rw [blk_cell h.snap]; rfl⟩
theorem St.first {w0 w : World} {b sb : Nat} (h1 : w.heap[b]? = some (.cells cellsA 42)) (h2 : w.heap[sb]? = some (.cells #[.int .i64 1, .slice (some ⟨b, 0, none⟩) 1 1, .int .u64 0] 26)) (h3 : Only (fun _ => False) w0 w) (h4 : b < w0.heap.size) (h5 : w0.heap.size ≤ sb) :
    St w0 (w.alloc (.cells #[.slice none 0 0, .int .i64 1] 52)) b sb w.heap.size (w.heap.size + 1) (.slice none 0 0) [] := by
  have O := (Only.refl (fun _ => False) w).alloc (.cells #[.slice none 0 0, .int .i64 1] 52)
  refine ⟨O.blk h1 (fun e => e), O.blk h2 (fun e => e), ⟨blk_new w _, ⟨rfl, .inl ⟨rfl, rfl⟩⟩, Nat.lt_succ_self _, ?_⟩, h3.trans O, h4, h5, blk_lt h2⟩
  show _ ≤ (w.heap.push _).size
  rw [Array.size_push]; exact Nat.le_refl _
set_option maxHeartbeats 4000000 in
theorem write_a (b : Nat) (w : World) (hb : w.heap[b]? = some (.cells cellsA 42)) : Calls Tryz.prog 9 #[snapA b] w fun e w' =>
    ∃ v, e = .returned (.tuple #[v, .int .i64 0]) ∧ w'.ownsRow w.heap.size 5 1 v 54 (Go.Lib.strCells ⟨#[35, 32, 103, 110, 111, 109, 111, 110, 32, 49, 10, 35, 32, 114, 101, 102, 117, 115, 101, 100, 32, 48, 10, 35, 32, 72, 69, 76, 80, 32, 97, 32, 10, 35, 32, 84, 89, 80, 69, 32, 97, 32, 99, 111, 117, 110, 116, 101, 114, 10, 97, 32, 55, 10]⟩) ∧ Only (fun _ => False) w w' := by
  have K14 := Lib.hid (fun w h => check_s b w h)
  have K18 := Lib.hid (fun w => kinds_calls w)
  have HLB := Lib.hid (blk_lt hb)
  have K16 : Hid (∀ w, Calls Tryz.prog 16 #[.int .i64 1] w fun e w' => e = .returned (.string ⟨#[49]⟩) ∧ Only (fun _ => False) w w') := Lib.hid (fun w => itoa_n 1 (by omega) w)
  have K17 : Hid (∀ w, Calls Tryz.prog 17 #[.int .u64 0] w fun e w' => e = .returned (.string ⟨#[48]⟩) ∧ Only (fun _ => False) w w') := Lib.hid (fun w => digits_n 0 (by omega) w)
  have K19 : Hid (∀ w, Calls Tryz.prog 19 #[.string ⟨#[]⟩] w fun e w' => e = .returned (.string ⟨#[]⟩) ∧ Only (fun _ => False) w w') := Lib.hid (fun w => help_calls [] w (by simp))
  have K32 : Hid (∀ (pb B : Nat) (prec : Int) (v : Value) (l : List UInt8) (w : World), Pg w pb B prec v l → l.length ≤ 1000000 → Calls Tryz.prog 32 #[.pointer (some ⟨pb, 0, none⟩), valA] w fun e w' => e = .returned (.tuple #[]) ∧ ∃ v', Pg w' pb B prec v' (l ++ [97, 32, 55, 10]) ∧ Wrote w pb v v' w') := Lib.hid (fun pb B prec v l w hP hb => counter_a pb B prec v l w hP hb)
  unfold valA at K32
  unfold snapA at *
  have ks1 := run_stf
  have ks2 := run_stfn
  go_enter Tryz.func9, Tryz.ntmps9
  go_wp2_with fail
  have hO := (Only.refl (fun _ => False) w).alloc (.cells #[.int .i64 1, .slice (some ⟨b, 0, none⟩) 1 1, .int .u64 0] 26)
  have hb1 := hO.blk hb (fun e => e)
  have hs := blk_new w (.cells #[.int .i64 1, .slice (some ⟨b, 0, none⟩) 1 1, .int .u64 0] 26)
  generalize w.alloc (.cells #[.int .i64 1, .slice (some ⟨b, 0, none⟩) 1 1, .int .u64 0] 26) = w1 at *
  have HO := Lib.hid hO; clear hO
  have HSB : Hid (w.heap.size < w1.heap.size) := Lib.hid (blk_lt hs)
  have HB1 := Lib.hid hb1; clear hb1 hb
  obtain ⟨sb, hsb⟩ : ∃ sb, sb = w.heap.size := ⟨_, rfl⟩
  rw [← hsb] at hs HSB ⊢
  have HSE := Lib.hid hsb
  have HS := Lib.hid hs; clear hs hsb
  refine (K14.out _ HB1.out).mono ?_
  rintro e w2 ⟨rfl, hO2⟩
  have HB2 := Lib.hid (hO2.blk HB1.out (fun e => e))
  have hs2 := hO2.blk HS.out (fun e => e)
  have HS2 := Lib.hid hs2
  have HO2 := Lib.hid (HO.out.trans hO2)
  have c0 : w2.cell? ⟨sb, 0, none⟩ = some (.int .i64 1) := by rw [blk_cell hs2]; rfl
  clear hO2 HB1 HS HO HSB hs2
  go_upto_region 5 with fail
  have hSt := Lib.hid (St.first HB2.out HS2.out HO2.out HLB.out (by rw [HSE.out]; exact Nat.le_refl _))
  clear HB2 HS2 HO2 c0
  generalize w2.alloc (.cells #[.slice none 0 0, .int .i64 1] 52) = w3 at *
  generalize w2.heap.size = pb at *
  have c0 := hSt.out.c.1
  go_wp2_with fail
  refine (K16.out _).mono ?_
  rintro e w4 ⟨rfl, hO4⟩
  have hS4 := Lib.hid (hSt.out.still hO4); clear hO4 hSt c0
  go_wp2_with fail
  refine (line_new pb (pb + 1) 1 (.slice none 0 0) [] [[35, 32, 103, 110, 111, 109, 111, 110, 32], [49]] w4 9 2 _ _ hS4.out.pg (by simp) (by simp) rfl rfl).mono ?_
  rintro e w5 ⟨rfl, v1, h3, h4⟩
  have hS5 := Lib.hid (hS4.out.next h3 h4); clear h3 h4 hS4
  go_upto_region 6 with fail
  have c2 := hS5.out.c.2.2
  go_wp2_with fail
  refine (K17.out _).mono ?_
  rintro e w6 ⟨rfl, hO6⟩
  have hS6 := Lib.hid (hS5.out.still hO6); clear hO6 hS5 c2
  go_wp2_with fail
  refine (line_new pb (pb + 1) 1 v1 _ [[35, 32, 114, 101, 102, 117, 115, 101, 100, 32], [48]] w6 9 2 _ _ hS6.out.pg (by simp) (by simp) rfl rfl).mono ?_
  rintro e w7 ⟨rfl, v2, h3, h4⟩
  have hS7 := Lib.hid (hS6.out.next h3 h4); clear h3 h4 hS6
  go_upto_region 7 with fail
  go_wp2_with fail
  refine (K18.out _).mono ?_
  rintro e w8 ⟨rfl, hM, hO8⟩
  have hX8 := Lib.hid (hS7.out.fresh hM)
  have hS8 := Lib.hid (hS7.out.still hO8); clear hO8 hS7 hM
  generalize w7.heap.size = mb at *
  have c1 := hS8.out.c.2.1
  go_wp2_with fail
  clear c1
  have hb1 := hS8.out.src
  unfold cellsA at hb1
  have e0 : w8.cell? ⟨b, 0, none⟩ = some (.int .i64 1) := by rw [blk_cell hb1]; rfl
  have e1 : w8.cell? ⟨b, 1, none⟩ = some (.string ⟨#[97]⟩) := by rw [blk_cell hb1]; rfl
  have e2 : w8.cell? ⟨b, 2, none⟩ = some (.string ⟨#[]⟩) := by rw [blk_cell hb1]; rfl
  have e3 : w8.cell? ⟨b, 3, none⟩ = some (.slice none 0 0) := by rw [blk_cell hb1]; rfl
  have e4 : w8.cell? ⟨b, 4, none⟩ = some (.int .i64 0) := by rw [blk_cell hb1]; rfl
  have e5 : w8.cell? ⟨b, 5, none⟩ = some (.int .u64 7) := by rw [blk_cell hb1]; rfl
  have e6 : w8.cell? ⟨b, 6, none⟩ = some (.slice none 0 0) := by rw [blk_cell hb1]; rfl
  have e7 : w8.cell? ⟨b, 7, none⟩ = some (.int .u64 0) := by rw [blk_cell hb1]; rfl
  have e8 : w8.cell? ⟨b, 8, none⟩ = some (.float .f64 0) := by rw [blk_cell hb1]; rfl
  have e9 : w8.cell? ⟨b, 9, none⟩ = some (.float .f64 0) := by rw [blk_cell hb1]; rfl
  have e10 : w8.cell? ⟨b, 10, none⟩ = some (.float .f64 0) := by rw [blk_cell hb1]; rfl
  clear hb1
  refine wp_loop_rounds 2 ?_
  rw [rounds_succ]
  go_upto_region 11 with fail
  have hV9 := hS8.out.new (.cells #[.int .i64 1, .string ⟨#[97]⟩, .string ⟨#[]⟩, .slice none 0 0, .int .i64 0, .int .u64 7, .slice none 0 0, .int .u64 0, .float .f64 0, .float .f64 0, .float .f64 0] 42)
  have hO9 := (Only.refl (fun _ => False) w8).alloc (.cells #[.int .i64 1, .string ⟨#[97]⟩, .string ⟨#[]⟩, .slice none 0 0, .int .i64 0, .int .u64 7, .slice none 0 0, .int .u64 0, .float .f64 0, .float .f64 0, .float .f64 0] 42)
  generalize w8.alloc (.cells #[.int .i64 1, .string ⟨#[97]⟩, .string ⟨#[]⟩, .slice none 0 0, .int .i64 0, .int .u64 7, .slice none 0 0, .int .u64 0, .float .f64 0, .float .f64 0, .float .f64 0] 42) = w9 at *
  have HV9 := Lib.hid hV9
  have hS9 := Lib.hid (hS8.out.still hO9)
  have hX9 := Lib.hid (hX8.out.still hO9)
  clear hO9 hV9 hS8 hX8 e0 e1 e2 e3 e4 e5 e6 e7 e8 e9 e10
  generalize w8.heap.size = vb at *
  have v0 : w9.cell? ⟨vb, 0, none⟩ = some (.int .i64 1) := by rw [blk_cell HV9.out.blk]; rfl
  have hlk := look_C mb w9 hX9.out.blk
  unfold kC at hlk
  go_upto_region 12 with fail
  have hK9 := hS9.out.new (.cells #[.string ⟨#[99, 111, 117, 110, 116, 101, 114]⟩, .func (Fn.func 32) #[] #[]] 60)
  have hO9 := (Only.refl (fun _ => False) w9).alloc (.cells #[.string ⟨#[99, 111, 117, 110, 116, 101, 114]⟩, .func (Fn.func 32) #[] #[]] 60)
  generalize w9.alloc (.cells #[.string ⟨#[99, 111, 117, 110, 116, 101, 114]⟩, .func (Fn.func 32) #[] #[]] 60) = w10 at *
  have HK9 := Lib.hid hK9
  have HV10 := Lib.hid (HV9.out.still hO9)
  have hS10 := Lib.hid (hS9.out.still hO9)
  clear hO9 hK9 hS9 HV9 hX9 hlk v0
  generalize w9.heap.size = kb at *
  go_quiet (fail)
  go_upto_region 13 with fail
  have hO11 := (Only.refl (fun _ => False) w10).drewN nq
  generalize w10.drewN nq = w11 at *
  have HV11 := Lib.hid (HV10.out.still hO11)
  have HK11 := Lib.hid (HK9.out.still hO11)
  have hS11 := Lib.hid (hS10.out.still hO11)
  clear hO11 HV10 HK9 hS10
  have hs2 : Hid (∀ S w', Only S w11 w' → ¬ S vb → w'.cell? ⟨vb, 1, none⟩ = some (.string ⟨#[97]⟩) ∧ w'.cell? ⟨vb, 2, none⟩ = some (.string ⟨#[]⟩)) := Lib.hid fun S w' O hS => by
    have q := O.blk HV11.out.blk hS
    exact ⟨by rw [blk_cell q]; rfl, by rw [blk_cell q]; rfl⟩
  have N0 : Only (fun _ => False) w11 w11.drew := (Only.refl _ _).drew
  go_region_held3 (fun w' => w'.cell? ⟨vb, 1, none⟩ = some (.string ⟨#[97]⟩) ∧ w'.cell? ⟨vb, 2, none⟩ = some (.string ⟨#[]⟩))
    (first | (with_reducible exact hs2.out _ _ N0 id) | (with_reducible exact hs2.out _ _ N3 id) | (with_reducible exact hs2.out _ _ (N3.alloc _) id) | (with_reducible exact hs2.out _ _ N4 F4))
    (first
      | (go_at_call 19; go_split_ands; refine (K19.out _).mono ?_; rintro e w12 ⟨he, O3⟩; subst he; have N3 := N0.trans O3)
      | (go_at_call 15; go_split_ands; refine (line_new pb (pb + 1) 1 v2 _ [[35, 32, 72, 69, 76, 80, 32], [97], [32], []] w12 9 4 _ _ (hS11.out.still N3).pg (by simp) (by simp) rfl rfl).mono ?_; rintro e w13 ⟨he, v3, h3, h4⟩; subst he; have N4 := (N3.mono (T := fun k => k = pb ∨ v2.ownBlock = some k) (fun _ _ e => e.elim)).trans h4.only; have F4 : ¬ (vb = pb ∨ v2.ownBlock = some vb) := by (rintro (e | e); exact HV11.out.ne e; exact HV11.out.own e)))
  have HV13 := Lib.hid ((HV11.out.still N3).next h4)
  have HK13 := Lib.hid ((HK11.out.still N3).next h4)
  have hS13 := Lib.hid ((hS11.out.still N3).next h3 h4)
  clear h3 h4 N3 N4 F4 O3 N0 hs2 HV11 HK11 hS11
  go_upto_region 14 with fail
  have x1 : w13.cell? ⟨vb, 1, none⟩ = some (.string ⟨#[97]⟩) := by rw [blk_cell HV13.out.blk]; rfl
  have x2 : w13.cell? ⟨kb, 0, none⟩ = some (.string ⟨#[99, 111, 117, 110, 116, 101, 114]⟩) := by rw [blk_cell HK13.out.blk]; rfl
  go_wp2_with fail
  refine (line_new pb (pb + 1) 1 v3 _ [[35, 32, 84, 89, 80, 69, 32], [97], [32], [99, 111, 117, 110, 116, 101, 114]] w13 9 4 _ _ hS13.out.pg (by simp) (by simp) rfl rfl).mono ?_
  rintro e w14 ⟨rfl, v4, h3, h4⟩
  have HV14 := Lib.hid (HV13.out.next h4)
  have HK14 := Lib.hid (HK13.out.next h4)
  have hS14 := Lib.hid (hS13.out.next h3 h4)
  clear h3 h4 HV13 HK13 hS13 x1 x2
  go_upto_region 15 with fail
  have x1 : w14.cell? ⟨kb, 1, none⟩ = some (.func (Fn.func 32) #[] #[]) := by rw [blk_cell HK14.out.blk]; rfl
  have e0 : w14.cell? ⟨vb, 0, none⟩ = some (.int .i64 1) := by rw [blk_cell HV14.out.blk]; rfl
  have e1 : w14.cell? ⟨vb, 1, none⟩ = some (.string ⟨#[97]⟩) := by rw [blk_cell HV14.out.blk]; rfl
  have e2 : w14.cell? ⟨vb, 2, none⟩ = some (.string ⟨#[]⟩) := by rw [blk_cell HV14.out.blk]; rfl
  have e3 : w14.cell? ⟨vb, 3, none⟩ = some (.slice none 0 0) := by rw [blk_cell HV14.out.blk]; rfl
  have e4 : w14.cell? ⟨vb, 4, none⟩ = some (.int .i64 0) := by rw [blk_cell HV14.out.blk]; rfl
  have e5 : w14.cell? ⟨vb, 5, none⟩ = some (.int .u64 7) := by rw [blk_cell HV14.out.blk]; rfl
  have e6 : w14.cell? ⟨vb, 6, none⟩ = some (.slice none 0 0) := by rw [blk_cell HV14.out.blk]; rfl
  have e7 : w14.cell? ⟨vb, 7, none⟩ = some (.int .u64 0) := by rw [blk_cell HV14.out.blk]; rfl
  have e8 : w14.cell? ⟨vb, 8, none⟩ = some (.float .f64 0) := by rw [blk_cell HV14.out.blk]; rfl
  have e9 : w14.cell? ⟨vb, 9, none⟩ = some (.float .f64 0) := by rw [blk_cell HV14.out.blk]; rfl
  have e10 : w14.cell? ⟨vb, 10, none⟩ = some (.float .f64 0) := by rw [blk_cell HV14.out.blk]; rfl
  go_wp2_with fail
  refine (K32.out pb (pb + 1) 1 v4 _ _ hS14.out.pg (by simp)).mono ?_
  rintro e w15 ⟨rfl, v5, h3, h4⟩
  have hS15 : Hid (St w w15 b sb pb (pb + 1) v5 [35, 32, 103, 110, 111, 109, 111, 110, 32, 49, 10, 35, 32, 114, 101, 102, 117, 115, 101, 100, 32, 48, 10, 35, 32, 72, 69, 76, 80, 32, 97, 32, 10, 35, 32, 84, 89, 80, 69, 32, 97, 32, 99, 111, 117, 110, 116, 101, 114, 10, 97, 32, 55, 10]) := Lib.hid (hS14.out.next h3 h4)
  clear h3 h4 HV14 HK14 hS14 x1 e0 e1 e2 e3 e4 e5 e6 e7 e8 e9 e10
  obtain ⟨p5, c5, rfl⟩ := own_len hS15.out.pg.own
  have x1 : w15.cell? ⟨pb, 0, none⟩ = some (.slice p5 54 c5) := by rw [blk_cell hS15.out.pg.blk]; rfl
  go_upto_region 18 with fail
  go_wp2_with fail
  rw [rounds_succ]
  go_wp2_with fail
  go_ret2
  refine ⟨_, rfl, ?_, hS15.out.only⟩
  have h1 := hS15.out.pg.own
  have h2 := hS15.out.ls
  have h3 := hS15.out.lp
  refine ⟨h1.1, ?_⟩
  rcases h1.2 with q | ⟨g, cap, cur, q1, q2, q3⟩
  · exact .inl q
  · exact .inr ⟨g, cap, cur, q1, by omega, q3⟩
end Go.Proofs.YtiijgghholhcnaaGreatDoor
