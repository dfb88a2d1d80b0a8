/- The walk of the reference's New: refused ways, and the good way without its cells' numbers. -/
import Derived.Test.YtlipngdfhpaodaaGreatNewf
namespace Go.Proofs.YtlipngdfhpaodaaGreat
open Go.RowKit

theorem info81 : (Tryz.prog.info? 204).map (fun i => (i.zero, i.size, i.bytes)) = some (some (.slice none 0 0), 1, 24) := by kernel_rfl
theorem info2 : (Tryz.prog.info? 2).map (fun i => (i.zero, i.size, i.bytes)) = some (some (.int .i64 0), 1, 8) := by kernel_rfl
theorem run_make2 (wd : Nat) (h2 : wd ≤ 1048576) (W : World) : Sem.run Tryz.prog (Instr.makeSlice 204 (.int .i64 wd) (.int .i64 wd)) W = .ok (.slice (some ⟨W.heap.size, 0, none⟩) wd wd) (W.alloc (.cells (madeCells #[.int .i64 0] wd) 2)) := by
  obtain ⟨i4, hi4, hz4, hs4, hb4⟩ := info_parts info2
  have hmk := run_make (P := Tryz.prog) (w := W) 204 2 i4 (.int .i64 0) Tryz.underlying204 hi4 hz4 .i64 .i64 wd wd (by omega) (by omega) (by rw [hb4]; omega) (by omega)
  rw [hs4] at hmk
  simp only [Int.toNat_natCast, Nat.mul_one] at hmk
  exact hmk

/-- the reference's slab, so many rows made of the buffer b -/
structure RnAt (w : World) (s : Nat) (kind st p : Int) (b n : Nat) (u : Nat → Value) (wr : World) : Prop where
  only : Only (fun _ => False) w wr
  sge : w.heap.size ≤ s
  obj : wr.heap[s]? = some (.cells #[.int .i64 kind, .int .i64 st, .int .i64 p, u 0, u 1] 119 (0, 0))
  own : ∃ xs, wr.ownsRow w.heap.size 204 1 (u b) n xs
  rest : b = 0 → u 1 = .slice none 0 0
section
variable {w wr : World} {s : Nat} {kind st p : Int} {b n : Nat} {u : Nat → Value}
theorem RnAt.keep (h : RnAt w s kind st p b n u wr) {w1 : World} (O : Only (fun _ => False) wr w1) : RnAt w s kind st p b n u w1 := by
  obtain ⟨O0, q1, q2, ⟨xs, q3⟩, q4⟩ := h
  refine ⟨O0.trans O, q1, O.blk q2 (by simp), ⟨xs, own_block q3 fun g hg => ?_⟩, q4⟩
  obtain ⟨_, cur, q⟩ := own_tag q3 hg
  rw [q, O.blk q (by simp)]
theorem RnAt.cell (h : RnAt w s kind st p b n u wr) (hb : b < 2) : wr.cell? ⟨s, 3 + b, none⟩ = some (u b) := by
  rw [blk_cell h.obj]
  have hcs : b = 0 ∨ b = 1 := by omega
  rcases hcs with rfl | rfl <;> rfl
theorem rn_start (w : World) (kind st p : Int) : RnAt w w.heap.size kind st p 0 0 (fun _ => .slice none 0 0) (w.alloc (.cells #[.int .i64 kind, .int .i64 st, .int .i64 p, .slice none 0 0, .slice none 0 0] 119)) :=
  ⟨(Only.refl _ w).alloc _, Nat.le_refl _, blk_new w _, ⟨[], rfl, .inl ⟨rfl, rfl⟩⟩, fun _ => rfl⟩
theorem RnAt.second (h : RnAt w s kind st p 0 n u wr) : RnAt w s kind st p 1 0 u wr :=
  ⟨h.only, h.sge, h.obj, ⟨[], rfl, by rw [h.rest rfl]; exact .inl ⟨rfl, rfl⟩⟩, fun q => by omega⟩
/-- a row that is being filled -/
structure RrAt (w1 : World) (r wd : Nat) (wr : World) : Prop where
  only : Only (fun _ => False) w1 wr
  rge : w1.heap.size ≤ r
  row : ∃ cs : Array Value, wr.heap[r]? = some (.cells cs 2 (0, 0)) ∧ cs.size = wd
theorem rr_start (w : World) (wd : Nat) : RrAt w w.heap.size wd (w.alloc (.cells (madeCells #[.int .i64 0] wd) 2)) :=
  ⟨(Only.refl _ w).alloc _, Nat.le_refl _, _, blk_new w _, by simp [madeCells]⟩
theorem RrAt.cell {w1 : World} {r wd l : Nat} (h : RrAt w1 r wd wr) (hl : l < wd) : (∃ x, wr.cell? ⟨r, l, none⟩ = some x) ∧ wr.frozen? ⟨r, l, none⟩ = false := by
  obtain ⟨_, _, cs, q1, q2⟩ := h
  refine ⟨⟨cs[l]'(by omega), ?_⟩, blk_free q1 _⟩
  rw [blk_cell q1, Array.getElem?_eq_getElem (by omega)]
theorem RrAt.put {w1 : World} {r wd l : Nat} (h : RrAt w1 r wd wr) (v : Value) : RrAt w1 r wd (wr.setCell ⟨r, l, none⟩ v) := by
  obtain ⟨O, q0, cs, q1, q2⟩ := h
  exact ⟨O.setCell (.inl q0) _, q0, _, blk_set q1 _ _, by simpa using q2⟩

theorem rn_app {w2 : World} {r wd : Nat} {xs : List Value} (ho : wr.ownsRow w.heap.size 204 1 (u b) n xs) (e : w2.heap = wr.heap.push (.cells #[slv r wd] 204)) : w2.ownsRow w.heap.size 204 1 (u b) n xs := by
  refine own_block ho fun g hg => ?_
  obtain ⟨_, cur, q⟩ := own_tag ho hg
  have := blk_lt q
  rw [e, Array.getElem?_push, if_neg (by omega)]
theorem rn_news {w2 : World} {r wd : Nat} (e : w2.heap = wr.heap.push (.cells #[slv r wd] 204)) :
    ∀ (j : Nat) (x : Value), ([slv r wd] : List Value)[j]? = some x → w2.cell? ((⟨wr.heap.size, 0, none⟩ : Addr).add j) = some x := by
  intro j x hx
  match j, hx with
  | 0, hx =>
    have : w2.heap[wr.heap.size]? = some (.cells #[slv r wd] 204 (0, 0)) := by rw [e, Array.getElem?_push, if_pos rfl]
    show w2.cell? ⟨wr.heap.size, 0, none⟩ = _
    rw [blk_cell this]; simpa using hx
  | j + 1, hx => simp at hx
structure RnAfter (w : World) (s : Nat) (kind st p : Int) (b n : Nat) (u : Nat → Value) (v' : Value) (w3 : World) : Prop where
  cell : w3.cell? ⟨s, 3 + b, none⟩ = some (u b)
  free : w3.frozen? ⟨s, 3 + b, none⟩ = false
  next : RnAt w s kind st p b (n + 1) (upd u b v') (w3.setCell ⟨s, 3 + b, none⟩ v')
theorem rn_after {w2 w3 : World} {r wd : Nat} {v' : Value} {xs : List Value} (h : RnAt w s kind st p b n u wr) (hb : b < 2)
    (hx : wr.ownsRow w.heap.size 204 1 (u b) n xs) (hg : Grew w2 w3 (u b) v' (n * 1)) (ho : w3.ownsRow w.heap.size 204 1 v' (n + 1) (xs ++ [slv r wd]))
    (e : w2.heap = wr.heap.push (.cells #[slv r wd] 204)) (e1 : w2.os = wr.os) (e2 : w2.tape = wr.tape) (e3 : w2.output = wr.output) :
    ∃ g cap, v' = .slice (some ⟨g, 0, none⟩) (n + 1) cap ∧ RnAfter w s kind st p b n u v' w3 := by
  have hk : ∀ (k : Nat) (o : Obj), wr.heap[k]? = some o → w2.heap[k]? = some o := by
    intro k o q
    have := blk_lt q
    rw [e, Array.getElem?_push, if_neg (by omega), q]
  have hc2 := hk _ _ h.obj
  have hOs := h.only.size
  have hc3 : w3.heap[s]? = some (.cells #[.int .i64 kind, .int .i64 st, .int .i64 p, u 0, u 1] 119 (0, 0)) := by
    rw [hg.grown.block s (blk_lt hc2) ?_, hc2]
    intro q
    obtain ⟨_, cur, q2⟩ := own_tag hx q.symm
    rw [h.obj] at q2; injection q2 with q2; injection q2 with _ q2 _; exact absurd q2 (by decide)
  have hv : ∃ g cap, v' = .slice (some ⟨g, 0, none⟩) (n + 1) cap := by
    rcases ho.2 with ⟨_, q⟩ | ⟨g, cap, cur, q, _⟩
    · omega
    · exact ⟨g, cap, q⟩
  obtain ⟨g, cap, hv⟩ := hv
  have hset : (#[.int .i64 kind, .int .i64 st, .int .i64 p, u 0, u 1] : Array Value).setIfInBounds (3 + b) v' = #[.int .i64 kind, .int .i64 st, .int .i64 p, upd u b v' 0, upd u b v' 1] := by
    match b, hb with
    | 0, _ => rfl
    | 1, _ => rfl
  refine ⟨g, cap, hv, ?_, blk_free hc3 _, ⟨?_, h.sge, ?_, ⟨xs ++ [slv r wd], ?_⟩, ?_⟩⟩
  · rw [blk_cell hc3]
    have hcs : b = 0 ∨ b = 1 := by omega
    rcases hcs with rfl | rfl <;> rfl
  · have O2 : Only (fun _ => False) w w2 := ⟨e1.trans h.only.os, e2.trans h.only.tape, e3.trans h.only.output, by rw [e]; simp; omega, fun k q _ => by
      rw [e, Array.getElem?_push, if_neg (by omega)]
      exact h.only.block k q (by simp)⟩
    exact (O2.grown hg.grown fun k q => .inl (own_tag hx q).1).setCell (.inl h.sge) _
  · rw [blk_set hc3 (3 + b) v', hset]
  · rw [upd_same]
    refine own_block ho fun g' hg' => ?_
    have hne : g' ≠ s := by
      intro eg
      obtain ⟨_, cur, q⟩ := own_tag ho hg'
      rw [eg, hc3] at q
      injection q with q; injection q with _ q _; exact absurd q (by decide)
    rw [Below.heap_setCell _ _ _ _ hne]
  · intro q; subst q; rw [upd_ne _ _ (by decide)]; exact h.rest rfl
end
def RnRes (w : World) (e : Ending) (w' : World) : Prop := ∃ s, e = .returned (.tuple #[.pointer (some ⟨s, 0, none⟩), .int .i64 0]) ∧ Only (fun _ => False) w w'
end Go.Proofs.YtlipngdfhpaodaaGreat
