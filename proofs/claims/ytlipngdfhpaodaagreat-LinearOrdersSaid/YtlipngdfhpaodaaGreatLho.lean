/- A history that came in, opened to cells. -/
import Derived.Test.YtlipngdfhpaodaaGreatFrame
import Derived.ProofKit
import Derived.Deep.Slices
import Derived.Deep.Fields
namespace Go.Proofs.YtlipngdfhpaodaaGreat.Lo
open Go.ChangeShapes Go.WideShapes Go.ChangeAt Go.RowKit Go.Deep

/-- what became of a call -/
structure Dn where
  e : Int
  n : Int
  pr : Int
  vp : Option Addr
  vn : Nat
  vc : Nat
  rf : Int
  fr : Int
  to : Int
  pt : Int
  st : Int
  po : Int
  en : Bool
def Dn.arr (d : Dn) : Array Value := #[.int .i64 d.e, .int .i64 d.n, .int .i64 d.pr, .slice d.vp d.vn d.vc, .int .u64 d.rf, .int .i64 d.fr, .int .i64 d.to, .int .i64 d.pt, .int .i64 d.st, .int .i64 d.po, .bool d.en]
/-- m rows of calls of eleven cells each -/
structure Hs (w : World) (a : Option Addr) (m : Nat) (L : Nat → Nat) (D : Nat → Nat → Dn) : Prop where
  len : m ≤ 9223372036854775807
  row : ∀ r, r < m → ∃ b o A C, a = some ⟨b, o, none⟩ ∧ b < w.heap.size ∧ w.cell? ⟨b, o + r, none⟩ = some (.slice A (L r) C) ∧ L r ≤ 9223372036854775807 ∧
    ∀ k, k < L r → ∃ b' o', A = some ⟨b', o', none⟩ ∧ b' < w.heap.size ∧ ∀ j, j < 11 → w.cell? ⟨b', o' + k * 11 + j, none⟩ = (D r k).arr[j]?
  pt : ∀ r k, r < m → k < L r → -9223372036854775808 ≤ (D r k).pt ∧ (D r k).pt ≤ 9223372036854775807
theorem Hs.only {w w' : World} {a : Option Addr} {m : Nat} {L : Nat → Nat} {D : Nat → Nat → Dn} (h : Hs w a m L D) (O : Only (fun _ => False) w w') : Hs w' a m L D :=
  ⟨h.len, fun r hr => by
    obtain ⟨b, o, A, C, e1, e2, e3, e4, e5⟩ := h.row r hr
    refine ⟨b, o, A, C, e1, Nat.lt_of_lt_of_le e2 O.size, by rw [O.cellAt e2 id, e3], e4, fun k hk => ?_⟩
    obtain ⟨b', o', q1, q2, q3⟩ := e5 k hk
    exact ⟨b', o', q1, Nat.lt_of_lt_of_le q2 O.size, fun j hj => by rw [O.cellAt q2 id, q3 j hj]⟩, h.pt⟩
/-- the points -/
def ptf (D : Nat → Nat → Dn) (r k : Nat) : Int := (D r k).pt

theorem spot_none {x : Addr} {v : Value} {w : World} (h : w.cell? x = some v) : x.spot = none := by
  cases hs : x.spot with
  | none => rfl
  | some y =>
    simp only [World.cell?, hs] at h
    split at h <;> simp at h
theorem add_at {x : Addr} {i : Nat} (hs : x.spot = none) : x.add i = ⟨x.block, x.off + i, none⟩ := by
  unfold Addr.add
  split
  · rename_i h0; subst h0; cases x; simp_all
  · rfl
theorem addr_eq {x : Addr} (hs : x.spot = none) : x = ⟨x.block, x.off, none⟩ := by cases x; simp_all
theorem i64_in {k : Int} (h : (Lit.int .i64 k).wf = true) : -9223372036854775808 ≤ k ∧ k ≤ 9223372036854775807 := by
  simpa [Lit.wf, IntKind.min, IntKind.max, IntKind.signed, IntKind.bits] using h
theorem cellsDone : Tryz.prog.cellsOf 220 = 11 := by kernel_rfl
theorem cellsRow : Tryz.prog.cellsOf 221 = 1 := by kernel_rfl
theorem cellsHist : Tryz.prog.cellsOf 90 = 2 := by kernel_rfl
theorem cells35 : Tryz.prog.cellsOf 35 = 1 := by kernel_rfl
theorem cells69 : Tryz.prog.cellsOf 69 = 3 := by kernel_rfl
theorem cells67 : Tryz.prog.cellsOf 67 = 1 := by kernel_rfl
theorem cells44 : Tryz.prog.cellsOf 44 = 1 := by kernel_rfl
theorem cells4 : Tryz.prog.cellsOf 4 = 1 := by kernel_rfl
theorem cells3 : Tryz.prog.cellsOf 3 = 1 := by kernel_rfl
section
variable {H : Type} {enc : TypeId × Value → H} {w : World} {spare : Nat → Bool} {held : Bool}
set_option maxRecDepth 100000 in
/-- a call's cells -/
theorem open_done {fuel : Nat} {cs : List Value} {x : DataW H × List MemPlace} (h : DataW.trod enc Tryz.prog w 0 spare held fuel 220 cs = some x) :
    ∃ d : Dn, cs = d.arr.toList ∧ -9223372036854775808 ≤ d.pt ∧ d.pt ≤ 9223372036854775807 := by
  obtain ⟨ys, n', _, hy, hcl, hyl, hf⟩ := DataW.trod_struct Tryz.underlying220 h
  rw [cellsDone] at hcl
  match cs, hcl with
  | [c0, c1, c2, c3, c4, c5, c6, c7, c8, c9, c10], _ =>
    match ys, hyl with
    | [y0, y1, y2, y3, y4, y5, y6, y7, y8], _ =>
      have g0 := hf 0 _ rfl
      have g1 := hf 1 _ rfl
      have g2 := hf 2 _ rfl
      have g3 := hf 3 _ rfl
      have g4 := hf 4 _ rfl
      have g5 := hf 5 _ rfl
      have g6 := hf 6 _ rfl
      have g7 := hf 7 _ rfl
      have g8 := hf 8 _ rfl
      simp [cells35, cells3, cells69, cells4] at g0 g1 g2 g3 g4 g5 g6 g7 g8
      obtain ⟨zs, n2, _, hz, _, hzl, hzg⟩ := DataW.trod_struct Tryz.underlying69 g2
      match zs, hzl with
      | [z0, z1, z2], _ =>
        have t0 := hzg 0 _ rfl
        have t1 := hzg 1 _ rfl
        have t2 := hzg 2 _ rfl
        simp [cells3, cells67, cells44] at t0 t1 t2
        obtain ⟨a0, e0, _, _⟩ := DataW.trod_int Tryz.underlying35 g0
        obtain ⟨a1, e1, _, _⟩ := DataW.trod_int Tryz.underlying3 g1
        obtain ⟨a2, e2, _, _⟩ := DataW.trod_int Tryz.underlying3 t0
        obtain ⟨a4, e4, _, _⟩ := DataW.trod_int Tryz.underlying44 t2
        obtain ⟨a5, e5, _, _⟩ := DataW.trod_int Tryz.underlying3 g3
        obtain ⟨a6, e6, _, _⟩ := DataW.trod_int Tryz.underlying3 g4
        obtain ⟨a7, e7, _, w7⟩ := DataW.trod_int Tryz.underlying3 g5
        obtain ⟨a8, e8, _, _⟩ := DataW.trod_int Tryz.underlying3 g6
        obtain ⟨a9, e9, _, _⟩ := DataW.trod_int Tryz.underlying3 g7
        obtain ⟨a10, e10, _⟩ := DataW.trod_bool Tryz.underlying4 g8
        have e3 : ∃ vp vn vc, c3 = .slice vp vn vc := by
          rcases open_slice Tryz.underlying67 t1 with ⟨q, _⟩ | ⟨a, len, cap, m, n, D, Pl, q, _⟩
          · simp at q; exact ⟨_, _, _, q⟩
          · simp at q; exact ⟨_, _, _, q⟩
        obtain ⟨vp, vn, vc, e3⟩ := e3
        simp at e0 e1 e2 e4 e5 e6 e7 e8 e9 e10
        subst e0 e1 e2 e3 e4 e5 e6 e7 e8 e9 e10
        exact ⟨⟨a0, a1, a2, vp, vn, vc, a4, a5, a6, a7, a8, a9, a10⟩, rfl, i64_in w7⟩
/-- a row of calls -/
theorem open_calls {fuel : Nat} {cs : List Value} {x : DataW H × List MemPlace} (h : DataW.trod enc Tryz.prog w 0 spare held fuel 221 cs = some x) :
    ∃ A n C, ∃ D : Nat → Dn, cs = [.slice A n C] ∧ n ≤ 9223372036854775807 ∧
      (∀ k, k < n → ∃ b' o', A = some ⟨b', o', none⟩ ∧ b' < w.heap.size ∧ ∀ j, j < 11 → w.cell? ⟨b', o' + k * 11 + j, none⟩ = (D k).arr[j]?) ∧
      (∀ k, k < n → -9223372036854775808 ≤ (D k).pt ∧ (D k).pt ≤ 9223372036854775807) := by
  rcases open_slice Tryz.underlying221 h with ⟨rfl, rfl⟩ | ⟨a, len, cap, m, n, D, Pl, rfl, _, hl, hm, hmm, hx, hi⟩
  · exact ⟨none, 0, 0, fun _ => ⟨0, 0, 0, none, 0, 0, 0, 0, 0, 0, 0, 0, false⟩, rfl, by omega, fun k hk => by omega, fun k hk => by omega⟩
  · have hlm : len ≤ m := by rw [hmm]; split <;> omega
    have hs1 : ∀ i, i < m → ∃ v, w.cell? (a.add (i * 11)) = some v := by
      intro i hi1
      obtain ⟨cs', hc, _⟩ := hi i hi1
      rw [cellsDone] at hc
      obtain ⟨_, hcl, hat⟩ := World.cells?_some hc
      have h0 := hat 0 (by decide)
      have hl0 : 0 < cs'.length := by rw [hcl]; decide
      have e0 : ∀ y : Addr, y.add 0 = y := fun y => by simp [Addr.add]
      rw [List.getElem?_eq_getElem hl0, e0] at h0
      exact ⟨_, h0⟩
    have hs0 : 0 < len → a.spot = none ∧ a.block < w.heap.size := by
      intro hpos
      obtain ⟨v, hv⟩ := hs1 0 (Nat.lt_of_lt_of_le hpos hlm)
      have hv' : w.cell? a = some v := by simpa [Addr.add] using hv
      exact ⟨spot_none hv', World.block_lt_of_cell? w _ hv'⟩
    have key : ∀ k, ∃ y : Dn, k < len → (∀ j, j < 11 → w.cell? ⟨a.block, a.off + k * 11 + j, none⟩ = y.arr[j]?) ∧ -9223372036854775808 ≤ y.pt ∧ y.pt ≤ 9223372036854775807 := by
      intro k
      by_cases hk : k < len
      · obtain ⟨cs', hc, ht⟩ := hi k (by omega)
        rw [cellsDone] at hc
        obtain ⟨_, hcl, hat⟩ := World.cells?_some hc
        obtain ⟨d, rfl, hd⟩ := open_done ht
        obtain ⟨hs, hb⟩ := hs0 (by omega)
        refine ⟨d, fun _ => ⟨fun j hj => ?_, hd⟩⟩
        have h1 := hat j hj
        rw [add_at hs, add_at (x := ⟨a.block, a.off + k * 11, none⟩) rfl] at h1
        rw [h1, Array.getElem?_toList]
      · exact ⟨⟨0, 0, 0, none, 0, 0, 0, 0, 0, 0, 0, 0, false⟩, fun h => absurd h hk⟩
    obtain ⟨f, hf⟩ := Classical.axiomOfChoice key
    refine ⟨some a, len, cap, f, rfl, by unfold maxLen at hm; omega, fun k hk => ?_, fun k hk => (hf k hk).2⟩
    obtain ⟨hs, hb⟩ := hs0 (by omega)
    exact ⟨a.block, a.off, by rw [← addr_eq hs], hb, (hf k hk).1⟩
/-- the rows -/
theorem open_rows {fuel : Nat} {cs : List Value} {x : DataW H × List MemPlace} (h : DataW.trod enc Tryz.prog w 0 spare held fuel 88 cs = some x) :
    ∃ a m C L D, cs = [.slice a m C] ∧ Hs w a m L D := by
  rcases open_slice Tryz.underlying88 h with ⟨rfl, rfl⟩ | ⟨a, len, cap, m, n, D, Pl, rfl, _, hl, hm, hmm, hx, hi⟩
  · exact ⟨none, 0, 0, fun _ => 0, fun _ _ => ⟨0, 0, 0, none, 0, 0, 0, 0, 0, 0, 0, 0, false⟩, rfl, by omega, fun r hr => by omega, fun r k hr => by omega⟩
  · have hlm : len ≤ m := by rw [hmm]; split <;> omega
    have hs1 : ∀ i, i < m → ∃ v, w.cell? (a.add (i * 1)) = some v := by
      intro i hi1
      obtain ⟨cs', hc, _⟩ := hi i hi1
      rw [cellsRow] at hc
      obtain ⟨_, hcl, hat⟩ := World.cells?_some hc
      have h0 := hat 0 (by decide)
      have hl0 : 0 < cs'.length := by rw [hcl]; decide
      have e0 : ∀ y : Addr, y.add 0 = y := fun y => by simp [Addr.add]
      rw [List.getElem?_eq_getElem hl0, e0] at h0
      exact ⟨_, h0⟩
    have hs0 : 0 < len → a.spot = none ∧ a.block < w.heap.size := by
      intro hpos
      obtain ⟨v, hv⟩ := hs1 0 (Nat.lt_of_lt_of_le hpos hlm)
      have hv' : w.cell? a = some v := by simpa [Addr.add] using hv
      exact ⟨spot_none hv', World.block_lt_of_cell? w _ hv'⟩
    have key : ∀ r, ∃ y : Option Addr × Nat × Nat × (Nat → Dn), r < len → w.cell? ⟨a.block, a.off + r, none⟩ = some (.slice y.1 y.2.1 y.2.2.1) ∧ y.2.1 ≤ 9223372036854775807 ∧
      (∀ k, k < y.2.1 → ∃ b' o', y.1 = some ⟨b', o', none⟩ ∧ b' < w.heap.size ∧ ∀ j, j < 11 → w.cell? ⟨b', o' + k * 11 + j, none⟩ = (y.2.2.2 k).arr[j]?) ∧
      (∀ k, k < y.2.1 → -9223372036854775808 ≤ (y.2.2.2 k).pt ∧ (y.2.2.2 k).pt ≤ 9223372036854775807) := by
      intro r
      by_cases hr : r < len
      · obtain ⟨cs', hc, ht⟩ := hi r (by omega)
        rw [cellsRow] at hc
        obtain ⟨A, n1, C, D1, rfl, g1, g2, g3⟩ := open_calls ht
        obtain ⟨_, _, hat⟩ := World.cells?_some hc
        have h0 := hat 0 (by omega)
        simp only [List.getElem?_cons_zero] at h0
        obtain ⟨hs, hb⟩ := hs0 (by omega)
        have e0 : ∀ y : Addr, y.add 0 = y := fun y => by simp [Addr.add]
        rw [e0, add_at hs, Nat.mul_one] at h0
        exact ⟨(A, n1, C, D1), fun _ => ⟨h0, g1, g2, g3⟩⟩
      · exact ⟨(none, 0, 0, fun _ => ⟨0, 0, 0, none, 0, 0, 0, 0, 0, 0, 0, 0, false⟩), fun h => absurd h hr⟩
    obtain ⟨f, hf⟩ := Classical.axiomOfChoice key
    refine ⟨some a, len, cap, fun r => (f r).2.1, fun r => (f r).2.2.2, rfl, by unfold maxLen at hm; omega, fun r hr => ?_, fun r k hr hk => (hf r hr).2.2.2 k hk⟩
    obtain ⟨h3, h4, h5, _⟩ := hf r hr
    obtain ⟨hs, hb⟩ := hs0 (by omega)
    exact ⟨a.block, a.off, (f r).1, (f r).2.2.1, by rw [← addr_eq hs], hb, h3, h4, h5⟩
set_option maxRecDepth 100000 in
theorem open_hist {r : Reach} {b0 : Nat} {v : Value} {d : DataW H} {q : List MemPlace} (hv : Value.okWide Tryz.prog w r b0 90 v) (h : DataW.Trod enc Tryz.prog w 0 spare held 90 v d q) :
    ∃ a m C x L D, v = .agg #[.slice a m C, .int .i64 x] ∧ Hs w a m L D := by
  obtain ⟨cs, rfl, hsz⟩ := okWide_struct Tryz.underlying90 hv
  obtain ⟨l⟩ := cs
  match l, hsz.trans cellsHist with
  | [c0, c1], _ =>
    obtain ⟨fuel, hf⟩ := h
    obtain ⟨xs, n, _, hx, _, hlen, hg⟩ := DataW.trod_struct Tryz.underlying90 hf
    match xs, hlen with
    | [y0, y1], _ =>
      have g0 := hg 0 _ rfl
      have g1 := hg 1 _ rfl
      have c88 : Tryz.prog.cellsOf 88 = 1 := by kernel_rfl
      simp [Value.cells, c88, cells3] at g0 g1
      obtain ⟨a, m, C, L, D, e0, h0⟩ := open_rows g0
      obtain ⟨x1, e1, _, _⟩ := DataW.trod_int Tryz.underlying3 g1
      simp at e0 e1
      subst e0; subst e1
      exact ⟨a, m, C, x1, L, D, rfl, h0⟩
end
end Go.Proofs.YtlipngdfhpaodaaGreat.Lo
