/- A snapshot that came in, opened to cells. -/
import Derived.Test.YtiijgghholhcnaaGreatDoorJL40
import Derived.ProofKit
import Derived.SizedLaws
import Derived.Deep.Slices
import Derived.Deep.Fields
import Derived.Test.YtiijgghholhcnaaGreatDoorJL20
import Derived.LaidMore
import Derived.Lib.LaidTab
import Derived.OpenShut
namespace Go.Proofs.YtiijgghholhcnaaGreatDoor
open Go.ChangeShapes Go.WideShapes Go.ChangeAt Go.RowKit Go.Deep
set_option maxRecDepth 100000
namespace Osn
section
variable {H : Type} {enc : TypeId × Value → H} {P : Program} {w : World} {base : Nat} {spare : Nat → Bool} {held : Bool}
theorem open_slice_fields {t e : TypeId} {fs : Array Field} {fuel : Nat} {cs : List Value} {x : DataW H × List MemPlace} (ht : P.underlying t = some (.slice e)) (he : P.underlying e = some (.struct fs))
    (hone : oneCellFields P fs = true) (hC : P.cellsOf e = fs.size) (h : DataW.trod enc P w base spare held fuel t cs = some x) :
    (cs = [.slice none 0 0] ∧ x = (.nil, [])) ∨
    ∃ (a : Addr) (len cap m : Nat) (D : Nat → DataW H) (Pl : Nat → List MemPlace), cs = [.slice (some a) len cap] ∧ base ≤ a.block ∧ len ≤ cap ∧ cap ≤ maxLen ∧ m = (if spare a.block then cap else len) ∧
      x = (.slice ((List.range len).map D) ((List.range (m - len)).map fun j => D (len + j)), MemPlace.row a (m * fs.size) ++ (List.range m).flatMap Pl) ∧
      ∀ i, i < m → ∃ (ys : List (DataW H × List MemPlace)) (n : Nat), D i = .agg (ys.map (·.1)) ∧ Pl i = ys.flatMap (·.2) ∧ ys.length = fs.size ∧
        ∀ (j : Nat) (f : Field), fs[j]? = some f → ∃ (v : Value) (y : DataW H × List MemPlace), w.cell? (a.add (i * fs.size + j)) = some v ∧ ys[j]? = some y ∧ DataW.trod enc P w base spare held n f.type [v] = some y := by
  rcases open_slice ht h with h0 | ⟨a, len, cap, m, n, D, Pl, hcs, hb, hl, hm, hmm, hx, hi⟩
  · exact .inl h0
  · refine .inr ⟨a, len, cap, m, D, Pl, hcs, hb, hl, hm, hmm, by rw [hC] at hx; exact hx, fun i him => ?_⟩
    obtain ⟨cs', hc, ht'⟩ := hi i him
    rw [hC] at hc
    obtain ⟨ys, n', hn', hy, hlen, hyl, hf⟩ := DataW.trod_struct he ht'
    obtain ⟨_, hcl, hat⟩ := World.cells?_some hc
    simp only [Prod.mk.injEq] at hy
    refine ⟨ys, n', hy.1, hy.2, hyl, fun j f hj => ?_⟩
    obtain ⟨ho, hk⟩ := hone_of hone j f hj
    have hjl : j < fs.size := (Array.getElem?_eq_some_iff.1 hj).1
    have hcell := hat j hjl
    have hv : cs'[j]? = some (cs'[j]'(by omega)) := List.getElem?_eq_getElem (by omega)
    have h1 := hf j f hj
    rw [ho, hk] at h1
    have hone' : (cs'.drop j).take 1 = [cs'[j]'(by omega)] := by
      rw [List.drop_eq_getElem_cons (by omega)]
      rfl
    rw [hone'] at h1
    have hys : ys[j]? = some (ys[j]'(by omega)) := List.getElem?_eq_getElem (by omega)
    refine ⟨_, _, ?_, hys, h1.trans hys⟩
    rw [← Go.Deep.add_add, hcell, hv]
end
theorem spot_none {x : Addr} {v : Value} {w : World} (h : w.cell? x = some v) : x.spot = none := by
  cases hs : x.spot with
  | none => rfl
  | some y =>
    simp only [World.cell?, hs] at h
    split at h <;> simp at h
theorem add_at {x : Addr} {i : Nat} (hs : x.spot = none) : x.add i = ⟨x.block, x.off + i, none⟩ := by
  unfold Addr.add
  split
  · rename_i h0; subst h0; cases x; simp_all
  · rfl
theorem addr_eq {x : Addr} (hs : x.spot = none) : x = ⟨x.block, x.off, none⟩ := by cases x; simp_all
theorem trod_flt' {H : Type} {enc : TypeId × Value → H} {P : Program} {w : World} {base : Nat} {sp : Nat → Bool} {held : Bool} {fuel : Nat} {t : TypeId} {cs : List Value} {x : DataW H × List MemPlace} {k : FloatKind}
    (ht : P.underlying t = some (.float k)) (h : DataW.trod enc P w base sp held fuel t cs = some x) : ∃ n, cs = [.float k n] ∧ x = (.lit (.float k n), []) ∧ (Lit.float k n).wf = true := by
  cases fuel with
  | zero => simp [DataW.trod] at h
  | succ n =>
    unfold DataW.trod at h
    rw [ht] at h
    split at h <;> simp_all
theorem trod_flt {H : Type} {enc : TypeId × Value → H} {P : Program} {w : World} {base : Nat} {sp : Nat → Bool} {held : Bool} {fuel : Nat} {t : TypeId} {cs : List Value} {x : DataW H × List MemPlace}
    (ht : P.underlying t = some (.float .f64)) (h : DataW.trod enc P w base sp held fuel t cs = some x) : ∃ n, cs = [.float .f64 n] ∧ n < 18446744073709551616 := by
  obtain ⟨n, h1, _, h2⟩ := trod_flt' ht h
  exact ⟨n, h1, by simpa [Lit.wf] using h2⟩
theorem i64_in {k : Int} (h : (Lit.int .i64 k).wf = true) : -9223372036854775808 ≤ k ∧ k ≤ 9223372036854775807 := by
  simpa [Lit.wf, IntKind.min, IntKind.max, IntKind.signed, IntKind.bits] using h
theorem u64_in {k : Int} (h : (Lit.int .u64 k).wf = true) : 0 ≤ k ∧ k ≤ 18446744073709551615 := by
  simpa [Lit.wf, IntKind.min, IntKind.max, IntKind.signed, IntKind.bits] using h
/-- no text and no list in it is beyond what memory holds -/
def Sz {H : Type} (t : TypeId) (d : DataW H) : Prop := ∀ n ∈ d.weights Tryz.prog t, n ≤ 140737488355328
theorem Sz.part {H : Type} {t : TypeId} {fs : Array Field} {ps : List (DataW H)} (hu : Tryz.prog.underlying t = some (.struct fs)) (h : Sz t (.agg ps)) {j : Nat} {u : TypeId} {d : DataW H} (hj : (fs.toList.map (·.type))[j]? = some u) (hd : ps[j]? = some d) : Sz u d := by
  intro n hn
  refine h n ?_
  rw [DataW.weights, hu]
  exact DataW.weights_mem_each hj hd n hn
theorem Sz.text {H : Type} {t : TypeId} {b : List UInt8} (h : Sz (H := H) t (.lit (.string b))) : b.length ≤ 140737488355328 := h _ (by rw [DataW.weights]; exact List.mem_singleton.2 rfl)
theorem all_mem {H : Type} {e : TypeId} : ∀ (l : List (DataW H)) (d : DataW H), d ∈ l → ∀ n ∈ d.weights Tryz.prog e, n ∈ DataW.weightsAll Tryz.prog e l
  | [], _, h, _, _ => by cases h
  | a :: l, d, h, n, hn => by
    rw [DataW.weightsAll]
    rcases List.mem_cons.1 h with rfl | h
    · exact List.mem_append_left _ hn
    · exact List.mem_append_right _ (all_mem l d h n hn)
theorem Sz.elem {H : Type} {t e : TypeId} {l1 l2 : List (DataW H)} (hu : Tryz.prog.underlying t = some (.slice e)) (h : Sz t (.slice l1 l2)) {d : DataW H} (hd : d ∈ l1) : Sz e d := by
  intro n hn
  refine h n ?_
  rw [DataW.weights, hu]
  exact List.mem_cons_of_mem _ (List.mem_append_left _ (all_mem l1 d hd n hn))
theorem Sz.len {H : Type} {t e : TypeId} {l1 l2 : List (DataW H)} (hu : Tryz.prog.underlying t = some (.slice e)) (he : 1 ≤ Tryz.prog.bytesOf e) (h : Sz t (.slice l1 l2)) : l1.length ≤ 140737488355328 := by
  have := h ((l1.length + l2.length) * Tryz.prog.bytesOf e) (by rw [DataW.weights, hu]; exact List.mem_cons_self ..)
  refine Nat.le_trans ?_ this
  refine Nat.le_trans (Nat.le_add_right l1.length l2.length) ?_
  exact Nat.le_mul_of_pos_right _ he
theorem fields47 : Tryz.prog.fieldsOf 47 = #[{ name := "Name", type := 9, offset := 0, embedded := false, tag := "", pkgPath := "", byteOffset := 0 }, { name := "Value", type := 9, offset := 1, embedded := false, tag := "", pkgPath := "", byteOffset := 16 }] := by kernel_rfl
theorem one47 : oneCellFields Tryz.prog (Tryz.prog.fieldsOf 47) = true := by kernel_rfl
theorem fields79 : Tryz.prog.fieldsOf 79 = #[{ name := "Index", type := 3, offset := 0, embedded := false, tag := "", pkgPath := "", byteOffset := 0 }, { name := "N", type := 24, offset := 1, embedded := false, tag := "", pkgPath := "", byteOffset := 8 }] := by kernel_rfl
theorem one79 : oneCellFields Tryz.prog (Tryz.prog.fieldsOf 79) = true := by kernel_rfl
theorem cells47 : Tryz.prog.cellsOf 47 = 2 := by kernel_rfl
theorem cells79 : Tryz.prog.cellsOf 79 = 2 := by kernel_rfl
theorem cells42 : Tryz.prog.cellsOf 42 = 11 := by kernel_rfl
theorem cells36 : Tryz.prog.cellsOf 36 = 4 := by kernel_rfl
theorem cells38 : Tryz.prog.cellsOf 38 = 2 := by kernel_rfl
theorem cells39 : Tryz.prog.cellsOf 39 = 1 := by kernel_rfl
theorem cells34 : Tryz.prog.cellsOf 34 = 1 := by kernel_rfl
theorem cells26 : Tryz.prog.cellsOf 26 = 3 := by kernel_rfl
theorem cells23 : Tryz.prog.cellsOf 23 = 1 := by kernel_rfl
theorem cells24 : Tryz.prog.cellsOf 24 = 1 := by kernel_rfl
theorem cells40 : Tryz.prog.cellsOf 40 = 1 := by kernel_rfl
theorem cells9 : Tryz.prog.cellsOf 9 = 1 := by kernel_rfl
theorem cells3 : Tryz.prog.cellsOf 3 = 1 := by kernel_rfl
theorem cells2 : Tryz.prog.cellsOf 2 = 1 := by kernel_rfl
theorem bytes47 : 1 ≤ Tryz.prog.bytesOf 47 := of_decide_eq_true (by kernel_rfl)
theorem bytes79 : 1 ≤ Tryz.prog.bytesOf 79 := of_decide_eq_true (by kernel_rfl)
section
variable {H : Type} {enc : TypeId × Value → H} {w : World} {spare : Nat → Bool} {held : Bool}
/-- a list of labels that came in -/
theorem open_labels {fuel : Nat} {cs : List Value} {x : DataW H × List MemPlace} (h : DataW.trod enc Tryz.prog w 0 spare held fuel 34 cs = some x) (hz : Sz 34 x.1) :
    ∃ p n k L, cs = [.slice p n k] ∧ Lbs w p n L ∧ n ≤ k ∧ n ≤ 140737488355328 ∧ ∀ i, i < n → (L i).1.length ≤ 140737488355328 ∧ (L i).2.length ≤ 140737488355328 := by
  rcases open_slice_fields Tryz.underlying34 Tryz.underlying47 (by rw [← fields47]; exact one47) cells47 h with ⟨rfl, rfl⟩ | ⟨a, len, cap, m, D, Pl, rfl, _, hl, hm, hmm, hx, hi⟩
  · exact ⟨none, 0, 0, fun _ => ([], []), rfl, ⟨fun i hi => by omega⟩, Nat.le_refl _, by decide, fun i hi => by omega⟩
  · have hlm : len ≤ m := by rw [hmm]; split <;> omega
    rw [hx] at hz
    have key : ∀ i, ∃ c : List UInt8 × List UInt8, i < len → a.spot = none ∧ a.block < w.heap.size ∧ w.cell? ⟨a.block, a.off + i * 2, none⟩ = some (.string ⟨c.1.toArray⟩) ∧ w.cell? ⟨a.block, a.off + i * 2 + 1, none⟩ = some (.string ⟨c.2.toArray⟩) ∧ c.1.length ≤ 140737488355328 ∧ c.2.length ≤ 140737488355328 := by
      intro i
      by_cases hil : i < len
      · obtain ⟨ys, n, hD, _, hyl, hf⟩ := hi i (by omega)
        obtain ⟨v0, y0, c0, hy0, t0⟩ := hf 0 _ rfl
        obtain ⟨v1, y1, c1, hy1, t1⟩ := hf 1 _ rfl
        obtain ⟨a0, e0, e0', _⟩ := DataW.trod_string Tryz.underlying9 t0
        obtain ⟨a1, e1, e1', _⟩ := DataW.trod_string Tryz.underlying9 t1
        simp at e0 e1
        subst e0 e1
        obtain ⟨ys', n', _, _, _, hf'⟩ := hi 0 (by omega)
        obtain ⟨v2, y2, c2, _, t2⟩ := hf' 0 _ rfl
        have hsp : a.spot = none := spot_none (x := a) (by simpa [Addr.add] using c2)
        have hbk : a.block < w.heap.size := World.block_lt_of_cell? w a (by simpa [Addr.add] using c2)
        have hs := Sz.elem Tryz.underlying34 hz (d := D i) (List.mem_map.2 ⟨i, List.mem_range.2 hil, rfl⟩)
        rw [hD] at hs
        have z0 := (Sz.part Tryz.underlying47 hs (j := 0) (u := 9) (d := y0.1) rfl (by rw [List.getElem?_map, hy0]; rfl))
        have z1 := (Sz.part Tryz.underlying47 hs (j := 1) (u := 9) (d := y1.1) rfl (by rw [List.getElem?_map, hy1]; rfl))
        rw [e0'] at z0
        rw [e1'] at z1
        exact ⟨(a0.data.toList, a1.data.toList), fun _ => ⟨hsp, hbk, by have := c0; rw [add_at hsp] at this; simpa using this, by have := c1; rw [add_at hsp, ← Nat.add_assoc] at this; simpa using this, z0.text, z1.text⟩⟩
      · exact ⟨([], []), fun h => absurd h hil⟩
    refine ⟨some a, len, cap, fun i => Classical.choose (key i), rfl, ⟨fun i hi => ?_⟩, hl, ?_, fun i hi => ?_⟩
    · obtain ⟨h1, h2, h3, h4, _⟩ := Classical.choose_spec (key i) hi
      exact ⟨a.block, a.off, by rw [← addr_eq h1], h2, h3, h4⟩
    · have := Sz.len Tryz.underlying34 bytes47 hz
      simpa using this
    · exact (Classical.choose_spec (key i) hi).2.2.2.2
/-- a list of counts that came in -/
theorem open_counts {fuel : Nat} {cs : List Value} {x : DataW H × List MemPlace} (h : DataW.trod enc Tryz.prog w 0 spare held fuel 39 cs = some x) (hz : Sz 39 x.1) :
    ∃ p n k X N, cs = [.slice p n k] ∧ Cts w p n X N ∧ n ≤ k ∧ n ≤ 140737488355328 ∧ ∀ i, i < n → N i < 18446744073709551616 := by
  rcases open_slice_fields Tryz.underlying39 Tryz.underlying79 (by rw [← fields79]; exact one79) cells79 h with ⟨rfl, rfl⟩ | ⟨a, len, cap, m, D, Pl, rfl, _, hl, hm, hmm, hx, hi⟩
  · exact ⟨none, 0, 0, fun _ => 0, fun _ => 0, rfl, ⟨fun i hi => by omega⟩, Nat.le_refl _, by decide, fun i hi => by omega⟩
  · have hlm : len ≤ m := by rw [hmm]; split <;> omega
    rw [hx] at hz
    have key : ∀ i, ∃ c : Int × Nat, i < len → a.spot = none ∧ a.block < w.heap.size ∧ w.cell? ⟨a.block, a.off + i * 2, none⟩ = some (.int .i64 c.1) ∧ w.cell? ⟨a.block, a.off + i * 2 + 1, none⟩ = some (.int .u64 (c.2 : Int)) ∧ c.2 < 18446744073709551616 := by
      intro i
      by_cases hil : i < len
      · obtain ⟨ys, n, hD, _, hyl, hf⟩ := hi i (by omega)
        obtain ⟨v0, y0, c0, hy0, t0⟩ := hf 0 _ rfl
        obtain ⟨v1, y1, c1, hy1, t1⟩ := hf 1 _ rfl
        obtain ⟨a0, e0, _, _⟩ := DataW.trod_int Tryz.underlying3 t0
        obtain ⟨a1, e1, _, w1⟩ := DataW.trod_int Tryz.underlying24 t1
        simp at e0 e1
        subst e0 e1
        obtain ⟨ys', n', _, _, _, hf'⟩ := hi 0 (by omega)
        obtain ⟨v2, y2, c2, _, t2⟩ := hf' 0 _ rfl
        have hsp : a.spot = none := spot_none (x := a) (by simpa [Addr.add] using c2)
        have hbk : a.block < w.heap.size := World.block_lt_of_cell? w a (by simpa [Addr.add] using c2)
        have hu := u64_in w1
        refine ⟨(a0, a1.toNat), fun _ => ⟨hsp, hbk, by have := c0; rw [add_at hsp] at this; simpa using this, ?_, ?_⟩⟩
        · have := c1
          rw [add_at hsp, ← Nat.add_assoc] at this
          show w.cell? ⟨a.block, a.off + i * 2 + 1, none⟩ = some (.int .u64 ((a1.toNat : Nat) : Int))
          rw [Int.toNat_of_nonneg hu.1]
          exact this
        · show a1.toNat < 18446744073709551616
          omega
      · exact ⟨(0, 0), fun h => absurd h hil⟩
    refine ⟨some a, len, cap, fun i => (Classical.choose (key i)).1, fun i => (Classical.choose (key i)).2, rfl, ⟨fun i hi => ?_⟩, hl, ?_, fun i hi => ?_⟩
    · obtain ⟨h1, h2, h3, h4, _⟩ := Classical.choose_spec (key i) hi
      exact ⟨a.block, a.off, by rw [← addr_eq h1], h2, h3, h4⟩
    · have := Sz.len Tryz.underlying39 bytes79 hz
      simpa using this
    · exact (Classical.choose_spec (key i) hi).2.2.2.2
/-- a value's cells -/
theorem open_value {fuel : Nat} {cs : List Value} {x : DataW H × List MemPlace} (h : DataW.trod enc Tryz.prog w 0 spare held fuel 42 cs = some x) (hz : Sz 42 x.1) :
    ∃ V : Vl, cs = V.cells.toList ∧ Vok w V ∧ V.hi < 9223372036854775808 := by
  obtain ⟨ys, n', _, hy, hcl, hyl, hf⟩ := DataW.trod_struct Tryz.underlying42 h
  rw [cells42] at hcl
  match cs, hcl with
  | [c0, c1, c2, c3, c4, c5, c6, c7, c8, c9, c10], _ =>
    match ys, hyl with
    | [y0, y1, y2, y3, y4, y5, y6], _ =>
      rw [hy] at hz
      have zd := Sz.part Tryz.underlying42 hz (j := 0) (u := 36) (d := y0.1) rfl rfl
      have zc := Sz.part Tryz.underlying42 hz (j := 2) (u := 39) (d := y2.1) rfl rfl
      have g0 := hf 0 _ rfl
      have g1 := hf 1 _ rfl
      have g2 := hf 2 _ rfl
      have g3 := hf 3 _ rfl
      have g4 := hf 4 _ rfl
      have g5 := hf 5 _ rfl
      have g6 := hf 6 _ rfl
      simp [cells36, cells38, cells39, cells24, cells40] at g0 g1 g2 g3 g4 g5 g6
      obtain ⟨zs, n2, _, hzz, _, hzl, hzg⟩ := DataW.trod_struct Tryz.underlying36 g0
      match zs, hzl with
      | [z0, z1, z2, z3], _ =>
        rw [hzz] at zd
        have zn := Sz.part Tryz.underlying36 zd (j := 1) (u := 9) (d := z1.1) rfl rfl
        have zh := Sz.part Tryz.underlying36 zd (j := 2) (u := 9) (d := z2.1) rfl rfl
        have zl := Sz.part Tryz.underlying36 zd (j := 3) (u := 34) (d := z3.1) rfl rfl
        have t0 := hzg 0 _ rfl
        have t1 := hzg 1 _ rfl
        have t2 := hzg 2 _ rfl
        have t3 := hzg 3 _ rfl
        simp [cells3, cells9, cells34] at t0 t1 t2 t3
        obtain ⟨us, n3, _, _, _, hul, hug⟩ := DataW.trod_struct Tryz.underlying38 g1
        match us, hul with
        | [u0, u1], _ =>
          have s0 := hug 0 _ rfl
          have s1 := hug 1 _ rfl
          simp [cells2, cells24] at s0 s1
          obtain ⟨a0, e0, _, _⟩ := DataW.trod_int Tryz.underlying3 t0
          obtain ⟨a1, e1, q1, _⟩ := DataW.trod_string Tryz.underlying9 t1
          obtain ⟨a2, e2, q2, _⟩ := DataW.trod_string Tryz.underlying9 t2
          obtain ⟨lp, ln, lc, L, e3, hL, hlc, hln, hll⟩ := open_labels t3 zl
          obtain ⟨a4, e4, _, w4⟩ := DataW.trod_int Tryz.underlying2 s0
          obtain ⟨a5, e5, _, w5⟩ := DataW.trod_int Tryz.underlying24 s1
          obtain ⟨cp, cn, cc, X, N, e6, hC, hcc, hcn, hN⟩ := open_counts g2 zc
          obtain ⟨a7, e7, _, w7⟩ := DataW.trod_int Tryz.underlying24 g3
          obtain ⟨a8, e8, w8⟩ := trod_flt Tryz.underlying40 g4
          obtain ⟨a9, e9, w9⟩ := trod_flt Tryz.underlying40 g5
          obtain ⟨a10, e10, w10⟩ := trod_flt Tryz.underlying40 g6
          rw [q1] at zn
          rw [q2] at zh
          simp at e0 e1 e2 e3 e4 e5 e6 e7 e8 e9 e10
          subst e0 e1 e2 e3 e4 e5 e6 e7 e8 e9 e10
          have i4 := i64_in w4
          have i5 := u64_in w5
          have i7 := u64_in w7
          refine ⟨⟨a0, a1.data.toList, a2.data.toList, lp, ln, lc, L, a4, a5.toNat, cp, cn, cc, X, N, a7.toNat, a8, a9, a10⟩, ?_, ⟨hL, hC, hlc, hcc, zn.text, zh.text, hll, hln, hcn, hN, ?_, ?_, w8, w9, w10⟩, ?_⟩
          · simp [Vl.cells, Int.toNat_of_nonneg i5.1, Int.toNat_of_nonneg i7.1]
          · show a7.toNat < 18446744073709551616
            omega
          · show a5.toNat < 18446744073709551616
            omega
          · show a4 < 9223372036854775808
            omega
/-- the values -/
theorem open_values {fuel : Nat} {cs : List Value} {x : DataW H × List MemPlace} (h : DataW.trod enc Tryz.prog w 0 spare held fuel 23 cs = some x) (hz : Sz 23 x.1) :
    ∃ vp n c V, cs = [.slice vp n c] ∧ Vls w vp n V ∧ n ≤ c ∧ ∀ i, i < n → (V i).hi < 9223372036854775808 := by
  rcases open_slice Tryz.underlying23 h with ⟨rfl, rfl⟩ | ⟨a, len, cap, m, n, D, Pl, rfl, _, hl, hm, hmm, hx, hi⟩
  · exact ⟨none, 0, 0, fun _ => ⟨0, [], [], none, 0, 0, fun _ => ([], []), 0, 0, none, 0, 0, fun _ => 0, fun _ => 0, 0, 0, 0, 0⟩, rfl, ⟨fun i hi => by omega, fun i hi => by omega⟩, Nat.le_refl _, fun i hi => by omega⟩
  · have hlm : len ≤ m := by rw [hmm]; split <;> omega
    rw [hx] at hz
    have hs1 : ∀ i, i < m → ∃ v, w.cell? (a.add (i * 11)) = some v := by
      intro i hi1
      obtain ⟨cs', hc, _⟩ := hi i hi1
      rw [cells42] at hc
      obtain ⟨_, hcl, hat⟩ := World.cells?_some hc
      have h0 := hat 0 (by decide)
      have hl0 : 0 < cs'.length := by rw [hcl]; decide
      have e0 : ∀ y : Addr, y.add 0 = y := fun y => by simp [Addr.add]
      rw [List.getElem?_eq_getElem hl0, e0] at h0
      exact ⟨_, h0⟩
    have hs0 : 0 < len → a.spot = none ∧ a.block < w.heap.size := by
      intro hpos
      obtain ⟨v, hv⟩ := hs1 0 (Nat.lt_of_lt_of_le hpos hlm)
      have hv' : w.cell? a = some v := by simpa [Addr.add] using hv
      exact ⟨spot_none hv', World.block_lt_of_cell? w _ hv'⟩
    have key : ∀ k, ∃ y : Vl, k < len → (∀ j, j < 11 → w.cell? ⟨a.block, a.off + k * 11 + j, none⟩ = y.cells[j]?) ∧ Vok w y ∧ y.hi < 9223372036854775808 := by
      intro k
      by_cases hk : k < len
      · obtain ⟨cs', hc, ht⟩ := hi k (by omega)
        rw [cells42] at hc
        obtain ⟨_, hcl, hat⟩ := World.cells?_some hc
        obtain ⟨d, rfl, hd⟩ := open_value ht (Sz.elem Tryz.underlying23 hz (d := D k) (List.mem_map.2 ⟨k, List.mem_range.2 hk, rfl⟩))
        obtain ⟨hs, hb⟩ := hs0 (by omega)
        refine ⟨d, fun _ => ⟨fun j hj => ?_, hd⟩⟩
        have h1 := hat j hj
        rw [add_at hs, add_at (x := ⟨a.block, a.off + k * 11, none⟩) rfl] at h1
        rw [h1, Array.getElem?_toList]
      · exact ⟨⟨0, [], [], none, 0, 0, fun _ => ([], []), 0, 0, none, 0, 0, fun _ => 0, fun _ => 0, 0, 0, 0, 0⟩, fun h => absurd h hk⟩
    obtain ⟨f, hf⟩ := Classical.axiomOfChoice key
    refine ⟨some a, len, cap, f, rfl, ⟨fun k hk => ?_, fun k hk => (hf k hk).2.1⟩, hl, fun k hk => (hf k hk).2.2⟩
    obtain ⟨hs, hb⟩ := hs0 (by omega)
    exact ⟨a.block, a.off, by rw [← addr_eq hs], hb, (hf k hk).1⟩
/-- the snapshot -/
theorem open_snap {r : Reach} {b0 : Nat} {v : Value} {d : DataW H} {q : List MemPlace} (hv : Value.okWide Tryz.prog w r b0 26 v) (h : DataW.Trod enc Tryz.prog w 0 spare held 26 v d q) (hz : Sz 26 d) :
    ∃ (prec : Int) (vp : Option Addr) (n c : Nat) (V : Nat → Vl) (rf : Nat), v = .agg #[.int .i64 prec, .slice vp n c, .int .u64 (rf : Int)] ∧ Vls w vp n V ∧ n ≤ c ∧ (∀ i, i < n → (V i).hi < 9223372036854775808) ∧ rf < 18446744073709551616 := by
  obtain ⟨cs, rfl, hsz⟩ := okWide_struct Tryz.underlying26 hv
  obtain ⟨l⟩ := cs
  match l, hsz.trans cells26 with
  | [c0, c1, c2], _ =>
    obtain ⟨fuel, hf⟩ := h
    obtain ⟨xs, n, _, hx, _, hlen, hg⟩ := DataW.trod_struct Tryz.underlying26 hf
    match xs, hlen with
    | [y0, y1, y2], _ =>
      simp only [Prod.mk.injEq] at hx
      rw [hx.1] at hz
      have zv := Sz.part Tryz.underlying26 hz (j := 1) (u := 23) (d := y1.1) rfl rfl
      have g0 := hg 0 _ rfl
      have g1 := hg 1 _ rfl
      have g2 := hg 2 _ rfl
      simp [Value.cells, cells3, cells23, cells24] at g0 g1 g2
      obtain ⟨a0, e0, _, _⟩ := DataW.trod_int Tryz.underlying3 g0
      obtain ⟨vp, m, c, V, e1, hV, hc, hh⟩ := open_values g1 zv
      obtain ⟨a2, e2, _, w2⟩ := DataW.trod_int Tryz.underlying24 g2
      simp at e0 e1 e2
      subst e0 e1 e2
      have i2 := u64_in w2
      exact ⟨a0, vp, m, c, V, a2.toNat, by rw [Int.toNat_of_nonneg i2.1], hV, hc, hh, by omega⟩
end
end Osn
end Go.Proofs.YtiijgghholhcnaaGreatDoor

/- What the laid variables give the walks. -/
namespace Go.Proofs.YtiijgghholhcnaaGreatDoor.Re
open Go.RowKit
theorem laid_at {P : Program} {w : World} : ∀ {l : List (String × DataW Unit)} {ps : List MemPlace}, DataW.LaidVars P w l ps → ∀ n d, (n, d) ∈ l →
    ∃ g t cs fuel p, P.globalNamed n = some g ∧ (P.globals[g]?).map (·.type) = some t ∧ w.var? P n = some cs ∧ DataW.trod (fun _ => ()) P w 0 (fun _ => true) false fuel t cs.toList = some (d, p)
  | [], _, _, n, d, h => by cases h
  | (n0, d0) :: r, ps, hl, n, d, h => by
    obtain ⟨g, t, cs, fuel, p, q, e1, e2, e3, e4, hr, rfl⟩ := hl
    rcases List.mem_cons.mp h with e | h
    · cases e; exact ⟨g, t, cs, fuel, p, e1, e2, e3, e4⟩
    · exact laid_at hr n d h
set_option maxRecDepth 100000
theorem uint_eq : (Rows.laid_internal_strconv_uint64pow10 : DataW Unit) = Lib.tabData .u64 Lib.pow10Tab := by kernel_rfl
theorem t9 : (Tryz.prog.globals[2]?).map (·.type) = some 158 := by kernel_rfl
theorem gl13 : Tryz.prog.globalNamed "internal/strconv.pow10Tab" = some 12 := by kernel_rfl
theorem t13 : (Tryz.prog.globals[12]?).map (·.type) = some 298 := by kernel_rfl
theorem cells194 : Tryz.prog.cellsOf 297 = 2 := by kernel_rfl
theorem cells195 : Tryz.prog.cellsOf 298 = 1392 := by kernel_rfl
theorem tab2_of {W : World} {l : List (String × DataW Unit)} {ps : List MemPlace} (h : DataW.LaidVars Tryz.prog W l ps) (hm : ("internal/strconv.uint64pow10", Rows.laid_internal_strconv_uint64pow10) ∈ l) : Tab2 W := by
  obtain ⟨g, t, cs, fuel, p, hg, ht, hv, hd⟩ := laid_at h _ _ hm
  obtain rfl := Option.some.inj (gl9.symm.trans hg)
  obtain rfl := Option.some.inj (t9.symm.trans ht)
  rw [uint_eq] at hd
  unfold Tab2 Lib.TabIs
  rw [hv, ← Lib.cells_of_tab Tryz.underlying158 Tryz.underlying24 (by kernel_rfl) (by kernel_rfl) hd]
theorem tab_of {W : World} {l : List (String × DataW Unit)} {ps : List MemPlace} (h : DataW.LaidVars Tryz.prog W l ps) (hm : ("internal/strconv.pow10Tab", Rows.laid_internal_strconv_pow10Tab) ∈ l) : Tab W := by
  obtain ⟨g, t, cs, fuel, p, hg, ht, hv, hd⟩ := laid_at h _ _ hm
  obtain rfl := Option.some.inj (gl13.symm.trans hg)
  obtain rfl := Option.some.inj (t13.symm.trans ht)
  obtain ⟨xs, m, rfl, hx, hlen, hn, hel⟩ := DataW.trod_array Tryz.underlying298 hd
  have c24 : Tryz.prog.cellsOf 24 = 1 := by kernel_rfl
  have hmap : xs.map (·.1) = Go.Pinned.pow10Rows.map fun x => (DataW.agg [.lit (.int .u64 x.1), .lit (.int .u64 x.2)] : DataW Unit) := by
    have := congrArg Prod.fst hx
    simp only [Rows.laid_internal_strconv_pow10Tab, Go.Pinned.pow10Tab, DataW.agg.injEq] at this
    exact this.symm
  refine ⟨fun i hi => ?_⟩
  have e := hel i hi
  have hxi : i < xs.length := by omega
  have hpi : i < Go.Pinned.pow10Rows.length := by rw [rows_len]; exact hi
  rw [cells194, List.getElem?_eq_getElem hxi] at e
  have hy : (xs[i]).1 = DataW.agg [.lit (.int .u64 (Go.Pinned.pow10Rows[i]).1), .lit (.int .u64 (Go.Pinned.pow10Rows[i]).2)] := by
    have := congrArg (·[i]?) hmap
    simp only [List.getElem?_map, List.getElem?_eq_getElem hxi, List.getElem?_eq_getElem hpi, Option.map_some, Option.some.injEq] at this
    exact this
  obtain ⟨ys, n, rfl, hyx, hylen, hyn, hyel⟩ := DataW.trod_struct Tryz.underlying297 e
  have h0 := hyel 0 _ rfl
  have h1 := hyel 1 _ rfl
  generalize hcs : (cs.toList.drop (i * 2)).take 2 = cc at *
  change DataW.trod _ Tryz.prog W 0 _ false n 24 ((cc.drop 0).take (Tryz.prog.cellsOf 24)) = _ at h0
  change DataW.trod _ Tryz.prog W 0 _ false n 24 ((cc.drop 1).take (Tryz.prog.cellsOf 24)) = _ at h1
  rw [c24] at h0 h1
  rw [cells194] at hylen
  match cc, hylen, ys, hyn with
  | [a, b], _, [x0, x1], _ =>
    rw [hyx] at hy
    simp only [DataW.agg.injEq, List.map_cons, List.map_nil, List.cons.injEq] at hy
    obtain ⟨k0, e0, f0, _⟩ := DataW.trod_int Tryz.underlying24 (show DataW.trod _ Tryz.prog W 0 _ false n 24 _ = some x0 from h0)
    obtain ⟨k1, e1, f1, _⟩ := DataW.trod_int Tryz.underlying24 (show DataW.trod _ Tryz.prog W 0 _ false n 24 _ = some x1 from h1)
    have q0 : k0 = (Go.Pinned.pow10Rows[i]).1 := by have := hy.1; rw [f0] at this; simpa using this
    have q1 : k1 = (Go.Pinned.pow10Rows[i]).2 := by have := hy.2.1; rw [f1] at this; simpa using this
    simp at e0 e1
    rw [e0, e1, q0, q1] at hcs
    refine ⟨Go.Pinned.pow10Rows[i], List.getElem?_eq_getElem hpi, ?_, ?_⟩
    · have v := World.var?_cell hg hv (i * 2)
      have c : cs.toList[i * 2]? = some (.int .u64 (Go.Pinned.pow10Rows[i]).1) := by
        have := congrArg (·[0]?) hcs
        simpa [List.getElem?_take, List.getElem?_drop] using this
      rw [v]; simpa using c
    · have v := World.var?_cell hg hv (i * 2 + 1)
      have c : cs.toList[i * 2 + 1]? = some (.int .u64 (Go.Pinned.pow10Rows[i]).2) := by
        have := congrArg (·[1]?) hcs
        simpa [List.getElem?_take, List.getElem?_drop] using this
      rw [v]; simpa using c
end Go.Proofs.YtiijgghholhcnaaGreatDoor.Re
