/- What the rows' proofs share: a raw part that came in, opened to cells. -/
import Derived.Test.YtimiojckinpfdaaRows
import Derived.ProofKit
import Derived.OpenShut
import Derived.ChangeOld
import Derived.Below
import Derived.Deep.Slices
import Derived.Deep.Fields
import Derived.ChangeSame
import Derived.Deep.RegionHeld3
import Derived.Test.YtimiojckinpfdaaJnValuesi
namespace Go.Proofs.Ytimiojckinpfdaa.raw
open Go.ChangeShapes Go.WideShapes Go.ChangeAt Go.RowKit Go.Deep Srt

section
variable {H : Type} {enc : TypeId × Value → H} {P : Program} {w : World} {base : Nat} {spare : Nat → Bool} {held : Bool}
theorem open_slice_fields {t e : TypeId} {fs : Array Field} {fuel : Nat} {cs : List Value} {x : DataW H × List MemPlace} (ht : P.underlying t = some (.slice e)) (he : P.underlying e = some (.struct fs))
    (hone : oneCellFields P fs = true) (hC : P.cellsOf e = fs.size) (h : DataW.trod enc P w base spare held fuel t cs = some x) :
    (cs = [.slice none 0 0] ∧ x = (.nil, [])) ∨
    ∃ (a : Addr) (len cap m : Nat) (D : Nat → DataW H) (Pl : Nat → List MemPlace), cs = [.slice (some a) len cap] ∧ base ≤ a.block ∧ len ≤ cap ∧ cap ≤ maxLen ∧ m = (if spare a.block then cap else len) ∧
      x = (.slice ((List.range len).map D) ((List.range (m - len)).map fun j => D (len + j)), MemPlace.row a (m * fs.size) ++ (List.range m).flatMap Pl) ∧
      ∀ i, i < m → ∃ (ys : List (DataW H × List MemPlace)) (n : Nat), D i = .agg (ys.map (·.1)) ∧ Pl i = ys.flatMap (·.2) ∧ ys.length = fs.size ∧
        ∀ (j : Nat) (f : Field), fs[j]? = some f → ∃ (v : Value) (y : DataW H × List MemPlace), w.cell? (a.add (i * fs.size + j)) = some v ∧ ys[j]? = some y ∧ DataW.trod enc P w base spare held n f.type [v] = some y := by
  rcases open_slice ht h with h0 | ⟨a, len, cap, m, n, D, Pl, hcs, hb, hl, hm, hmm, hx, hi⟩
  · exact .inl h0
  · refine .inr ⟨a, len, cap, m, D, Pl, hcs, hb, hl, hm, hmm, by rw [hC] at hx; exact hx, fun i him => ?_⟩
    obtain ⟨cs', hc, ht'⟩ := hi i him
    rw [hC] at hc
    obtain ⟨ys, n', hn', hy, hlen, hyl, hf⟩ := DataW.trod_struct he ht'
    obtain ⟨_, hcl, hat⟩ := World.cells?_some hc
    simp only [Prod.mk.injEq] at hy
    refine ⟨ys, n', hy.1, hy.2, hyl, fun j f hj => ?_⟩
    obtain ⟨ho, hk⟩ := hone_of hone j f hj
    have hjl : j < fs.size := (Array.getElem?_eq_some_iff.1 hj).1
    have hcell := hat j hjl
    have hv : cs'[j]? = some (cs'[j]'(by omega)) := List.getElem?_eq_getElem (by omega)
    have h1 := hf j f hj
    rw [ho, hk] at h1
    have hone' : (cs'.drop j).take 1 = [cs'[j]'(by omega)] := by
      rw [List.drop_eq_getElem_cons (by omega)]
      rfl
    rw [hone'] at h1
    have hys : ys[j]? = some (ys[j]'(by omega)) := List.getElem?_eq_getElem (by omega)
    refine ⟨_, _, ?_, hys, h1.trans hys⟩
    rw [← Go.Deep.add_add, hcell, hv]
end

theorem own : ownKnob Try.prog.godebug = none := by kernel_rfl
theorem laidOut : laidOutB Try.prog = true := by kernel_rfl
theorem below_only {w w' : World} (ho : Only (fun _ => False) w w') : Below w.heap.size w w' :=
  (ho.mono (T := fun k => w.heap.size ≤ k) (by intro k _ h; exact h.elim)).below (Nat.le_refl _)
theorem word {k : Int} (h : (Lit.int .u64 k).wf = true) : ∃ n : Nat, k = n ∧ n < 18446744073709551616 := by
  have h2 : 0 ≤ k ∧ k ≤ 18446744073709551615 := by simpa [Lit.wf, IntKind.min, IntKind.max, IntKind.signed, IntKind.bits] using h
  exact ⟨k.toNat, by omega, by omega⟩
theorem spot_none {x : Addr} {v : Value} {w : World} (h : w.cell? x = some v) : x.spot = none := by
  cases hs : x.spot with
  | none => rfl
  | some y =>
    simp only [World.cell?, hs] at h
    split at h <;> simp at h
theorem add_at {x : Addr} {v : Value} {w : World} {i : Nat} (hs : x.spot = none) (h : w.cell? (x.add i) = some v) : w.cell? ⟨x.block, x.off + i, none⟩ = some v := by
  rw [← h]; congr 1
  unfold Addr.add
  split
  · rename_i h0; subst h0; cases x; simp_all
  · rfl
theorem addr_eq {x : Addr} (hs : x.spot = none) : x = ⟨x.block, x.off, none⟩ := by cases x; simp_all
theorem one55 : oneCellFields Try.prog (Try.prog.fieldsOf 55) = true := by kernel_rfl
theorem fields55 : Try.prog.fieldsOf 55 = #[{ name := "Index", type := 3, offset := 0, embedded := false, tag := "", pkgPath := "", byteOffset := 0 }, { name := "N", type := 33, offset := 1, embedded := false, tag := "", pkgPath := "", byteOffset := 8 }] := by kernel_rfl
theorem cells55 : Try.prog.cellsOf 55 = 2 := by kernel_rfl
theorem cells38 : Try.prog.cellsOf 38 = 8 := by kernel_rfl
theorem cells35 : Try.prog.cellsOf 35 = 2 := by kernel_rfl
theorem cells36 : Try.prog.cellsOf 36 = 1 := by kernel_rfl
theorem cells33 : Try.prog.cellsOf 33 = 1 := by kernel_rfl
theorem cells2 : Try.prog.cellsOf 2 = 1 := by kernel_rfl

section
variable {H : Type} {enc : TypeId × Value → H} {w : World} {spare : Nat → Bool} {held : Bool}
/-- a list of counts that came in -/
theorem open_counts {fuel : Nat} {cs : List Value} {x : DataW H × List MemPlace} (h : DataW.trod enc Try.prog w 0 spare held fuel 36 cs = some x) :
    ∃ p n k f, cs = [.slice p n k] ∧ Cnts w p n f ∧ (p = none → n = 0 ∧ k = 0) ∧ (∀ i, i < n → (f i).2 < 18446744073709551616) ∧ n + 1 ≤ Rows.uptoBulk x.1 := by
  rcases open_slice_fields Try.underlying36 Try.underlying55 (by rw [← fields55]; exact one55) cells55 h with ⟨rfl, rfl⟩ | ⟨a, len, cap, m, D, Pl, rfl, _, hl, hm, hmm, hx, hi⟩
  · exact ⟨none, 0, 0, fun _ => (0, 0), rfl, fun i hi => by omega, fun _ => ⟨rfl, rfl⟩, fun i hi => by omega, by simp [Rows.uptoBulk]⟩
  · have hlm : len ≤ m := by rw [hmm]; split <;> omega
    have key : ∀ i, ∃ c : Cn, i < len → a.spot = none ∧ a.block < w.heap.size ∧ w.cell? ⟨a.block, a.off + i * 2, none⟩ = some (.int .i64 c.1) ∧ w.cell? ⟨a.block, a.off + i * 2 + 1, none⟩ = some (.int .u64 (c.2 : Nat)) ∧ c.2 < 18446744073709551616 := by
      intro i
      by_cases hil : i < len
      · obtain ⟨ys, n, _, _, _, hf⟩ := hi i (by omega)
        obtain ⟨v0, y0, c0, _, t0⟩ := hf 0 _ rfl
        obtain ⟨v1, y1, c1, _, t1⟩ := hf 1 _ rfl
        obtain ⟨a0, e0, _, w0⟩ := DataW.trod_int Try.underlying3 t0
        obtain ⟨a1, e1, _, w1⟩ := DataW.trod_int Try.underlying33 t1
        obtain ⟨b1, rfl, l1⟩ := word w1
        simp at e0 e1
        subst e0 e1
        obtain ⟨ys', n', _, _, _, hf'⟩ := hi 0 (by omega)
        obtain ⟨v2, y2, c2, _, t2⟩ := hf' 0 _ rfl
        have hsp : a.spot = none := spot_none (x := a) (by simpa [Addr.add] using c2)
        have hbk : a.block < w.heap.size := World.block_lt_of_cell? w a (by simpa [Addr.add] using c2)
        exact ⟨(a0, b1), fun _ => ⟨hsp, hbk, by have := add_at hsp c0; simpa using this, by have := add_at hsp c1; rw [← Nat.add_assoc] at this; simpa using this, l1⟩⟩
      · exact ⟨(0, 0), fun h => absurd h hil⟩
    refine ⟨some a, len, cap, fun i => Classical.choose (key i), rfl, fun i hi => ?_, fun h => (by cases h), fun i hi => (Classical.choose_spec (key i) hi).2.2.2.2, ?_⟩
    · obtain ⟨h1, h2, h3, h4, _⟩ := Classical.choose_spec (key i) hi
      exact ⟨a.block, a.off, by rw [← addr_eq h1], h2, h3, h4⟩
    · rw [hx]
      have := bulks.slice_le ((List.range len).map D) ((List.range (m - len)).map fun j => D (len + j))
      simp only [List.length_map, List.length_range] at this
      dsimp only
      omega
structure RawIn (w : World) (v : Value) (B : Nat) (hi lo : Int) (p : Option Addr) (n k : Nat) (N : Int) (s c m g : Nat) (f : Nat → Cn) : Prop where
  eq : v = partr hi lo p n k N s c m g
  lo0 : 0 ≤ lo ∧ lo ≤ 18446744073709551615
  ok : Pq.Ok2 (s, c)
  bm : m < 18446744073709551616 ∧ g < 18446744073709551616
  cnt : Cnts w p n f
  nil : p = none → n = 0 ∧ k = 0
  low : ∀ i, i < n → (f i).2 < 18446744073709551616
  bulk : n + 1 ≤ B
set_option maxRecDepth 100000 in
theorem open_raw {r : Reach} {b0 : Nat} {v : Value} {d : DataW H} {q : List MemPlace} (hv : Value.okWide Try.prog w r b0 38 v) (h : DataW.Trod enc Try.prog w 0 spare held 38 v d q) :
    ∃ hi lo p n k N s c m g f, RawIn w v (Rows.uptoBulk d) hi lo p n k N s c m g f := by
  obtain ⟨cs, rfl, hsz⟩ := okWide_struct Try.underlying38 hv
  obtain ⟨l⟩ := cs
  match l, hsz.trans cells38 with
  | [c0, c1, c2, c3, c4, c5, c6, c7], _ =>
    obtain ⟨fuel, hf⟩ := h
    obtain ⟨xs, n, _, hx, _, hlen, hg⟩ := DataW.trod_struct Try.underlying38 hf
    match xs, hlen with
    | [y0, y1, y2, y3, y4, y5, y6], _ =>
      simp only [Prod.mk.injEq] at hx
      have g0 := hg 0 _ rfl
      have g1 := hg 1 _ rfl
      have g2 := hg 2 _ rfl
      have g3 := hg 3 _ rfl
      have g4 := hg 4 _ rfl
      have g5 := hg 5 _ rfl
      have g6 := hg 6 _ rfl
      simp [Value.cells, cells35, cells36, cells33] at g0 g1 g2 g3 g4 g5 g6
      obtain ⟨zs, n', _, hz, _, hzl, hzg⟩ := DataW.trod_struct Try.underlying35 g0
      have t0 := hzg 0 _ rfl
      have t1 := hzg 1 _ rfl
      match zs, hzl with
      | [z0, z1], _ =>
        simp [cells33, cells2] at t0 t1
        obtain ⟨a0, e0, _, _⟩ := DataW.trod_int Try.underlying2 t0
        obtain ⟨a1, e1, _, w1⟩ := DataW.trod_int Try.underlying33 t1
        obtain ⟨p, n1, k, f, e2, q1, q2, q3, q4⟩ := open_counts g1
        obtain ⟨a3, e3, _, w3⟩ := DataW.trod_int Try.underlying33 g2
        obtain ⟨a4, e4, _, w4⟩ := DataW.trod_int Try.underlying33 g3
        obtain ⟨a5, e5, _, w5⟩ := DataW.trod_int Try.underlying33 g4
        obtain ⟨a6, e6, _, w6⟩ := DataW.trod_int Try.underlying33 g5
        obtain ⟨a7, e7, _, w7⟩ := DataW.trod_int Try.underlying33 g6
        obtain ⟨b1, rfl, l1⟩ := word w1
        obtain ⟨b4, rfl, l4⟩ := word w4
        obtain ⟨b5, rfl, l5⟩ := word w5
        obtain ⟨b6, rfl, l6⟩ := word w6
        obtain ⟨b7, rfl, l7⟩ := word w7
        simp at e0 e1 e2 e3 e4 e5 e6 e7
        subst e0 e1 e2 e3 e4 e5 e6 e7
        refine ⟨a0, b1, p, n1, k, a3, b4, b5, b6, b7, f, rfl, by omega, ⟨l4, l5⟩, ⟨l6, l7⟩, q1, q2, q3, ?_⟩
        rw [hx.1]
        have hb := bulks.part_le (d := y1.1) (l := [y0, y1, y2, y3, y4, y5, y6].map (·.1)) (by simp)
        simp only [Rows.uptoBulk]
        omega
end
end Go.Proofs.Ytimiojckinpfdaa.raw

/- Slices of structs of two cells of any kind; the walks of labels, named and of both Clones. -/
namespace Go.Proofs.Ytimiojckinpfdaa
open Go.RowKit Srt

theorem info66 : (Try.prog.info? 66).map (fun i => (i.zero, i.size, i.bytes)) = some (some (.agg #[.string ByteArray.empty, .string ByteArray.empty]), 2, 32) := by kernel_rfl
theorem info62 : (Try.prog.info? 62).map (fun i => (i.zero, i.size, i.bytes)) = some (some (.slice none 0 0), 1, 24) := by kernel_rfl
theorem size66 : (Try.prog.info? 66).map (·.size) = some 2 := by kernel_rfl
/-- the cells of n structs -/
def ll (x y : Nat → Value) (n : Nat) : List Value := (List.range (n * 2)).map fun j => if j % 2 = 0 then x (j / 2) else y (j / 2)
theorem ll_len (x y : Nat → Value) (n : Nat) : (ll x y n).length = n * 2 := by simp [ll]
theorem ll_at (x y : Nat → Value) (n j : Nat) (h : j < n * 2) : (ll x y n)[j]? = some (if j % 2 = 0 then x (j / 2) else y (j / 2)) := by simp [ll, h]
theorem ll_src {w : World} {p : Option Addr} {n : Nat} {x y : Nat → Value} (h : Two w p n x y) (ad : Addr) (j : Nat) (v : Value) (hp : p = some ad) (hv : (ll x y n)[j]? = some v) : w.cell? (ad.add j) = some v := by
  have hj : j < n * 2 := by rw [← ll_len x y n]; exact (List.getElem?_eq_some_iff.1 hv).1
  rw [ll_at _ _ _ _ hj] at hv
  obtain ⟨b, o, e, h1, h2, h3⟩ := h (j / 2) (by omega)
  rw [hp] at e; injection e with e; subst e
  injection hv with hv
  have ha : (⟨b, o, none⟩ : Addr).add j = ⟨b, o + j, none⟩ := by simp [Addr.add]
  rw [ha, ← hv]
  by_cases hp : j % 2 = 0
  · rw [if_pos hp, ← h2]; congr 2; omega
  · rw [if_neg hp, ← h3]; congr 2; omega
theorem ll_one {x y : Nat → Value} {n : Nat} (h : ∀ i, i < n → (x i).oneCell' = true ∧ (y i).oneCell' = true) : ∀ v ∈ ll x y n, v.oneCell' = true := by
  intro v hv
  unfold ll at hv
  obtain ⟨j, hj, rfl⟩ := List.mem_map.1 hv
  have : j / 2 < n := by simp at hj; omega
  split
  · exact (h _ this).1
  · exact (h _ this).2
theorem ll_congr {x y x' y' : Nat → Value} {n : Nat} (h : ∀ i, i < n → x i = x' i ∧ y i = y' i) : ll x y n = ll x' y' n := by
  unfold ll
  apply List.map_congr_left
  intro j hj
  have : j / 2 < n := by simp at hj; omega
  rw [(h _ this).1, (h _ this).2]
theorem ll_snoc (x y : Nat → Value) (n : Nat) : ll x y (n + 1) = ll x y n ++ [x n, y n] := by
  unfold ll
  rw [show (n + 1) * 2 = n * 2 + 1 + 1 by omega, List.range_succ, List.range_succ]
  simp only [List.map_append, List.map_cons, List.map_nil, List.append_assoc, List.cons_append, List.nil_append]
  have e1 : n * 2 / 2 = n := by omega
  have e2 : (n * 2 + 1) / 2 = n := by omega
  rw [if_pos (by omega), if_neg (by omega), e1, e2]
/-- a row of n structs in a block of room for cap -/
def Row2 (t : TypeId) (w : World) (g n cap : Nat) (x y : Nat → Value) : Prop := ∃ X : Array Value, w.heap[g]? = some (.cells X t (0, 0)) ∧ X.size = cap * 2 ∧ n ≤ cap ∧ cap ≤ maxLen ∧ ∀ i, i < n → X[i * 2]? = some (x i) ∧ X[i * 2 + 1]? = some (y i)
section
variable {t : TypeId} {w w' : World} {g n cap : Nat} {x y : Nat → Value}
structure Row2At (w : World) (g i : Nat) (a b : Value) : Prop where
  c0 : w.cell? ⟨g, i * 2, none⟩ = some a
  c1 : w.cell? ⟨g, i * 2 + 1, none⟩ = some b
  f0 : w.frozen? ⟨g, i * 2, none⟩ = false
  f1 : w.frozen? ⟨g, i * 2 + 1, none⟩ = false
theorem Row2.get (h : Row2 t w g n cap x y) {i : Nat} (hi : i < n) : Row2At w g i (x i) (y i) := by
  obtain ⟨X, h1, h2, h3, h4, h5⟩ := h
  obtain ⟨q1, q2⟩ := h5 i hi
  exact ⟨by rw [blk_cell h1, q1], by rw [blk_cell h1, q2], blk_free h1 _, blk_free h1 _⟩
theorem Row2.two (h : Row2 t w g n cap x y) {m : Nat} (hm : m ≤ n) : Two w (some ⟨g, 0, none⟩) m x y := by
  obtain ⟨X, h1, h2, h3, h4, h5⟩ := h
  intro i hi
  obtain ⟨q1, q2⟩ := h5 i (by omega)
  exact ⟨g, 0, rfl, blk_lt h1, by rw [blk_cell h1, Nat.zero_add, q1], by rw [blk_cell h1, Nat.zero_add, q2]⟩
theorem Row2.only {S : Nat → Prop} (h : Row2 t w g n cap x y) (O : Only S w w') (hs : ¬ S g) : Row2 t w' g n cap x y := by
  obtain ⟨X, h1, h2⟩ := h
  exact ⟨X, O.blk h1 hs, h2⟩
theorem Row2.congr {x' y' : Nat → Value} (h : Row2 t w g n cap x y) (e : ∀ i, i < n → x i = x' i ∧ y i = y' i) : Row2 t w g n cap x' y' := by
  obtain ⟨X, h1, h2, h3, h4, h5⟩ := h
  refine ⟨X, h1, h2, h3, h4, fun i hi => ?_⟩
  obtain ⟨q1, q2⟩ := h5 i hi
  rw [← (e i hi).1, ← (e i hi).2]; exact ⟨q1, q2⟩
theorem Row2.own {base : Nat} (h : Row2 t w g n cap x y) (hb : base ≤ g) : w.ownsRow base t 2 (hv g n cap) n (ll x y n) := by
  obtain ⟨X, h1, h2, h3, h4, h5⟩ := h
  refine ⟨ll_len _ _ _, .inr ⟨g, cap, X, rfl, hb, h1, h3, h4, h2, ?_⟩⟩
  apply List.ext_getElem?
  intro j
  rw [List.getElem?_take]
  by_cases hj : j < n * 2
  · rw [if_pos hj, ll_at _ _ _ _ hj, Array.getElem?_toList]
    obtain ⟨q1, q2⟩ := h5 (j / 2) (by omega)
    by_cases hp : j % 2 = 0
    · rw [if_pos hp, ← q1]; congr 1; omega
    · rw [if_neg hp, ← q2]; congr 1; omega
  · rw [if_neg hj, List.getElem?_eq_none (by rw [ll_len]; omega)]
theorem own_row2 {base : Nat} {v : Value} (h : w.ownsRow base t 2 v n (ll x y n)) : (v = .slice none 0 0 ∧ n = 0) ∨ ∃ g cap, v = hv g n cap ∧ base ≤ g ∧ Row2 t w g n cap x y := by
  rcases h.2 with h | ⟨g, cap, X, rfl, hb, h1, h3, h4, h2, h5⟩
  · exact .inl h
  · refine .inr ⟨g, cap, rfl, hb, X, h1, h2, h3, h4, fun i hi => ?_⟩
    have key : ∀ j, j < n * 2 → X[j]? = (ll x y n)[j]? := fun j hj => by
      rw [← h5, List.getElem?_take, if_pos hj, Array.getElem?_toList]
    rw [key _ (by omega), key _ (by omega), ll_at _ _ _ _ (by omega), ll_at _ _ _ _ (by omega), if_pos (by omega), if_neg (by omega)]
    rw [show i * 2 / 2 = i by omega, show (i * 2 + 1) / 2 = i by omega]
    exact ⟨rfl, rfl⟩
theorem Row2.put (h : Row2 t w g n cap x y) (i : Nat) (a b : Value) : Row2 t ((w.setCell ⟨g, i * 2, none⟩ a).setCell ⟨g, i * 2 + 1, none⟩ b) g n cap (fun k => if k = i then a else x k) (fun k => if k = i then b else y k) := by
  obtain ⟨X, h1, h2, h3, h4, h5⟩ := h
  refine ⟨_, blk_set (blk_set h1 _ _) _ _, by simpa using h2, h3, h4, fun k hk => ?_⟩
  obtain ⟨q1, q2⟩ := h5 k hk
  by_cases e : k = i
  · subst e
    dsimp only
    rw [if_pos rfl, if_pos rfl]
    constructor
    · rw [Array.getElem?_setIfInBounds_ne (by omega), Array.getElem?_setIfInBounds_self_of_lt (by omega)]
    · rw [Array.getElem?_setIfInBounds_self_of_lt (by simp; omega)]
  · dsimp only
    rw [if_neg e, if_neg e]
    constructor
    · rw [Array.getElem?_setIfInBounds_ne (by omega), Array.getElem?_setIfInBounds_ne (by omega), q1]
    · rw [Array.getElem?_setIfInBounds_ne (by omega), Array.getElem?_setIfInBounds_ne (by omega), q2]
theorem Row2.put2 (h : Row2 t w g n cap x y) (i : Nat) (b : Value) : Row2 t (w.setCell ⟨g, i * 2 + 1, none⟩ b) g n cap x (fun k => if k = i then b else y k) := by
  obtain ⟨X, h1, h2, h3, h4, h5⟩ := h
  refine ⟨_, blk_set h1 _ _, by simpa using h2, h3, h4, fun k hk => ?_⟩
  obtain ⟨q1, q2⟩ := h5 k hk
  by_cases e : k = i
  · subst e
    dsimp only
    rw [if_pos rfl]
    constructor
    · rw [Array.getElem?_setIfInBounds_ne (by omega), q1]
    · rw [Array.getElem?_setIfInBounds_self_of_lt (by omega)]
  · dsimp only
    rw [if_neg e]
    constructor
    · rw [Array.getElem?_setIfInBounds_ne (by omega), q1]
    · rw [Array.getElem?_setIfInBounds_ne (by omega), q2]
end
def ms (b : ByteArray) : Nat → Value := fun _ => .string b
def me : Nat → Value := fun _ => .string ByteArray.empty

set_option maxRecDepth 100000 in
set_option maxHeartbeats 1000000 in
theorem named_calls (w : World) (p : Option Addr) (n c : Nat) (s : ByteArray) (hn : n ≤ 9223372036854775807) (h : Two w p n (ms s) me) :
    Calls Try.prog 26 #[.slice p n c, .string s] w fun e w' => e = .returned (.bool true) ∧ w' = w := by
  have H := Lib.hid h; clear h
  go_enter Try.func26, Try.ntmps26
  go_wp2_with fail
  go_loop [5] (fun i => ∃ k : Nat, k ≤ n ∧ i = .int .i64 k) (fun i => n - (intOf i).toNat)
  case atStart => exact ⟨0, Nat.zero_le _, rfl⟩
  case round =>
    obtain ⟨k, hk, rfl⟩ := hrel
    by_cases hlt : k < n
    · obtain ⟨b, o, rfl, _, d0, d1⟩ := H.out k hlt
      unfold ms at d0
      unfold me at d1
      go_wp2_with fail
      go_round
      case rel => exact ⟨k + 1, by omega, by go_num⟩
      case measure => simp [intOf]; omega
    · obtain rfl : n = k := by omega
      go_wp2_with fail
      go_ret
      exact ⟨rfl, rfl⟩

/-- behind i rounds of writing names -/
structure WrL (w : World) (v : Value) (m : Nat) (s : ByteArray) (x y : Nat → Value) (i : Nat) (wr : World) : Prop where
  le : i ≤ m
  only : Only (fun k => v.ownBlock = some k) w wr
  own : wr.ownsRow 0 66 2 v m (ll (fun k => if k < i then .string s else x k) (fun k => if k < i then .string ByteArray.empty else y k) m)
theorem WrL.next {w wr : World} {g m cap i : Nat} {s : ByteArray} {x y : Nat → Value} (h : WrL w (hv g m cap) m s x y i wr) (hi : i < m) :
    WrL w (hv g m cap) m s x y (i + 1) ((wr.setCell ⟨g, i * 2, none⟩ (.string s)).setCell ⟨g, i * 2 + 1, none⟩ (.string ByteArray.empty)) := by
  rcases own_row2 h.own with ⟨_, e⟩ | ⟨g', cap', e, _, R⟩
  · omega
  · simp [hv] at e
    obtain ⟨rfl, rfl⟩ := e
    have := (R.put i (.string s) (.string ByteArray.empty)).congr (x' := fun k => if k < i + 1 then .string s else x k) (y' := fun k => if k < i + 1 then .string ByteArray.empty else y k) (fun k hk => by
      by_cases e : k = i
      · rw [if_pos e, if_pos e, if_pos (by omega), if_pos (by omega)]; exact ⟨rfl, rfl⟩
      · rw [if_neg e, if_neg e]
        by_cases e' : k < i
        · rw [if_pos e', if_pos e', if_pos (show k < i + 1 by omega), if_pos (show k < i + 1 by omega)]; exact ⟨rfl, rfl⟩
        · rw [if_neg e', if_neg e', if_neg (show ¬ k < i + 1 by omega), if_neg (show ¬ k < i + 1 by omega)]; exact ⟨rfl, rfl⟩)
    exact ⟨hi, (h.only.setCell (p := ⟨g, i * 2, none⟩) (.inr rfl) _).setCell (p := ⟨g, i * 2 + 1, none⟩) (.inr rfl) _, this.own (Nat.zero_le _)⟩
/-- behind t rounds of append -/
structure ApL (w : World) (v : Value) (m : Nat) (s : ByteArray) (t : Nat) (gv : Value) (wr : World) : Prop where
  le : t ≤ 20
  only : Only (fun k => v.ownBlock = some k) w wr
  own : wr.ownsRow 0 66 2 gv (m + t) (ll (ms s) me (m + t))
  which : gv.ownBlock = v.ownBlock ∨ ∃ g, gv.ownBlock = some g ∧ w.heap.size ≤ g
  old : ∃ p c, v = .slice p m c ∧ Two wr p m (ms s) me ∧ (p = none → m = 0) ∧ ∀ a, p = some a → ∃ g, a = ⟨g, 0, none⟩
theorem ApL.next {w wr wa w' : World} {v gv v' : Value} {m t : Nat} {s : ByteArray} (h : ApL w v m s t gv wr) (ht : t < 20) (O : Only (fun _ => False) wr wa) (hg : Grew wa w' gv v' ((m + t) * 2)) (ho : w'.ownsRow 0 66 2 v' (m + t + 1) (ll (ms s) me (m + t) ++ [.string s, .string ByteArray.empty])) :
    ApL w v m s (t + 1) v' w' := by
  have Oa : Only (fun k => v.ownBlock = some k) w wa := h.only.trans (O.mono (fun _ _ q => q.elim))
  have hw : ∀ k, gv.ownBlock = some k → w.heap.size ≤ k ∨ v.ownBlock = some k := fun k hk => by
    rcases h.which with e | ⟨g, e, hge⟩
    · exact .inr (by rw [← e]; exact hk)
    · rw [e] at hk; injection hk with hk; subst hk; exact .inl hge
  obtain ⟨p, c, e, q, q0, qh⟩ := h.old
  refine ⟨by omega, Oa.grown hg.grown hw, ?_, ?_, p, c, e, ?_, q0, qh⟩
  · rw [← Nat.add_assoc, ll_snoc]; exact ho
  · rcases hg.which with e' | ⟨g, e', hge⟩
    · rw [e']; exact h.which
    · exact .inr ⟨g, e', Nat.le_trans Oa.size hge⟩
  · intro i hi
    obtain ⟨b, o, eb, h1, h2, h3⟩ := (q.only O (fun _ _ => id)) i hi
    have hb1 : b < w'.heap.size := Nat.lt_of_lt_of_le h1 hg.grown.size
    obtain ⟨g, eg⟩ := qh _ eb
    injection eg with eg1 eg2; subst eg2; subst eg1
    by_cases hbl : gv.ownBlock = some b
    · exact ⟨b, 0, eb, hb1, by rw [hg.cells b _ hbl (by omega), h2], by rw [hg.cells b _ hbl (by omega), h3]⟩
    · have := hg.grown.block b h1 (fun e => hbl e.symm)
      exact ⟨b, 0, eb, hb1, by rw [World.cell?_of_block (w := wa) this, h2], by rw [World.cell?_of_block (w := wa) this, h3]⟩
theorem WrL.done {w wr : World} {v : Value} {m : Nat} {s : ByteArray} {x y : Nat → Value} (h : WrL w v m s x y m wr) : ApL w v m s 0 v wr := by
  have ho : wr.ownsRow 0 66 2 v m (ll (ms s) me m) := by
    have := h.own
    have e : ll (fun k => if k < m then Value.string s else x k) (fun k => if k < m then Value.string ByteArray.empty else y k) m = ll (ms s) me m := ll_congr (fun i hi => ⟨if_pos hi, if_pos hi⟩)
    rwa [e] at this
  refine ⟨Nat.zero_le _, h.only, ho, .inl rfl, ?_⟩
  rcases own_row2 ho with ⟨rfl, e⟩ | ⟨g, cap, rfl, _, R⟩
  · exact ⟨none, 0, by rw [e], by intro i hi; omega, fun _ => e, by intro a ha; cases ha⟩
  · exact ⟨_, cap, rfl, R.two (Nat.le_refl _), (fun q => by cases q), fun a ha => by injection ha with ha; exact ⟨g, ha.symm⟩⟩
theorem box2_src (w : World) (x y : Value) (t : TypeId) : ∀ (ad : Addr) j u, some (⟨w.heap.size, 0, none⟩ : Addr) = some ad → [x, y][j]? = some u → (w.alloc (.cells #[x, y] t)).cell? (ad.add j) = some u := by
  intro ad j u h hu
  injection h with h; subst h
  have hb := blk_new w (.cells #[x, y] t)
  have ha : (⟨w.heap.size, 0, none⟩ : Addr).add j = ⟨w.heap.size, j, none⟩ := by unfold Addr.add; split <;> simp_all
  rw [ha, blk_cell hb]; simpa using hu
def LabRes (w : World) (p : Option Addr) (m c : Nat) (s : ByteArray) (e : Ending) (w' : World) : Prop :=
  ∃ p' c', e = .returned (.slice p' (m + 20) c') ∧ ApL w (.slice p m c) m s 20 (.slice p' (m + 20) c') w'
set_option maxRecDepth 100000 in
set_option maxHeartbeats 2000000 in
theorem labels_calls (w : World) (p : Option Addr) (m c : Nat) (s : ByteArray) (x y : Nat → Value) (hm : m ≤ 4398046511104 - 20) (hv : w.ownsRow 0 66 2 (.slice p m c) m (ll x y m)) :
    Calls Try.prog 25 #[.slice p m c, .string s] w (LabRes w p m c s) := by
  obtain ⟨i3, hi3, hz3, hs3, hb3⟩ := info_parts info66
  have HV := Lib.hid hv
  clear hv
  go_enter Try.func25, Try.ntmps25
  go_wp2_with fail
  go_loopw [5] (fun i wr => ∃ k : Nat, i = .int .i64 k ∧ WrL w (.slice p m c) m s x y k wr) (fun i _ => m - (intOf i).toNat)
  case atStart => exact ⟨0, rfl, Nat.zero_le _, Only.refl _ _, by rw [ll_congr (x' := x) (y' := y) (fun i _ => ⟨if_neg (by omega), if_neg (by omega)⟩)]; exact HV.out⟩
  case round =>
    obtain ⟨k, rfl, R⟩ := hrel
    have hk := R.le
    have HR := Lib.hid R
    clear R
    by_cases hlt : k < m
    · rcases own_row2 HR.out.own with ⟨_, e⟩ | ⟨g, cap, e, _, RC⟩
      · omega
      · simp [Ytimiojckinpfdaa.hv] at e
        obtain ⟨rfl, rfl⟩ := e
        obtain ⟨x0, x1, x2, x3⟩ := RC.get hlt
        have HN1 := Lib.hid (HR.out.next hlt)
        clear RC
        rw [if_neg (Nat.lt_irrefl k)] at x0 x1
        go_wp2_with fail
        exact ⟨⟨k + 1, by go_num, HN1.out⟩, by simp [intOf]; omega⟩
    · obtain rfl : m = k := by omega
      have A0 := Lib.hid HR.out.done
      go_wp2_with fail
      go_loopw [6, 7] (fun v i wx => ∃ t : Nat, i = .int .i64 t ∧ ApL w (.slice p m c) m s t v wx) (fun _ i _ => 20 - (intOf i).toNat)
      case atStart => exact ⟨0, rfl, A0.out⟩
      case round =>
        obtain ⟨t, rfl, R⟩ := hrel
        have ht := R.le
        have HT := Lib.hid R
        clear R
        by_cases hlt : t < 20
        · go_wp2_with (at_builtin; go_loud (refine wpList_append_kept _ rfl (.tmp 24) (.tmp 27) 62 rfl 66 i3 (.agg #[.string ByteArray.empty, .string ByteArray.empty]) 2 32 Try.underlying62 hi3 hz3 hs3 hb3 rfl (by decide) 0 (m + t) _ (ll (ms s) me (m + t)) (by simp [Act.eval]) (own_keep HT.out.own ((Only.refl _ _).alloc _)) (Nat.zero_le _) ⟨wr.heap.size, 0, none⟩ 1 1 [.string s, .string ByteArray.empty] (by simp [Act.eval]) rfl (fun j u hj => box2_src wr _ _ _ _ j u rfl hj) (by simp [Value.oneCell']) (by decide) (by unfold maxLen; omega) (by omega) ?_; intro v' w' hgr hown; have N := Lib.hid (HT.out.next hlt ((Only.refl _ _).alloc _) hgr hown); clear hgr hown))
          exact ⟨⟨t + 1, by go_num, N.out⟩, by simp [intOf]; omega⟩
        · obtain rfl : t = 20 := by omega
          obtain ⟨p6, c6, rfl⟩ := row_shape HT.out.own
          go_wp2_with fail
          go_ret
          exact ⟨p6, c6, rfl, HT.out⟩
theorem run_non62 (a : Addr) (l c : Nat) (w : World) : Sem.run Try.prog (binOp .eql 62 (.slice (some a) l c) (.slice none 0 0)) w = .ok (.bool false) w := by kernel_rfl
theorem run_nil62 (w : World) : Sem.run Try.prog (binOp .eql 62 (.slice none 0 0) (.slice none 0 0)) w = .ok (.bool true) w := by kernel_rfl
theorem run_non36 (a : Addr) (l c : Nat) (w : World) : Sem.run Try.prog (binOp .eql 36 (.slice (some a) l c) (.slice none 0 0)) w = .ok (.bool false) w := by kernel_rfl
theorem run_nil36 (w : World) : Sem.run Try.prog (binOp .eql 36 (.slice none 0 0) (.slice none 0 0)) w = .ok (.bool true) w := by kernel_rfl
/-- a copy in memory of its own -/
def ClRes (t : TypeId) (w : World) (n : Nat) (x y : Nat → Value) (e : Ending) (w' : World) : Prop :=
  ∃ p c, e = .returned (.slice p n c) ∧ w'.ownsRow w.heap.size t 2 (.slice p n c) n (ll x y n) ∧ Only (fun _ => False) w w'
theorem own_empty (w : World) (t : TypeId) : (w.alloc (.cells #[] t)).ownsRow w.heap.size t 2 (.slice (some ⟨w.heap.size, 0, none⟩) 0 0) 0 [] :=
  ⟨rfl, .inr ⟨w.heap.size, 0, #[], rfl, Nat.le_refl _, blk_new _ _, Nat.le_refl _, Nat.zero_le _, rfl, rfl⟩⟩
set_option maxRecDepth 100000 in
set_option maxHeartbeats 1000000 in
theorem clone54 (w : World) (p : Option Addr) (n c : Nat) (x y : Nat → Value) (hn : n ≤ 4398046511104) (h : Two w p n x y) (h1 : ∀ i, i < n → (x i).oneCell' = true ∧ (y i).oneCell' = true) (hnil : p = none → n = 0 ∧ c = 0) :
    Calls Try.prog 54 #[.slice p n c] w (ClRes 66 w n x y) := by
  obtain ⟨i3, hi3, hz3, hs3, hb3⟩ := info_parts info66
  have H := Lib.hid h; have HO := Lib.hid (ll_one h1)
  clear h h1
  cases p with
  | none =>
    obtain ⟨rfl, rfl⟩ := hnil rfl
    have kn := run_nil62
    go_enter Try.func54, Try.ntmps54
    go_wp2_with fail
    go_ret
    exact ⟨none, 0, rfl, ⟨rfl, .inl ⟨rfl, rfl⟩⟩, Only.refl _ _⟩
  | some ad =>
    clear hnil
    have kn := run_non62
    go_enter Try.func54, Try.ntmps54
    go_wp2_with (at_builtin; go_loud (refine wpList_append_any _ rfl (.tmp 5) (.tmp 6) 62 rfl 66 i3 (.agg #[.string ByteArray.empty, .string ByteArray.empty]) 2 32 Try.underlying62 hi3 hz3 hs3 hb3 rfl (by decide) w.heap.size 0 _ [] (by simp [Act.eval]) (own_empty w 66) (by simp) (some ad) n c (ll x y n) (by simp [Act.eval]) (fun e => by cases e) (ll_len _ _ _) (fun a j u hp hj => ll_src (H.out.only ((Only.refl (fun _ => False) w).alloc _) (fun _ _ => id)) a j u hp hj) HO.out (by unfold maxLen; omega) (by omega) ?_; intro v' w' hgr hown; have N := Lib.hid (show w'.ownsRow w.heap.size 66 2 v' n (ll x y n) by simpa using hown); have O := Lib.hid (((Only.refl (fun _ => False) w).alloc (.cells #[] 66)).grown hgr.grown (fun k hk => .inl (by have e : w.heap.size = k := (by simpa [Value.ownBlock] using hk); omega))); clear hgr hown))
    obtain ⟨q, k, rfl⟩ := row_shape N.out
    go_ret
    exact ⟨q, k, rfl, N.out, O.out⟩
set_option maxRecDepth 100000 in
set_option maxHeartbeats 1000000 in
theorem clone55 (w : World) (p : Option Addr) (n c : Nat) (x y : Nat → Value) (hn : n ≤ 4398046511104) (h : Two w p n x y) (h1 : ∀ i, i < n → (x i).oneCell' = true ∧ (y i).oneCell' = true) (hnil : p = none → n = 0 ∧ c = 0) :
    Calls Try.prog 55 #[.slice p n c] w (ClRes 55 w n x y) := by
  obtain ⟨i3, hi3, hz3, hs3, hb3⟩ := info_parts info55
  have H := Lib.hid h; have HO := Lib.hid (ll_one h1)
  clear h h1
  cases p with
  | none =>
    obtain ⟨rfl, rfl⟩ := hnil rfl
    have kn := run_nil36
    go_enter Try.func55, Try.ntmps55
    go_wp2_with fail
    go_ret
    exact ⟨none, 0, rfl, ⟨rfl, .inl ⟨rfl, rfl⟩⟩, Only.refl _ _⟩
  | some ad =>
    clear hnil
    have kn := run_non36
    go_enter Try.func55, Try.ntmps55
    go_wp2_with (at_builtin; go_loud (refine wpList_append_any _ rfl (.tmp 5) (.tmp 6) 36 rfl 55 i3 (.agg #[.int .i64 0, .int .u64 0]) 2 16 Try.underlying36 hi3 hz3 hs3 hb3 rfl (by decide) w.heap.size 0 _ [] (by simp [Act.eval]) (own_empty w 55) (by simp) (some ad) n c (ll x y n) (by simp [Act.eval]) (fun e => by cases e) (ll_len _ _ _) (fun a j u hp hj => ll_src (H.out.only ((Only.refl (fun _ => False) w).alloc _) (fun _ _ => id)) a j u hp hj) HO.out (by unfold maxLen; omega) (by omega) ?_; intro v' w' hgr hown; have N := Lib.hid (show w'.ownsRow w.heap.size 55 2 v' n (ll x y n) by simpa using hown); have O := Lib.hid (((Only.refl (fun _ => False) w).alloc (.cells #[] 55)).grown hgr.grown (fun k hk => .inl (by have e : w.heap.size = k := (by simpa [Value.ownBlock] using hk); omega))); clear hgr hown))
    obtain ⟨q, k, rfl⟩ := row_shape N.out
    go_ret
    exact ⟨q, k, rfl, N.out, O.out⟩
end Go.Proofs.Ytimiojckinpfdaa

/- Blocks of eleven cells: a value in memory. -/
namespace Go.Proofs.Ytimiojckinpfdaa
open Go.RowKit Srt

def put11 (w : World) (b : Nat) (v0 v1 v2 v3 v4 v5 v6 v7 v8 v9 v10 : Value) : World := (((((((((((w.setCell ⟨b, 0, none⟩ v0).setCell ⟨b, 1, none⟩ v1).setCell ⟨b, 2, none⟩ v2).setCell ⟨b, 3, none⟩ v3).setCell ⟨b, 4, none⟩ v4).setCell ⟨b, 5, none⟩ v5).setCell ⟨b, 6, none⟩ v6).setCell ⟨b, 7, none⟩ v7).setCell ⟨b, 8, none⟩ v8).setCell ⟨b, 9, none⟩ v9).setCell ⟨b, 10, none⟩ v10)
theorem put11_blk {w : World} {b : Nat} {c0 c1 c2 c3 c4 c5 c6 c7 c8 c9 c10 : Value} {t : TypeId} {f : Nat × Nat} (h : w.heap[b]? = some (.cells #[c0, c1, c2, c3, c4, c5, c6, c7, c8, c9, c10] t f)) (v0 v1 v2 v3 v4 v5 v6 v7 v8 v9 v10 : Value) :
    (put11 w b v0 v1 v2 v3 v4 v5 v6 v7 v8 v9 v10).heap[b]? = some (.cells #[v0, v1, v2, v3, v4, v5, v6, v7, v8, v9, v10] t f) := by
  have h0 : (w.setCell ⟨b, 0, none⟩ v0).heap[b]? = some (.cells #[v0, c1, c2, c3, c4, c5, c6, c7, c8, c9, c10] t f) := blk_set h 0 v0
  have h1 : ((w.setCell ⟨b, 0, none⟩ v0).setCell ⟨b, 1, none⟩ v1).heap[b]? = some (.cells #[v0, v1, c2, c3, c4, c5, c6, c7, c8, c9, c10] t f) := blk_set h0 1 v1
  have h2 : (((w.setCell ⟨b, 0, none⟩ v0).setCell ⟨b, 1, none⟩ v1).setCell ⟨b, 2, none⟩ v2).heap[b]? = some (.cells #[v0, v1, v2, c3, c4, c5, c6, c7, c8, c9, c10] t f) := blk_set h1 2 v2
  have h3 : ((((w.setCell ⟨b, 0, none⟩ v0).setCell ⟨b, 1, none⟩ v1).setCell ⟨b, 2, none⟩ v2).setCell ⟨b, 3, none⟩ v3).heap[b]? = some (.cells #[v0, v1, v2, v3, c4, c5, c6, c7, c8, c9, c10] t f) := blk_set h2 3 v3
  have h4 : (((((w.setCell ⟨b, 0, none⟩ v0).setCell ⟨b, 1, none⟩ v1).setCell ⟨b, 2, none⟩ v2).setCell ⟨b, 3, none⟩ v3).setCell ⟨b, 4, none⟩ v4).heap[b]? = some (.cells #[v0, v1, v2, v3, v4, c5, c6, c7, c8, c9, c10] t f) := blk_set h3 4 v4
  have h5 : ((((((w.setCell ⟨b, 0, none⟩ v0).setCell ⟨b, 1, none⟩ v1).setCell ⟨b, 2, none⟩ v2).setCell ⟨b, 3, none⟩ v3).setCell ⟨b, 4, none⟩ v4).setCell ⟨b, 5, none⟩ v5).heap[b]? = some (.cells #[v0, v1, v2, v3, v4, v5, c6, c7, c8, c9, c10] t f) := blk_set h4 5 v5
  have h6 : (((((((w.setCell ⟨b, 0, none⟩ v0).setCell ⟨b, 1, none⟩ v1).setCell ⟨b, 2, none⟩ v2).setCell ⟨b, 3, none⟩ v3).setCell ⟨b, 4, none⟩ v4).setCell ⟨b, 5, none⟩ v5).setCell ⟨b, 6, none⟩ v6).heap[b]? = some (.cells #[v0, v1, v2, v3, v4, v5, v6, c7, c8, c9, c10] t f) := blk_set h5 6 v6
  have h7 : ((((((((w.setCell ⟨b, 0, none⟩ v0).setCell ⟨b, 1, none⟩ v1).setCell ⟨b, 2, none⟩ v2).setCell ⟨b, 3, none⟩ v3).setCell ⟨b, 4, none⟩ v4).setCell ⟨b, 5, none⟩ v5).setCell ⟨b, 6, none⟩ v6).setCell ⟨b, 7, none⟩ v7).heap[b]? = some (.cells #[v0, v1, v2, v3, v4, v5, v6, v7, c8, c9, c10] t f) := blk_set h6 7 v7
  have h8 : (((((((((w.setCell ⟨b, 0, none⟩ v0).setCell ⟨b, 1, none⟩ v1).setCell ⟨b, 2, none⟩ v2).setCell ⟨b, 3, none⟩ v3).setCell ⟨b, 4, none⟩ v4).setCell ⟨b, 5, none⟩ v5).setCell ⟨b, 6, none⟩ v6).setCell ⟨b, 7, none⟩ v7).setCell ⟨b, 8, none⟩ v8).heap[b]? = some (.cells #[v0, v1, v2, v3, v4, v5, v6, v7, v8, c9, c10] t f) := blk_set h7 8 v8
  have h9 : ((((((((((w.setCell ⟨b, 0, none⟩ v0).setCell ⟨b, 1, none⟩ v1).setCell ⟨b, 2, none⟩ v2).setCell ⟨b, 3, none⟩ v3).setCell ⟨b, 4, none⟩ v4).setCell ⟨b, 5, none⟩ v5).setCell ⟨b, 6, none⟩ v6).setCell ⟨b, 7, none⟩ v7).setCell ⟨b, 8, none⟩ v8).setCell ⟨b, 9, none⟩ v9).heap[b]? = some (.cells #[v0, v1, v2, v3, v4, v5, v6, v7, v8, v9, c10] t f) := blk_set h8 9 v9
  have h10 : (((((((((((w.setCell ⟨b, 0, none⟩ v0).setCell ⟨b, 1, none⟩ v1).setCell ⟨b, 2, none⟩ v2).setCell ⟨b, 3, none⟩ v3).setCell ⟨b, 4, none⟩ v4).setCell ⟨b, 5, none⟩ v5).setCell ⟨b, 6, none⟩ v6).setCell ⟨b, 7, none⟩ v7).setCell ⟨b, 8, none⟩ v8).setCell ⟨b, 9, none⟩ v9).setCell ⟨b, 10, none⟩ v10).heap[b]? = some (.cells #[v0, v1, v2, v3, v4, v5, v6, v7, v8, v9, v10] t f) := blk_set h9 10 v10
  exact h10
theorem Only.put11 {S : Nat → Prop} {a w : World} (h : Only S a w) {b : Nat} (hb : a.heap.size ≤ b ∨ S b) (v0 v1 v2 v3 v4 v5 v6 v7 v8 v9 v10 : Value) : Only S a (put11 w b v0 v1 v2 v3 v4 v5 v6 v7 v8 v9 v10) :=
  (((((((((((h.setCell (p := ⟨b, 0, none⟩) hb v0).setCell (p := ⟨b, 1, none⟩) hb v1).setCell (p := ⟨b, 2, none⟩) hb v2).setCell (p := ⟨b, 3, none⟩) hb v3).setCell (p := ⟨b, 4, none⟩) hb v4).setCell (p := ⟨b, 5, none⟩) hb v5).setCell (p := ⟨b, 6, none⟩) hb v6).setCell (p := ⟨b, 7, none⟩) hb v7).setCell (p := ⟨b, 8, none⟩) hb v8).setCell (p := ⟨b, 9, none⟩) hb v9).setCell (p := ⟨b, 10, none⟩) hb v10)
structure Eleven (w : World) (b : Nat) (v0 v1 v2 v3 v4 v5 v6 v7 v8 v9 v10 : Value) : Prop where
  d0 : w.cell? ⟨b, 0, none⟩ = some v0
  d1 : w.cell? ⟨b, 1, none⟩ = some v1
  d2 : w.cell? ⟨b, 2, none⟩ = some v2
  d3 : w.cell? ⟨b, 3, none⟩ = some v3
  d4 : w.cell? ⟨b, 4, none⟩ = some v4
  d5 : w.cell? ⟨b, 5, none⟩ = some v5
  d6 : w.cell? ⟨b, 6, none⟩ = some v6
  d7 : w.cell? ⟨b, 7, none⟩ = some v7
  d8 : w.cell? ⟨b, 8, none⟩ = some v8
  d9 : w.cell? ⟨b, 9, none⟩ = some v9
  d10 : w.cell? ⟨b, 10, none⟩ = some v10
  f0 : w.frozen? ⟨b, 0, none⟩ = false
  f1 : w.frozen? ⟨b, 1, none⟩ = false
  f2 : w.frozen? ⟨b, 2, none⟩ = false
  f3 : w.frozen? ⟨b, 3, none⟩ = false
  f4 : w.frozen? ⟨b, 4, none⟩ = false
  f5 : w.frozen? ⟨b, 5, none⟩ = false
  f6 : w.frozen? ⟨b, 6, none⟩ = false
  f7 : w.frozen? ⟨b, 7, none⟩ = false
  f8 : w.frozen? ⟨b, 8, none⟩ = false
  f9 : w.frozen? ⟨b, 9, none⟩ = false
  f10 : w.frozen? ⟨b, 10, none⟩ = false
theorem eleven {w : World} {b : Nat} {v0 v1 v2 v3 v4 v5 v6 v7 v8 v9 v10 : Value} {t : TypeId} (h : w.heap[b]? = some (.cells #[v0, v1, v2, v3, v4, v5, v6, v7, v8, v9, v10] t (0, 0))) : Eleven w b v0 v1 v2 v3 v4 v5 v6 v7 v8 v9 v10 :=
  ⟨blk_cell h 0, blk_cell h 1, blk_cell h 2, blk_cell h 3, blk_cell h 4, blk_cell h 5, blk_cell h 6, blk_cell h 7, blk_cell h 8, blk_cell h 9, blk_cell h 10, blk_free h 0, blk_free h 1, blk_free h 2, blk_free h 3, blk_free h 4, blk_free h 5, blk_free h 6, blk_free h 7, blk_free h 8, blk_free h 9, blk_free h 10⟩
structure Four (w : World) (b : Nat) (v0 v1 v2 v3 : Value) : Prop where
  d0 : w.cell? ⟨b, 0, none⟩ = some v0
  d1 : w.cell? ⟨b, 1, none⟩ = some v1
  d2 : w.cell? ⟨b, 2, none⟩ = some v2
  d3 : w.cell? ⟨b, 3, none⟩ = some v3
  f0 : w.frozen? ⟨b, 0, none⟩ = false
  f1 : w.frozen? ⟨b, 1, none⟩ = false
  f2 : w.frozen? ⟨b, 2, none⟩ = false
  f3 : w.frozen? ⟨b, 3, none⟩ = false
theorem four {w : World} {b : Nat} {v0 v1 v2 v3 : Value} {t : TypeId} (h : w.heap[b]? = some (.cells #[v0, v1, v2, v3] t (0, 0))) : Four w b v0 v1 v2 v3 :=
  ⟨blk_cell h 0, blk_cell h 1, blk_cell h 2, blk_cell h 3, blk_free h 0, blk_free h 1, blk_free h 2, blk_free h 3⟩
/-- a description -/
def descv (k : Int) (nm hp : ByteArray) (lp : Option Addr) (ln lc : Nat) : Value := .agg #[.int .i64 k, .string nm, .string hp, .slice lp ln lc]
/-- a value -/
def valv (k : Int) (nm hp : ByteArray) (lp : Option Addr) (ln lc : Nat) (hi lo : Int) (p : Option Addr) (n c : Nat) (N : Int) (S mn mx : Nat) : Value :=
  .agg #[.int .i64 k, .string nm, .string hp, .slice lp ln lc, .int .i64 hi, .int .u64 lo, .slice p n c, .int .u64 N, .float .f64 S, .float .f64 mn, .float .f64 mx]
/-- a value at b -/
def B68 (w : World) (b : Nat) (k : Int) (nm hp : ByteArray) (lp : Option Addr) (ln lc : Nat) (hi lo : Int) (p : Option Addr) (n c : Nat) (N : Int) (S mn mx : Nat) : Prop :=
  w.heap[b]? = some (.cells #[.int .i64 k, .string nm, .string hp, .slice lp ln lc, .int .i64 hi, .int .u64 lo, .slice p n c, .int .u64 N, .float .f64 S, .float .f64 mn, .float .f64 mx] 68 (0, 0))
def i12 (k x : Int) : Int := if k = 1 ∨ k = 2 then x else 0
def i23 (k x : Int) : Int := if k = 2 ∨ k = 3 then x else 0
def n2 (k : Int) (x : Nat) : Nat := if k = 2 then x else 0
def n3 (k : Int) (x : Nat) : Nat := if k = 3 then x else 0
theorem run_ld64 : (Try.prog.info? 68).map (·.size) = some 11 := by kernel_rfl
end Go.Proofs.Ytimiojckinpfdaa

/- The walk of the document's Value. -/
namespace Go.Proofs.Ytimiojckinpfdaa
open Go.RowKit Srt

/-- what the document's Value answers -/
def RVal (w : World) (k hi lo N : Int) (nm hp : ByteArray) (lp : Option Addr) (ln lc n : Nat) (c : Nat → Cn) (T mn mx : Nat) (e : Ending) (w' : World) : Prop :=
  ∃ p c' s, e = .returned (valv k nm hp lp ln lc (i12 k hi) (i12 k lo) p (n2 k n) c' (i23 k N) s (n3 k mn) (n3 k mx)) ∧ Pq.Sim s (n3 k T) ∧ s < 18446744073709551616 ∧
    w'.ownsRow w.heap.size 55 2 (.slice p (n2 k n) c') (n2 k n) (cl c (n2 k n)) ∧ Only (fun _ => False) w w'
theorem own_none (w : World) (b : Nat) (t : TypeId) (c : Nat → Cn) : w.ownsRow b t 2 (.slice none 0 0) 0 (cl c 0) := ⟨rfl, .inl ⟨rfl, rfl⟩⟩
set_option maxRecDepth 100000 in
set_option maxHeartbeats 4000000 in
theorem rval1 (hi lo N : Int) (nm hp : ByteArray) (lp : Option Addr) (ln lc : Nat) (p : Option Addr) (n cap S C mn mx : Nat) (c : Nat → Cn) (w : World) :
    Calls Try.prog 22 #[descv 1 nm hp lp ln lc, partr hi lo p n cap N S C mn mx] w (RVal w 1 hi lo N nm hp lp ln lc n c (Pq.Flt.radd S C) mn mx) := by
  have ks1 := run_stf
  unfold descv partr
  go_enter Try.func22, Try.ntmps22
  go_wp2_with fail
  refine bodyPost_ret (v := valv 1 nm hp lp ln lc hi lo none 0 0 0 0 0 0) (by simp [results, Try.results22, go_sem, valv]) rfl ⟨none, 0, 0, rfl, Pq.Sim.refl _, by decide, own_none _ _ _ _, ?_⟩
  exact ((((Only.refl _ w).alloc _).alloc _).alloc _).alloc _
set_option maxRecDepth 100000 in
set_option maxHeartbeats 4000000 in
theorem rval0 (k hi lo N : Int) (nm hp : ByteArray) (lp : Option Addr) (ln lc : Nat) (p : Option Addr) (n cap S C mn mx : Nat) (c : Nat → Cn) (w : World) (h1 : k ≠ 1) (h2 : k ≠ 2) (h3 : k ≠ 3) :
    Calls Try.prog 22 #[descv k nm hp lp ln lc, partr hi lo p n cap N S C mn mx] w (RVal w k hi lo N nm hp lp ln lc n c (Pq.Flt.radd S C) mn mx) := by
  have ks1 := run_stf
  have b1 : (k == 1) = false := beq_eq_false_iff_ne.2 h1
  have b2 : (k == 2) = false := beq_eq_false_iff_ne.2 h2
  have b3 : (k == 3) = false := beq_eq_false_iff_ne.2 h3
  unfold descv partr
  go_enter Try.func22, Try.ntmps22
  go_wp2_with fail
  refine bodyPost_ret (v := valv k nm hp lp ln lc 0 0 none 0 0 0 0 0 0) (by simp [results, Try.results22, go_sem, valv]) rfl ⟨none, 0, 0, ?_, ?_, by decide, ?_, ?_⟩
  · unfold i12 i23 n2 n3; rw [if_neg (by omega), if_neg (by omega), if_neg (by omega), if_neg (by omega), if_neg (by omega), if_neg (by omega)]
  · unfold n3; rw [if_neg h3]; exact Pq.Sim.refl _
  · unfold n2; rw [if_neg h2]; exact own_none _ _ _ _
  exact ((((Only.refl _ w).alloc _).alloc _).alloc _).alloc _
structure Blks4 (w : World) (o1 o2 o3 o4 : Obj) (w4 : World) : Prop where
  b1 : w4.heap[w.heap.size]? = some o1
  b2 : w4.heap[w.heap.size + 1]? = some o2
  b3 : w4.heap[w.heap.size + 1 + 1]? = some o3
  b4 : w4.heap[w.heap.size + 1 + 1 + 1]? = some o4
  only : Only (fun _ => False) w w4
  lt : w4.heap.size = w.heap.size + 1 + 1 + 1 + 1
theorem blks4 (w : World) (o1 o2 o3 o4 : Obj) : Blks4 w o1 o2 o3 o4 ((((w.alloc o1).alloc o2).alloc o3).alloc o4) := by
  have e1 : (w.alloc o1).heap.size = w.heap.size + 1 := by simp
  have e2 : ((w.alloc o1).alloc o2).heap.size = w.heap.size + 1 + 1 := by simp
  have e3 : (((w.alloc o1).alloc o2).alloc o3).heap.size = w.heap.size + 1 + 1 + 1 := by simp
  refine ⟨blk_alloc (blk_alloc (blk_alloc (blk_new _ _) _) _) _, ?_, ?_, ?_, ((((Only.refl _ w).alloc _).alloc _).alloc _).alloc _, by simp⟩
  · rw [← e1]; exact blk_alloc (blk_alloc (blk_new _ _) _) _
  · rw [← e2]; exact blk_alloc (blk_new _ _) _
  · rw [← e3]; exact blk_new _ _
set_option maxRecDepth 100000 in
set_option maxHeartbeats 4000000 in
theorem rval3 (hi lo N : Int) (nm hp : ByteArray) (lp : Option Addr) (ln lc : Nat) (p : Option Addr) (n cap S C mn mx : Nat) (c : Nat → Cn) (w : World) (ho : Pq.Ok2 (S, C)) :
    Calls Try.prog 22 #[descv 3 nm hp lp ln lc, partr hi lo p n cap N S C mn mx] w (RVal w 3 hi lo N nm hp lp ln lc n c (Pq.Flt.radd S C) mn mx) := by
  have ks1 := run_stf
  have kf := fun (x : Nat) (w : World) => Pq.run_frombits x w
  have ho' := Lib.hid ho
  clear ho
  unfold descv partr
  go_enter Try.func22, Try.ntmps22
  go_wp2_with fail
  refine (Pq.rtotal_any (S, C) _ ho'.out).mono ?_
  rintro e w1 ⟨rfl, O1⟩
  have T := Lib.hid (Pq.radd_lt S C)
  dsimp only
  generalize Pq.Flt.radd S C = t at *
  have b1 := O1.blk (blks4 w _ _ _ _).b1 id
  have b2 := O1.blk (blks4 w _ _ _ _).b2 id
  have b3 := O1.blk (blks4 w _ _ _ _).b3 id
  have b4 := O1.blk (blks4 w _ _ _ _).b4 id
  have OO := Lib.hid ((blks4 w _ _ _ _).only.trans O1)
  have hlt : w.heap.size ≤ w1.heap.size := OO.out.size
  clear O1
  obtain ⟨d0, d1, d2, d3, d4, d5, d6, d7, _, _, _, _, _, _, _, _⟩ := eight b2
  obtain ⟨y0, y1, y2, y3, y4, y5, y6, y7, y8, y9, y10, z0, z1, z2, z3, z4, z5, z6, z7, z8, z9, z10⟩ := eleven b3
  obtain ⟨u0, u1, u2, u3, u4, u5, u6, u7, u8, u9, u10, v0, v1, v2, v3, v4, v5, v6, v7, v8, v9, v10⟩ := eleven b4
  have B3 := Lib.hid b3; have B4 := Lib.hid b4
  clear b1 b2 b3 b4
  go_wp2_with fail
  have n1 : w.heap.size + 1 + 1 ≠ w.heap.size + 1 + 1 + 1 := by omega
  have n2' : w.heap.size ≤ w.heap.size + 1 + 1 + 1 := by omega
  have n3' : w.heap.size ≤ w.heap.size + 1 + 1 := by omega
  have hb := blk_set_ne (blk_set_ne (blk_set_ne B3.out ⟨w.heap.size + 1 + 1 + 1, 8, none⟩ (.float .f64 t) n1) ⟨w.heap.size + 1 + 1 + 1, 9, none⟩ (.float .f64 mn) n1) ⟨w.heap.size + 1 + 1 + 1, 10, none⟩ (.float .f64 mx) n1
  have ho := ((OO.out.setCell (p := ⟨w.heap.size + 1 + 1 + 1, 8, none⟩) (.inl n2') (.float .f64 t)).setCell (p := ⟨w.heap.size + 1 + 1 + 1, 9, none⟩) (.inl n2') (.float .f64 mn)).setCell (p := ⟨w.heap.size + 1 + 1 + 1, 10, none⟩) (.inl n2') (.float .f64 mx)
  clear y0 y1 y2 y3 y4 y5 y6 y7 y8 y9 y10 z0 z1 z2 z3 z4 z5 z6 z7 z8 z9 z10 u0 u1 u2 u3 u4 u5 u6 u7 u8 u9 u10 v0 v1 v2 v3 v4 v5 v6 v7 v8 v9 v10 d0 d1 d2 d3 d4 d5 d6 d7
  generalize ((w1.setCell ⟨w.heap.size + 1 + 1 + 1, 8, none⟩ (.float .f64 t)).setCell ⟨w.heap.size + 1 + 1 + 1, 9, none⟩ (.float .f64 mn)).setCell ⟨w.heap.size + 1 + 1 + 1, 10, none⟩ (.float .f64 mx) = w3 at *
  have e11 := eleven (put11_blk hb (.int .i64 3) (.string nm) (.string hp) (.slice lp ln lc) (.int .i64 0) (.int .u64 0) (.slice none 0 0) (.int .u64 N) (.float .f64 t) (.float .f64 mn) (.float .f64 mx))
  have o11 := ho.put11 (.inl n3') (.int .i64 3) (.string nm) (.string hp) (.slice lp ln lc) (.int .i64 0) (.int .u64 0) (.slice none 0 0) (.int .u64 N) (.float .f64 t) (.float .f64 mn) (.float .f64 mx)
  refine bodyPost_ret (w := put11 w3 (w.heap.size + 1 + 1) (.int .i64 3) (.string nm) (.string hp) (.slice lp ln lc) (.int .i64 0) (.int .u64 0) (.slice none 0 0) (.int .u64 N) (.float .f64 t) (.float .f64 mn) (.float .f64 mx)) (v := valv 3 nm hp lp ln lc 0 0 none 0 0 N t mn mx) ?_ rfl ⟨none, 0, t, rfl, Pq.Sim.refl _, T.out, own_none _ _ _ _, o11⟩
  clear o11
  generalize put11 w3 (w.heap.size + 1 + 1) (.int .i64 3) (.string nm) (.string hp) (.slice lp ln lc) (.int .i64 0) (.int .u64 0) (.slice none 0 0) (.int .u64 N) (.float .f64 t) (.float .f64 mn) (.float .f64 mx) = w4 at *
  obtain ⟨y0, y1, y2, y3, y4, y5, y6, y7, y8, y9, y10, z0, z1, z2, z3, z4, z5, z6, z7, z8, z9, z10⟩ := e11
  simp [results, Try.results22, go_sem, valv, y0, y1, y2, y3, y4, y5, y6, y7, y8, y9, y10]
/-- behind an append to a new row: the four blocks ahead stay -/
structure Grown4 (w : World) (o1 o2 o3 o4 : Obj) (v : Value) (n : Nat) (xs : List Value) (t : TypeId) (w' : World) : Prop where
  b1 : w'.heap[w.heap.size]? = some o1
  b2 : w'.heap[w.heap.size + 1]? = some o2
  b3 : w'.heap[w.heap.size + 1 + 1]? = some o3
  b4 : w'.heap[w.heap.size + 1 + 1 + 1]? = some o4
  only : Only (fun _ => False) w w'
  own : w'.ownsRow (w.heap.size + 1 + 1 + 1 + 1) t 2 v n xs
theorem own_empty4 (w : World) (o1 o2 o3 o4 : Obj) (t : TypeId) : (((((w.alloc o1).alloc o2).alloc o3).alloc o4).alloc (.cells #[] t)).ownsRow (w.heap.size + 1 + 1 + 1 + 1) t 2 (.slice (some ⟨w.heap.size + 1 + 1 + 1 + 1, 0, none⟩) 0 0) 0 [] := by
  have := own_empty ((((w.alloc o1).alloc o2).alloc o3).alloc o4) t
  rwa [(blks4 w o1 o2 o3 o4).lt] at this
theorem grown4 {w : World} {o1 o2 o3 o4 : Obj} {v v' : Value} {n k : Nat} {xs : List Value} {t : TypeId} {w' : World} (hv : v.ownBlock = some (w.heap.size + 1 + 1 + 1 + 1))
    (h : Grew (((((w.alloc o1).alloc o2).alloc o3).alloc o4).alloc (.cells #[] t)) w' v v' k) (ho : w'.ownsRow (w.heap.size + 1 + 1 + 1 + 1) t 2 v' n xs) : Grown4 w o1 o2 o3 o4 v' n xs t w' := by
  have B := blks4 w o1 o2 o3 o4
  have O : Only (· = w.heap.size + 1 + 1 + 1 + 1) _ w' := (Only.refl (· = w.heap.size + 1 + 1 + 1 + 1) _).grown h.grown (fun k hk => by rw [hv] at hk; injection hk with hk; exact .inr hk.symm)
  refine ⟨O.blk (blk_alloc B.b1 _) (by omega), O.blk (blk_alloc B.b2 _) (by omega), O.blk (blk_alloc B.b3 _) (by omega), O.blk (blk_alloc B.b4 _) (by omega), (B.only.alloc _).seq2 O (fun i hi => .inl (by omega)), ho⟩
theorem own_off {w w' : World} {base e size n : Nat} {v : Value} {xs : List Value} {S : Nat → Prop} (h : w.ownsRow base e size v n xs) (O : Only S w w') (hs : ∀ g, base ≤ g → ¬ S g) : w'.ownsRow base e size v n xs :=
  own_block h fun g hg => by obtain ⟨q0, cur, q⟩ := own_tag h hg; rw [O.blk q (hs g q0), q]
set_option maxRecDepth 100000 in
set_option maxHeartbeats 4000000 in
theorem rval2 (hi lo N : Int) (nm hp : ByteArray) (lp : Option Addr) (ln lc : Nat) (p : Option Addr) (n cap S C mn mx : Nat) (c : Nat → Cn) (w : World) (hn : n ≤ 4398046511104) (hc : Cnts w p n c) (hnil : p = none → n = 0) :
    Calls Try.prog 22 #[descv 2 nm hp lp ln lc, partr hi lo p n cap N S C mn mx] w (RVal w 2 hi lo N nm hp lp ln lc n c (Pq.Flt.radd S C) mn mx) := by
  obtain ⟨i3, hi3, hz3, hs3, hb3⟩ := info_parts info55
  have ks1 := run_stf
  have H := Lib.hid hc; have HN := Lib.hid hnil
  clear hc hnil
  unfold descv partr
  go_enter Try.func22, Try.ntmps22
  go_wp2_with (at_builtin; go_loud (refine wpList_append_any _ rfl (.tmp 20) (.tmp 22) 36 rfl 55 i3 (.agg #[.int .i64 0, .int .u64 0]) 2 16 Try.underlying36 hi3 hz3 hs3 hb3 rfl (by decide) (w.heap.size + 1 + 1 + 1 + 1) 0 _ [] (by simp [Act.eval]) (own_empty4 w _ _ _ _ 55) (by simp) p n cap (cl c n) (by simp [Act.eval]) HN.out (cl_len _ _) (fun a j u hp hj => cl_src (H.out.only (((blks4 w _ _ _ _).only.alloc _)) (fun _ _ => id)) a j u hp hj) (cl_one _ _) (by unfold maxLen; omega) (by omega) ?_; intro v' w1 hgr hown; have G := Lib.hid (grown4 (n := n) (xs := cl c n) rfl hgr (by simpa using hown)); clear hgr hown; obtain ⟨q, kk, rfl⟩ := row_shape G.out.own; obtain ⟨d0, d1, d2, d3, d4, d5, d6, d7, _, _, _, _, _, _, _, _⟩ := eight G.out.b2; obtain ⟨y0, y1, y2, y3, y4, y5, y6, y7, y8, y9, y10, z0, z1, z2, z3, z4, z5, z6, z7, z8, z9, z10⟩ := eleven G.out.b3; obtain ⟨u0, u1, u2, u3, u4, u5, u6, u7, u8, u9, u10, v0, v1, v2, v3, v4, v5, v6, v7, v8, v9, v10⟩ := eleven G.out.b4; have HL := G.out.only.size))
  have n1 : w.heap.size + 1 + 1 ≠ w.heap.size + 1 + 1 + 1 := by omega
  have n2' : w.heap.size ≤ w.heap.size + 1 + 1 + 1 := by omega
  have n3' : w.heap.size ≤ w.heap.size + 1 + 1 := by omega
  have hb := blk_set_ne (blk_set_ne G.out.b3 ⟨w.heap.size + 1 + 1 + 1, 6, none⟩ (.slice q n kk) n1) ⟨w.heap.size + 1 + 1 + 1, 7, none⟩ (.int .u64 N) n1
  have ho := (G.out.only.setCell (p := ⟨w.heap.size + 1 + 1 + 1, 6, none⟩) (.inl n2') (.slice q n kk)).setCell (p := ⟨w.heap.size + 1 + 1 + 1, 7, none⟩) (.inl n2') (.int .u64 N)
  have hs := ((Only.refl (fun k => k = w.heap.size + 1 + 1 ∨ k = w.heap.size + 1 + 1 + 1) w1).setCell (p := ⟨w.heap.size + 1 + 1 + 1, 6, none⟩) (.inr (.inr rfl)) (.slice q n kk)).setCell (p := ⟨w.heap.size + 1 + 1 + 1, 7, none⟩) (.inr (.inr rfl)) (.int .u64 N)
  clear y0 y1 y2 y3 y4 y5 y6 y7 y8 y9 y10 z0 z1 z2 z3 z4 z5 z6 z7 z8 z9 z10 u0 u1 u2 u3 u4 u5 u6 u7 u8 u9 u10 v0 v1 v2 v3 v4 v5 v6 v7 v8 v9 v10 d0 d1 d2 d3 d4 d5 d6 d7
  generalize (w1.setCell ⟨w.heap.size + 1 + 1 + 1, 6, none⟩ (.slice q n kk)).setCell ⟨w.heap.size + 1 + 1 + 1, 7, none⟩ (.int .u64 N) = w3 at *
  have e11 := eleven (put11_blk hb (.int .i64 2) (.string nm) (.string hp) (.slice lp ln lc) (.int .i64 hi) (.int .u64 lo) (.slice q n kk) (.int .u64 N) (.float .f64 0) (.float .f64 0) (.float .f64 0))
  have o11 := ho.put11 (.inl n3') (.int .i64 2) (.string nm) (.string hp) (.slice lp ln lc) (.int .i64 hi) (.int .u64 lo) (.slice q n kk) (.int .u64 N) (.float .f64 0) (.float .f64 0) (.float .f64 0)
  have s11 := hs.put11 (.inr (.inl rfl)) (.int .i64 2) (.string nm) (.string hp) (.slice lp ln lc) (.int .i64 hi) (.int .u64 lo) (.slice q n kk) (.int .u64 N) (.float .f64 0) (.float .f64 0) (.float .f64 0)
  have own := own_base (own_off G.out.own s11 (fun g hg => by omega)) (base' := w.heap.size) (by omega)
  refine bodyPost_ret (w := put11 w3 (w.heap.size + 1 + 1) (.int .i64 2) (.string nm) (.string hp) (.slice lp ln lc) (.int .i64 hi) (.int .u64 lo) (.slice q n kk) (.int .u64 N) (.float .f64 0) (.float .f64 0) (.float .f64 0)) (v := valv 2 nm hp lp ln lc hi lo q n kk N 0 0 0) ?_ rfl ⟨q, kk, 0, rfl, Pq.Sim.refl _, by decide, own, o11⟩
  clear o11 s11 own
  generalize put11 w3 (w.heap.size + 1 + 1) (.int .i64 2) (.string nm) (.string hp) (.slice lp ln lc) (.int .i64 hi) (.int .u64 lo) (.slice q n kk) (.int .u64 N) (.float .f64 0) (.float .f64 0) (.float .f64 0) = w4 at *
  obtain ⟨y0, y1, y2, y3, y4, y5, y6, y7, y8, y9, y10, z0, z1, z2, z3, z4, z5, z6, z7, z8, z9, z10⟩ := e11
  simp [results, Try.results22, go_sem, valv, y0, y1, y2, y3, y4, y5, y6, y7, y8, y9, y10]
/-- the document's Value, of any kind -/
theorem rval (k hi lo N : Int) (nm hp : ByteArray) (lp : Option Addr) (ln lc : Nat) (p : Option Addr) (n cap S C mn mx : Nat) (c : Nat → Cn) (w : World) (hn : n ≤ 4398046511104) (hc : Cnts w p n c) (hnil : p = none → n = 0) (ho : Pq.Ok2 (S, C)) :
    Calls Try.prog 22 #[descv k nm hp lp ln lc, partr hi lo p n cap N S C mn mx] w (RVal w k hi lo N nm hp lp ln lc n c (Pq.Flt.radd S C) mn mx) := by
  by_cases h1 : k = 1
  · subst h1; exact rval1 hi lo N nm hp lp ln lc p n cap S C mn mx c w
  by_cases h2 : k = 2
  · subst h2; exact rval2 hi lo N nm hp lp ln lc p n cap S C mn mx c w hn hc hnil
  by_cases h3 : k = 3
  · subst h3; exact rval3 hi lo N nm hp lp ln lc p n cap S C mn mx c w ho
  exact rval0 k hi lo N nm hp lp ln lc p n cap S C mn mx c w h1 h2 h3
end Go.Proofs.Ytimiojckinpfdaa

/- The walk of the program's Value. -/
namespace Go.Proofs.Ytimiojckinpfdaa
open Go.RowKit Srt

/-- what the program's Value answers -/
def PVal (w : World) (k hi lo N : Int) (nm hp : ByteArray) (ln n : Nat) (x y : Nat → Value) (c : Nat → Cn) (T mn mx : Nat) (e : Ending) (w' : World) : Prop :=
  ∃ lp lc p c' s, e = .returned (valv k nm hp lp ln lc (i12 k hi) (i12 k lo) p (n2 k n) c' (i23 k N) s (n3 k mn) (n3 k mx)) ∧ Pq.Sim s (n3 k T) ∧ s < 18446744073709551616 ∧
    w'.ownsRow w.heap.size 66 2 (.slice lp ln lc) ln (ll x y ln) ∧ w'.ownsRow w.heap.size 55 2 (.slice p (n2 k n) c') (n2 k n) (cl c (n2 k n)) ∧ Only (fun _ => False) w w'
theorem Only.set {b : Nat} {a w : World} (h : Only (· = b) a w) (i : Nat) (v : Value) : Only (· = b) a (w.setCell ⟨b, i, none⟩ v) := h.setCell (p := ⟨b, i, none⟩) (.inr rfl) v
theorem Only.one {b : Nat} {a w : World} (h : Only (fun _ => False) a w) : Only (· = b) a w := h.mono fun _ _ q => q.elim

theorem cl_ll (c : Nat → Cn) (n : Nat) : cl c n = ll (ci c) (cn c) n := rfl
theorem cn_one (c : Nat → Cn) (n : Nat) : ∀ i, i < n → (ci c i).oneCell' = true ∧ (cn c i).oneCell' = true := fun _ _ => ⟨rfl, rfl⟩
set_option maxRecDepth 100000 in
set_option maxHeartbeats 8000000 in
theorem pval0 (k hi lo N : Int) (nm hp : ByteArray) (lp : Option Addr) (ln lc : Nat) (p : Option Addr) (n cap S C mn mx : Nat) (x y : Nat → Value) (c : Nat → Cn) (w : World)
    (hl : ln ≤ 4398046511104) (h : Two w lp ln x y) (h1 : ∀ i, i < ln → (x i).oneCell' = true ∧ (y i).oneCell' = true) (hnil : lp = none → ln = 0 ∧ lc = 0) (h1' : k ≠ 1) (h2' : k ≠ 2) (h3' : k ≠ 3) :
    Calls Try.prog 23 #[descv k nm hp lp ln lc, partv hi lo p n cap N S C mn mx] w (PVal w k hi lo N nm hp ln n x y c (Pq.Flt.radd S C) mn mx) := by
  have ks1 := run_stf
  have ks2 := run_stc
  have H := Lib.hid h; have H1 := Lib.hid h1; have HN := Lib.hid hnil
  clear h h1 hnil
  have q1 : (k == 1) = false := beq_eq_false_iff_ne.2 h1'
  have q2 : (k == 2) = false := beq_eq_false_iff_ne.2 h2'
  have q3 : (k == 3) = false := beq_eq_false_iff_ne.2 h3'
  unfold descv partv
  go_enter Try.func23, Try.ntmps23
  go_wp2_with fail
  refine (clone54 _ lp ln lc x y hl (H.out.only (blks4 w _ _ _ _).only (fun _ _ => id)) H1.out HN.out).mono ?_
  rintro e w1 ⟨lp', lc', rfl, G, O1⟩
  rw [(blks4 w _ _ _ _).lt] at G
  have b2 := O1.blk (blks4 w _ _ _ _).b2 id
  have b3 := O1.blk (blks4 w _ _ _ _).b3 id
  have b4 := O1.blk (blks4 w _ _ _ _).b4 id
  have b1 := O1.blk (blks4 w _ _ _ _).b1 id
  have OO := Lib.hid ((blks4 w _ _ _ _).only.trans O1)
  have GG := Lib.hid G
  have hlt : w.heap.size ≤ w1.heap.size := OO.out.size
  clear O1 G
  obtain ⟨a0, a1, a2, a3, _, _, _, _⟩ := four b1
  obtain ⟨d0, d1, d2, d3, d4, d5, d6, _, _, _, _, _, _, _⟩ := seven b2
  obtain ⟨y0, y1, y2, y3, y4, y5, y6, y7, y8, y9, y10, z0, z1, z2, z3, z4, z5, z6, z7, z8, z9, z10⟩ := eleven b3
  obtain ⟨u0, u1, u2, u3, u4, u5, u6, u7, u8, u9, u10, v0, v1, v2, v3, v4, v5, v6, v7, v8, v9, v10⟩ := eleven b4
  have B2 := Lib.hid b2; have B3 := Lib.hid b3; have B4 := Lib.hid b4
  clear b1 b2 b3 b4
  go_wp2_with fail
  have m1 : w.heap.size + 1 + 1 ≠ w.heap.size + 1 + 1 + 1 := by omega
  have m2 : w.heap.size ≤ w.heap.size + 1 + 1 + 1 := by omega
  have m3 : w.heap.size ≤ w.heap.size + 1 + 1 := by omega
  have hb := (blk_set_ne B3.out ⟨w.heap.size + 1 + 1 + 1, 3, none⟩ (.slice lp' ln lc') m1)
  have ho := (OO.out.setCell (p := ⟨w.heap.size + 1 + 1 + 1, 3, none⟩) (.inl m2) (.slice lp' ln lc'))
  have hs := ((Only.refl (fun k => k = w.heap.size + 1 + 1 ∨ k = w.heap.size + 1 + 1 + 1) w1).setCell (p := ⟨w.heap.size + 1 + 1 + 1, 3, none⟩) (.inr (.inr rfl)) (.slice lp' ln lc'))
  clear a0 a1 a2 a3 y0 y1 y2 y3 y4 y5 y6 y7 y8 y9 y10 z0 z1 z2 z3 z4 z5 z6 z7 z8 z9 z10 u0 u1 u2 u3 u4 u5 u6 u7 u8 u9 u10 v0 v1 v2 v3 v4 v5 v6 v7 v8 v9 v10 d0 d1 d2 d3 d4 d5 d6
  generalize (w1.setCell ⟨w.heap.size + 1 + 1 + 1, 3, none⟩ (.slice lp' ln lc')) = w3 at *
  have e11 := eleven (put11_blk hb (.int .i64 k) (.string nm) (.string hp) (.slice lp' ln lc') (.int .i64 0) (.int .u64 0) (.slice none 0 0) (.int .u64 0) (.float .f64 0) (.float .f64 0) (.float .f64 0))
  have o11 := ho.put11 (.inl m3) (.int .i64 k) (.string nm) (.string hp) (.slice lp' ln lc') (.int .i64 0) (.int .u64 0) (.slice none 0 0) (.int .u64 0) (.float .f64 0) (.float .f64 0) (.float .f64 0)
  have s11 := hs.put11 (.inr (.inl rfl)) (.int .i64 k) (.string nm) (.string hp) (.slice lp' ln lc') (.int .i64 0) (.int .u64 0) (.slice none 0 0) (.int .u64 0) (.float .f64 0) (.float .f64 0) (.float .f64 0)
  have own := own_base (own_off GG.out s11 (fun g hg => by omega)) (base' := w.heap.size) (by omega)
  refine bodyPost_ret (w := put11 w3 (w.heap.size + 1 + 1) (.int .i64 k) (.string nm) (.string hp) (.slice lp' ln lc') (.int .i64 0) (.int .u64 0) (.slice none 0 0) (.int .u64 0) (.float .f64 0) (.float .f64 0) (.float .f64 0)) (v := valv k nm hp lp' ln lc' 0 0 none 0 0 0 0 0 0) ?_ rfl ⟨lp', lc', none, 0, 0, by unfold i12 i23 n2 n3; rw [if_neg (by omega), if_neg (by omega), if_neg (by omega), if_neg (by omega), if_neg (by omega), if_neg (by omega)], by unfold n3; rw [if_neg h3']; exact Pq.Sim.refl _, by decide, own, by unfold n2; rw [if_neg h2']; exact own_none _ _ _ _, o11⟩
  clear o11 s11 own
  generalize put11 w3 (w.heap.size + 1 + 1) (.int .i64 k) (.string nm) (.string hp) (.slice lp' ln lc') (.int .i64 0) (.int .u64 0) (.slice none 0 0) (.int .u64 0) (.float .f64 0) (.float .f64 0) (.float .f64 0) = w4 at *
  obtain ⟨y0, y1, y2, y3, y4, y5, y6, y7, y8, y9, y10, z0, z1, z2, z3, z4, z5, z6, z7, z8, z9, z10⟩ := e11
  simp [results, Try.results23, go_sem, valv, y0, y1, y2, y3, y4, y5, y6, y7, y8, y9, y10]
set_option maxRecDepth 100000 in
set_option maxHeartbeats 8000000 in
theorem pval1 (hi lo N : Int) (nm hp : ByteArray) (lp : Option Addr) (ln lc : Nat) (p : Option Addr) (n cap S C mn mx : Nat) (x y : Nat → Value) (c : Nat → Cn) (w : World)
    (hl : ln ≤ 4398046511104) (h : Two w lp ln x y) (h1 : ∀ i, i < ln → (x i).oneCell' = true ∧ (y i).oneCell' = true) (hnil : lp = none → ln = 0 ∧ lc = 0) :
    Calls Try.prog 23 #[descv 1 nm hp lp ln lc, partv hi lo p n cap N S C mn mx] w (PVal w 1 hi lo N nm hp ln n x y c (Pq.Flt.radd S C) mn mx) := by
  have ks1 := run_stf
  have ks2 := run_stc
  have H := Lib.hid h; have H1 := Lib.hid h1; have HN := Lib.hid hnil
  clear h h1 hnil
  unfold descv partv
  go_enter Try.func23, Try.ntmps23
  go_wp2_with fail
  refine (clone54 _ lp ln lc x y hl (H.out.only (blks4 w _ _ _ _).only (fun _ _ => id)) H1.out HN.out).mono ?_
  rintro e w1 ⟨lp', lc', rfl, G, O1⟩
  rw [(blks4 w _ _ _ _).lt] at G
  have b2 := O1.blk (blks4 w _ _ _ _).b2 id
  have b3 := O1.blk (blks4 w _ _ _ _).b3 id
  have b4 := O1.blk (blks4 w _ _ _ _).b4 id
  have b1 := O1.blk (blks4 w _ _ _ _).b1 id
  have OO := Lib.hid ((blks4 w _ _ _ _).only.trans O1)
  have GG := Lib.hid G
  have hlt : w.heap.size ≤ w1.heap.size := OO.out.size
  clear O1 G
  obtain ⟨a0, a1, a2, a3, _, _, _, _⟩ := four b1
  obtain ⟨d0, d1, d2, d3, d4, d5, d6, _, _, _, _, _, _, _⟩ := seven b2
  obtain ⟨y0, y1, y2, y3, y4, y5, y6, y7, y8, y9, y10, z0, z1, z2, z3, z4, z5, z6, z7, z8, z9, z10⟩ := eleven b3
  obtain ⟨u0, u1, u2, u3, u4, u5, u6, u7, u8, u9, u10, v0, v1, v2, v3, v4, v5, v6, v7, v8, v9, v10⟩ := eleven b4
  have B2 := Lib.hid b2; have B3 := Lib.hid b3; have B4 := Lib.hid b4
  clear b1 b2 b3 b4
  go_wp2_with fail
  have m1 : w.heap.size + 1 + 1 ≠ w.heap.size + 1 + 1 + 1 := by omega
  have m2 : w.heap.size ≤ w.heap.size + 1 + 1 + 1 := by omega
  have m3 : w.heap.size ≤ w.heap.size + 1 + 1 := by omega
  have hb := (blk_set_ne (blk_set_ne (blk_set_ne B3.out ⟨w.heap.size + 1 + 1 + 1, 3, none⟩ (.slice lp' ln lc') m1) ⟨w.heap.size + 1 + 1 + 1, 4, none⟩ (.int .i64 hi) m1) ⟨w.heap.size + 1 + 1 + 1, 5, none⟩ (.int .u64 lo) m1)
  have ho := (((OO.out.setCell (p := ⟨w.heap.size + 1 + 1 + 1, 3, none⟩) (.inl m2) (.slice lp' ln lc')).setCell (p := ⟨w.heap.size + 1 + 1 + 1, 4, none⟩) (.inl m2) (.int .i64 hi)).setCell (p := ⟨w.heap.size + 1 + 1 + 1, 5, none⟩) (.inl m2) (.int .u64 lo))
  have hs := ((((Only.refl (fun k => k = w.heap.size + 1 + 1 ∨ k = w.heap.size + 1 + 1 + 1) w1).setCell (p := ⟨w.heap.size + 1 + 1 + 1, 3, none⟩) (.inr (.inr rfl)) (.slice lp' ln lc')).setCell (p := ⟨w.heap.size + 1 + 1 + 1, 4, none⟩) (.inr (.inr rfl)) (.int .i64 hi)).setCell (p := ⟨w.heap.size + 1 + 1 + 1, 5, none⟩) (.inr (.inr rfl)) (.int .u64 lo))
  clear a0 a1 a2 a3 y0 y1 y2 y3 y4 y5 y6 y7 y8 y9 y10 z0 z1 z2 z3 z4 z5 z6 z7 z8 z9 z10 u0 u1 u2 u3 u4 u5 u6 u7 u8 u9 u10 v0 v1 v2 v3 v4 v5 v6 v7 v8 v9 v10 d0 d1 d2 d3 d4 d5 d6
  generalize (((w1.setCell ⟨w.heap.size + 1 + 1 + 1, 3, none⟩ (.slice lp' ln lc')).setCell ⟨w.heap.size + 1 + 1 + 1, 4, none⟩ (.int .i64 hi)).setCell ⟨w.heap.size + 1 + 1 + 1, 5, none⟩ (.int .u64 lo)) = w3 at *
  have e11 := eleven (put11_blk hb (.int .i64 1) (.string nm) (.string hp) (.slice lp' ln lc') (.int .i64 hi) (.int .u64 lo) (.slice none 0 0) (.int .u64 0) (.float .f64 0) (.float .f64 0) (.float .f64 0))
  have o11 := ho.put11 (.inl m3) (.int .i64 1) (.string nm) (.string hp) (.slice lp' ln lc') (.int .i64 hi) (.int .u64 lo) (.slice none 0 0) (.int .u64 0) (.float .f64 0) (.float .f64 0) (.float .f64 0)
  have s11 := hs.put11 (.inr (.inl rfl)) (.int .i64 1) (.string nm) (.string hp) (.slice lp' ln lc') (.int .i64 hi) (.int .u64 lo) (.slice none 0 0) (.int .u64 0) (.float .f64 0) (.float .f64 0) (.float .f64 0)
  have own := own_base (own_off GG.out s11 (fun g hg => by omega)) (base' := w.heap.size) (by omega)
  refine bodyPost_ret (w := put11 w3 (w.heap.size + 1 + 1) (.int .i64 1) (.string nm) (.string hp) (.slice lp' ln lc') (.int .i64 hi) (.int .u64 lo) (.slice none 0 0) (.int .u64 0) (.float .f64 0) (.float .f64 0) (.float .f64 0)) (v := valv 1 nm hp lp' ln lc' hi lo none 0 0 0 0 0 0) ?_ rfl ⟨lp', lc', none, 0, 0, rfl, Pq.Sim.refl _, by decide, own, own_none _ _ _ _, o11⟩
  clear o11 s11 own
  generalize put11 w3 (w.heap.size + 1 + 1) (.int .i64 1) (.string nm) (.string hp) (.slice lp' ln lc') (.int .i64 hi) (.int .u64 lo) (.slice none 0 0) (.int .u64 0) (.float .f64 0) (.float .f64 0) (.float .f64 0) = w4 at *
  obtain ⟨y0, y1, y2, y3, y4, y5, y6, y7, y8, y9, y10, z0, z1, z2, z3, z4, z5, z6, z7, z8, z9, z10⟩ := e11
  simp [results, Try.results23, go_sem, valv, y0, y1, y2, y3, y4, y5, y6, y7, y8, y9, y10]
set_option maxRecDepth 100000 in
set_option maxHeartbeats 8000000 in
theorem pval2 (hi lo N : Int) (nm hp : ByteArray) (lp : Option Addr) (ln lc : Nat) (p : Option Addr) (n cap S C mn mx : Nat) (x y : Nat → Value) (c : Nat → Cn) (w : World)
    (hl : ln ≤ 4398046511104) (h : Two w lp ln x y) (h1 : ∀ i, i < ln → (x i).oneCell' = true ∧ (y i).oneCell' = true) (hnil : lp = none → ln = 0 ∧ lc = 0) (hn : n ≤ 4398046511104) (hc : Cnts w p n c) (hpn : p = none → n = 0 ∧ cap = 0) :
    Calls Try.prog 23 #[descv 2 nm hp lp ln lc, partv hi lo p n cap N S C mn mx] w (PVal w 2 hi lo N nm hp ln n x y c (Pq.Flt.radd S C) mn mx) := by
  have ks1 := run_stf
  have ks2 := run_stc
  have H := Lib.hid h; have H1 := Lib.hid h1; have HN := Lib.hid hnil
  clear h h1 hnil
  have HC := Lib.hid hc; have HPN := Lib.hid hpn
  clear hc hpn
  unfold descv partv
  go_enter Try.func23, Try.ntmps23
  go_wp2_with fail
  refine (clone54 _ lp ln lc x y hl (H.out.only (blks4 w _ _ _ _).only (fun _ _ => id)) H1.out HN.out).mono ?_
  rintro e w1 ⟨lp', lc', rfl, G, O1⟩
  rw [(blks4 w _ _ _ _).lt] at G
  have b2 := O1.blk (blks4 w _ _ _ _).b2 id
  have b3 := O1.blk (blks4 w _ _ _ _).b3 id
  have b4 := O1.blk (blks4 w _ _ _ _).b4 id
  have b1 := O1.blk (blks4 w _ _ _ _).b1 id
  have OO := Lib.hid ((blks4 w _ _ _ _).only.trans O1)
  have GG := Lib.hid G
  have hlt : w.heap.size ≤ w1.heap.size := OO.out.size
  clear O1 G
  obtain ⟨a0, a1, a2, a3, _, _, _, _⟩ := four b1
  obtain ⟨d0, d1, d2, d3, d4, d5, d6, _, _, _, _, _, _, _⟩ := seven b2
  obtain ⟨y0, y1, y2, y3, y4, y5, y6, y7, y8, y9, y10, z0, z1, z2, z3, z4, z5, z6, z7, z8, z9, z10⟩ := eleven b3
  obtain ⟨u0, u1, u2, u3, u4, u5, u6, u7, u8, u9, u10, v0, v1, v2, v3, v4, v5, v6, v7, v8, v9, v10⟩ := eleven b4
  have B2 := Lib.hid b2; have B3 := Lib.hid b3; have B4 := Lib.hid b4
  clear b1 b2 b3 b4
  go_wp2_with fail
  clear a0 a1 a2 a3 y0 y1 y2 y3 y4 y5 y6 y7 y8 y9 y10 z0 z1 z2 z3 z4 z5 z6 z7 z8 z9 z10 u0 u1 u2 u3 u4 u5 u6 u7 u8 u9 u10 v0 v1 v2 v3 v4 v5 v6 v7 v8 v9 v10
  have m1 : w.heap.size + 1 + 1 ≠ w.heap.size + 1 + 1 + 1 := by omega
  have m2 : w.heap.size + 1 ≠ w.heap.size + 1 + 1 + 1 := by omega
  have OW := Lib.hid (OO.out.setCell (p := ⟨w.heap.size + 1 + 1 + 1, 3, none⟩) (.inl (by show w.heap.size ≤ w.heap.size + 1 + 1 + 1; omega)) (.slice lp' ln lc'))
  have bb2 := blk_set_ne B2.out ⟨w.heap.size + 1 + 1 + 1, 3, none⟩ (.slice lp' ln lc') m2
  have bb3 := blk_set_ne B3.out ⟨w.heap.size + 1 + 1 + 1, 3, none⟩ (.slice lp' ln lc') m1
  have bb4 := blk_set B4.out 3 (.slice lp' ln lc')
  have GW := Lib.hid (own_off GG.out ((Only.refl (· = w.heap.size + 1 + 1 + 1) w1).set 3 (.slice lp' ln lc')) (fun g hg e => by omega))
  clear B2 B3 B4 GG OO hlt
  generalize w1.setCell ⟨w.heap.size + 1 + 1 + 1, 3, none⟩ (.slice lp' ln lc') = W at *
  have B2 := Lib.hid bb2; have B3 := Lib.hid bb3
  have B4 : Hid (W.heap[w.heap.size + 1 + 1 + 1]? = some (.cells #[.int .i64 2, .string nm, .string hp, .slice lp' ln lc', .int .i64 0, .int .u64 0, .slice none 0 0, .int .u64 0, .float .f64 0, .float .f64 0, .float .f64 0] 68 (0, 0))) := Lib.hid bb4
  obtain ⟨d0, d1, d2, d3, d4, d5, d6, _, _, _, _, _, _, _⟩ := seven bb2
  clear bb2 bb3 bb4
  have hs2 : Hid (∀ w', Only (· = w.heap.size + 1 + 1 + 1) W w' → Only (· = w.heap.size + 1 + 1 + 1) W w' ∧ w'.cell? ⟨w.heap.size + 1, 0, none⟩ = some (.int .i64 hi) ∧ w'.cell? ⟨w.heap.size + 1, 1, none⟩ = some (.int .u64 lo) ∧ w'.cell? ⟨w.heap.size + 1, 2, none⟩ = some (.slice p n cap) ∧ w'.cell? ⟨w.heap.size + 1, 3, none⟩ = some (.int .u64 N) ∧ w'.cell? ⟨w.heap.size + 1, 4, none⟩ = some (.complex .f64 S C) ∧ w'.cell? ⟨w.heap.size + 1, 5, none⟩ = some (.float .f64 mn) ∧ w'.cell? ⟨w.heap.size + 1, 6, none⟩ = some (.float .f64 mx)) := Lib.hid fun w' O => by
    have qa := seven (O.blk B2.out m2)
    exact ⟨O, qa.d0, qa.d1, qa.d2, qa.d3, qa.d4, qa.d5, qa.d6⟩
  have N0 : Only (· = w.heap.size + 1 + 1 + 1) W W.drew := (Only.refl _ _).drew
  clear d0 d1 d2 d3 d4 d5 d6
  go_region_held3 (fun w' => Only (· = w.heap.size + 1 + 1 + 1) W w' ∧ w'.cell? ⟨w.heap.size + 1, 0, none⟩ = some (.int .i64 hi) ∧ w'.cell? ⟨w.heap.size + 1, 1, none⟩ = some (.int .u64 lo) ∧ w'.cell? ⟨w.heap.size + 1, 2, none⟩ = some (.slice p n cap) ∧ w'.cell? ⟨w.heap.size + 1, 3, none⟩ = some (.int .u64 N) ∧ w'.cell? ⟨w.heap.size + 1, 4, none⟩ = some (.complex .f64 S C) ∧ w'.cell? ⟨w.heap.size + 1, 5, none⟩ = some (.float .f64 mn) ∧ w'.cell? ⟨w.heap.size + 1, 6, none⟩ = some (.float .f64 mx))
    ((go_split_ands; first | (with_reducible exact hs2.out _ N0) | (with_reducible exact hs2.out _ N3) | (with_reducible exact hs2.out _ (Only.set N3 _ _)) | (with_reducible exact hs2.out _ (Only.set (Only.set N3 _ _) _ _)) | (with_reducible exact hs2.out _ (Only.set (Only.set (Only.set N3 _ _) _ _) _ _)) | (with_reducible exact hs2.out _ (Only.set (Only.set (Only.set (Only.set N3 _ _) _ _) _ _) _ _))))
    (first | (go_at_call 55; go_split_ands; refine (clone55 _ p n cap (ci c) (cn c) hn (HC.out.only (OW.out.trans ((Only.refl _ _).drew)) (fun _ _ => id)) (cn_one c n) HPN.out).mono ?_; rintro e w3 ⟨q, kk, rfl, G5, O3⟩; have N3 := Only.trans (show Only (· = w.heap.size + 1 + 1 + 1) W _ by assumption) (Only.one O3); have BB4 := Lib.hid (O3.blk (blk_drew B4.out) id); have BB3 := Lib.hid (O3.blk (blk_drew B3.out) id); have GG5 := Lib.hid G5; have OO3 := Lib.hid O3; obtain ⟨u0, u1, u2, u3, u4, u5, u6, u7, u8, u9, u10, v0, v1, v2, v3, v4, v5, v6, v7, v8, v9, v10⟩ := eleven BB4.out; clear O3 G5))

  have m2' : w.heap.size ≤ w.heap.size + 1 + 1 + 1 := by omega
  have m3 : w.heap.size ≤ w.heap.size + 1 + 1 := by omega
  have HWS := Lib.hid (show w.heap.size + 1 + 1 + 1 < W.drew.heap.size from blk_lt (blk_drew B4.out))
  have G5H := Lib.hid (own_base GG5.out (Nat.le_refl _))
  have hb := (blk_set_ne (blk_set_ne (blk_set_ne (blk_set_ne BB3.out ⟨w.heap.size + 1 + 1 + 1, 4, none⟩ (.int .i64 hi) m1) ⟨w.heap.size + 1 + 1 + 1, 5, none⟩ (.int .u64 lo) m1) ⟨w.heap.size + 1 + 1 + 1, 6, none⟩ (.slice q n kk) m1) ⟨w.heap.size + 1 + 1 + 1, 7, none⟩ (.int .u64 N) m1)
  have ho := (((((((OW.out.seq2 (T := fun _ => False) ((Only.refl _ _).drew) (fun _ q => q.elim)).trans OO3.out)).setCell (p := ⟨w.heap.size + 1 + 1 + 1, 4, none⟩) (.inl m2') (.int .i64 hi)).setCell (p := ⟨w.heap.size + 1 + 1 + 1, 5, none⟩) (.inl m2') (.int .u64 lo)).setCell (p := ⟨w.heap.size + 1 + 1 + 1, 6, none⟩) (.inl m2') (.slice q n kk)).setCell (p := ⟨w.heap.size + 1 + 1 + 1, 7, none⟩) (.inl m2') (.int .u64 N))
  have hs := (((((Only.refl (fun k => k = w.heap.size + 1 + 1 ∨ k = w.heap.size + 1 + 1 + 1) w3).setCell (p := ⟨w.heap.size + 1 + 1 + 1, 4, none⟩) (.inr (.inr rfl)) (.int .i64 hi)).setCell (p := ⟨w.heap.size + 1 + 1 + 1, 5, none⟩) (.inr (.inr rfl)) (.int .u64 lo)).setCell (p := ⟨w.heap.size + 1 + 1 + 1, 6, none⟩) (.inr (.inr rfl)) (.slice q n kk)).setCell (p := ⟨w.heap.size + 1 + 1 + 1, 7, none⟩) (.inr (.inr rfl)) (.int .u64 N))
  have GX := Lib.hid (own_keep (own_keep GW.out ((Only.refl (fun _ => False) W).drew)) OO3.out)
  clear u0 u1 u2 u3 u4 u5 u6 u7 u8 u9 u10 v0 v1 v2 v3 v4 v5 v6 v7 v8 v9 v10
  have hb4 : (((((w3.setCell ⟨w.heap.size + 1 + 1 + 1, 4, none⟩ (.int .i64 hi)).setCell ⟨w.heap.size + 1 + 1 + 1, 5, none⟩ (.int .u64 lo)).setCell ⟨w.heap.size + 1 + 1 + 1, 6, none⟩ (.slice q n kk)).setCell ⟨w.heap.size + 1 + 1 + 1, 7, none⟩ (.int .u64 N))).heap[w.heap.size + 1 + 1 + 1]? = some (.cells #[.int .i64 2, .string nm, .string hp, .slice lp' ln lc', .int .i64 hi, .int .u64 lo, .slice q n kk, .int .u64 N, .float .f64 0, .float .f64 0, .float .f64 0] 68 (0, 0)) := (blk_set (blk_set (blk_set (blk_set BB4.out 4 (.int .i64 hi)) 5 (.int .u64 lo)) 6 (.slice q n kk)) 7 (.int .u64 N))
  generalize ((((w3.setCell ⟨w.heap.size + 1 + 1 + 1, 4, none⟩ (.int .i64 hi)).setCell ⟨w.heap.size + 1 + 1 + 1, 5, none⟩ (.int .u64 lo)).setCell ⟨w.heap.size + 1 + 1 + 1, 6, none⟩ (.slice q n kk)).setCell ⟨w.heap.size + 1 + 1 + 1, 7, none⟩ (.int .u64 N)) = w5 at *
  obtain ⟨y0, y1, y2, y3, y4, y5, y6, y7, y8, y9, y10, z0, z1, z2, z3, z4, z5, z6, z7, z8, z9, z10⟩ := eleven hb
  obtain ⟨u0, u1, u2, u3, u4, u5, u6, u7, u8, u9, u10, v0, v1, v2, v3, v4, v5, v6, v7, v8, v9, v10⟩ := eleven hb4
  have HB := Lib.hid hb; have HOX := Lib.hid ho; have HSX := Lib.hid hs
  clear hb ho hs hb4
  go_wp2_with fail
  clear y0 y1 y2 y3 y4 y5 y6 y7 y8 y9 y10 z0 z1 z2 z3 z4 z5 z6 z7 z8 z9 z10 u0 u1 u2 u3 u4 u5 u6 u7 u8 u9 u10 v0 v1 v2 v3 v4 v5 v6 v7 v8 v9 v10
  have hb := HB.out; have ho := HOX.out; have hs := HSX.out
  have e11 := eleven (put11_blk hb (.int .i64 2) (.string nm) (.string hp) (.slice lp' ln lc') (.int .i64 hi) (.int .u64 lo) (.slice q n kk) (.int .u64 N) (.float .f64 0) (.float .f64 0) (.float .f64 0))
  have o11 := ho.put11 (.inl m3) (.int .i64 2) (.string nm) (.string hp) (.slice lp' ln lc') (.int .i64 hi) (.int .u64 lo) (.slice q n kk) (.int .u64 N) (.float .f64 0) (.float .f64 0) (.float .f64 0)
  have s11 := hs.put11 (.inr (.inl rfl)) (.int .i64 2) (.string nm) (.string hp) (.slice lp' ln lc') (.int .i64 hi) (.int .u64 lo) (.slice q n kk) (.int .u64 N) (.float .f64 0) (.float .f64 0) (.float .f64 0)
  have own := own_base (own_off GX.out s11 (fun g hg => by omega)) (base' := w.heap.size) (by omega)
  have own5 := own_base (own_off G5H.out s11 (fun g hg => by have := HWS.out; omega)) (base' := w.heap.size) (by have := HWS.out; omega)
  refine bodyPost_ret (w := put11 w5 (w.heap.size + 1 + 1) (.int .i64 2) (.string nm) (.string hp) (.slice lp' ln lc') (.int .i64 hi) (.int .u64 lo) (.slice q n kk) (.int .u64 N) (.float .f64 0) (.float .f64 0) (.float .f64 0)) (v := valv 2 nm hp lp' ln lc' hi lo q n kk N 0 0 0) ?_ rfl ⟨lp', lc', q, kk, 0, rfl, Pq.Sim.refl _, by decide, own, own5, o11⟩
  clear o11 s11 own
  generalize put11 w5 (w.heap.size + 1 + 1) (.int .i64 2) (.string nm) (.string hp) (.slice lp' ln lc') (.int .i64 hi) (.int .u64 lo) (.slice q n kk) (.int .u64 N) (.float .f64 0) (.float .f64 0) (.float .f64 0) = w4 at *
  obtain ⟨y0, y1, y2, y3, y4, y5, y6, y7, y8, y9, y10, z0, z1, z2, z3, z4, z5, z6, z7, z8, z9, z10⟩ := e11
  simp [results, Try.results23, go_sem, valv, y0, y1, y2, y3, y4, y5, y6, y7, y8, y9, y10]
set_option maxRecDepth 100000 in
set_option maxHeartbeats 8000000 in
theorem pval3 (hi lo N : Int) (nm hp : ByteArray) (lp : Option Addr) (ln lc : Nat) (p : Option Addr) (n cap S C mn mx : Nat) (x y : Nat → Value) (c : Nat → Cn) (w : World)
    (hl : ln ≤ 4398046511104) (h : Two w lp ln x y) (h1 : ∀ i, i < ln → (x i).oneCell' = true ∧ (y i).oneCell' = true) (hnil : lp = none → ln = 0 ∧ lc = 0) :
    Calls Try.prog 23 #[descv 3 nm hp lp ln lc, partv hi lo p n cap N S C mn mx] w (PVal w 3 hi lo N nm hp ln n x y c (Pq.Flt.radd S C) mn mx) := by
  have ks1 := run_stf
  have ks2 := run_stc
  have H := Lib.hid h; have H1 := Lib.hid h1; have HN := Lib.hid hnil
  clear h h1 hnil
  unfold descv partv
  go_enter Try.func23, Try.ntmps23
  go_wp2_with fail
  refine (clone54 _ lp ln lc x y hl (H.out.only (blks4 w _ _ _ _).only (fun _ _ => id)) H1.out HN.out).mono ?_
  rintro e w1 ⟨lp', lc', rfl, G, O1⟩
  rw [(blks4 w _ _ _ _).lt] at G
  have b2 := O1.blk (blks4 w _ _ _ _).b2 id
  have b3 := O1.blk (blks4 w _ _ _ _).b3 id
  have b4 := O1.blk (blks4 w _ _ _ _).b4 id
  have b1 := O1.blk (blks4 w _ _ _ _).b1 id
  have OO := Lib.hid ((blks4 w _ _ _ _).only.trans O1)
  have GG := Lib.hid G
  have hlt : w.heap.size ≤ w1.heap.size := OO.out.size
  clear O1 G
  obtain ⟨a0, a1, a2, a3, _, _, _, _⟩ := four b1
  obtain ⟨d0, d1, d2, d3, d4, d5, d6, _, _, _, _, _, _, _⟩ := seven b2
  obtain ⟨y0, y1, y2, y3, y4, y5, y6, y7, y8, y9, y10, z0, z1, z2, z3, z4, z5, z6, z7, z8, z9, z10⟩ := eleven b3
  obtain ⟨u0, u1, u2, u3, u4, u5, u6, u7, u8, u9, u10, v0, v1, v2, v3, v4, v5, v6, v7, v8, v9, v10⟩ := eleven b4
  have B2 := Lib.hid b2; have B3 := Lib.hid b3; have B4 := Lib.hid b4
  clear b1 b2 b3 b4
  go_wp2_with fail
  clear a0 a1 a2 a3 y0 y1 y2 y3 y4 y5 y6 y7 y8 y9 y10 z0 z1 z2 z3 z4 z5 z6 z7 z8 z9 z10 u0 u1 u2 u3 u4 u5 u6 u7 u8 u9 u10 v0 v1 v2 v3 v4 v5 v6 v7 v8 v9 v10
  have m1 : w.heap.size + 1 + 1 ≠ w.heap.size + 1 + 1 + 1 := by omega
  have m2 : w.heap.size + 1 ≠ w.heap.size + 1 + 1 + 1 := by omega
  have OW := Lib.hid (OO.out.setCell (p := ⟨w.heap.size + 1 + 1 + 1, 3, none⟩) (.inl (by show w.heap.size ≤ w.heap.size + 1 + 1 + 1; omega)) (.slice lp' ln lc'))
  have bb2 := blk_set_ne B2.out ⟨w.heap.size + 1 + 1 + 1, 3, none⟩ (.slice lp' ln lc') m2
  have bb3 := blk_set_ne B3.out ⟨w.heap.size + 1 + 1 + 1, 3, none⟩ (.slice lp' ln lc') m1
  have bb4 := blk_set B4.out 3 (.slice lp' ln lc')
  have GW := Lib.hid (own_off GG.out ((Only.refl (· = w.heap.size + 1 + 1 + 1) w1).set 3 (.slice lp' ln lc')) (fun g hg e => by omega))
  clear B2 B3 B4 GG OO hlt
  generalize w1.setCell ⟨w.heap.size + 1 + 1 + 1, 3, none⟩ (.slice lp' ln lc') = W at *
  have B2 := Lib.hid bb2; have B3 := Lib.hid bb3
  have B4 : Hid (W.heap[w.heap.size + 1 + 1 + 1]? = some (.cells #[.int .i64 3, .string nm, .string hp, .slice lp' ln lc', .int .i64 0, .int .u64 0, .slice none 0 0, .int .u64 0, .float .f64 0, .float .f64 0, .float .f64 0] 68 (0, 0))) := Lib.hid bb4
  obtain ⟨d0, d1, d2, d3, d4, d5, d6, _, _, _, _, _, _, _⟩ := seven bb2
  clear bb2 bb3 bb4
  have hs2 : Hid (∀ w', Only (· = w.heap.size + 1 + 1 + 1) W w' → Only (· = w.heap.size + 1 + 1 + 1) W w' ∧ w'.cell? ⟨w.heap.size + 1, 0, none⟩ = some (.int .i64 hi) ∧ w'.cell? ⟨w.heap.size + 1, 1, none⟩ = some (.int .u64 lo) ∧ w'.cell? ⟨w.heap.size + 1, 2, none⟩ = some (.slice p n cap) ∧ w'.cell? ⟨w.heap.size + 1, 3, none⟩ = some (.int .u64 N) ∧ w'.cell? ⟨w.heap.size + 1, 4, none⟩ = some (.complex .f64 S C) ∧ w'.cell? ⟨w.heap.size + 1, 5, none⟩ = some (.float .f64 mn) ∧ w'.cell? ⟨w.heap.size + 1, 6, none⟩ = some (.float .f64 mx)) := Lib.hid fun w' O => by
    have qa := seven (O.blk B2.out m2)
    exact ⟨O, qa.d0, qa.d1, qa.d2, qa.d3, qa.d4, qa.d5, qa.d6⟩
  have N0 : Only (· = w.heap.size + 1 + 1 + 1) W W.drew := (Only.refl _ _).drew
  clear d0 d1 d2 d3 d4 d5 d6
  go_region_held3 (fun w' => Only (· = w.heap.size + 1 + 1 + 1) W w' ∧ w'.cell? ⟨w.heap.size + 1, 0, none⟩ = some (.int .i64 hi) ∧ w'.cell? ⟨w.heap.size + 1, 1, none⟩ = some (.int .u64 lo) ∧ w'.cell? ⟨w.heap.size + 1, 2, none⟩ = some (.slice p n cap) ∧ w'.cell? ⟨w.heap.size + 1, 3, none⟩ = some (.int .u64 N) ∧ w'.cell? ⟨w.heap.size + 1, 4, none⟩ = some (.complex .f64 S C) ∧ w'.cell? ⟨w.heap.size + 1, 5, none⟩ = some (.float .f64 mn) ∧ w'.cell? ⟨w.heap.size + 1, 6, none⟩ = some (.float .f64 mx))
    ((go_split_ands; first | (with_reducible exact hs2.out _ N0) | (with_reducible exact hs2.out _ N3) | (with_reducible exact hs2.out _ (Only.set N3 _ _)) | (with_reducible exact hs2.out _ (Only.set (Only.set N3 _ _) _ _)) | (with_reducible exact hs2.out _ (Only.set (Only.set (Only.set N3 _ _) _ _) _ _)) | (with_reducible exact hs2.out _ (Only.set (Only.set (Only.set (Only.set N3 _ _) _ _) _ _) _ _))))
    (first | (go_at_call 56; go_split_ands; refine (Pq.ptotal_any (S, C) _).mono ?_; rintro e w3 ⟨r, rfl, R1, R2, R3⟩; have O3 := R3.only (fun _ => False); have N3 := Only.trans (show Only (· = w.heap.size + 1 + 1 + 1) W _ by assumption) (Only.one O3); have BB4 := Lib.hid (O3.blk (blk_drew B4.out) id); have BB3 := Lib.hid (O3.blk (blk_drew B3.out) id); have OO3 := Lib.hid O3; have RR1 := Lib.hid R1; have RR2 := Lib.hid R2; obtain ⟨u0, u1, u2, u3, u4, u5, u6, u7, u8, u9, u10, v0, v1, v2, v3, v4, v5, v6, v7, v8, v9, v10⟩ := eleven BB4.out; clear O3 R1 R2 R3))

  have m2' : w.heap.size ≤ w.heap.size + 1 + 1 + 1 := by omega
  have m3 : w.heap.size ≤ w.heap.size + 1 + 1 := by omega
  have hb := (blk_set_ne (blk_set_ne (blk_set_ne (blk_set_ne BB3.out ⟨w.heap.size + 1 + 1 + 1, 7, none⟩ (.int .u64 N) m1) ⟨w.heap.size + 1 + 1 + 1, 8, none⟩ (.float .f64 r) m1) ⟨w.heap.size + 1 + 1 + 1, 9, none⟩ (.float .f64 mn) m1) ⟨w.heap.size + 1 + 1 + 1, 10, none⟩ (.float .f64 mx) m1)
  have ho := (((((((OW.out.seq2 (T := fun _ => False) ((Only.refl _ _).drew) (fun _ q => q.elim)).trans OO3.out)).setCell (p := ⟨w.heap.size + 1 + 1 + 1, 7, none⟩) (.inl m2') (.int .u64 N)).setCell (p := ⟨w.heap.size + 1 + 1 + 1, 8, none⟩) (.inl m2') (.float .f64 r)).setCell (p := ⟨w.heap.size + 1 + 1 + 1, 9, none⟩) (.inl m2') (.float .f64 mn)).setCell (p := ⟨w.heap.size + 1 + 1 + 1, 10, none⟩) (.inl m2') (.float .f64 mx))
  have hs := (((((Only.refl (fun k => k = w.heap.size + 1 + 1 ∨ k = w.heap.size + 1 + 1 + 1) w3).setCell (p := ⟨w.heap.size + 1 + 1 + 1, 7, none⟩) (.inr (.inr rfl)) (.int .u64 N)).setCell (p := ⟨w.heap.size + 1 + 1 + 1, 8, none⟩) (.inr (.inr rfl)) (.float .f64 r)).setCell (p := ⟨w.heap.size + 1 + 1 + 1, 9, none⟩) (.inr (.inr rfl)) (.float .f64 mn)).setCell (p := ⟨w.heap.size + 1 + 1 + 1, 10, none⟩) (.inr (.inr rfl)) (.float .f64 mx))
  have GX := Lib.hid (own_keep (own_keep GW.out ((Only.refl (fun _ => False) W).drew)) OO3.out)
  clear u0 u1 u2 u3 u4 u5 u6 u7 u8 u9 u10 v0 v1 v2 v3 v4 v5 v6 v7 v8 v9 v10
  have hb4 : (((((w3.setCell ⟨w.heap.size + 1 + 1 + 1, 7, none⟩ (.int .u64 N)).setCell ⟨w.heap.size + 1 + 1 + 1, 8, none⟩ (.float .f64 r)).setCell ⟨w.heap.size + 1 + 1 + 1, 9, none⟩ (.float .f64 mn)).setCell ⟨w.heap.size + 1 + 1 + 1, 10, none⟩ (.float .f64 mx))).heap[w.heap.size + 1 + 1 + 1]? = some (.cells #[.int .i64 3, .string nm, .string hp, .slice lp' ln lc', .int .i64 0, .int .u64 0, .slice none 0 0, .int .u64 N, .float .f64 r, .float .f64 mn, .float .f64 mx] 68 (0, 0)) := (blk_set (blk_set (blk_set (blk_set BB4.out 7 (.int .u64 N)) 8 (.float .f64 r)) 9 (.float .f64 mn)) 10 (.float .f64 mx))
  generalize ((((w3.setCell ⟨w.heap.size + 1 + 1 + 1, 7, none⟩ (.int .u64 N)).setCell ⟨w.heap.size + 1 + 1 + 1, 8, none⟩ (.float .f64 r)).setCell ⟨w.heap.size + 1 + 1 + 1, 9, none⟩ (.float .f64 mn)).setCell ⟨w.heap.size + 1 + 1 + 1, 10, none⟩ (.float .f64 mx)) = w5 at *
  obtain ⟨y0, y1, y2, y3, y4, y5, y6, y7, y8, y9, y10, z0, z1, z2, z3, z4, z5, z6, z7, z8, z9, z10⟩ := eleven hb
  obtain ⟨u0, u1, u2, u3, u4, u5, u6, u7, u8, u9, u10, v0, v1, v2, v3, v4, v5, v6, v7, v8, v9, v10⟩ := eleven hb4
  have HB := Lib.hid hb; have HOX := Lib.hid ho; have HSX := Lib.hid hs
  clear hb ho hs hb4
  go_wp2_with fail
  clear y0 y1 y2 y3 y4 y5 y6 y7 y8 y9 y10 z0 z1 z2 z3 z4 z5 z6 z7 z8 z9 z10 u0 u1 u2 u3 u4 u5 u6 u7 u8 u9 u10 v0 v1 v2 v3 v4 v5 v6 v7 v8 v9 v10
  have hb := HB.out; have ho := HOX.out; have hs := HSX.out
  have e11 := eleven (put11_blk hb (.int .i64 3) (.string nm) (.string hp) (.slice lp' ln lc') (.int .i64 0) (.int .u64 0) (.slice none 0 0) (.int .u64 N) (.float .f64 r) (.float .f64 mn) (.float .f64 mx))
  have o11 := ho.put11 (.inl m3) (.int .i64 3) (.string nm) (.string hp) (.slice lp' ln lc') (.int .i64 0) (.int .u64 0) (.slice none 0 0) (.int .u64 N) (.float .f64 r) (.float .f64 mn) (.float .f64 mx)
  have s11 := hs.put11 (.inr (.inl rfl)) (.int .i64 3) (.string nm) (.string hp) (.slice lp' ln lc') (.int .i64 0) (.int .u64 0) (.slice none 0 0) (.int .u64 N) (.float .f64 r) (.float .f64 mn) (.float .f64 mx)
  have own := own_base (own_off GX.out s11 (fun g hg => by omega)) (base' := w.heap.size) (by omega)
  refine bodyPost_ret (w := put11 w5 (w.heap.size + 1 + 1) (.int .i64 3) (.string nm) (.string hp) (.slice lp' ln lc') (.int .i64 0) (.int .u64 0) (.slice none 0 0) (.int .u64 N) (.float .f64 r) (.float .f64 mn) (.float .f64 mx)) (v := valv 3 nm hp lp' ln lc' 0 0 none 0 0 N r mn mx) ?_ rfl ⟨lp', lc', none, 0, r, rfl, RR1.out, RR2.out, own, own_none _ _ _ _, o11⟩
  clear o11 s11 own
  generalize put11 w5 (w.heap.size + 1 + 1) (.int .i64 3) (.string nm) (.string hp) (.slice lp' ln lc') (.int .i64 0) (.int .u64 0) (.slice none 0 0) (.int .u64 N) (.float .f64 r) (.float .f64 mn) (.float .f64 mx) = w4 at *
  obtain ⟨y0, y1, y2, y3, y4, y5, y6, y7, y8, y9, y10, z0, z1, z2, z3, z4, z5, z6, z7, z8, z9, z10⟩ := e11
  simp [results, Try.results23, go_sem, valv, y0, y1, y2, y3, y4, y5, y6, y7, y8, y9, y10]
/-- the program's Value, of any kind -/
theorem pval (k hi lo N : Int) (nm hp : ByteArray) (lp : Option Addr) (ln lc : Nat) (p : Option Addr) (n cap S C mn mx : Nat) (x y : Nat → Value) (c : Nat → Cn) (w : World)
    (hl : ln ≤ 4398046511104) (h : Two w lp ln x y) (h1 : ∀ i, i < ln → (x i).oneCell' = true ∧ (y i).oneCell' = true) (hnil : lp = none → ln = 0 ∧ lc = 0) (hn : n ≤ 4398046511104) (hc : Cnts w p n c) (hpn : p = none → n = 0 ∧ cap = 0) :
    Calls Try.prog 23 #[descv k nm hp lp ln lc, partv hi lo p n cap N S C mn mx] w (PVal w k hi lo N nm hp ln n x y c (Pq.Flt.radd S C) mn mx) := by
  by_cases h1' : k = 1
  · subst h1'; exact pval1 hi lo N nm hp lp ln lc p n cap S C mn mx x y c w hl h h1 hnil
  by_cases h2' : k = 2
  · subst h2'; exact pval2 hi lo N nm hp lp ln lc p n cap S C mn mx x y c w hl h h1 hnil hn hc hpn
  by_cases h3' : k = 3
  · subst h3'; exact pval3 hi lo N nm hp lp ln lc p n cap S C mn mx x y c w hl h h1 hnil
  exact pval0 k hi lo N nm hp lp ln lc p n cap S C mn mx x y c w hl h h1 hnil h1' h2' h3'
end Go.Proofs.Ytimiojckinpfdaa
