/- A frame for calls: which blocks a call may have changed, and what stays; small facts on blocks. -/
import Derived.Test.YtimiojckinpfdaaRows
import Derived.WalkKit
import Derived.WalkSpells
import Derived.WalkLawsBesides
import Derived.Lib.Hide
import Derived.Laws.CopyOwn
import Derived.Deep.QuietTactic
import Derived.BigQuiet
import Derived.Laws.StructEq
import Derived.BigRegion
import Derived.IntWalk
import Derived.Laws.LoneSync
namespace Go.Proofs.Ytimiojckinpfdaa
open Go.RowKit

/-- Of the blocks that were there, only those in S may have changed. -/
structure Only (S : Nat → Prop) (w w' : World) : Prop where
  os : w'.os = w.os
  tape : w'.tape = w.tape
  output : w'.output = w.output
  size : w.heap.size ≤ w'.heap.size
  block : ∀ k, k < w.heap.size → ¬ S k → w'.heap[k]? = w.heap[k]?

theorem Only.refl (S : Nat → Prop) (w : World) : Only S w w := ⟨rfl, rfl, rfl, Nat.le_refl _, fun _ _ _ => rfl⟩
theorem Only.trans {S : Nat → Prop} {a b c : World} (h : Only S a b) (k : Only S b c) : Only S a c :=
  ⟨k.os.trans h.os, k.tape.trans h.tape, k.output.trans h.output, Nat.le_trans h.size k.size, fun i hi hs => (k.block i (Nat.lt_of_lt_of_le hi h.size) hs).trans (h.block i hi hs)⟩
theorem Only.mono {S T : Nat → Prop} {w w' : World} (h : Only S w w') (hs : ∀ k, k < w.heap.size → S k → T k) : Only T w w' :=
  ⟨h.os, h.tape, h.output, h.size, fun k hk ht => h.block k hk (fun hh => ht (hs k hk hh))⟩
theorem Only.blk {S : Nat → Prop} {w w' : World} (h : Only S w w') {k : Nat} {o : Obj} (hk : w.heap[k]? = some o) (hs : ¬ S k) : w'.heap[k]? = some o := by
  have hl : k < w.heap.size := by
    rcases Nat.lt_or_ge k w.heap.size with h | h
    · exact h
    · simp [Array.getElem?_eq_none h] at hk
  rw [h.block k hl hs, hk]
theorem Only.drew {S : Nat → Prop} {a w : World} (h : Only S a w) : Only S a w.drew := ⟨h.os, h.tape, h.output, h.size, h.block⟩
theorem Only.drewN {S : Nat → Prop} {a w : World} (h : Only S a w) (n : Nat) : Only S a (w.drewN n) := ⟨h.os, h.tape, h.output, h.size, h.block⟩
theorem Only.alloc {S : Nat → Prop} {a w : World} (h : Only S a w) (o : Obj) : Only S a (w.alloc o) :=
  ⟨h.os, h.tape, h.output, by have := h.size; simp; omega, fun k hk hs => (Below.heap_alloc _ _ _ (Nat.lt_of_lt_of_le hk h.size)).trans (h.block k hk hs)⟩
theorem Only.setCell {S : Nat → Prop} {a w : World} (h : Only S a w) {p : Addr} (hp : a.heap.size ≤ p.block ∨ S p.block) (u : Value) : Only S a (w.setCell p u) :=
  ⟨h.os, h.tape, h.output, by have := h.size; simp [World.setCell]; omega, fun k hk hs => (Below.heap_setCell _ _ _ _ (by rintro rfl; rcases hp with hp | hp; omega; exact hs hp)).trans (h.block k hk hs)⟩
theorem Only.set1 (b : Nat) (w : World) (i : Nat) (u : Value) : Only (· = b) w (w.setCell ⟨b, i, none⟩ u) := (Only.refl (· = b) w).setCell (p := ⟨b, i, none⟩) (.inr rfl) u
theorem Only.grown {S : Nat → Prop} {a w w' : World} {row : Option Nat} (h : Only S a w) (hg : w.grownBy w' row) (hr : ∀ k, row = some k → a.heap.size ≤ k ∨ S k) : Only S a w' :=
  ⟨hg.os.trans h.os, hg.tape.trans h.tape, hg.output.trans h.output, Nat.le_trans h.size hg.size, fun k hk hs =>
    (hg.block k (Nat.lt_of_lt_of_le hk h.size) (fun e => by rcases hr k e.symm with hr | hr; omega; exact hs hr)).trans (h.block k hk hs)⟩
theorem Only.below {B : Nat} {w w' : World} (h : Only (fun k => B ≤ k) w w') (hB : B ≤ w.heap.size) : Below B w w' :=
  ⟨h.os, h.tape, h.output, h.size, fun k hk => h.block k (Nat.lt_of_lt_of_le hk hB) (by omega)⟩
/-- What a callee may have changed among blocks that this call made. -/
theorem Only.seq2 {S T : Nat → Prop} {a b c : World} (h : Only S a b) (k : Only T b c) (ht : ∀ i, T i → a.heap.size ≤ i ∨ S i) : Only S a c :=
  ⟨k.os.trans h.os, k.tape.trans h.tape, k.output.trans h.output, Nat.le_trans h.size k.size, fun i hi hs =>
    (k.block i (Nat.lt_of_lt_of_le hi h.size) (fun hh => by rcases ht i hh with q | q; omega; exact hs q)).trans (h.block i hi hs)⟩

theorem Only.cellAt {S : Nat → Prop} {w w' : World} (h : Only S w w') {b : Nat} (hb : b < w.heap.size) (hs : ¬ S b) (o : Nat) : w'.cell? ⟨b, o, none⟩ = w.cell? ⟨b, o, none⟩ := World.cell?_of_block (w := w) (h.block b hb hs)
/-- Only draws were made: the memory is as it was. -/
structure Still (w w' : World) : Prop where
  os : w'.os = w.os
  tape : w'.tape = w.tape
  output : w'.output = w.output
  heap : w'.heap = w.heap
theorem Still.refl (w : World) : Still w w := ⟨rfl, rfl, rfl, rfl⟩
theorem Still.trans {a b c : World} (h : Still a b) (k : Still b c) : Still a c := ⟨k.os.trans h.os, k.tape.trans h.tape, k.output.trans h.output, k.heap.trans h.heap⟩
theorem Still.drew {a w : World} (h : Still a w) : Still a w.drew := ⟨h.os, h.tape, h.output, h.heap⟩
theorem Still.drewN {a w : World} (h : Still a w) (n : Nat) : Still a (w.drewN n) := ⟨h.os, h.tape, h.output, h.heap⟩
theorem Still.only {w w' : World} (h : Still w w') (S : Nat → Prop) : Only S w w' := ⟨h.os, h.tape, h.output, by rw [h.heap]; exact Nat.le_refl _, fun _ _ _ => by rw [h.heap]⟩
theorem Still.cell {w w' : World} (h : Still w w') (a : Addr) : w'.cell? a = w.cell? a := by simp only [World.cell?, h.heap]
theorem Still.frozen {w w' : World} (h : Still w w') (a : Addr) : w'.frozen? a = w.frozen? a := by simp only [World.frozen?, h.heap]
theorem Still.grown {w w' : World} (h : Still w w') (row : Option Nat) : w.grownBy w' row := ⟨h.os, h.tape, h.output, by rw [h.heap]; exact Nat.le_refl _, fun _ _ _ => by rw [h.heap]⟩
theorem blk_lt {w : World} {k : Nat} {o : Obj} (hk : w.heap[k]? = some o) : k < w.heap.size := by
  rcases Nat.lt_or_ge k w.heap.size with h | h
  · exact h
  · simp [Array.getElem?_eq_none h] at hk
theorem blk_cell {w : World} {b : Nat} {c : Array Value} {t : TypeId} {f : Nat × Nat} (h : w.heap[b]? = some (.cells c t f)) (i : Nat) : w.cell? ⟨b, i, none⟩ = c[i]? := by simp [World.cell?, h]
theorem blk_free {w : World} {b : Nat} {c : Array Value} {t : TypeId} (h : w.heap[b]? = some (.cells c t (0, 0))) (i : Nat) : w.frozen? ⟨b, i, none⟩ = false := by simp [World.frozen?, h]
theorem blk_set {w : World} {b : Nat} {c : Array Value} {t : TypeId} {f : Nat × Nat} (h : w.heap[b]? = some (.cells c t f)) (i : Nat) (v : Value) : (w.setCell ⟨b, i, none⟩ v).heap[b]? = some (.cells (c.setIfInBounds i v) t f) := by
  simp [World.setCell, Array.getElem?_modify, h]
theorem blk_set_ne {w : World} {b : Nat} {o : Obj} (h : w.heap[b]? = some o) (p : Addr) (v : Value) (hne : b ≠ p.block) : (w.setCell p v).heap[b]? = some o := by
  rw [Below.heap_setCell _ _ _ _ hne, h]
theorem cell_set_ne {w : World} {b o : Nat} {x : Option Value} (h : w.cell? ⟨b, o, none⟩ = x) (p : Addr) (v : Value) (hne : b ≠ p.block) : (w.setCell p v).cell? ⟨b, o, none⟩ = x := by
  rw [← h]; exact World.cell?_of_block (w := w) (Below.heap_setCell _ _ _ _ hne)
theorem blk_alloc {w : World} {b : Nat} {o : Obj} (h : w.heap[b]? = some o) (o' : Obj) : (w.alloc o').heap[b]? = some o := by
  rw [Below.heap_alloc _ _ _ (blk_lt h), h]
theorem blk_new (w : World) (o : Obj) : (w.alloc o).heap[w.heap.size]? = some o := by
  show (w.heap.push o)[w.heap.size]? = _
  simp
theorem blk_drew {w : World} {b : Nat} {o : Obj} (h : w.heap[b]? = some o) : w.drew.heap[b]? = some o := h
theorem ret_eq {a b : Value} (h : a = b) : Ending.returned a = Ending.returned b := by rw [h]

end Go.Proofs.Ytimiojckinpfdaa

/- Append to a row of the call's own: what stays is told exactly (the old cells, every other block, where the new row lies). -/
namespace Go.Proofs.Ytimiojckinpfdaa
open Go.RowKit

/-- w' came of w by an append to v, which gave v': 'keep' cells of v's block stay, all other blocks stay. -/
structure Grew (w w' : World) (v v' : Value) (keep : Nat) : Prop where
  grown : w.grownBy w' v.ownBlock
  cells : ∀ g j, v.ownBlock = some g → j < keep → w'.cell? ⟨g, j, none⟩ = w.cell? ⟨g, j, none⟩
  froz : ∀ a : Addr, a.block < w.heap.size → w'.frozen? a = w.frozen? a
  which : v'.ownBlock = v.ownBlock ∨ ∃ g, v'.ownBlock = some g ∧ w.heap.size ≤ g
  tag : ∀ g cur t, v.ownBlock = some g → w.heap[g]? = some (.cells cur t (0, 0)) → ∃ cur', w'.heap[g]? = some (.cells cur' t (0, 0))

theorem grownBy_setCells (b : Nat) : ∀ (vs : List Value) (o : Nat) (w : World), w.grownBy (w.setCells b o vs) (some b)
  | [], _, w => ⟨rfl, rfl, rfl, Nat.le_refl _, fun _ _ _ => rfl⟩
  | v :: r, o, w => by
    have h := grownBy_setCells b r (o + 1) (w.setCell ⟨b, o, none⟩ v)
    have hs : (w.setCell ⟨b, o, none⟩ v).heap.size = w.heap.size := by simp [World.setCell]
    refine ⟨h.os, h.tape, h.output, by rw [← hs]; exact h.size, fun k hk hne => ?_⟩
    have h1 := h.block k (by rw [hs]; exact hk) hne
    rw [Below.heap_setCell _ _ _ _ (by rintro rfl; exact hne rfl)] at h1
    exact h1

theorem block_setCells (b : Nat) (e : TypeId) : ∀ (vs : List Value) (o : Nat) (w : World) (cur : Array Value), w.heap[b]? = some (.cells cur e (0, 0)) → o + vs.length ≤ cur.size →
    ∃ cur', (w.setCells b o vs).heap[b]? = some (.cells cur' e (0, 0)) ∧ cur'.size = cur.size ∧ cur'.toList.take (o + vs.length) = cur.toList.take o ++ vs
  | [], o, w, cur, h, _ => ⟨cur, h, rfl, by simp⟩
  | v :: r, o, w, cur, h, hl => by
    simp only [List.length_cons] at hl
    obtain ⟨cur', h1, h2, h3⟩ := block_setCells b e r (o + 1) (w.setCell ⟨b, o, none⟩ v) (cur.setIfInBounds o v) (blk_set h o v) (by simp; omega)
    refine ⟨cur', h1, by simpa using h2, ?_⟩
    rw [show o + (v :: r).length = o + 1 + r.length by simp; omega, h3]
    have : (cur.setIfInBounds o v).toList.take (o + 1) = cur.toList.take o ++ [v] := by
      rw [Array.toList_setIfInBounds]
      have hlo : o < (cur.toList.set o v).length := by simp; omega
      rw [List.take_succ_eq_append_getElem hlo, List.take_set_of_le (Nat.le_refl _)]
      simp
    rw [this]; simp

theorem wpList_append_kept {P : Program} (w : World) {ops : Array Oper} {rest : List Oper} {o : Oper} {a : Act} {Q : Exit → Act → World → Prop}
    (hg : o.guard = none) (s x : Operand) (t : TypeId) (hop : o.op = Op.call { callee := Callee.builtin Builtin.append, args := #[s, x], argTypes := #[t, t] })
    (e : TypeId) (i : TypeInfo) (z : Value) (size bytes : Nat) (h1 : P.underlying t = some (.slice e)) (h2 : P.info? e = some i) (h3 : i.zero = some z) (h4 : i.size = size) (h5 : i.bytes = bytes) (h6 : z.cells.size = size) (h7 : 0 < size)
    (base n : Nat) (v : Value) (xs : List Value) (hs : a.eval s = v) (ho : w.ownsRow base e size v n xs) (hbase : base ≤ w.heap.size)
    (ad : Addr) (m c : Nat) (news : List Value) (hx : a.eval x = .slice (some ad) m c) (hn : news.length = m * size) (hc : ∀ j u, news[j]? = some u → w.cell? (ad.add j) = some u) (h1c : ∀ u ∈ news, u.oneCell' = true)
    (hm : 0 < m) (b1 : n + m ≤ maxLen) (b2 : (n + m) * bytes ≤ 140737488355328)
    (hK : ∀ v' w', Grew w w' v v' (n * size) → w'.ownsRow base e size v' (n + m) (xs ++ news) → wpList P ops Q rest (a.put o.dst v') w') :
    wpList P ops Q (o :: rest) a w := by
  have grew : ∀ v' w', w'.ownsRow w.heap.size e size v' (n + m) (xs ++ news) → w.grownBy w' none → Grew w w' v v' (n * size) ∧ w'.ownsRow base e size v' (n + m) (xs ++ news) := by
    intro v' w' r1 r2
    refine ⟨⟨⟨r2.os, r2.tape, r2.output, r2.size, fun k hk _ => r2.block k hk (by simp)⟩, fun g j hgv hj => ?_, fun a ha => World.frozen?_of_block (w := w) (r2.block _ ha (by simp)), ?_, fun g cur t hgv hq => ⟨cur, by rw [r2.block _ (ho.lt g hgv).2 (by simp), hq]⟩⟩, ?_⟩
    · have hlt : g < w.heap.size := (ho.lt g hgv).2
      exact World.cell?_of_block (w := w) (r2.block _ hlt (by simp))
    · rcases r1.2 with ⟨rfl, h0⟩ | ⟨g, cap, cur, rfl, hg2, _⟩
      · omega
      · exact .inr ⟨g, rfl, hg2⟩
    · refine ⟨r1.1, ?_⟩
      rcases r1.2 with h | ⟨g, cap, cur, hv, hg2, r⟩
      · exact .inl h
      · exact .inr ⟨g, cap, cur, hv, by omega, r⟩
  rcases ho.2 with ⟨rfl, rfl⟩ | ⟨g, cap, cur, rfl, hg2, hblk, hnc, hcm, hcs, htake⟩
  · have hx0 : xs = [] := by have := ho.1; simpa using this
    subst hx0
    refine wpList_append_grows w hg s x t hop e i z size bytes h1 h2 h3 h4 h5 h6 h7 none 0 0 [] hs (fun _ => ⟨rfl, rfl⟩) (by simp) (fun b hb => by cases hb) ad m c news hx hn hc h1c (by omega) b1 b2 ?_
    intro v' w' r1 r2
    obtain ⟨q1, q2⟩ := grew v' w' r1 r2
    exact hK v' w' q1 q2
  · have hcell : ∀ j u, xs[j]? = some u → w.cell? ⟨g, 0 + j, none⟩ = some u := by
      intro j u hj
      rw [blk_cell hblk, Nat.zero_add, ← hj, ← htake]
      have hjl : j < xs.length := by
        rcases Nat.lt_or_ge j xs.length with q | q
        · exact q
        · rw [List.getElem?_eq_none q] at hj; cases hj
      rw [List.getElem?_take, if_pos (by have := ho.1; omega)]
      simp
    refine wpList_append_arg w hg s x t hop e i z size bytes h1 h2 h3 h4 h5 h6 h7 g 0 n cap xs hs ho.1 hcell ad m c news hx hn hc h1c ?_ b1 b2 ?_ ?_
    · intro hroom j hj
      have hlt : 0 + n * size + j < cur.size := by
        have : (n + m) * size ≤ cap * size := Nat.mul_le_mul_right _ hroom
        rw [Nat.add_mul] at this; omega
      refine ⟨?_, blk_free hblk _⟩
      rw [blk_cell hblk, Array.getElem?_eq_getElem hlt]; rfl
    · intro hroom
      have hsz : 0 + n * size + news.length ≤ cur.size := by
        have : (n + m) * size ≤ cap * size := Nat.mul_le_mul_right _ hroom
        rw [Nat.add_mul] at this; omega
      obtain ⟨cur', e1, e2, e3⟩ := block_setCells g e news (0 + n * size) w cur hblk hsz
      refine hK _ _ ⟨grownBy_setCells g news _ w, fun g' j hv hj => ?_, fun y _ => World.frozen?_setCells g news _ w y, .inl rfl, fun g' cu t hv hq => by
        have : g = g' := by simpa [Value.ownBlock] using hv
        subst this
        rw [hblk] at hq; injection hq with hq; injection hq with _ q _; subst q; exact ⟨cur', e1⟩⟩ ⟨?_, .inr ⟨g, cap, cur', rfl, hg2, e1, hroom, hcm, by omega, ?_⟩⟩
      · have : g = g' := by simpa [Value.ownBlock] using hv
        subst this
        exact World.cell?_setCells_out g news _ w _ (fun _ _ => .inl (by dsimp only; omega))
      · rw [List.length_append, ho.1, hn, Nat.add_mul]
      · rw [Nat.add_mul, ← hn, ← Nat.zero_add (n * size), e3, Nat.zero_add, htake]
    · intro hfull v' w' r1 r2
      obtain ⟨q1, q2⟩ := grew v' w' r1 r2
      exact hK v' w' q1 q2
end Go.Proofs.Ytimiojckinpfdaa

/- The builtin copy at elements of any number of cells, into a row of the call's own. -/
namespace Go.Proofs.Ytimiojckinpfdaa
open Go.RowKit

theorem run_copy_rows (P : Program) (w : World) (dT sT ty elem : TypeId) (size n : Nat) (g o dLen dCap : Nat) (a : Addr) (sLen sCap : Nat) (cur : Array Value) (t : TypeId) (cs : List Value)
    (hu : P.underlying dT = some (.slice elem)) (hs : (P.info? elem).map (·.size) = some size)
    (hg : w.heap[g]? = some (.cells cur t (0, 0))) (hm : Nat.min sLen dLen = n) (hn : cs.length = n * size)
    (hsrc : ∀ j v, cs[j]? = some v → w.cell? (a.add j) = some v) (hfit : o + cs.length ≤ cur.size) (h1 : ∀ v ∈ cs, v.oneCell' = true) :
    (Builtin.copy_ #[dT, sT] ty #[.slice (some ⟨g, o, none⟩) dLen dCap, .slice (some a) sLen sCap]).run P w =
      .ok (goInt n) (w.setRow g (cur.toList.take o ++ cs ++ cur.toList.drop (o + cs.length)).toArray) := by
  have hl := run_loadCells_list (P := P) w a cs hsrc
  have hst := run_storeCells_at P g o t cs 0 cur w hg (by simpa using hfit) h1
  rw [hn] at hl
  cases hq : P.info? elem with
  | none => simp [hq] at hs
  | some i =>
    have hi : i.size = size := by simpa [hq] using hs
    simp [Builtin.copy_, run_underlying hu, Builtin.lenOf, Builtin.firstCells, sizeOf, typeInfo, hq, hi, hm, hl, hst]

theorem wpList_copy_rows {P : Program} {w : World} {ops : Array Oper} {rest : List Oper} {o : Oper} {a : Act} {Q : Exit → Act → World → Prop} (hgd : o.guard = none) (d s : Operand) (dT sT : TypeId)
    (ho : o.op = .call { callee := .builtin .copy, args := #[d, s], argTypes := #[dT, sT] }) (elem : TypeId) (size n : Nat) (hu : P.underlying dT = some (.slice elem)) (hsz : (P.info? elem).map (·.size) = some size)
    (g dLen dCap sLen sCap : Nat) (sp : Option Addr) (hd : a.eval d = .slice (some ⟨g, 0, none⟩) dLen dCap) (hs : a.eval s = .slice sp sLen sCap) (hnil : sp = none → sLen = 0 ∧ sCap = 0)
    (cur : List Value) (t : TypeId) (hg : w.heap[g]? = some (.cells cur.toArray t (0, 0))) (cs : List Value) (hm : Nat.min sLen dLen = n) (hn : cs.length = n * size)
    (hsrc : ∀ ad j v, sp = some ad → cs[j]? = some v → w.cell? (ad.add j) = some v)
    (hfit : cs.length ≤ cur.length) (h1 : ∀ v ∈ cs, v.oneCell' = true)
    (h : ∀ w', w'.heap[g]? = some (.cells (cs ++ cur.drop cs.length).toArray t (0, 0)) → Only (· = g) w w' → wpList P ops Q rest (a.put o.dst (goInt n)) w') :
    wpList P ops Q (o :: rest) a w := by
  refine wpList_plain hgd fun K hK => ?_
  cases sp with
  | none =>
    obtain ⟨rfl, rfl⟩ := hnil rfl
    have hn0 : n = 0 := by rw [← hm]; simp
    subst hn0
    have hcs : cs = [] := List.eq_nil_of_length_eq_zero (by simpa using hn)
    subst hcs
    have hrun := run_copy_nil (P := P) w dT sT o.type elem ⟨g, 0, none⟩ dLen dCap hu (by rw [hsz]; rfl)
    unfold Oper.wp
    simp [execOp, ho, resolve, invoke, builtin, hd, hs, hrun, Result.andThen]
    exact hK _ _ (h w (by simpa using hg) (Only.refl _ _))
  | some ad =>
    have hrun := run_copy_rows P w dT sT o.type elem size n g 0 dLen dCap ad sLen sCap cur.toArray t cs hu hsz hg hm hn (fun j v hj => hsrc ad j v rfl hj) (by simpa using hfit) h1
    unfold Oper.wp
    simp [execOp, ho, resolve, invoke, builtin, hd, hs, hrun, Result.andThen]
    refine hK _ _ (h _ (by simpa using setRow_heap w g _ _ t _ hg) ⟨rfl, rfl, rfl, by simp [World.setRow], fun k hk hne => setRow_other w g k _ hne⟩)
end Go.Proofs.Ytimiojckinpfdaa

/- Plain facts on lists of counts: sorted lists, what the merge of two runs needs, and the sums by index. -/
namespace Go.Proofs.Ytimiojckinpfdaa.Srt

/-- a count: its index, how many -/
abbrev Cn := Int × Nat
def Sorted (l : List Cn) : Prop := l.Pairwise fun x y => x.1 ≤ y.1
def Below (l r : List Cn) : Prop := ∀ x ∈ l, ∀ y ∈ r, x.1 ≤ y.1

theorem sorted_app {l r : List Cn} : Sorted (l ++ r) ↔ Sorted l ∧ Sorted r ∧ Below l r := by
  unfold Sorted Below; rw [List.pairwise_append]
theorem sorted_one (x : Cn) : Sorted [x] := by unfold Sorted; simp
theorem sorted_nil : Sorted [] := List.Pairwise.nil
theorem Below.perm {l r l' r' : List Cn} (h : Below l r) (p : l'.Perm l) (q : r'.Perm r) : Below l' r' :=
  fun x hx y hy => h x (p.mem_iff.1 hx) y (q.mem_iff.1 hy)
theorem below_app_l {a b r : List Cn} : Below (a ++ b) r ↔ Below a r ∧ Below b r := by
  unfold Below
  constructor
  · intro h; exact ⟨fun x hx => h x (by simp [hx]), fun x hx => h x (by simp [hx])⟩
  · rintro ⟨h, k⟩ x hx
    rcases List.mem_append.1 hx with hx | hx
    · exact h x hx
    · exact k x hx
theorem below_app_r {a b r : List Cn} : Below r (a ++ b) ↔ Below r a ∧ Below r b := by
  unfold Below
  constructor
  · intro h; exact ⟨fun x hx y hy => h x hx y (by simp [hy]), fun x hx y hy => h x hx y (by simp [hy])⟩
  · rintro ⟨h, k⟩ x hx y hy
    rcases List.mem_append.1 hy with hy | hy
    · exact h x hx y hy
    · exact k x hx y hy
theorem below_nil_l (r : List Cn) : Below [] r := fun x hx => by cases hx
theorem below_nil_r (r : List Cn) : Below r [] := fun _ _ y hy => by cases hy

/-- two runs of which each last one stands ahead of the other's first one -/
theorem below_of_ends {a : List Cn} {x y : Cn} {b : List Cn} (ha : Sorted (a ++ [x])) (hb : Sorted (y :: b)) (h : x.1 ≤ y.1) : Below (a ++ [x]) (y :: b) := by
  intro u hu v hv
  have h1 : u.1 ≤ x.1 := by
    rcases List.mem_append.1 hu with hu | hu
    · exact (sorted_app.1 ha).2.2 u hu x (by simp)
    · simp at hu; rw [hu]; exact Int.le_refl _
  have h2 : y.1 ≤ v.1 := by
    rcases List.mem_cons.1 hv with rfl | hv
    · exact Int.le_refl _
    · exact (List.pairwise_cons.1 hb).1 v hv
  omega

/-- the last step of the merge of two runs: the four parts laid anew -/
theorem merge_parts {A1 A2 B1 B2 C1 C2 : List Cn} (hA : Sorted (A1 ++ A2)) (hB : Sorted (B1 ++ B2)) (h1 : Below A1 B2) (h2 : Below B1 A2)
    (p1 : C1.Perm (A1 ++ B1)) (s1 : Sorted C1) (p2 : C2.Perm (A2 ++ B2)) (s2 : Sorted C2) : Sorted (C1 ++ C2) ∧ (C1 ++ C2).Perm (A1 ++ A2 ++ (B1 ++ B2)) := by
  refine ⟨sorted_app.2 ⟨s1, s2, ?_⟩, ?_⟩
  · refine Below.perm (l := A1 ++ B1) (r := A2 ++ B2) ?_ p1 p2
    exact below_app_l.2 ⟨below_app_r.2 ⟨(sorted_app.1 hA).2.2, h1⟩, below_app_r.2 ⟨h2, (sorted_app.1 hB).2.2⟩⟩
  · refine (p1.append p2).trans ?_
    rw [List.append_assoc, List.append_assoc]
    refine List.Perm.append_left A1 ?_
    rw [← List.append_assoc, ← List.append_assoc]
    exact List.Perm.append_right B2 List.perm_append_comm

/-- the sum, of an index -/
def sumK (k : Int) : List Cn → Nat
  | [] => 0
  | x :: r => (if x.1 = k then x.2 else 0) + sumK k r
theorem sumK_app (k : Int) (l r : List Cn) : sumK k (l ++ r) = sumK k l + sumK k r := by
  induction l with
  | nil => simp [sumK]
  | cons x t ih => simp only [List.cons_append, sumK, ih]; omega
theorem sumK_perm {l r : List Cn} (h : l.Perm r) (k : Int) : sumK k l = sumK k r := by
  induction h with
  | nil => rfl
  | cons x _ ih => simp only [sumK, ih]
  | swap x y l => simp only [sumK]; omega
  | trans _ _ i1 i2 => rw [i1, i2]
theorem sumK_none {l : List Cn} {k : Int} (h : ∀ x ∈ l, x.1 ≠ k) : sumK k l = 0 := by
  induction l with
  | nil => rfl
  | cons x t ih => simp only [sumK]; rw [if_neg (h x (by simp)), ih (fun y hy => h y (by simp [hy]))]

/-- rising indices, none of them twice -/
def Strict (l : List Cn) : Prop := l.Pairwise fun x y => x.1 < y.1
/-- R holds the sums of L, by rising index, none of them 0 -/
structure Norm (L R : List Cn) : Prop where
  up : Strict R
  pos : ∀ x ∈ R, x.2 ≠ 0 ∧ x.2 < 18446744073709551616
  sum : ∀ k, sumK k R % 18446744073709551616 = sumK k L % 18446744073709551616
theorem strict_sum {x : Cn} {l : List Cn} (h : Strict (x :: l)) : sumK x.1 (x :: l) = x.2 := by
  have := sumK_none (l := l) (k := x.1) (fun y hy => by have := (List.pairwise_cons.1 h).1 y hy; omega)
  simp [sumK, this]
theorem strict_le {x y : Cn} {l : List Cn} (h : Strict (x :: l)) (hy : y ∈ x :: l) : x.1 ≤ y.1 := by
  rcases List.mem_cons.1 hy with rfl | hy
  · exact Int.le_refl _
  · have := (List.pairwise_cons.1 h).1 y hy; omega
theorem uniq : ∀ (R R' : List Cn), Strict R → Strict R' → (∀ x ∈ R, x.2 ≠ 0 ∧ x.2 < 18446744073709551616) → (∀ x ∈ R', x.2 ≠ 0 ∧ x.2 < 18446744073709551616) →
    (∀ k, sumK k R % 18446744073709551616 = sumK k R' % 18446744073709551616) → R = R' := by
  have lem : ∀ (x : Cn) (t R' : List Cn), Strict (x :: t) → Strict R' → x.2 ≠ 0 → x.2 < 18446744073709551616 → (∀ k, sumK k (x :: t) % 18446744073709551616 = sumK k R' % 18446744073709551616) → ∃ y r, R' = y :: r ∧ y.1 ≤ x.1 := by
    intro x t R' h h' h0 h1 hs
    cases R' with
    | nil => have := hs x.1; rw [strict_sum h] at this; simp [sumK] at this; omega
    | cons y r =>
      refine ⟨y, r, rfl, ?_⟩
      rcases Int.lt_or_le x.1 y.1 with hlt | hle
      · have e : sumK x.1 (y :: r) = 0 := sumK_none (fun z hz => by have := strict_le h' hz; omega)
        have := hs x.1; rw [strict_sum h, e] at this; omega
      · exact hle
  intro R
  induction R with
  | nil =>
    intro R' _ h' _ p' hs
    cases R' with
    | nil => rfl
    | cons y r =>
      have := hs y.1; rw [strict_sum h'] at this; simp [sumK] at this
      have := p' y (by simp); omega
  | cons x t ih =>
    intro R' h h' p p' hs
    obtain ⟨y, r, rfl, hyx⟩ := lem x t R' h h' (p x (by simp)).1 (p x (by simp)).2 hs
    obtain ⟨x', t', e, hxy⟩ := lem y r (x :: t) h' h (p' y (by simp)).1 (p' y (by simp)).2 (fun k => (hs k).symm)
    obtain ⟨rfl, rfl⟩ := List.cons.inj e
    have e1 : x.1 = y.1 := by omega
    have e2 : x.2 = y.2 := by
      have h3 := hs x.1
      rw [strict_sum h] at h3
      rw [e1, strict_sum h'] at h3
      have := (p x (by simp)).2; have := (p' y (by simp)).2; omega
    have e3 : x = y := Prod.ext e1 e2
    subst e3
    rw [ih r (List.pairwise_cons.1 h).2 (List.pairwise_cons.1 h').2 (fun z hz => p z (by simp [hz])) (fun z hz => p' z (by simp [hz])) (fun k => by
      have h3 := hs k; simp only [sumK] at h3
      by_cases hk : x.1 = k
      · rw [sumK_none (l := t) (fun z hz => by have := (List.pairwise_cons.1 h).1 z hz; omega), sumK_none (l := r) (fun z hz => by have := (List.pairwise_cons.1 h').1 z hz; omega)]
      · rw [if_neg hk, Nat.zero_add, Nat.zero_add] at h3; exact h3)]
theorem Norm.uniq {L L' R R' : List Cn} (h : Norm L R) (h' : Norm L' R') (hs : ∀ k, sumK k L = sumK k L') : R = R' :=
  Srt.uniq R R' h.up h'.up h.pos h'.pos (fun k => by rw [h.sum, h'.sum, hs])

/-- runs of s, each sorted; the last one may be shorter -/
inductive Runs (s : Nat) : List Cn → Prop
  | last (l : List Cn) : Sorted l → l.length ≤ s → Runs s l
  | more (l r : List Cn) : Sorted l → l.length = s → Runs s r → Runs s (l ++ r)
/-- runs of s, none of them shorter -/
inductive Full (s : Nat) : List Cn → Prop
  | none : Full s []
  | more (l r : List Cn) : Full s l → Sorted r → r.length = s → Full s (l ++ r)
theorem Full.len {s : Nat} {l : List Cn} (h : Full s l) : ∃ k, l.length = k * s := by
  induction h with
  | none => exact ⟨0, by simp⟩
  | more l r _ _ hr ih => obtain ⟨k, hk⟩ := ih; exact ⟨k + 1, by rw [List.length_append, hk, hr, Nat.add_mul]; omega⟩
theorem Full.runs {s : Nat} {l : List Cn} (h : Full s l) : ∀ {r : List Cn}, Runs s r → Runs s (l ++ r) := by
  induction h with
  | none => intro r hr; exact hr
  | more l x _ hx hl ih => intro r hr; rw [List.append_assoc]; exact ih (Runs.more x r hx hl hr)
theorem Runs.one {s : Nat} {l : List Cn} (h : Runs s l) (hl : l.length ≤ s) : Sorted l := by
  cases h with
  | last _ h _ => exact h
  | more l r hl' h2 hr =>
    have : r = [] := by rw [List.length_append] at hl; exact List.length_eq_zero_iff.1 (by omega)
    subst this; rw [List.append_nil]; exact hl'
/-- two runs at the head -/
theorem Runs.two {s : Nat} {l : List Cn} (h : Runs s l) (hs : 0 < s) (hl : 2 * s ≤ l.length) : ∃ x y r, l = x ++ y ++ r ∧ Sorted x ∧ Sorted y ∧ x.length = s ∧ y.length = s ∧ (Runs s r) := by
  cases h with
  | last _ _ h2 => omega
  | more x t hx h2 ht =>
    rw [List.length_append] at hl
    cases ht with
    | last _ h3 h4 => exact ⟨x, t, [], by simp, hx, h3, h2, by omega, Runs.last [] sorted_nil (by simp)⟩
    | more y r hy h5 hr => exact ⟨x, y, r, by simp, hx, hy, h2, h5, hr⟩
/-- a run and a shorter one -/
theorem Runs.rest {s : Nat} {l : List Cn} (h : Runs s l) (hl : l.length < 2 * s) (h1 : s < l.length) : ∃ x y, l = x ++ y ∧ Sorted x ∧ Sorted y ∧ x.length = s ∧ y ≠ [] := by
  cases h with
  | last _ _ h2 => omega
  | more x t hx h2 ht =>
    rw [List.length_append] at hl h1
    exact ⟨x, t, rfl, hx, ht.one (by omega), h2, by rintro rfl; simp at h1; omega⟩
end Go.Proofs.Ytimiojckinpfdaa.Srt

/- Slices of structs of two cells, read; the walk of SameCounts. -/
namespace Go.Proofs.Ytimiojckinpfdaa
open Go.RowKit

/-- n structs of two cells, at p -/
def Two (w : World) (p : Option Addr) (n : Nat) (f g : Nat → Value) : Prop :=
  ∀ i, i < n → ∃ b o, p = some ⟨b, o, none⟩ ∧ b < w.heap.size ∧ w.cell? ⟨b, o + i * 2, none⟩ = some (f i) ∧ w.cell? ⟨b, o + i * 2 + 1, none⟩ = some (g i)
theorem Two.only {S : Nat → Prop} {w w' : World} {p : Option Addr} {n : Nat} {f g : Nat → Value} (h : Two w p n f g) (O : Only S w w') (hs : ∀ a, p = some a → ¬ S a.block) : Two w' p n f g := by
  intro i hi
  obtain ⟨b, o, rfl, h1, h2, h3⟩ := h i hi
  have hb := hs _ rfl
  exact ⟨b, o, rfl, Nat.lt_of_lt_of_le h1 O.size, by rw [O.cellAt h1 hb, h2], by rw [O.cellAt h1 hb, h3]⟩
theorem Two.still {w w' : World} {p : Option Addr} {n : Nat} {f g : Nat → Value} (h : Two w p n f g) (O : Still w w') : Two w' p n f g :=
  h.only (O.only (fun _ => False)) (fun _ _ => id)
theorem Two.congr {w : World} {p : Option Addr} {n : Nat} {f g f' g' : Nat → Value} (h : Two w p n f g) (e1 : ∀ i, i < n → f i = f' i) (e2 : ∀ i, i < n → g i = g' i) : Two w p n f' g' := by
  intro i hi
  obtain ⟨b, o, rfl, h1, h2, h3⟩ := h i hi
  exact ⟨b, o, rfl, h1, by rw [h2, e1 i hi], by rw [h3, e2 i hi]⟩
/-- the cells of n counts -/
def ci (c : Nat → Srt.Cn) (i : Nat) : Value := .int .i64 (c i).1
def cn (c : Nat → Srt.Cn) (i : Nat) : Value := .int .u64 ((c i).2 : Nat)
abbrev Cnts (w : World) (p : Option Addr) (n : Nat) (c : Nat → Srt.Cn) : Prop := Two w p n (ci c) (cn c)

theorem run_ne55 (h l h' l' : Int) (w : World) : Sem.run Try.prog (binOp .neq 55 (.agg #[.int .i64 h, .int .u64 l]) (.agg #[.int .i64 h', .int .u64 l'])) w = .ok (.bool (!(h == h' && l == l'))) w := by
  have u3 := Try.underlying3
  have u4 := Try.underlying33
  have hS : Try.prog.underlying 55 = some (.struct (Try.prog.fieldsOf 55)) := by kernel_rfl
  have hp : Try.prog.stoodInHeld 55 = false := by kernel_rfl
  rw [run_neq_struct, show (10000 : Nat) = 9999 + 1 from rfl, run_equalIn_struct w 9999 55 _ _ hS hp]
  simp only [Program.fieldsOf, Try.underlying55]
  go_simp
  by_cases h1 : h = h' <;> by_cases h2 : l = l' <;> simp_all [go_sem]
theorem run_ne55s (h l : Int) (w : World) : Sem.run Try.prog (binOp .neq 55 (.agg #[.int .i64 h, .int .u64 l]) (.agg #[.int .i64 h, .int .u64 l])) w = .ok (.bool false) w := by
  rw [run_ne55]; simp

set_option maxHeartbeats 1000000 in
theorem same_counts (p q : Option Addr) (n c1 c2 : Nat) (c : Nat → Srt.Cn) (w : World) (hn : n ≤ 9223372036854775807) (hp : Cnts w p n c) (hq : Cnts w q n c) :
    Calls Try.prog 50 #[.slice p n c1, .slice q n c2] w fun e w' => e = .returned (.bool true) ∧ Still w w' := by
  have hp' := Lib.hid hp
  have hq' := Lib.hid hq
  clear hp hq
  have kn := run_ne55s
  go_enter Try.func50, Try.ntmps50
  go_wp2_with fail
  go_loopw [5] (fun i wr => ∃ k : Nat, k ≤ n ∧ i = .int .i64 k ∧ Still w wr) (fun i _ => n - (intOf i).toNat)
  case atStart => exact ⟨0, Nat.zero_le _, rfl, Still.refl _⟩
  case round =>
    obtain ⟨k, hk, rfl, hst⟩ := hrel
    by_cases hlt : k < n
    · obtain ⟨b1, o1, rfl, g1, d1, e1⟩ := hp'.out k hlt
      obtain ⟨b2, o2, rfl, g2, d2, e2⟩ := hq'.out k hlt
      rw [← hst.cell] at d1 e1 d2 e2
      unfold ci at d1 d2
      unfold cn at e1 e2
      generalize (c k).1 = x at *
      generalize (c k).2 = y at *
      have hst' := Lib.hid hst; clear hst
      go_wp2_with fail
      go_quiet (fail)
      go_wp2
      go_roundw
      case rel => exact ⟨k + 1, by omega, by go_num, hst'.out.drewN _⟩
      case measure => simp [intOf]; omega
    · obtain rfl : k = n := by omega
      go_wp2_with fail
      go_ret
      exact ⟨rfl, hst⟩
end Go.Proofs.Ytimiojckinpfdaa

/- Plain facts on a row that is sorted in place: windows, swaps, turns (rotations), and the two searches of the merge. -/
namespace Go.Proofs.Ytimiojckinpfdaa.Srt

/-- the window from a to b -/
def win (f : Nat → Cn) (a b : Nat) : List Cn := (List.range' a (b - a)).map f
theorem win_len (f : Nat → Cn) (a b : Nat) : (win f a b).length = b - a := by simp [win]
theorem win_nil (f : Nat → Cn) {a b : Nat} (h : b ≤ a) : win f a b = [] := by
  unfold win; rw [show b - a = 0 by omega]; rfl
theorem win_app (f : Nat → Cn) {a m b : Nat} (h1 : a ≤ m) (h2 : m ≤ b) : win f a b = win f a m ++ win f m b := by
  unfold win
  rw [← List.map_append]
  congr 1
  have := List.range'_append (s := a) (m := m - a) (n := b - m) (step := 1)
  rw [show a + 1 * (m - a) = m by omega, show m - a + (b - m) = b - a by omega] at this
  exact this.symm
theorem win_congr {f g : Nat → Cn} {a b : Nat} (h : ∀ k, a ≤ k → k < b → f k = g k) : win f a b = win g a b := by
  unfold win
  apply List.map_congr_left
  intro k hk
  rw [List.mem_range'_1] at hk
  exact h k hk.1 (by omega)
theorem win_shift {f g : Nat → Cn} {a b c d : Nat} (hl : b - a = d - c) (h : ∀ k, k < b - a → f (a + k) = g (c + k)) : win f a b = win g c d := by
  unfold win
  apply List.ext_getElem
  · simp [hl]
  · intro i h1 h2
    simp at h1 h2
    simp [h i h1]
theorem win_one (f : Nat → Cn) (a : Nat) : win f a (a + 1) = [f a] := by unfold win; rw [show a + 1 - a = 1 by omega]; rfl
theorem win_cons (f : Nat → Cn) {a b : Nat} (h : a < b) : win f a b = f a :: win f (a + 1) b := by
  rw [win_app f (m := a + 1) (by omega) (by omega), win_one]; rfl
theorem win_snoc (f : Nat → Cn) {a b : Nat} (h : a ≤ b) : win f a (b + 1) = win f a b ++ [f b] := by
  rw [win_app f h (by omega), win_one]
theorem mem_win {f : Nat → Cn} {a b : Nat} {x : Cn} : x ∈ win f a b ↔ ∃ k, a ≤ k ∧ k < b ∧ f k = x := by
  unfold win
  simp only [List.mem_map, List.mem_range'_1]
  constructor
  · rintro ⟨k, ⟨h1, h2⟩, h3⟩; exact ⟨k, h1, by omega, h3⟩
  · rintro ⟨k, h1, h2, h3⟩; exact ⟨k, ⟨h1, by omega⟩, h3⟩
theorem sorted_win {f : Nat → Cn} {a b : Nat} : Sorted (win f a b) ↔ ∀ i j, a ≤ i → i < j → j < b → (f i).1 ≤ (f j).1 := by
  unfold Sorted
  rw [List.pairwise_iff_getElem]
  simp only [win_len]
  constructor
  · intro h i j h1 h2 h3
    have := h (i - a) (j - a) (by omega) (by omega) (by omega)
    simp only [win, List.getElem_map, List.getElem_range'] at this
    rw [show a + 1 * (i - a) = i by omega, show a + 1 * (j - a) = j by omega] at this
    exact this
  · intro h i j h1 h2 h3
    simp only [win, List.getElem_map, List.getElem_range']
    exact h _ _ (by omega) (by omega) (by omega)
theorem sorted_le {f : Nat → Cn} {a b : Nat} (h : Sorted (win f a b)) {i j : Nat} (h1 : a ≤ i) (h2 : i ≤ j) (h3 : j < b) : (f i).1 ≤ (f j).1 := by
  rcases Nat.lt_or_eq_of_le h2 with h4 | rfl
  · exact sorted_win.1 h i j h1 h4 h3
  · exact Int.le_refl _
theorem sorted_part {f : Nat → Cn} {a b c d : Nat} (h : Sorted (win f a b)) (h1 : a ≤ c) (h2 : d ≤ b) : Sorted (win f c d) :=
  sorted_win.2 fun i j q1 q2 q3 => sorted_win.1 h i j (by omega) q2 (by omega)
theorem below_win {f g : Nat → Cn} {a b c d : Nat} : Below (win f a b) (win g c d) ↔ ∀ i j, a ≤ i → i < b → c ≤ j → j < d → (f i).1 ≤ (g j).1 := by
  unfold Below
  constructor
  · intro h i j h1 h2 h3 h4
    exact h _ (mem_win.2 ⟨i, h1, h2, rfl⟩) _ (mem_win.2 ⟨j, h3, h4, rfl⟩)
  · intro h x hx y hy
    obtain ⟨i, h1, h2, rfl⟩ := mem_win.1 hx
    obtain ⟨j, h3, h4, rfl⟩ := mem_win.1 hy
    exact h i j h1 h2 h3 h4

/-- two elements change places -/
def swp (f : Nat → Cn) (i j : Nat) : Nat → Cn := fun k => if k = i then f j else if k = j then f i else f k
theorem swp_out (f : Nat → Cn) {i j k : Nat} (h1 : k ≠ i) (h2 : k ≠ j) : swp f i j k = f k := by unfold swp; rw [if_neg h1, if_neg h2]
theorem swp_l (f : Nat → Cn) (i j : Nat) : swp f i j i = f j := if_pos rfl
theorem swp_r (f : Nat → Cn) (i j : Nat) : swp f i j j = f i := by
  unfold swp; split
  · rename_i h; rw [h]
  · exact if_pos rfl
theorem perm_swp1 (f : Nat → Cn) {a b i : Nat} (h1 : a ≤ i) (h2 : i + 1 < b) : (win (swp f i (i + 1)) a b).Perm (win f a b) := by
  rw [win_app _ (m := i) h1 (by omega), win_app f (m := i) h1 (by omega)]
  rw [win_congr (f := swp f i (i + 1)) (g := f) (a := a) (b := i) (fun k q1 q2 => swp_out f (by omega) (by omega))]
  refine List.Perm.append_left _ ?_
  rw [win_cons _ (by omega), win_cons _ (a := i + 1) h2, win_cons f (a := i) (by omega), win_cons f (a := i + 1) h2, swp_l, swp_r]
  rw [win_congr (f := swp f i (i + 1)) (g := f) (a := i + 1 + 1) (b := b) (fun k q1 q2 => swp_out f (by omega) (by omega))]
  exact List.Perm.swap _ _ _
/-- what a step did: a window's elements anew, all others as they were -/
structure Anew (f g : Nat → Cn) (a b : Nat) : Prop where
  perm : (win g a b).Perm (win f a b)
  out : ∀ k, ¬ (a ≤ k ∧ k < b) → g k = f k
theorem Anew.refl (f : Nat → Cn) (a b : Nat) : Anew f f a b := ⟨List.Perm.refl _, fun _ _ => rfl⟩
theorem Anew.trans {f g h : Nat → Cn} {a b : Nat} (x : Anew f g a b) (y : Anew g h a b) : Anew f h a b :=
  ⟨y.perm.trans x.perm, fun k hk => (y.out k hk).trans (x.out k hk)⟩
theorem Anew.wide {f g : Nat → Cn} {a b c d : Nat} (x : Anew f g a b) (h0 : a ≤ b) (h1 : c ≤ a) (h2 : b ≤ d) : Anew f g c d := by
  refine ⟨?_, fun k hk => x.out k (by omega)⟩
  rw [win_app g (a := c) (m := a) (b := d) h1 (by omega), win_app f (a := c) (m := a) (b := d) h1 (by omega), win_app g (a := a) (m := b) (b := d) h0 h2, win_app f (a := a) (m := b) (b := d) h0 h2]
  rw [win_congr (f := g) (g := f) (a := c) (b := a) (fun k _ _ => x.out k (by omega)), win_congr (f := g) (g := f) (a := b) (b := d) (fun k _ _ => x.out k (by omega))]
  exact List.Perm.append_left _ (List.Perm.append_right _ x.perm)
theorem Anew.same {f g : Nat → Cn} {a b c d : Nat} (x : Anew f g a b) (h : d ≤ a ∨ b ≤ c) : win g c d = win f c d :=
  win_congr fun k h1 h2 => x.out k (by omega)

/-- two stretches of n elements change places -/
def swr (f : Nat → Cn) (a b n : Nat) : Nat → Cn := fun k => if a ≤ k ∧ k < a + n then f (k - a + b) else if b ≤ k ∧ k < b + n then f (k - b + a) else f k
theorem swr_zero (f : Nat → Cn) (a b : Nat) : swr f a b 0 = f := by funext k; unfold swr; rw [if_neg (by omega), if_neg (by omega)]
theorem swr_step (f : Nat → Cn) {a b n : Nat} (h : a + n < b) : swp (swr f a b n) (a + n) (b + n) = swr f a b (n + 1) := by
  funext k
  unfold swp swr
  repeat' split
  all_goals first | rfl | (exfalso; omega) | (congr 1; omega)
/-- a turn: what stands from m to b is brought ahead of what stands from a to m -/
def rot (f : Nat → Cn) (a m b : Nat) : Nat → Cn := fun k => if a ≤ k ∧ k < a + (b - m) then f (k - a + m) else if a + (b - m) ≤ k ∧ k < b then f (k - (b - m)) else f k
theorem rot_gt (f : Nat → Cn) {i j m : Nat} (h1 : i ≤ m) (h2 : j < i) : rot (swr f (m - i) m j) (m - (i - j)) m (m + j) = rot f (m - i) m (m + j) := by
  funext k
  unfold rot swr
  repeat' split
  all_goals first | rfl | (exfalso; omega) | (congr 1; omega)
theorem rot_lt (f : Nat → Cn) {i j m : Nat} (h1 : i ≤ m) (h2 : i < j) : rot (swr f (m - i) (m + j - i) i) (m - i) m (m + (j - i)) = rot f (m - i) m (m + j) := by
  funext k
  unfold rot swr
  repeat' split
  all_goals first | rfl | (exfalso; omega) | (congr 1; omega)
theorem rot_eq (f : Nat → Cn) {i m : Nat} (h1 : i ≤ m) : swr f (m - i) m i = rot f (m - i) m (m + i) := by
  funext k
  unfold rot swr
  repeat' split
  all_goals first | rfl | (exfalso; omega) | (congr 1; omega)
theorem rot_win (f : Nat → Cn) {a m b : Nat} (h1 : a ≤ m) (h2 : m ≤ b) : win (rot f a m b) a (a + (b - m)) = win f m b ∧ win (rot f a m b) (a + (b - m)) b = win f a m := by
  constructor
  · refine win_shift (by omega) fun k hk => ?_
    unfold rot; rw [if_pos (by omega)]; congr 1; omega
  · refine win_shift (by omega) fun k hk => ?_
    unfold rot; rw [if_neg (by omega), if_pos (by omega)]; congr 1; omega
theorem rot_anew (f : Nat → Cn) {a m b : Nat} (h1 : a ≤ m) (h2 : m ≤ b) : Anew f (rot f a m b) a b := by
  obtain ⟨e1, e2⟩ := rot_win f h1 h2
  refine ⟨?_, fun k hk => ?_⟩
  · rw [win_app _ (m := a + (b - m)) (by omega) (by omega), e1, e2, win_app f h1 h2]
    exact List.perm_append_comm
  · unfold rot; rw [if_neg (by omega), if_neg (by omega)]

/-- the merge's cut: what stands ahead of s in the first run and ahead of e in the second one goes ahead -/
structure Cut (f : Nat → Cn) (a m b s e : Nat) : Prop where
  h1 : a ≤ s
  h2 : s ≤ m
  h3 : m ≤ e
  h4 : e ≤ b
  l1 : ∀ i j, a ≤ i → i < s → e ≤ j → j < b → (f i).1 ≤ (f j).1
  l2 : ∀ i j, m ≤ i → i < e → s ≤ j → j < m → (f i).1 ≤ (f j).1
/-- the four parts behind the turn, each pair merged: the whole is sorted -/
theorem merged {f g h : Nat → Cn} {a m b s e c : Nat} (ha : Sorted (win f a m)) (hb : Sorted (win f m b)) (k : Cut f a m b s e) (hc : c = s + (e - m))
    (g1 : Anew (rot f s m e) g a c) (s1 : Sorted (win g a c)) (g2 : Anew g h c b) (s2 : Sorted (win h c b)) : Anew f h a b ∧ Sorted (win h a b) := by
  obtain ⟨k1, k2, k3, k4, l1, l2⟩ := k
  obtain ⟨e1, e2⟩ := rot_win f k2 k3
  rw [← hc] at e1 e2
  have hac : a ≤ c := by omega
  have hcb : c ≤ b := by omega
  have r := (rot_anew f k2 k3).wide (by omega) k1 k4
  have A := (r.trans (g1.wide hac (Nat.le_refl _) hcb)).trans (g2.wide hcb hac (Nat.le_refl _))
  refine ⟨A, ?_⟩
  have w1 : win h a c = win g a c := g2.same (.inl (Nat.le_refl _))
  have w2 : win g c b = win (rot f s m e) c b := g1.same (.inr (Nat.le_refl _))
  have p1 : (win g a c).Perm (win f a s ++ win f m e) := by
    refine g1.perm.trans ?_
    rw [win_app (rot f s m e) (m := s) k1 (by omega), e1]
    rw [(rot_anew f k2 k3).same (.inl (Nat.le_refl _))]
  have p2 : (win h c b).Perm (win f s m ++ win f e b) := by
    refine g2.perm.trans ?_
    rw [w2, win_app (rot f s m e) (m := e) (by omega) k4, e2]
    rw [(rot_anew f k2 k3).same (.inr (Nat.le_refl _))]
  rw [win_app f k1 k2] at ha
  rw [win_app f k3 k4] at hb
  have := merge_parts (C1 := win g a c) (C2 := win h c b) ha hb (below_win.2 l1) (below_win.2 l2) p1 s1 p2 s2
  rw [win_app h hac hcb, w1]
  exact this.1

/-- insertion: the window from a to i is sorted, and from i on one element walks down -/
structure Ins (f : Nat → Cn) (a i j : Nat) : Prop where
  lo : ∀ x y, a ≤ x → x < y → y ≤ i → x ≠ j → y ≠ j → (f x).1 ≤ (f y).1
  hi : ∀ y, j < y → y ≤ i → (f j).1 ≤ (f y).1
theorem Ins.start {f : Nat → Cn} {a i : Nat} (h : Sorted (win f a i)) : Ins f a i i :=
  ⟨fun x y h1 h2 h3 _ h5 => sorted_win.1 h x y h1 h2 (by omega), fun y h1 h2 => by omega⟩
theorem Ins.step {f : Nat → Cn} {a i j : Nat} (h : Ins f a i (j + 1)) (hj : a ≤ j) (hi : j + 1 ≤ i) (hlt : (f (j + 1)).1 < (f j).1) : Ins (swp f (j + 1) j) a i j := by
  refine ⟨fun x y h1 h2 h3 hx hy => ?_, fun y h1 h2 => ?_⟩
  · by_cases ex : x = j + 1
    · subst ex
      rw [swp_l, swp_out f (by omega) (by omega)]
      exact h.lo j y hj (by omega) h3 (by omega) (by omega)
    · by_cases ey : y = j + 1
      · subst ey
        rw [swp_l, swp_out f ex hx]
        exact h.lo x j h1 (by omega) (by omega) (by omega) (by omega)
      · rw [swp_out f ex hx, swp_out f ey hy]
        exact h.lo x y h1 h2 h3 ex ey
  · rw [swp_r]
    by_cases ey : y = j + 1
    · subst ey; rw [swp_l]; omega
    · rw [swp_out f ey (by omega)]
      exact h.hi y (by omega) h2
theorem Ins.done {f : Nat → Cn} {a i j : Nat} (h : Ins f a i j) (hj : a ≤ j) (hji : j ≤ i) (he : j = a ∨ (f (j - 1)).1 ≤ (f j).1) : Sorted (win f a (i + 1)) := by
  refine sorted_win.2 fun x y h1 h2 h3 => ?_
  by_cases ex : x = j
  · subst ex; exact h.hi y h2 (by omega)
  · by_cases ey : y = j
    · subst ey
      rcases he with rfl | he
      · omega
      · by_cases exj : x = y - 1
        · subst exj; exact he
        · have := h.lo x (y - 1) h1 (by omega) (by omega) ex (by omega)
          omega
    · exact h.lo x y h1 h2 (by omega) ex ey
def upTo (f : Nat → Cn) (a k : Nat) : Nat → Cn := rot f a (a + 1) (k + 1)
theorem upTo_start (f : Nat → Cn) (a : Nat) : upTo f a a = f := by
  funext k
  unfold upTo rot
  repeat' split
  all_goals first | rfl | (exfalso; omega) | (congr 1; omega)
theorem upTo_step (f : Nat → Cn) {a k : Nat} (h : a ≤ k) : swp (upTo f a k) k (k + 1) = upTo f a (k + 1) := by
  funext x
  unfold swp upTo rot
  repeat' split
  all_goals first | rfl | (exfalso; omega) | (congr 1; omega)
def downTo (f : Nat → Cn) (m k : Nat) : Nat → Cn := rot f k m (m + 1)
theorem downTo_start (f : Nat → Cn) (m : Nat) : downTo f m m = f := by
  funext k
  unfold downTo rot
  repeat' split
  all_goals first | rfl | (exfalso; omega) | (congr 1; omega)
theorem downTo_step (f : Nat → Cn) {m k : Nat} (h : k < m) : swp (downTo f m (k + 1)) (k + 1) k = downTo f m k := by
  funext x
  unfold swp downTo rot
  repeat' split
  all_goals first | rfl | (exfalso; omega) | (congr 1; omega)
/-- a turn of two parts that need nothing more: the whole is sorted -/
theorem turned {f : Nat → Cn} {a m b s e : Nat} (ha : Sorted (win f a m)) (hb : Sorted (win f m b)) (k : Cut f a m b s e) (hl : s = a ∨ e = m) (hr : s = m ∨ e = b) : Anew f (rot f s m e) a b ∧ Sorted (win (rot f s m e) a b) := by
  obtain ⟨k1, k2, k3, k4, l1, l2⟩ := k
  obtain ⟨e1, e2⟩ := rot_win f k2 k3
  refine merged ha hb ⟨k1, k2, k3, k4, l1, l2⟩ rfl (Anew.refl _ _ _) ?_ (Anew.refl _ _ _) ?_
  · rw [win_app (rot f s m e) (m := s) k1 (by omega), e1, (rot_anew f k2 k3).same (.inl (Nat.le_refl _))]
    rcases hl with rfl | rfl
    · rw [win_nil f (Nat.le_refl _)]; exact sorted_part hb (Nat.le_refl _) k4
    · rw [win_nil f (Nat.le_refl e), List.append_nil]; exact sorted_part ha (Nat.le_refl _) k2
  · rw [win_app (rot f s m e) (m := e) (by omega) k4, e2, (rot_anew f k2 k3).same (.inr (Nat.le_refl _))]
    rcases hr with rfl | rfl
    · rw [win_nil f (Nat.le_refl _)]; exact sorted_part hb k3 (Nat.le_refl _)
    · rw [win_nil f (Nat.le_refl _), List.append_nil]; exact sorted_part ha k1 (Nat.le_refl _)
end Go.Proofs.Ytimiojckinpfdaa.Srt

/- The walks of the sort in place: swapRange, rotate. -/
namespace Go.Proofs.Ytimiojckinpfdaa
open Go.RowKit Srt

/-- a row of n counts at the head of a block -/
def Arr (w : World) (g n : Nat) (f : Nat → Cn) : Prop := ∃ X : Array Value, w.heap[g]? = some (.cells X 55 (0, 0)) ∧ n * 2 ≤ X.size ∧ ∀ i, i < n → X[i * 2]? = some (.int .i64 (f i).1) ∧ X[i * 2 + 1]? = some (.int .u64 ((f i).2 : Nat))
structure ArrAt (w : World) (g i : Nat) (x : Cn) : Prop where
  c0 : w.cell? ⟨g, i * 2, none⟩ = some (.int .i64 x.1)
  c1 : w.cell? ⟨g, i * 2 + 1, none⟩ = some (.int .u64 (x.2 : Nat))
  f0 : w.frozen? ⟨g, i * 2, none⟩ = false
  f1 : w.frozen? ⟨g, i * 2 + 1, none⟩ = false
theorem Arr.get {w : World} {g n : Nat} {f : Nat → Cn} (h : Arr w g n f) {i : Nat} (hi : i < n) : ArrAt w g i (f i) := by
  obtain ⟨X, h1, h2, h3⟩ := h
  obtain ⟨q1, q2⟩ := h3 i hi
  exact ⟨by rw [blk_cell h1, q1], by rw [blk_cell h1, q2], blk_free h1 _, blk_free h1 _⟩
theorem Arr.put {w : World} {g n : Nat} {f : Nat → Cn} (h : Arr w g n f) (i : Nat) (x : Cn) : Arr ((w.setCell ⟨g, i * 2, none⟩ (.int .i64 x.1)).setCell ⟨g, i * 2 + 1, none⟩ (.int .u64 (x.2 : Nat))) g n (fun k => if k = i then x else f k) := by
  obtain ⟨X, h1, h2, h3⟩ := h
  refine ⟨_, blk_set (blk_set h1 _ _) _ _, by simpa using h2, fun k hk => ?_⟩
  obtain ⟨q1, q2⟩ := h3 k hk
  by_cases e : k = i
  · subst e
    dsimp only
    rw [if_pos rfl]
    constructor
    · rw [Array.getElem?_setIfInBounds_ne (by omega), Array.getElem?_setIfInBounds_self_of_lt (by omega)]
    · rw [Array.getElem?_setIfInBounds_self_of_lt (by simp; omega)]
  · dsimp only
    rw [if_neg e]
    constructor
    · rw [Array.getElem?_setIfInBounds_ne (by omega), Array.getElem?_setIfInBounds_ne (by omega), q1]
    · rw [Array.getElem?_setIfInBounds_ne (by omega), Array.getElem?_setIfInBounds_ne (by omega), q2]
theorem Arr.congr {w : World} {g n : Nat} {f f' : Nat → Cn} (h : Arr w g n f) (e : ∀ i, i < n → f i = f' i) : Arr w g n f' := by
  obtain ⟨X, h1, h2, h3⟩ := h
  exact ⟨X, h1, h2, fun i hi => by rw [← e i hi]; exact h3 i hi⟩
theorem Arr.only {S : Nat → Prop} {w w' : World} {g n : Nat} {f : Nat → Cn} (h : Arr w g n f) (O : Only S w w') (hs : ¬ S g) : Arr w' g n f := by
  obtain ⟨X, h1, h2, h3⟩ := h
  exact ⟨X, O.blk h1 hs, h2, h3⟩
theorem Arr.still {w w' : World} {g n : Nat} {f : Nat → Cn} (h : Arr w g n f) (O : Still w w') : Arr w' g n f := h.only (O.only (fun _ => False)) id
/-- two elements that change places, as the program does it -/
def swpW (w : World) (g i j : Nat) (x y : Cn) : World := (((w.setCell ⟨g, i * 2, none⟩ (.int .i64 y.1)).setCell ⟨g, i * 2 + 1, none⟩ (.int .u64 (y.2 : Nat))).setCell ⟨g, j * 2, none⟩ (.int .i64 x.1)).setCell ⟨g, j * 2 + 1, none⟩ (.int .u64 (x.2 : Nat))
theorem Arr.swap {w : World} {g n : Nat} {f : Nat → Cn} (h : Arr w g n f) (i j : Nat) : Arr (swpW w g i j (f i) (f j)) g n (swp f i j) := by
  have := (h.put i (f j)).put j (f i)
  refine this.congr fun k _ => ?_
  unfold swp
  by_cases e : k = j
  · rw [if_pos e]
    by_cases e' : k = i
    · rw [if_pos e', ← e, ← e']
    · rw [if_neg e', if_pos e]
  · rw [if_neg e, if_neg e]
theorem only_swpW (w : World) (g i j : Nat) (x y : Cn) : Only (· = g) w (swpW w g i j x y) :=
  ((((Only.refl (· = g) w).setCell (p := ⟨g, _, none⟩) (.inr rfl) _).setCell (p := ⟨g, _, none⟩) (.inr rfl) _).setCell (p := ⟨g, _, none⟩) (.inr rfl) _).setCell (p := ⟨g, _, none⟩) (.inr rfl) _
theorem i64_of (x : Nat) (h : x ≤ 9223372036854775807) {y : Int} (e : y = x) : IntKind.i64.wrap y = (x : Int) := by rw [e, IntKind.wrap_i64]; omega

/-- a slice at a block's head -/
abbrev hv (g n cap : Nat) : Value := .slice (some ⟨g, 0, none⟩) n cap
set_option maxHeartbeats 2000000 in
theorem swapr_calls (g n cap a b m : Nat) (F : Value) (f : Nat → Cn) (w : World) (hn : n ≤ 9007199254740992) (h1 : a + m ≤ b) (h2 : b + m ≤ n) (hA : Arr w g n f) :
    Calls Try.prog 117 #[hv g n cap, .int .i64 a, .int .i64 b, .int .i64 m, F] w fun e w' => e = .returned (.tuple #[]) ∧ Only (· = g) w w' ∧ Arr w' g n (swr f a b m) := by
  have hA' := Lib.hid hA; clear hA
  go_enter Try.func117, Try.ntmps117
  go_wp2_with fail
  go_loopw [10] (fun i wr => ∃ k : Nat, k ≤ m ∧ i = .int .i64 k ∧ Only (· = g) w wr ∧ Arr wr g n (swr f a b k)) (fun i _ => m - (intOf i).toNat)
  case atStart => exact ⟨0, Nat.zero_le _, rfl, Only.refl _ _, by rw [swr_zero]; exact hA'.out⟩
  case round =>
    obtain ⟨k, hk, rfl, O, hR⟩ := hrel
    by_cases hlt : k < m
    · have hx : a + k < n := by omega
      have hy : b + k < n := by omega
      obtain ⟨x0, x1, x2, x3⟩ := hR.get hx
      obtain ⟨y0, y1, y2, y3⟩ := hR.get hy
      have hS := hR.swap (a + k) (b + k)
      rw [swr_step f (by omega)] at hS
      have O' := Lib.hid (O.trans (only_swpW wr g (a + k) (b + k) (swr f a b k (a + k)) (swr f a b k (b + k))))
      have hS' := Lib.hid hS
      clear hR hS O
      generalize swr f a b k (a + k) = u at *
      generalize swr f a b k (b + k) = v at *
      obtain ⟨u1, u2⟩ := u
      obtain ⟨v1, v2⟩ := v
      have wx : IntKind.i64.wrap ((a : Int) + k) = ((a + k : Nat) : Int) := i64_of (a + k) (by omega) (by omega)
      have wy : IntKind.i64.wrap ((b : Int) + k) = ((b + k : Nat) : Int) := i64_of (b + k) (by omega) (by omega)
      have hne : a + k ≠ b + k := by omega
      generalize a + k = x at *
      generalize b + k = y at *
      go_wp2_with fail
      go_region
      all_goals
        go_wp2_with fail
        exact ⟨⟨k + 1, by omega, by go_num, O'.out.drew, hS'.out⟩, by simp [intOf]; omega⟩
    · obtain rfl : k = m := by omega
      go_wp2_with fail
      go_end0
      exact ⟨rfl, O, hR⟩
theorem swapr_ints (g n cap a b m : Nat) (A B M : Int) (F : Value) (f : Nat → Cn) (w : World) (ea : A = a) (eb : B = b) (em : M = m) (hn : n ≤ 9007199254740992) (h1 : a + m ≤ b) (h2 : b + m ≤ n) (hA : Arr w g n f) :
    Calls Try.prog 117 #[hv g n cap, .int .i64 A, .int .i64 B, .int .i64 M, F] w fun e w' => e = .returned (.tuple #[]) ∧ Only (· = g) w w' ∧ Arr w' g n (swr f a b m) := by
  subst ea; subst eb; subst em
  exact swapr_calls g n cap a b m F f w hn h1 h2 hA
/-- what is left to be turned -/
structure RotIn (f : Nat → Cn) (a m b i j : Nat) (h : Nat → Cn) : Prop where
  i0 : 0 < i
  j0 : 0 < j
  i1 : i ≤ m - a
  j1 : j ≤ b - m
  eq : rot h (m - i) m (m + j) = rot f a m b
def RotRel (w : World) (g n : Nat) (f : Nat → Cn) (a m b : Nat) (p q : Value) (wr : World) : Prop := ∃ i j : Nat, ∃ h, p = .int .i64 i ∧ q = .int .i64 j ∧ RotIn f a m b i j h ∧ Only (· = g) w wr ∧ Arr wr g n h
set_option maxHeartbeats 2000000 in
theorem rot_calls (g n cap a m b : Nat) (A M B : Int) (F : Value) (f : Nat → Cn) (w : World) (ea : A = a) (em : M = m) (eb : B = b) (hn : n ≤ 9007199254740992) (h1 : a < m) (h2 : m < b) (h3 : b ≤ n) (hA : Arr w g n f) :
    Calls Try.prog 116 #[hv g n cap, .int .i64 A, .int .i64 M, .int .i64 B, F] w fun e w' => e = .returned (.tuple #[]) ∧ Only (· = g) w w' ∧ Arr w' g n (rot f a m b) := by
  subst ea; subst eb; subst em
  have hA' := Lib.hid hA; clear hA
  go_enter Try.func116, Try.ntmps116
  go_wp2_with fail
  go_loopw [10, 11] (fun p q wr => RotRel w g n f a m b p q wr) (fun p q _ => (intOf p).toNat + (intOf q).toNat)
  case atStart => exact ⟨m - a, b - m, f, by congr 1; omega, by congr 1; omega, ⟨by omega, by omega, by omega, by omega, by congr 1 <;> omega⟩, Only.refl _ _, hA'.out⟩
  case round =>
    obtain ⟨i, j, h, rfl, rfl, ⟨i0, j0, i1, j1, e⟩, O, hR⟩ := hrel
    have hR' := Lib.hid hR
    have O' := Lib.hid O
    have e' := Lib.hid e
    clear hR O e
    rcases Nat.lt_trichotomy i j with hlt | rfl | hgt
    · have k1 : ((i : Int) == j) = false := by simp; omega
      have k2 : ((i : Int) != j) = true := by simp; omega
      have k3 : decide ((i : Int) > j) = false := by simp; omega
      go_wp2_with fail
      refine (swapr_ints g n cap (m - i) (m + j - i) i _ _ _ F h wr (by omega) (by omega) rfl hn (by omega) (by omega) hR'.out).mono ?_
      rintro e1 w1 ⟨rfl, O1, R1⟩
      go_wp2_with fail
      go_roundw
      case rel => exact ⟨i, j - i, _, rfl, by congr 1; omega, ⟨by omega, by omega, by omega, by omega, by rw [rot_lt h (by omega) hlt]; exact e'.out⟩, O'.out.trans O1, R1⟩
      case measure => simp [intOf]; omega
    · have k1 : ((i : Int) == i) = true := by simp
      have k2 : ((i : Int) != i) = false := by simp
      go_wp2_with fail
      refine (swapr_ints g n cap (m - i) m i _ _ _ F h wr (by omega) (by omega) rfl hn (by omega) (by omega) hR'.out).mono ?_
      rintro e1 w1 ⟨rfl, O1, R1⟩
      go_wp2_with fail
      go_end0
      rw [rot_eq h (by omega), e'.out] at R1
      exact ⟨rfl, O'.out.trans O1, R1⟩
    · have k1 : ((i : Int) == j) = false := by simp; omega
      have k2 : ((i : Int) != j) = true := by simp; omega
      have k3 : decide ((i : Int) > j) = true := by simp; omega
      go_wp2_with fail
      refine (swapr_ints g n cap (m - i) m j _ _ _ F h wr (by omega) (by omega) rfl hn (by omega) (by omega) hR'.out).mono ?_
      rintro e1 w1 ⟨rfl, O1, R1⟩
      go_wp2_with fail
      go_roundw
      case rel => exact ⟨i - j, j, _, by congr 1; omega, rfl, ⟨by omega, by omega, by omega, by omega, by rw [rot_gt h (by omega) hgt]; exact e'.out⟩, O'.out.trans O1, R1⟩
      case measure => simp [intOf]; omega
end Go.Proofs.Ytimiojckinpfdaa

/- Rows of counts that the call owns; append of any slice. -/
namespace Go.Proofs.Ytimiojckinpfdaa
open Go.RowKit Srt

/-- the cells of n structs -/
def cl (c : Nat → Cn) (n : Nat) : List Value := (List.range (n * 2)).map fun j => if j % 2 = 0 then ci c (j / 2) else cn c (j / 2)
theorem cl_len (c : Nat → Cn) (n : Nat) : (cl c n).length = n * 2 := by simp [cl]
theorem cl_at (c : Nat → Cn) (n j : Nat) (h : j < n * 2) : (cl c n)[j]? = some (if j % 2 = 0 then ci c (j / 2) else cn c (j / 2)) := by simp [cl, h]
theorem cl_src {w : World} {p : Option Addr} {n : Nat} {c : Nat → Cn} (h : Cnts w p n c) (ad : Addr) (j : Nat) (v : Value) (hp : p = some ad) (hv : (cl c n)[j]? = some v) : w.cell? (ad.add j) = some v := by
  have hj : j < n * 2 := by rw [← cl_len c n]; exact (List.getElem?_eq_some_iff.1 hv).1
  rw [cl_at _ _ _ hj] at hv
  obtain ⟨b, o, e, h1, h2, h3⟩ := h (j / 2) (by omega)
  rw [hp] at e; injection e with e; subst e
  injection hv with hv
  have ha : (⟨b, o, none⟩ : Addr).add j = ⟨b, o + j, none⟩ := by simp [Addr.add]
  rw [ha, ← hv]
  by_cases hp : j % 2 = 0
  · rw [if_pos hp, ← h2]; congr 2; omega
  · rw [if_neg hp, ← h3]; congr 2; omega
theorem cl_one (c : Nat → Cn) (n : Nat) : ∀ v ∈ cl c n, v.oneCell' = true := by
  intro v hv
  unfold cl at hv
  obtain ⟨j, _, rfl⟩ := List.mem_map.1 hv
  split <;> rfl
theorem cl_congr {c c' : Nat → Cn} {n : Nat} (h : ∀ i, i < n → c i = c' i) : cl c n = cl c' n := by
  unfold cl
  apply List.map_congr_left
  intro j hj
  have : j / 2 < n := by simp at hj; omega
  unfold ci cn; rw [h _ this]
theorem cl_snoc (c : Nat → Cn) (n : Nat) : cl c (n + 1) = cl c n ++ [ci c n, cn c n] := by
  unfold cl
  rw [show (n + 1) * 2 = n * 2 + 1 + 1 by omega, List.range_succ, List.range_succ]
  simp only [List.map_append, List.map_cons, List.map_nil, List.append_assoc, List.cons_append, List.nil_append]
  have e1 : n * 2 / 2 = n := by omega
  have e2 : (n * 2 + 1) / 2 = n := by omega
  rw [if_pos (by omega), if_neg (by omega), e1, e2]
/-- one row behind another one -/
def cat (c d : Nat → Cn) (n i : Nat) : Cn := if i < n then c i else d (i - n)
theorem cl_cat (c d : Nat → Cn) (n : Nat) : ∀ m, cl (cat c d n) (n + m) = cl c n ++ cl d m
  | 0 => by
    rw [Nat.add_zero, show cl d 0 = [] from rfl, List.append_nil]
    exact cl_congr fun i hi => if_pos hi
  | m + 1 => by
    rw [← Nat.add_assoc, cl_snoc, cl_cat c d n m, cl_snoc, List.append_assoc]
    unfold ci cn cat
    rw [if_neg (by omega), show n + m - n = m by omega]
theorem win_cat (c d : Nat → Cn) (n m : Nat) : win (cat c d n) 0 (n + m) = win c 0 n ++ win d 0 m := by
  rw [win_app _ (m := n) (by omega) (by omega)]
  congr 1
  · exact win_congr fun k _ h2 => if_pos h2
  · refine win_shift (by omega) fun k hk => ?_
    unfold cat; rw [if_neg (by omega)]; congr 1; omega

/-- a row of n counts in a block of room for cap -/
def RowC (w : World) (g n cap : Nat) (f : Nat → Cn) : Prop := ∃ X : Array Value, w.heap[g]? = some (.cells X 55 (0, 0)) ∧ X.size = cap * 2 ∧ n ≤ cap ∧ cap ≤ maxLen ∧ ∀ i, i < n → X[i * 2]? = some (ci f i) ∧ X[i * 2 + 1]? = some (cn f i)
theorem RowC.arr {w : World} {g n cap : Nat} {f : Nat → Cn} (h : RowC w g n cap f) : Arr w g n f := by
  obtain ⟨X, h1, h2, h3, h4, h5⟩ := h
  exact ⟨X, h1, by omega, h5⟩
theorem RowC.cnts {w : World} {g n cap : Nat} {f : Nat → Cn} (h : RowC w g n cap f) {m : Nat} (hm : m ≤ n) : Cnts w (some ⟨g, 0, none⟩) m f := by
  obtain ⟨X, h1, h2, h3, h4, h5⟩ := h
  intro i hi
  obtain ⟨q1, q2⟩ := h5 i (by omega)
  exact ⟨g, 0, rfl, blk_lt h1, by rw [blk_cell h1, Nat.zero_add, q1], by rw [blk_cell h1, Nat.zero_add, q2]⟩
theorem RowC.only {S : Nat → Prop} {w w' : World} {g n cap : Nat} {f : Nat → Cn} (h : RowC w g n cap f) (O : Only S w w') (hs : ¬ S g) : RowC w' g n cap f := by
  obtain ⟨X, h1, h2⟩ := h
  exact ⟨X, O.blk h1 hs, h2⟩
theorem RowC.congr {w : World} {g n cap : Nat} {f f' : Nat → Cn} (h : RowC w g n cap f) (e : ∀ i, i < n → f i = f' i) : RowC w g n cap f' := by
  obtain ⟨X, h1, h2, h3, h4, h5⟩ := h
  refine ⟨X, h1, h2, h3, h4, fun i hi => ?_⟩
  obtain ⟨q1, q2⟩ := h5 i hi
  unfold ci at *; unfold cn at *
  rw [← e i hi]; exact ⟨q1, q2⟩
theorem RowC.take {w : World} {g n cap : Nat} {f : Nat → Cn} (h : RowC w g n cap f) {m : Nat} (hm : m ≤ n) : RowC w g m cap f := by
  obtain ⟨X, h1, h2, h3, h4, h5⟩ := h
  exact ⟨X, h1, h2, by omega, h4, fun i hi => h5 i (by omega)⟩
theorem RowC.own {w : World} {g n cap base : Nat} {f : Nat → Cn} (h : RowC w g n cap f) (hb : base ≤ g) : w.ownsRow base 55 2 (hv g n cap) n (cl f n) := by
  obtain ⟨X, h1, h2, h3, h4, h5⟩ := h
  refine ⟨cl_len _ _, .inr ⟨g, cap, X, rfl, hb, h1, h3, h4, h2, ?_⟩⟩
  apply List.ext_getElem?
  intro j
  rw [List.getElem?_take]
  by_cases hj : j < n * 2
  · rw [if_pos hj, cl_at _ _ _ hj, Array.getElem?_toList]
    obtain ⟨q1, q2⟩ := h5 (j / 2) (by omega)
    by_cases hp : j % 2 = 0
    · rw [if_pos hp, ← q1]; congr 1; omega
    · rw [if_neg hp, ← q2]; congr 1; omega
  · rw [if_neg hj, List.getElem?_eq_none (by rw [cl_len]; omega)]
theorem own_row {w : World} {n base : Nat} {v : Value} {f : Nat → Cn} (h : w.ownsRow base 55 2 v n (cl f n)) : (v = .slice none 0 0 ∧ n = 0) ∨ ∃ g cap, v = hv g n cap ∧ base ≤ g ∧ RowC w g n cap f := by
  rcases h.2 with h | ⟨g, cap, X, rfl, hb, h1, h3, h4, h2, h5⟩
  · exact .inl h
  · refine .inr ⟨g, cap, rfl, hb, X, h1, h2, h3, h4, fun i hi => ?_⟩
    have key : ∀ j, j < n * 2 → X[j]? = (cl f n)[j]? := fun j hj => by
      rw [← h5, List.getElem?_take, if_pos hj, Array.getElem?_toList]
    rw [key _ (by omega), key _ (by omega), cl_at _ _ _ (by omega), cl_at _ _ _ (by omega), if_pos (by omega), if_neg (by omega)]
    rw [show i * 2 / 2 = i by omega, show (i * 2 + 1) / 2 = i by omega]
    exact ⟨rfl, rfl⟩
theorem RowC.put {w : World} {g n cap : Nat} {f : Nat → Cn} (h : RowC w g n cap f) (i : Nat) (x : Cn) : RowC ((w.setCell ⟨g, i * 2, none⟩ (.int .i64 x.1)).setCell ⟨g, i * 2 + 1, none⟩ (.int .u64 (x.2 : Nat))) g n cap (fun k => if k = i then x else f k) := by
  obtain ⟨X, h1, h2, h3, h4, h5⟩ := h
  refine ⟨_, blk_set (blk_set h1 _ _) _ _, by simpa using h2, h3, h4, fun k hk => ?_⟩
  obtain ⟨q1, q2⟩ := h5 k hk
  unfold ci cn
  by_cases e : k = i
  · subst e
    dsimp only
    rw [if_pos rfl]
    constructor
    · rw [Array.getElem?_setIfInBounds_ne (by omega), Array.getElem?_setIfInBounds_self_of_lt (by omega)]
    · rw [Array.getElem?_setIfInBounds_self_of_lt (by simp; omega)]
  · dsimp only
    rw [if_neg e]
    constructor
    · rw [Array.getElem?_setIfInBounds_ne (by omega), Array.getElem?_setIfInBounds_ne (by omega), q1]; rfl
    · rw [Array.getElem?_setIfInBounds_ne (by omega), Array.getElem?_setIfInBounds_ne (by omega), q2]; rfl
theorem RowC.put2 {w : World} {g n cap : Nat} {f : Nat → Cn} (h : RowC w g n cap f) (i y : Nat) : RowC (w.setCell ⟨g, i * 2 + 1, none⟩ (.int .u64 (y : Nat))) g n cap (fun k => if k = i then ((f i).1, y) else f k) := by
  obtain ⟨X, h1, h2, h3, h4, h5⟩ := h
  refine ⟨_, blk_set h1 _ _, by simpa using h2, h3, h4, fun k hk => ?_⟩
  obtain ⟨q1, q2⟩ := h5 k hk
  unfold ci cn at *
  by_cases e : k = i
  · subst e
    dsimp only
    rw [if_pos rfl]
    constructor
    · rw [Array.getElem?_setIfInBounds_ne (by omega), q1]
    · rw [Array.getElem?_setIfInBounds_self_of_lt (by omega)]
  · dsimp only
    rw [if_neg e]
    constructor
    · rw [Array.getElem?_setIfInBounds_ne (by omega), q1]
    · rw [Array.getElem?_setIfInBounds_ne (by omega), q2]

/-! append of any slice, an empty one too -/
theorem run_append_own_zero {P : Program} {w : World} (base : Nat) (t ty e : TypeId) (i : TypeInfo) (size : Nat) (ht : P.underlying t = some (.slice e)) (hi : P.info? e = some i)
    (v : Value) (n : Nat) (xs : List Value) (hown : w.ownsRow base e size v n xs) (p : Option Addr) (c : Nat) :
    (Builtin.append_ #[t, t] ty #[v, .slice p 0 c]).run P w = .ok v w := by
  have h0 : ∀ a : Addr, (loadCells a 0).run P w = .ok #[] w := fun a => rfl
  rcases hown.2 with ⟨rfl, rfl⟩ | ⟨g, cap, cur, rfl, _, _, hnc, _⟩
  · cases p <;> simp [Builtin.append_, run_underlying ht, sizeOf, typeInfo, hi, Builtin.lenOf, Builtin.firstCells, h0]
  · cases p <;> simp [Builtin.append_, run_underlying ht, sizeOf, typeInfo, hi, Builtin.lenOf, Builtin.firstCells, hnc, storeCells, h0]
theorem Grew.refl {w : World} {base e size n : Nat} {v : Value} {xs : List Value} (_h : w.ownsRow base e size v n xs) (keep : Nat) : Grew w w v v keep :=
  ⟨⟨rfl, rfl, rfl, Nat.le_refl _, fun _ _ _ => rfl⟩, fun _ _ _ _ => rfl, fun _ _ => rfl, .inl rfl, fun _ cur _ _ h => ⟨cur, h⟩⟩
theorem wpList_append_any {P : Program} (w : World) {ops : Array Oper} {rest : List Oper} {o : Oper} {a : Act} {Q : Exit → Act → World → Prop}
    (hg : o.guard = none) (s x : Operand) (t : TypeId) (hop : o.op = Op.call { callee := Callee.builtin Builtin.append, args := #[s, x], argTypes := #[t, t] })
    (e : TypeId) (i : TypeInfo) (z : Value) (size bytes : Nat) (h1 : P.underlying t = some (.slice e)) (h2 : P.info? e = some i) (h3 : i.zero = some z) (h4 : i.size = size) (h5 : i.bytes = bytes) (h6 : z.cells.size = size) (h7 : 0 < size)
    (base n : Nat) (v : Value) (xs : List Value) (hs : a.eval s = v) (ho : w.ownsRow base e size v n xs) (hbase : base ≤ w.heap.size)
    (p : Option Addr) (m c : Nat) (news : List Value) (hx : a.eval x = .slice p m c) (hnil : p = none → m = 0) (hn : news.length = m * size) (hc : ∀ ad j u, p = some ad → news[j]? = some u → w.cell? (ad.add j) = some u) (h1c : ∀ u ∈ news, u.oneCell' = true)
    (b1 : n + m ≤ maxLen) (b2 : (n + m) * bytes ≤ 140737488355328)
    (hK : ∀ v' w', Grew w w' v v' (n * size) → w'.ownsRow base e size v' (n + m) (xs ++ news) → wpList P ops Q rest (a.put o.dst v') w') :
    wpList P ops Q (o :: rest) a w := by
  by_cases hm : m = 0
  · subst hm
    have hnews : news = [] := List.eq_nil_of_length_eq_zero (by simpa using hn)
    subst hnews
    refine wpList_plain hg fun K hK' => ?_
    have hrun := run_append_own_zero (P := P) (w := w) base t o.type e i size h1 h2 v n xs ho p c
    unfold Oper.wp
    simp [execOp, hop, resolve, invoke, builtin, hs, hx, hrun, Result.andThen]
    exact hK' _ _ (hK v w (Grew.refl ho _) (by simpa using ho))
  · cases p with
    | none => exact absurd (hnil rfl) hm
    | some ad => exact wpList_append_kept w hg s x t hop e i z size bytes h1 h2 h3 h4 h5 h6 h7 base n v xs hs ho hbase ad m c news hx hn (fun j u hj => hc ad j u rfl hj) h1c (by omega) b1 b2 hK
end Go.Proofs.Ytimiojckinpfdaa

/- The walks of package word's calls without a gate. -/
namespace Go.Proofs.Ytimiojckinpfdaa
open Go.RowKit

theorem run_store64 {a : Addr} {y : Int} {u : Value} {w : World} (hc : w.cell? a = some u) (hz : w.frozen? a = false) :
    Sem.run Try.prog (callFunc 94 #[.pointer (some a), .int .i64 y]) w = .ok (.value (.tuple #[])) (w.setCell a (.int .i64 y)) :=
  run_call_store (fn := Try.f94) (by kernel_rfl) (by kernel_rfl) (by kernel_rfl) (by kernel_rfl) (by kernel_rfl) hc hz
theorem run_load64 {a : Addr} {x : Int} {w : World} (hc : w.cell? a = some (.int .i64 x)) :
    Sem.run Try.prog (callFunc 113 #[.pointer (some a)]) w = .ok (.value (.int .i64 x)) w :=
  run_call_load (fn := Try.f113) (by kernel_rfl) (by kernel_rfl) (by kernel_rfl) (by kernel_rfl) .i64 (by kernel_rfl) hc
/-- the sum of two int64, cut to 64 bits -/
def add64 (x y : Int) : Int := wrap64 (x + y)
theorem run_add64 {a : Addr} {x y : Int} {w : World} (hc : w.cell? a = some (.int .i64 x)) (hz : w.frozen? a = false) :
    Sem.run Try.prog (callFunc 114 #[.pointer (some a), .int .i64 y]) w = .ok (.value (.int .i64 (add64 x y))) (w.setCell a (.int .i64 (add64 x y))) :=
  run_call_add (fn := Try.f114) (by kernel_rfl) (by kernel_rfl) (by kernel_rfl) (by kernel_rfl) .i64 (by kernel_rfl) hc hz (by unfold add64 wrap64; rw [← IntKind.wrap_i64]; rfl)
theorem run_swap64 {a : Addr} {x y : Int} {w : World} (hc : w.cell? a = some (.int .i64 x)) (hz : w.frozen? a = false) :
    Sem.run Try.prog (callFunc 110 #[.pointer (some a), .int .i64 y]) w = .ok (.value (.int .i64 x)) (w.setCell a (.int .i64 y)) := by
  rw [run_callFunc_extern (fn := Try.f110) (by kernel_rfl) (by kernel_rfl) (by kernel_rfl) (by kernel_rfl) (e := Extern.Atomic.swapT (.int .i64)) (by kernel_rfl)]
  change (Sem.run Try.prog (do
    let a' ← asAddr (.pointer (some a))
    let old ← Extern.Atomic.read (.int .i64) a'
    store a' (.int .i64 y) .atomic
    pure old) w).andThen _ = _
  simp [Extern.Atomic.read, asAddr, hc, hz, run_store Try.prog w a (.int .i64 y) .atomic rfl, Result.andThen]


theorem gstep_nil (w : World) : Calls Try.prog 67 #[.pointer none] w fun e w' => e = .returned (.tuple #[]) ∧ w' = w := by
  go_enter Try.func67, Try.ntmps67
  go_wp2_with fail
  refine bodyPost_ret (results_none rfl _ _ _) rfl ⟨rfl, rfl⟩

theorem astore (a : Addr) (y : Int) (u : Value) (w : World) (hc : w.cell? a = some u) (hz : w.frozen? a = false) :
    Calls Try.prog 68 #[.pointer (some a), .int .i64 y] w fun e w' => e = .returned (.tuple #[]) ∧ w' = w.setCell a (.int .i64 y) := by
  have k := run_store64 (y := y) hc hz
  go_enter Try.func68, Try.ntmps68
  go_wp2_with fail
  go_end0
  exact ⟨rfl, rfl⟩
theorem aload (a : Addr) (x : Int) (w : World) (hc : w.cell? a = some (.int .i64 x)) :
    Calls Try.prog 106 #[.pointer (some a)] w fun e w' => e = .returned (.int .i64 x) ∧ w' = w := by
  have k := run_load64 hc
  go_enter Try.func106, Try.ntmps106
  go_wp2_with fail
  go_ret
  exact ⟨rfl, rfl⟩
theorem add64_back (x y : Int) (h1 : -9223372036854775808 ≤ x) (h2 : x ≤ 9223372036854775807) : wrap64 (add64 x y - y) = x := by
  unfold add64 wrap64; omega
theorem aadd (a : Addr) (x y : Int) (w : World) (hc : w.cell? a = some (.int .i64 x)) (hz : w.frozen? a = false) :
    Calls Try.prog 107 #[.pointer (some a), .int .i64 y] w fun e w' => e = .returned (.int .i64 (add64 x y)) ∧ w' = w.setCell a (.int .i64 (add64 x y)) := by
  have k := run_add64 (y := y) hc hz
  go_enter Try.func107, Try.ntmps107
  go_wp2_with fail
  go_ret
  exact ⟨rfl, rfl⟩
theorem aswap (a : Addr) (x y : Int) (w : World) (hc : w.cell? a = some (.int .i64 x)) (hz : w.frozen? a = false) :
    Calls Try.prog 91 #[.pointer (some a), .int .i64 y] w fun e w' => e = .returned (.int .i64 x) ∧ w' = w.setCell a (.int .i64 y) := by
  have k := run_swap64 (y := y) hc hz
  go_enter Try.func91, Try.ntmps91
  go_wp2_with fail
  go_ret
  exact ⟨rfl, rfl⟩
theorem wstore (a : Addr) (y : Int) (u : Value) (w : World) (hc : w.cell? a = some u) (hz : w.frozen? a = false) :
    Calls Try.prog 39 #[.pointer (some a), .pointer none, .int .i64 y] w fun e w' => e = .returned (.tuple #[]) ∧ w' = w.setCell a (.int .i64 y) := by
  go_enter Try.func39, Try.ntmps39
  go_wp2_with fail
  refine (gstep_nil _).mono ?_
  rintro e w1 ⟨rfl, rfl⟩
  go_wp2_with fail
  refine (astore a y u _ hc hz).mono ?_
  rintro e w1 ⟨rfl, rfl⟩
  go_wp2_with fail
  go_end0
  exact ⟨rfl, rfl⟩
theorem wload (a : Addr) (x : Int) (w : World) (hc : w.cell? a = some (.int .i64 x)) :
    Calls Try.prog 87 #[.pointer (some a), .pointer none] w fun e w' => e = .returned (.int .i64 x) ∧ w' = w := by
  go_enter Try.func87, Try.ntmps87
  go_wp2_with fail
  refine (gstep_nil _).mono ?_
  rintro e w1 ⟨rfl, rfl⟩
  go_wp2_with fail
  refine (aload a x _ hc).mono ?_
  rintro e w1 ⟨rfl, rfl⟩
  go_wp2_with fail
  go_ret
  exact ⟨rfl, rfl⟩
theorem wadd (a : Addr) (x y : Int) (w : World) (hc : w.cell? a = some (.int .i64 x)) (hz : w.frozen? a = false) :
    Calls Try.prog 88 #[.pointer (some a), .pointer none, .int .i64 y] w fun e w' => e = .returned (.int .i64 (wrap64 (add64 x y - y))) ∧ w' = w.setCell a (.int .i64 (add64 x y)) := by
  go_enter Try.func88, Try.ntmps88
  go_wp2_with fail
  refine (gstep_nil _).mono ?_
  rintro e w1 ⟨rfl, rfl⟩
  go_wp2_with fail
  refine (aadd a x y _ hc hz).mono ?_
  rintro e w1 ⟨rfl, rfl⟩
  go_wp2_with fail
  go_ret
  exact ⟨rfl, rfl⟩
theorem wswap (a : Addr) (x y : Int) (w : World) (hc : w.cell? a = some (.int .i64 x)) (hz : w.frozen? a = false) :
    Calls Try.prog 62 #[.pointer (some a), .pointer none, .int .i64 y] w fun e w' => e = .returned (.int .i64 x) ∧ w' = w.setCell a (.int .i64 y) := by
  go_enter Try.func62, Try.ntmps62
  go_wp2_with fail
  refine (gstep_nil _).mono ?_
  rintro e w1 ⟨rfl, rfl⟩
  go_wp2_with fail
  refine (aswap a x y _ hc hz).mono ?_
  rintro e w1 ⟨rfl, rfl⟩
  go_wp2_with fail
  go_ret
  exact ⟨rfl, rfl⟩
end Go.Proofs.Ytimiojckinpfdaa

/- The walks of the small plain calls: precision, length, width, cells, of the program and of the document. -/
namespace Go.Proofs.Ytimiojckinpfdaa
open Go.RowKit

theorem right_calls (p : Int) (w : World) : Calls Try.prog 92 #[.int .i64 p] w fun e w' => e = .returned (.bool (decide (1 ≤ p ∧ p ≤ 14))) ∧ w' = w := by
  by_cases h1 : 1 ≤ p
  · have g1 : decide (p ≥ 1) = true := decide_eq_true h1
    by_cases h2 : p ≤ 14
    · have g2 : decide (p ≤ 14) = true := decide_eq_true h2
      go_enter Try.func92, Try.ntmps92
      go_wp2_with fail
      go_ret
      exact ⟨by simp [h2, h1], rfl⟩
    · have g2 : decide (p ≤ 14) = false := decide_eq_false h2
      go_enter Try.func92, Try.ntmps92
      go_wp2_with fail
      go_ret
      exact ⟨by simp [h2, h1], rfl⟩
  · have g1 : decide (p ≥ 1) = false := decide_eq_false h1
    go_enter Try.func92, Try.ntmps92
    go_wp2_with fail
    go_ret
    exact ⟨by simp [h1], rfl⟩
theorem precision_calls (p : Int) (w : World) : Calls Try.prog 93 #[.int .i64 p] w fun e w' => e = .returned (.bool (decide (1 ≤ p ∧ p ≤ 14))) ∧ w' = w := by
  by_cases h1 : 1 ≤ p
  · have g1 : decide (p ≥ 1) = true := decide_eq_true h1
    by_cases h2 : p ≤ 14
    · have g2 : decide (p ≤ 14) = true := decide_eq_true h2
      go_enter Try.func93, Try.ntmps93
      go_wp2_with fail
      go_ret
      exact ⟨by simp [h2, h1], rfl⟩
    · have g2 : decide (p ≤ 14) = false := decide_eq_false h2
      go_enter Try.func93, Try.ntmps93
      go_wp2_with fail
      go_ret
      exact ⟨by simp [h2, h1], rfl⟩
  · have g1 : decide (p ≥ 1) = false := decide_eq_false h1
    go_enter Try.func93, Try.ntmps93
    go_wp2_with fail
    go_ret
    exact ⟨by simp [h1], rfl⟩

/-- how many buckets there are -/
def blen (p : Int) : Nat := if 1 ≤ p ∧ p ≤ 14 then (64 - p.toNat) * 2 ^ p.toNat else 0
theorem blen_out {p : Int} (h : ¬ (1 ≤ p ∧ p ≤ 14)) : blen p = 0 := if_neg h
theorem blen_le (p : Int) : blen p ≤ 819200 := by
  unfold blen
  split
  case isTrue h =>
    obtain ⟨h1, h2⟩ := h
    have : p = 1 ∨ p = 2 ∨ p = 3 ∨ p = 4 ∨ p = 5 ∨ p = 6 ∨ p = 7 ∨ p = 8 ∨ p = 9 ∨ p = 10 ∨ p = 11 ∨ p = 12 ∨ p = 13 ∨ p = 14 := by omega
    rcases this with h | h | h | h | h | h | h | h | h | h | h | h | h | h <;> subst h <;> decide
  case isFalse h => omega
theorem length_calls (p : Int) (w : World) : Calls Try.prog 65 #[.int .i64 p] w fun e w' => e = .returned (.int .i64 (blen p : Nat)) ∧ w' = w := by
  by_cases h : 1 ≤ p ∧ p ≤ 14
  · have : p = 1 ∨ p = 2 ∨ p = 3 ∨ p = 4 ∨ p = 5 ∨ p = 6 ∨ p = 7 ∨ p = 8 ∨ p = 9 ∨ p = 10 ∨ p = 11 ∨ p = 12 ∨ p = 13 ∨ p = 14 := by omega
    rcases this with h | h | h | h | h | h | h | h | h | h | h | h | h | h <;> subst h <;>
    · go_enter Try.func65, Try.ntmps65
      go_wp2_with fail
      refine (right_calls _ _).mono ?_
      rintro e w1 ⟨rfl, rfl⟩
      go_wp2_with fail
      go_ret
      exact ⟨rfl, rfl⟩
  · rw [blen_out h]
    have g : decide (1 ≤ p ∧ p ≤ 14) = false := decide_eq_false h
    go_enter Try.func65, Try.ntmps65
    go_wp2_with fail
    refine (right_calls _ _).mono ?_
    rw [g]
    rintro e w1 ⟨rfl, rfl⟩
    go_wp2_with fail
    go_ret
    exact ⟨rfl, rfl⟩
theorem rlength_calls (p : Int) (w : World) : Calls Try.prog 66 #[.int .i64 p] w fun e w' => e = .returned (.int .i64 (blen p : Nat)) ∧ w' = w := by
  by_cases h : 1 ≤ p ∧ p ≤ 14
  · have : p = 1 ∨ p = 2 ∨ p = 3 ∨ p = 4 ∨ p = 5 ∨ p = 6 ∨ p = 7 ∨ p = 8 ∨ p = 9 ∨ p = 10 ∨ p = 11 ∨ p = 12 ∨ p = 13 ∨ p = 14 := by omega
    rcases this with h | h | h | h | h | h | h | h | h | h | h | h | h | h <;> subst h <;>
    · go_enter Try.func66, Try.ntmps66
      go_wp2_with fail
      refine (precision_calls _ _).mono ?_
      rintro e w1 ⟨rfl, rfl⟩
      go_wp2_with fail
      go_ret
      exact ⟨rfl, rfl⟩
  · rw [blen_out h]
    have g : decide (1 ≤ p ∧ p ≤ 14) = false := decide_eq_false h
    go_enter Try.func66, Try.ntmps66
    go_wp2_with fail
    refine (precision_calls _ _).mono ?_
    rw [g]
    rintro e w1 ⟨rfl, rfl⟩
    go_wp2_with fail
    go_ret
    exact ⟨rfl, rfl⟩
end Go.Proofs.Ytimiojckinpfdaa

/- The walks of width, may, Cells, First, of the program and of the document. -/
namespace Go.Proofs.Ytimiojckinpfdaa
open Go.RowKit

/-- how many cells a stripe has -/
def wide (kind p : Int) : Nat := if kind = 1 then 2 else if kind = 2 then 2 + blen p else if kind = 3 then 5 else 0
theorem wide_1 (p : Int) : wide 1 p = 2 := rfl
theorem wide_2 (p : Int) : wide 2 p = 2 + blen p := rfl
theorem wide_3 (p : Int) : wide 3 p = 5 := rfl
theorem wide_out {kind : Int} (p : Int) (h1 : kind ≠ 1) (h2 : kind ≠ 2) (h3 : kind ≠ 3) : wide kind p = 0 := by unfold wide; rw [if_neg h1, if_neg h2, if_neg h3]
theorem wide_le (kind p : Int) : wide kind p ≤ 819202 := by
  have := blen_le p
  unfold wide; split
  · omega
  · split
    · omega
    · split <;> omega

theorem width_calls (kind p : Int) (w : World) : Calls Try.prog 36 #[.int .i64 kind, .int .i64 p] w fun e w' => e = .returned (.int .i64 (wide kind p : Nat)) ∧ w' = w := by
  by_cases h1 : kind = 1
  · subst h1
    go_enter Try.func36, Try.ntmps36
    go_wp2_with fail
    go_ret
    exact ⟨rfl, rfl⟩
  · have g1 : (kind == 1) = false := by simpa using h1
    by_cases h2 : kind = 2
    · subst h2
      have hb := blen_le p
      have e1 : wrap64 (2 + (blen p : Int)) = ((2 + blen p : Nat) : Int) := by exact IntWalk.wrap64_in _ (by omega)
      go_enter Try.func36, Try.ntmps36
      go_wp2_with fail
      refine (length_calls _ _).mono ?_
      rintro e w1 ⟨rfl, rfl⟩
      go_wp2_with fail
      go_ret
      exact ⟨rfl, rfl⟩
    · have g2 : (kind == 2) = false := by simpa using h2
      by_cases h3 : kind = 3
      · subst h3
        go_enter Try.func36, Try.ntmps36
        go_wp2_with fail
        go_ret
        exact ⟨rfl, rfl⟩
      · have g3 : (kind == 3) = false := by simpa using h3
        rw [wide_out p h1 h2 h3]
        go_enter Try.func36, Try.ntmps36
        go_wp2_with fail
        go_ret
        exact ⟨rfl, rfl⟩
theorem rwidth_calls (kind p : Int) (w : World) : Calls Try.prog 37 #[.int .i64 kind, .int .i64 p] w fun e w' => e = .returned (.int .i64 (wide kind p : Nat)) ∧ w' = w := by
  by_cases h1 : kind = 1
  · subst h1
    go_enter Try.func37, Try.ntmps37
    go_wp2_with fail
    go_ret
    exact ⟨rfl, rfl⟩
  · have g1 : (kind == 1) = false := by simpa using h1
    by_cases h2 : kind = 2
    · subst h2
      have hb := blen_le p
      have e1 : wrap64 (2 + (blen p : Int)) = ((2 + blen p : Nat) : Int) := by exact IntWalk.wrap64_in _ (by omega)
      go_enter Try.func37, Try.ntmps37
      go_wp2_with fail
      refine (rlength_calls _ _).mono ?_
      rintro e w1 ⟨rfl, rfl⟩
      go_wp2_with fail
      go_ret
      exact ⟨rfl, rfl⟩
    · have g2 : (kind == 2) = false := by simpa using h2
      by_cases h3 : kind = 3
      · subst h3
        go_enter Try.func37, Try.ntmps37
        go_wp2_with fail
        go_ret
        exact ⟨rfl, rfl⟩
      · have g3 : (kind == 3) = false := by simpa using h3
        rw [wide_out p h1 h2 h3]
        go_enter Try.func37, Try.ntmps37
        go_wp2_with fail
        go_ret
        exact ⟨rfl, rfl⟩

/-- may there be so many stripes, and that precision? -/
def mayB (st p : Int) : Bool := decide (1 ≤ st) && decide (st ≤ 16) && decide (1 ≤ p) && decide (p ≤ 14)
theorem may_calls (st p : Int) (w : World) : Calls Try.prog 35 #[.int .i64 st, .int .i64 p] w fun e w' => e = .returned (.bool (mayB st p)) ∧ w' = w := by
  unfold mayB
  generalize g1 : decide (1 ≤ st) = b1
  generalize g2 : decide (st ≤ 16) = b2
  generalize g3 : decide (1 ≤ p) = b3
  generalize g4 : decide (p ≤ 14) = b4
  have g1' : decide (st ≥ 1) = b1 := g1
  have g3' : decide (p ≥ 1) = b3 := g3
  cases b1 <;> cases b2 <;> cases b3 <;> cases b4 <;>
  · go_enter Try.func35, Try.ntmps35
    go_wp2_with fail
    go_ret
    exact ⟨rfl, rfl⟩
/-- how many words in all -/
def cellsN (kind st p : Int) : Int := if mayB st p = true then 2 * st * (wide kind p : Nat) else 0
theorem mayB_of {st p : Int} (h : mayB st p = true) : 1 ≤ st ∧ st ≤ 16 ∧ 1 ≤ p ∧ p ≤ 14 := by
  unfold mayB at h; simp only [Bool.and_eq_true, decide_eq_true_eq] at h; omega
theorem cells_calls (kind st p : Int) (w : World) : Calls Try.prog 8 #[.int .i64 kind, .int .i64 st, .int .i64 p] w fun e w' => e = .returned (.int .i64 (cellsN kind st p)) ∧ w' = w := by
  unfold cellsN
  cases hm : mayB st p with
  | false =>
    go_enter Try.func8, Try.ntmps8
    go_wp2_with fail
    refine (may_calls _ _ _).mono ?_
    rw [hm]
    rintro e w1 ⟨rfl, rfl⟩
    go_wp2_with fail
    go_ret
    exact ⟨rfl, rfl⟩
  | true =>
    obtain ⟨a1, a2, _, _⟩ := mayB_of hm
    have hb := wide_le kind p
    have e1 : wrap64 (2 * st) = 2 * st := by exact IntWalk.wrap64_in _ (by omega)
    have e2 : wrap64 (2 * st * (wide kind p : Nat)) = 2 * st * (wide kind p : Nat) := by
      have q1 : 0 ≤ 2 * st * ((wide kind p : Nat) : Int) := Int.mul_nonneg (by omega) (by omega)
      have q2 : 2 * st * ((wide kind p : Nat) : Int) ≤ 32 * 819202 := Int.mul_le_mul (by omega) (by omega) (by omega) (by omega)
      exact IntWalk.wrap64_in _ (by omega)
    go_enter Try.func8, Try.ntmps8
    go_wp2_with fail
    refine (may_calls _ _ _).mono ?_
    rw [hm]
    rintro e w1 ⟨rfl, rfl⟩
    go_wp2_with fail
    refine (width_calls _ _ _).mono ?_
    rintro e w1 ⟨rfl, rfl⟩
    go_wp2_with fail
    go_ret
    exact ⟨rfl, rfl⟩
theorem rcells_calls (kind st p : Int) (w : World) : Calls Try.prog 9 #[.int .i64 kind, .int .i64 st, .int .i64 p] w fun e w' => e = .returned (.int .i64 (cellsN kind st p)) ∧ w' = w := by
  unfold cellsN
  have f1 : decide (st < 1) = !decide (1 ≤ st) := by rw [← decide_not]; congr 1; simp
  have f2 : decide (st > 16) = !decide (st ≤ 16) := by rw [← decide_not]; congr 1; simp
  have f3 : decide (p < 1) = !decide (1 ≤ p) := by rw [← decide_not]; congr 1; simp
  have f4 : decide (p > 14) = !decide (p ≤ 14) := by rw [← decide_not]; congr 1; simp
  cases hm : mayB st p with
  | false =>
    unfold mayB at hm
    revert f1 f2 f3 f4 hm
    generalize decide (1 ≤ st) = b1
    generalize decide (st ≤ 16) = b2
    generalize decide (1 ≤ p) = b3
    generalize decide (p ≤ 14) = b4
    cases b1 <;> cases b2 <;> cases b3 <;> cases b4 <;> intro f1 f2 f3 f4 hm <;> first
    | exact absurd hm (by decide)
    | (simp only [Bool.not_true, Bool.not_false] at f1 f2 f3 f4
       go_enter Try.func9, Try.ntmps9
       go_wp2_with fail
       go_ret
       exact ⟨rfl, rfl⟩)
  | true =>
    obtain ⟨a1, a2, a3, a4⟩ := mayB_of hm
    rw [decide_eq_true a1] at f1
    rw [decide_eq_true a2] at f2
    rw [decide_eq_true a3] at f3
    rw [decide_eq_true a4] at f4
    simp only [Bool.not_true] at f1 f2 f3 f4
    have hb := wide_le kind p
    have e1 : wrap64 (2 * st) = 2 * st := by exact IntWalk.wrap64_in _ (by omega)
    have e2 : wrap64 (2 * st * (wide kind p : Nat)) = 2 * st * (wide kind p : Nat) := by
      have q1 : 0 ≤ 2 * st * ((wide kind p : Nat) : Int) := Int.mul_nonneg (by omega) (by omega)
      have q2 : 2 * st * ((wide kind p : Nat) : Int) ≤ 32 * 819202 := Int.mul_le_mul (by omega) (by omega) (by omega) (by omega)
      exact IntWalk.wrap64_in _ (by omega)
    go_enter Try.func9, Try.ntmps9
    go_wp2_with fail
    refine (rwidth_calls _ _ _).mono ?_
    rintro e w1 ⟨rfl, rfl⟩
    go_wp2_with fail
    go_ret
    exact ⟨rfl, rfl⟩
end Go.Proofs.Ytimiojckinpfdaa
