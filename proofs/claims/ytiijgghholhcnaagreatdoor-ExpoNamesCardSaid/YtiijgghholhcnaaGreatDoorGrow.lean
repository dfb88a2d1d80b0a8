/- Append to a row of the call's own: what stays is told exactly (the old cells, every other block, where the new row lies). -/
import Derived.Test.YtiijgghholhcnaaGreatDoorFrame
namespace Go.Proofs.YtiijgghholhcnaaGreatDoor
open Go.RowKit

/-- w' came of w by an append to v, which gave v': 'keep' cells of v's block stay, all other blocks stay. -/
structure Grew (w w' : World) (v v' : Value) (keep : Nat) : Prop where
  grown : w.grownBy w' v.ownBlock
  cells : ∀ g j, v.ownBlock = some g → j < keep → w'.cell? ⟨g, j, none⟩ = w.cell? ⟨g, j, none⟩
  froz : ∀ a : Addr, a.block < w.heap.size → w'.frozen? a = w.frozen? a
  which : v'.ownBlock = v.ownBlock ∨ ∃ g, v'.ownBlock = some g ∧ w.heap.size ≤ g
  tag : ∀ g cur t, v.ownBlock = some g → w.heap[g]? = some (.cells cur t (0, 0)) → ∃ cur', w'.heap[g]? = some (.cells cur' t (0, 0))

theorem grownBy_setCells (b : Nat) : ∀ (vs : List Value) (o : Nat) (w : World), w.grownBy (w.setCells b o vs) (some b)
  | [], _, w => ⟨rfl, rfl, rfl, Nat.le_refl _, fun _ _ _ => rfl⟩
  | v :: r, o, w => by
    have h := grownBy_setCells b r (o + 1) (w.setCell ⟨b, o, none⟩ v)
    have hs : (w.setCell ⟨b, o, none⟩ v).heap.size = w.heap.size := by simp [World.setCell]
    refine ⟨h.os, h.tape, h.output, by rw [← hs]; exact h.size, fun k hk hne => ?_⟩
    have h1 := h.block k (by rw [hs]; exact hk) hne
    rw [Below.heap_setCell _ _ _ _ (by rintro rfl; exact hne rfl)] at h1
    exact h1

theorem block_setCells (b : Nat) (e : TypeId) : ∀ (vs : List Value) (o : Nat) (w : World) (cur : Array Value), w.heap[b]? = some (.cells cur e (0, 0)) → o + vs.length ≤ cur.size →
    ∃ cur', (w.setCells b o vs).heap[b]? = some (.cells cur' e (0, 0)) ∧ cur'.size = cur.size ∧ cur'.toList.take (o + vs.length) = cur.toList.take o ++ vs
  | [], o, w, cur, h, _ => ⟨cur, h, rfl, by simp⟩
  | v :: r, o, w, cur, h, hl => by
    simp only [List.length_cons] at hl
    obtain ⟨cur', h1, h2, h3⟩ := block_setCells b e r (o + 1) (w.setCell ⟨b, o, none⟩ v) (cur.setIfInBounds o v) (blk_set h o v) (by simp; omega)
    refine ⟨cur', h1, by simpa using h2, ?_⟩
    rw [show o + (v :: r).length = o + 1 + r.length by simp; omega, h3]
    have : (cur.setIfInBounds o v).toList.take (o + 1) = cur.toList.take o ++ [v] := by
      rw [Array.toList_setIfInBounds]
      have hlo : o < (cur.toList.set o v).length := by simp; omega
      rw [List.take_succ_eq_append_getElem hlo, List.take_set_of_le (Nat.le_refl _)]
      simp
    rw [this]; simp

theorem wpList_append_kept {P : Program} (w : World) {ops : Array Oper} {rest : List Oper} {o : Oper} {a : Act} {Q : Exit → Act → World → Prop}
    (hg : o.guard = none) (s x : Operand) (t : TypeId) (hop : o.op = Op.call { callee := Callee.builtin Builtin.append, args := #[s, x], argTypes := #[t, t] })
    (e : TypeId) (i : TypeInfo) (z : Value) (size bytes : Nat) (h1 : P.underlying t = some (.slice e)) (h2 : P.info? e = some i) (h3 : i.zero = some z) (h4 : i.size = size) (h5 : i.bytes = bytes) (h6 : z.cells.size = size) (h7 : 0 < size)
    (base n : Nat) (v : Value) (xs : List Value) (hs : a.eval s = v) (ho : w.ownsRow base e size v n xs) (hbase : base ≤ w.heap.size)
    (ad : Addr) (m c : Nat) (news : List Value) (hx : a.eval x = .slice (some ad) m c) (hn : news.length = m * size) (hc : ∀ j u, news[j]? = some u → w.cell? (ad.add j) = some u) (h1c : ∀ u ∈ news, u.oneCell' = true)
    (hm : 0 < m) (b1 : n + m ≤ maxLen) (b2 : (n + m) * bytes ≤ 140737488355328)
    (hK : ∀ v' w', Grew w w' v v' (n * size) → w'.ownsRow base e size v' (n + m) (xs ++ news) → wpList P ops Q rest (a.put o.dst v') w') :
    wpList P ops Q (o :: rest) a w := by
  have grew : ∀ v' w', w'.ownsRow w.heap.size e size v' (n + m) (xs ++ news) → w.grownBy w' none → Grew w w' v v' (n * size) ∧ w'.ownsRow base e size v' (n + m) (xs ++ news) := by
    intro v' w' r1 r2
    refine ⟨⟨⟨r2.os, r2.tape, r2.output, r2.size, fun k hk _ => r2.block k hk (by simp)⟩, fun g j hgv hj => ?_, fun a ha => World.frozen?_of_block (w := w) (r2.block _ ha (by simp)), ?_, fun g cur t hgv hq => ⟨cur, by rw [r2.block _ (ho.lt g hgv).2 (by simp), hq]⟩⟩, ?_⟩
    · have hlt : g < w.heap.size := (ho.lt g hgv).2
      exact World.cell?_of_block (w := w) (r2.block _ hlt (by simp))
    · rcases r1.2 with ⟨rfl, h0⟩ | ⟨g, cap, cur, rfl, hg2, _⟩
      · omega
      · exact .inr ⟨g, rfl, hg2⟩
    · refine ⟨r1.1, ?_⟩
      rcases r1.2 with h | ⟨g, cap, cur, hv, hg2, r⟩
      · exact .inl h
      · exact .inr ⟨g, cap, cur, hv, by omega, r⟩
  rcases ho.2 with ⟨rfl, rfl⟩ | ⟨g, cap, cur, rfl, hg2, hblk, hnc, hcm, hcs, htake⟩
  · have hx0 : xs = [] := by have := ho.1; simpa using this
    subst hx0
    refine wpList_append_grows w hg s x t hop e i z size bytes h1 h2 h3 h4 h5 h6 h7 none 0 0 [] hs (fun _ => ⟨rfl, rfl⟩) (by simp) (fun b hb => by cases hb) ad m c news hx hn hc h1c (by omega) b1 b2 ?_
    intro v' w' r1 r2
    obtain ⟨q1, q2⟩ := grew v' w' r1 r2
    exact hK v' w' q1 q2
  · have hcell : ∀ j u, xs[j]? = some u → w.cell? ⟨g, 0 + j, none⟩ = some u := by
      intro j u hj
      rw [blk_cell hblk, Nat.zero_add, ← hj, ← htake]
      have hjl : j < xs.length := by
        rcases Nat.lt_or_ge j xs.length with q | q
        · exact q
        · rw [List.getElem?_eq_none q] at hj; cases hj
      rw [List.getElem?_take, if_pos (by have := ho.1; omega)]
      simp
    refine wpList_append_arg w hg s x t hop e i z size bytes h1 h2 h3 h4 h5 h6 h7 g 0 n cap xs hs ho.1 hcell ad m c news hx hn hc h1c ?_ b1 b2 ?_ ?_
    · intro hroom j hj
      have hlt : 0 + n * size + j < cur.size := by
        have : (n + m) * size ≤ cap * size := Nat.mul_le_mul_right _ hroom
        rw [Nat.add_mul] at this; omega
      refine ⟨?_, blk_free hblk _⟩
      rw [blk_cell hblk, Array.getElem?_eq_getElem hlt]; rfl
    · intro hroom
      have hsz : 0 + n * size + news.length ≤ cur.size := by
        have : (n + m) * size ≤ cap * size := Nat.mul_le_mul_right _ hroom
        rw [Nat.add_mul] at this; omega
      obtain ⟨cur', e1, e2, e3⟩ := block_setCells g e news (0 + n * size) w cur hblk hsz
      refine hK _ _ ⟨grownBy_setCells g news _ w, fun g' j hv hj => ?_, fun y _ => World.frozen?_setCells g news _ w y, .inl rfl, fun g' cu t hv hq => by
        have : g = g' := by simpa [Value.ownBlock] using hv
        subst this
        rw [hblk] at hq; injection hq with hq; injection hq with _ q _; subst q; exact ⟨cur', e1⟩⟩ ⟨?_, .inr ⟨g, cap, cur', rfl, hg2, e1, hroom, hcm, by omega, ?_⟩⟩
      · have : g = g' := by simpa [Value.ownBlock] using hv
        subst this
        exact World.cell?_setCells_out g news _ w _ (fun _ _ => .inl (by dsimp only; omega))
      · rw [List.length_append, ho.1, hn, Nat.add_mul]
      · rw [Nat.add_mul, ← hn, ← Nat.zero_add (n * size), e3, Nat.zero_add, htake]
    · intro hfull v' w' r1 r2
      obtain ⟨q1, q2⟩ := grew v' w' r1 r2
      exact hK v' w' q1 q2
end Go.Proofs.YtiijgghholhcnaaGreatDoor
