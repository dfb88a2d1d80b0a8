/- The program's cells in memory: two lists of rows of words; what writes and appends leave of them. No program in sight but its types' numbers. -/
import Derived.Test.YtlipngdfhpaodaaGreatFirst
namespace Go.Proofs.YtlipngdfhpaodaaGreat
open Go.RowKit

theorem info114 : (Tryz.prog.info? 120).map (fun i => (i.zero, i.size, i.bytes)) = some (some (.agg #[.int .i64 0]), 1, 8) := by kernel_rfl
theorem info103 : (Tryz.prog.info? 136).map (fun i => (i.zero, i.size, i.bytes)) = some (some (.slice none 0 0), 1, 24) := by kernel_rfl

def upd {α : Type} (f : Nat → α) (b : Nat) (x : α) : Nat → α := fun k => if k = b then x else f k
theorem upd_same {α : Type} (f : Nat → α) (b : Nat) (x : α) : upd f b x b = x := if_pos rfl
theorem upd_ne {α : Type} (f : Nat → α) {b k : Nat} (x : α) (h : k ≠ b) : upd f b x k = f k := if_neg h
def upd2 {α : Type} (f : Nat → Nat → α) (b i : Nat) (x : α) : Nat → Nat → α := fun k j => if k = b ∧ j = i then x else f k j
theorem upd2_same {α : Type} (f : Nat → Nat → α) (b i : Nat) (x : α) : upd2 f b i x b i = x := if_pos ⟨rfl, rfl⟩
theorem upd2_ne {α : Type} (f : Nat → Nat → α) {b i k j : Nat} (x : α) (h : ¬ (k = b ∧ j = i)) : upd2 f b i x k j = f k j := if_neg h

/-- a slice over a whole block of n words -/
def slv (b n : Nat) : Value := .slice (some ⟨b, 0, none⟩) n n
def sl (R : Nat → Nat) (wd n : Nat) : List Value := (List.range n).map fun i => slv (R i) wd
theorem sl_len (R : Nat → Nat) (wd n : Nat) : (sl R wd n).length = n := by simp [sl]
theorem sl_succ (R : Nat → Nat) (wd n : Nat) : sl R wd (n + 1) = sl R wd n ++ [slv (R n) wd] := by simp [sl, List.range_succ]
theorem sl_congr {R R' : Nat → Nat} (wd n : Nat) (h : ∀ i, i < n → R i = R' i) : sl R wd n = sl R' wd n := by
  unfold sl; apply List.map_congr_left; intro i hi; rw [h i (by simpa using hi)]
theorem sl_get (R : Nat → Nat) (wd n i : Nat) (h : i < n) : (sl R wd n)[i]? = some (slv (R i) wd) := by simp [sl, h]

/-- a block of n words that hold these numbers -/
def Words (w : World) (b : Nat) (V : Nat → Int) (n : Nat) : Prop := ∃ cs : Array Value, w.heap[b]? = some (.cells cs 120 (0, 0)) ∧ cs.size = n ∧ ∀ k, k < n → cs[k]? = some (.int .i64 (V k))
theorem Words.cell {w : World} {b n : Nat} {V : Nat → Int} (h : Words w b V n) {k : Nat} (hk : k < n) : w.cell? ⟨b, k, none⟩ = some (.int .i64 (V k)) := by
  obtain ⟨cs, h1, h2, h3⟩ := h; rw [blk_cell h1, h3 k hk]
theorem Words.free {w : World} {b n : Nat} {V : Nat → Int} (h : Words w b V n) (k : Nat) : w.frozen? ⟨b, k, none⟩ = false := by
  obtain ⟨cs, h1, h2, h3⟩ := h; exact blk_free h1 k
theorem Words.of_block {w w' : World} {b n : Nat} {V : Nat → Int} (h : Words w b V n) (e : w'.heap[b]? = w.heap[b]?) : Words w' b V n := by
  obtain ⟨cs, h1, h2, h3⟩ := h; exact ⟨cs, by rw [e, h1], h2, h3⟩
theorem Words.store {w : World} {b n : Nat} {V : Nat → Int} (h : Words w b V n) (k : Nat) (x : Int) : Words (w.setCell ⟨b, k, none⟩ (.int .i64 x)) b (upd V k x) n := by
  obtain ⟨cs, h1, h2, h3⟩ := h
  refine ⟨_, blk_set h1 k _, by simpa using h2, fun j hj => ?_⟩
  by_cases e : j = k
  · subst e; rw [upd_same, Array.getElem?_setIfInBounds_self_of_lt (by omega)]
  · rw [upd_ne _ _ e, Array.getElem?_setIfInBounds_ne (by omega), h3 j hj]
theorem Words.congr {w : World} {b n : Nat} {V V' : Nat → Int} (h : Words w b V n) (e : ∀ k, k < n → V k = V' k) : Words w b V' n := by
  obtain ⟨cs, h1, h2, h3⟩ := h; exact ⟨cs, h1, h2, fun k hk => by rw [h3 k hk, e k hk]⟩
theorem Words.lt {w : World} {b n : Nat} {V : Nat → Int} (h : Words w b V n) : b < w.heap.size := by obtain ⟨cs, h1, _⟩ := h; exact blk_lt h1
theorem Words.made (w : World) (n : Nat) : Words (w.alloc (.cells (madeCells #[.int .i64 0] n) 120)) w.heap.size (fun _ => 0) n := by
  refine ⟨_, blk_new w _, ?_, fun k hk => ?_⟩
  · simp [madeCells]
  · rw [← Array.getElem?_toList, toList_madeCells_one]; simp [hk]

structure Held (base c wd : Nat) (u : Nat → Value) (L : Nat → Nat) (R : Nat → Nat → Nat) (V : Nat → Nat → Nat → Int) (w : World) : Prop where
  cge : base ≤ c
  obj : w.heap[c]? = some (.cells #[u 0, u 1] 140 (0, 0))
  own : ∀ b, b < 2 → w.ownsRow base 136 1 (u b) (L b) (sl (R b) wd (L b))
  wrd : ∀ b, b < 2 → ∀ i, i < L b → Words w (R b i) (V b i) wd
  rge : ∀ b, b < 2 → ∀ i, i < L b → base ≤ R b i
  inj : ∀ b i b' i', b < 2 → b' < 2 → i < L b → i' < L b' → R b i = R b' i' → b = b' ∧ i = i'
  heads : ∀ g, (u 0).ownBlock = some g → (u 1).ownBlock ≠ some g

theorem own_block {w w' : World} {base e size n : Nat} {v : Value} {xs : List Value} (h : w.ownsRow base e size v n xs) (hb : ∀ g, v.ownBlock = some g → w'.heap[g]? = w.heap[g]?) : w'.ownsRow base e size v n xs := by
  refine ⟨h.1, ?_⟩
  rcases h.2 with ⟨r1, r2⟩ | ⟨g, cap, cur, rfl, r2, r3, r⟩
  · exact .inl ⟨r1, r2⟩
  · exact .inr ⟨g, cap, cur, rfl, r2, by rw [hb g rfl, r3], r⟩
theorem own_tag {w : World} {base e size n : Nat} {v : Value} {xs : List Value} (h : w.ownsRow base e size v n xs) {g : Nat} (hg : v.ownBlock = some g) : base ≤ g ∧ ∃ cur, w.heap[g]? = some (.cells cur e (0, 0)) := by
  rcases h.2 with ⟨rfl, _⟩ | ⟨g', cap, cur, rfl, r2, r3, _⟩
  · cases hg
  · have : g' = g := by simpa [Value.ownBlock] using hg
    subst this; exact ⟨r2, cur, r3⟩

section
variable {base c wd : Nat} {u : Nat → Value} {L : Nat → Nat} {R : Nat → Nat → Nat} {V : Nat → Nat → Nat → Int} {w w' : World}

theorem Held.keep (h : Held base c wd u L R V w) (hk : ∀ k o, w.heap[k]? = some o → base ≤ k → w'.heap[k]? = some o) : Held base c wd u L R V w' := by
  refine ⟨h.cge, hk _ _ h.obj h.cge, fun b hb => own_block (h.own b hb) fun g hg => ?_, fun b hb i hi => ?_, h.rge, h.inj, h.heads⟩
  · obtain ⟨q1, cur, q2⟩ := own_tag (h.own b hb) hg
    rw [hk _ _ q2 q1, q2]
  · obtain ⟨cs, r1, r2⟩ := h.wrd b hb i hi
    exact ⟨cs, hk _ _ r1 (h.rge b hb i hi), r2⟩
theorem Held.only {S : Nat → Prop} (h : Held base c wd u L R V w) (O : Only S w w') (hS : ∀ k, base ≤ k → k < w.heap.size → ¬ S k) : Held base c wd u L R V w' :=
  h.keep fun k _ hk hb => O.blk hk (hS k hb (blk_lt hk))
/-- a number is laid into a word -/
theorem Held.store (h : Held base c wd u L R V w) {b i : Nat} (hb : b < 2) (hi : i < L b) (k : Nat) (x : Int) :
    Held base c wd u L R (upd2 V b i (upd (V b i) k x)) (w.setCell ⟨R b i, k, none⟩ (.int .i64 x)) := by
  have hw := h.wrd b hb i hi
  obtain ⟨cs, q1, q2⟩ := hw
  have tag : ∀ g cur t, w.heap[g]? = some (.cells cur t (0, 0)) → t ≠ 120 → g ≠ R b i := by
    intro g cur t hg ht e
    rw [e, q1] at hg
    injection hg with hg; injection hg with _ hg _; exact ht hg.symm
  refine ⟨h.cge, blk_set_ne h.obj _ _ (tag _ _ _ h.obj (by decide)), fun b' hb' => own_block (h.own b' hb') fun g hg => ?_, fun b' hb' i' hi' => ?_, h.rge, h.inj, h.heads⟩
  · obtain ⟨_, cur, q2⟩ := own_tag (h.own b' hb') hg
    rw [blk_set_ne q2 _ _ (tag _ _ _ q2 (by decide)), q2]
  · by_cases e : b' = b ∧ i' = i
    · obtain ⟨rfl, rfl⟩ := e
      rw [upd2_same]; exact (h.wrd _ hb' _ hi').store k x
    · rw [upd2_ne _ _ e]
      refine (h.wrd b' hb' i' hi').of_block ?_
      have hne : R b' i' ≠ R b i := fun er => e (h.inj b' i' b i hb' hb hi' hi er)
      rw [Below.heap_setCell _ _ _ _ hne]
end
end Go.Proofs.YtlipngdfhpaodaaGreat
