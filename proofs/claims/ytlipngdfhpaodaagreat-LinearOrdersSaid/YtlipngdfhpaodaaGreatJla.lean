/- Plain facts on lists of counts: sorted lists, what the merge of two runs needs, and the sums by index. -/
import Derived.Test.YtlipngdfhpaodaaGreatFrame
import Derived.Test.YtlipngdfhpaodaaGreatGrow
import Derived.BigRegion
import Derived.IntWalk
import Derived.Deep.QuietTactic
import Derived.BigQuiet
import Derived.Deep.RegionHeld3
import Derived.Laws.AppendOwn
namespace Go.Proofs.YtlipngdfhpaodaaGreat.Srt

/-- a count: its index, how many -/
abbrev Cn := Int × Nat
def Sorted (l : List Cn) : Prop := l.Pairwise fun x y => x.1 ≤ y.1
def Below (l r : List Cn) : Prop := ∀ x ∈ l, ∀ y ∈ r, x.1 ≤ y.1

theorem sorted_app {l r : List Cn} : Sorted (l ++ r) ↔ Sorted l ∧ Sorted r ∧ Below l r := by
  unfold Sorted Below; rw [List.pairwise_append]
theorem sorted_one (x : Cn) : Sorted [x] := by unfold Sorted; simp
theorem sorted_nil : Sorted [] := List.Pairwise.nil
theorem Below.perm {l r l' r' : List Cn} (h : Below l r) (p : l'.Perm l) (q : r'.Perm r) : Below l' r' :=
  fun x hx y hy => h x (p.mem_iff.1 hx) y (q.mem_iff.1 hy)
theorem below_app_l {a b r : List Cn} : Below (a ++ b) r ↔ Below a r ∧ Below b r := by
  unfold Below
  constructor
  · intro h; exact ⟨fun x hx => h x (by simp [hx]), fun x hx => h x (by simp [hx])⟩
  · rintro ⟨h, k⟩ x hx
    rcases List.mem_append.1 hx with hx | hx
    · exact h x hx
    · exact k x hx
theorem below_app_r {a b r : List Cn} : Below r (a ++ b) ↔ Below r a ∧ Below r b := by
  unfold Below
  constructor
  · intro h; exact ⟨fun x hx y hy => h x hx y (by simp [hy]), fun x hx y hy => h x hx y (by simp [hy])⟩
  · rintro ⟨h, k⟩ x hx y hy
    rcases List.mem_append.1 hy with hy | hy
    · exact h x hx y hy
    · exact k x hx y hy
theorem below_nil_l (r : List Cn) : Below [] r := fun x hx => by cases hx
theorem below_nil_r (r : List Cn) : Below r [] := fun _ _ y hy => by cases hy

/-- two runs of which each last one stands ahead of the other's first one -/
theorem below_of_ends {a : List Cn} {x y : Cn} {b : List Cn} (ha : Sorted (a ++ [x])) (hb : Sorted (y :: b)) (h : x.1 ≤ y.1) : Below (a ++ [x]) (y :: b) := by
  intro u hu v hv
  have h1 : u.1 ≤ x.1 := by
    rcases List.mem_append.1 hu with hu | hu
    · exact (sorted_app.1 ha).2.2 u hu x (by simp)
    · simp at hu; rw [hu]; exact Int.le_refl _
  have h2 : y.1 ≤ v.1 := by
    rcases List.mem_cons.1 hv with rfl | hv
    · exact Int.le_refl _
    · exact (List.pairwise_cons.1 hb).1 v hv
  omega

/-- the last step of the merge of two runs: the four parts laid anew -/
theorem merge_parts {A1 A2 B1 B2 C1 C2 : List Cn} (hA : Sorted (A1 ++ A2)) (hB : Sorted (B1 ++ B2)) (h1 : Below A1 B2) (h2 : Below B1 A2)
    (p1 : C1.Perm (A1 ++ B1)) (s1 : Sorted C1) (p2 : C2.Perm (A2 ++ B2)) (s2 : Sorted C2) : Sorted (C1 ++ C2) ∧ (C1 ++ C2).Perm (A1 ++ A2 ++ (B1 ++ B2)) := by
  refine ⟨sorted_app.2 ⟨s1, s2, ?_⟩, ?_⟩
  · refine Below.perm (l := A1 ++ B1) (r := A2 ++ B2) ?_ p1 p2
    exact below_app_l.2 ⟨below_app_r.2 ⟨(sorted_app.1 hA).2.2, h1⟩, below_app_r.2 ⟨h2, (sorted_app.1 hB).2.2⟩⟩
  · refine (p1.append p2).trans ?_
    rw [List.append_assoc, List.append_assoc]
    refine List.Perm.append_left A1 ?_
    rw [← List.append_assoc, ← List.append_assoc]
    exact List.Perm.append_right B2 List.perm_append_comm

/-- the sum, of an index -/
def sumK (k : Int) : List Cn → Nat
  | [] => 0
  | x :: r => (if x.1 = k then x.2 else 0) + sumK k r
theorem sumK_app (k : Int) (l r : List Cn) : sumK k (l ++ r) = sumK k l + sumK k r := by
  induction l with
  | nil => simp [sumK]
  | cons x t ih => simp only [List.cons_append, sumK, ih]; omega
theorem sumK_perm {l r : List Cn} (h : l.Perm r) (k : Int) : sumK k l = sumK k r := by
  induction h with
  | nil => rfl
  | cons x _ ih => simp only [sumK, ih]
  | swap x y l => simp only [sumK]; omega
  | trans _ _ i1 i2 => rw [i1, i2]
theorem sumK_none {l : List Cn} {k : Int} (h : ∀ x ∈ l, x.1 ≠ k) : sumK k l = 0 := by
  induction l with
  | nil => rfl
  | cons x t ih => simp only [sumK]; rw [if_neg (h x (by simp)), ih (fun y hy => h y (by simp [hy]))]

/-- rising indices, none of them twice -/
def Strict (l : List Cn) : Prop := l.Pairwise fun x y => x.1 < y.1
/-- R holds the sums of L, by rising index, none of them 0 -/
structure Norm (L R : List Cn) : Prop where
  up : Strict R
  pos : ∀ x ∈ R, x.2 ≠ 0 ∧ x.2 < 18446744073709551616
  sum : ∀ k, sumK k R % 18446744073709551616 = sumK k L % 18446744073709551616
theorem strict_sum {x : Cn} {l : List Cn} (h : Strict (x :: l)) : sumK x.1 (x :: l) = x.2 := by
  have := sumK_none (l := l) (k := x.1) (fun y hy => by have := (List.pairwise_cons.1 h).1 y hy; omega)
  simp [sumK, this]
theorem strict_le {x y : Cn} {l : List Cn} (h : Strict (x :: l)) (hy : y ∈ x :: l) : x.1 ≤ y.1 := by
  rcases List.mem_cons.1 hy with rfl | hy
  · exact Int.le_refl _
  · have := (List.pairwise_cons.1 h).1 y hy; omega
theorem uniq : ∀ (R R' : List Cn), Strict R → Strict R' → (∀ x ∈ R, x.2 ≠ 0 ∧ x.2 < 18446744073709551616) → (∀ x ∈ R', x.2 ≠ 0 ∧ x.2 < 18446744073709551616) →
    (∀ k, sumK k R % 18446744073709551616 = sumK k R' % 18446744073709551616) → R = R' := by
  have lem : ∀ (x : Cn) (t R' : List Cn), Strict (x :: t) → Strict R' → x.2 ≠ 0 → x.2 < 18446744073709551616 → (∀ k, sumK k (x :: t) % 18446744073709551616 = sumK k R' % 18446744073709551616) → ∃ y r, R' = y :: r ∧ y.1 ≤ x.1 := by
    intro x t R' h h' h0 h1 hs
    cases R' with
    | nil => have := hs x.1; rw [strict_sum h] at this; simp [sumK] at this; omega
    | cons y r =>
      refine ⟨y, r, rfl, ?_⟩
      rcases Int.lt_or_le x.1 y.1 with hlt | hle
      · have e : sumK x.1 (y :: r) = 0 := sumK_none (fun z hz => by have := strict_le h' hz; omega)
        have := hs x.1; rw [strict_sum h, e] at this; omega
      · exact hle
  intro R
  induction R with
  | nil =>
    intro R' _ h' _ p' hs
    cases R' with
    | nil => rfl
    | cons y r =>
      have := hs y.1; rw [strict_sum h'] at this; simp [sumK] at this
      have := p' y (by simp); omega
  | cons x t ih =>
    intro R' h h' p p' hs
    obtain ⟨y, r, rfl, hyx⟩ := lem x t R' h h' (p x (by simp)).1 (p x (by simp)).2 hs
    obtain ⟨x', t', e, hxy⟩ := lem y r (x :: t) h' h (p' y (by simp)).1 (p' y (by simp)).2 (fun k => (hs k).symm)
    obtain ⟨rfl, rfl⟩ := List.cons.inj e
    have e1 : x.1 = y.1 := by omega
    have e2 : x.2 = y.2 := by
      have h3 := hs x.1
      rw [strict_sum h] at h3
      rw [e1, strict_sum h'] at h3
      have := (p x (by simp)).2; have := (p' y (by simp)).2; omega
    have e3 : x = y := Prod.ext e1 e2
    subst e3
    rw [ih r (List.pairwise_cons.1 h).2 (List.pairwise_cons.1 h').2 (fun z hz => p z (by simp [hz])) (fun z hz => p' z (by simp [hz])) (fun k => by
      have h3 := hs k; simp only [sumK] at h3
      by_cases hk : x.1 = k
      · rw [sumK_none (l := t) (fun z hz => by have := (List.pairwise_cons.1 h).1 z hz; omega), sumK_none (l := r) (fun z hz => by have := (List.pairwise_cons.1 h').1 z hz; omega)]
      · rw [if_neg hk, Nat.zero_add, Nat.zero_add] at h3; exact h3)]
theorem Norm.uniq {L L' R R' : List Cn} (h : Norm L R) (h' : Norm L' R') (hs : ∀ k, sumK k L = sumK k L') : R = R' :=
  Srt.uniq R R' h.up h'.up h.pos h'.pos (fun k => by rw [h.sum, h'.sum, hs])

/-- runs of s, each sorted; the last one may be shorter -/
inductive Runs (s : Nat) : List Cn → Prop
  | last (l : List Cn) : Sorted l → l.length ≤ s → Runs s l
  | more (l r : List Cn) : Sorted l → l.length = s → Runs s r → Runs s (l ++ r)
/-- runs of s, none of them shorter -/
inductive Full (s : Nat) : List Cn → Prop
  | none : Full s []
  | more (l r : List Cn) : Full s l → Sorted r → r.length = s → Full s (l ++ r)
theorem Full.len {s : Nat} {l : List Cn} (h : Full s l) : ∃ k, l.length = k * s := by
  induction h with
  | none => exact ⟨0, by simp⟩
  | more l r _ _ hr ih => obtain ⟨k, hk⟩ := ih; exact ⟨k + 1, by rw [List.length_append, hk, hr, Nat.add_mul]; omega⟩
theorem Full.runs {s : Nat} {l : List Cn} (h : Full s l) : ∀ {r : List Cn}, Runs s r → Runs s (l ++ r) := by
  induction h with
  | none => intro r hr; exact hr
  | more l x _ hx hl ih => intro r hr; rw [List.append_assoc]; exact ih (Runs.more x r hx hl hr)
theorem Runs.one {s : Nat} {l : List Cn} (h : Runs s l) (hl : l.length ≤ s) : Sorted l := by
  cases h with
  | last _ h _ => exact h
  | more l r hl' h2 hr =>
    have : r = [] := by rw [List.length_append] at hl; exact List.length_eq_zero_iff.1 (by omega)
    subst this; rw [List.append_nil]; exact hl'
/-- two runs at the head -/
theorem Runs.two {s : Nat} {l : List Cn} (h : Runs s l) (hs : 0 < s) (hl : 2 * s ≤ l.length) : ∃ x y r, l = x ++ y ++ r ∧ Sorted x ∧ Sorted y ∧ x.length = s ∧ y.length = s ∧ (Runs s r) := by
  cases h with
  | last _ _ h2 => omega
  | more x t hx h2 ht =>
    rw [List.length_append] at hl
    cases ht with
    | last _ h3 h4 => exact ⟨x, t, [], by simp, hx, h3, h2, by omega, Runs.last [] sorted_nil (by simp)⟩
    | more y r hy h5 hr => exact ⟨x, y, r, by simp, hx, hy, h2, h5, hr⟩
/-- a run and a shorter one -/
theorem Runs.rest {s : Nat} {l : List Cn} (h : Runs s l) (hl : l.length < 2 * s) (h1 : s < l.length) : ∃ x y, l = x ++ y ∧ Sorted x ∧ Sorted y ∧ x.length = s ∧ y ≠ [] := by
  cases h with
  | last _ _ h2 => omega
  | more x t hx h2 ht =>
    rw [List.length_append] at hl h1
    exact ⟨x, t, rfl, hx, ht.one (by omega), h2, by rintro rfl; simp at h1; omega⟩
end Go.Proofs.YtlipngdfhpaodaaGreat.Srt

/- Plain facts on a row that is sorted in place: windows, swaps, turns (rotations), and the two searches of the merge. -/
namespace Go.Proofs.YtlipngdfhpaodaaGreat.Srt

/-- the window from a to b -/
def win (f : Nat → Cn) (a b : Nat) : List Cn := (List.range' a (b - a)).map f
theorem win_len (f : Nat → Cn) (a b : Nat) : (win f a b).length = b - a := by simp [win]
theorem win_nil (f : Nat → Cn) {a b : Nat} (h : b ≤ a) : win f a b = [] := by
  unfold win; rw [show b - a = 0 by omega]; rfl
theorem win_app (f : Nat → Cn) {a m b : Nat} (h1 : a ≤ m) (h2 : m ≤ b) : win f a b = win f a m ++ win f m b := by
  unfold win
  rw [← List.map_append]
  congr 1
  have := List.range'_append (s := a) (m := m - a) (n := b - m) (step := 1)
  rw [show a + 1 * (m - a) = m by omega, show m - a + (b - m) = b - a by omega] at this
  exact this.symm
theorem win_congr {f g : Nat → Cn} {a b : Nat} (h : ∀ k, a ≤ k → k < b → f k = g k) : win f a b = win g a b := by
  unfold win
  apply List.map_congr_left
  intro k hk
  rw [List.mem_range'_1] at hk
  exact h k hk.1 (by omega)
theorem win_shift {f g : Nat → Cn} {a b c d : Nat} (hl : b - a = d - c) (h : ∀ k, k < b - a → f (a + k) = g (c + k)) : win f a b = win g c d := by
  unfold win
  apply List.ext_getElem
  · simp [hl]
  · intro i h1 h2
    simp at h1 h2
    simp [h i h1]
theorem win_one (f : Nat → Cn) (a : Nat) : win f a (a + 1) = [f a] := by unfold win; rw [show a + 1 - a = 1 by omega]; rfl
theorem win_cons (f : Nat → Cn) {a b : Nat} (h : a < b) : win f a b = f a :: win f (a + 1) b := by
  rw [win_app f (m := a + 1) (by omega) (by omega), win_one]; rfl
theorem win_snoc (f : Nat → Cn) {a b : Nat} (h : a ≤ b) : win f a (b + 1) = win f a b ++ [f b] := by
  rw [win_app f h (by omega), win_one]
theorem mem_win {f : Nat → Cn} {a b : Nat} {x : Cn} : x ∈ win f a b ↔ ∃ k, a ≤ k ∧ k < b ∧ f k = x := by
  unfold win
  simp only [List.mem_map, List.mem_range'_1]
  constructor
  · rintro ⟨k, ⟨h1, h2⟩, h3⟩; exact ⟨k, h1, by omega, h3⟩
  · rintro ⟨k, h1, h2, h3⟩; exact ⟨k, ⟨h1, by omega⟩, h3⟩
theorem sorted_win {f : Nat → Cn} {a b : Nat} : Sorted (win f a b) ↔ ∀ i j, a ≤ i → i < j → j < b → (f i).1 ≤ (f j).1 := by
  unfold Sorted
  rw [List.pairwise_iff_getElem]
  simp only [win_len]
  constructor
  · intro h i j h1 h2 h3
    have := h (i - a) (j - a) (by omega) (by omega) (by omega)
    simp only [win, List.getElem_map, List.getElem_range'] at this
    rw [show a + 1 * (i - a) = i by omega, show a + 1 * (j - a) = j by omega] at this
    exact this
  · intro h i j h1 h2 h3
    simp only [win, List.getElem_map, List.getElem_range']
    exact h _ _ (by omega) (by omega) (by omega)
theorem sorted_le {f : Nat → Cn} {a b : Nat} (h : Sorted (win f a b)) {i j : Nat} (h1 : a ≤ i) (h2 : i ≤ j) (h3 : j < b) : (f i).1 ≤ (f j).1 := by
  rcases Nat.lt_or_eq_of_le h2 with h4 | rfl
  · exact sorted_win.1 h i j h1 h4 h3
  · exact Int.le_refl _
theorem sorted_part {f : Nat → Cn} {a b c d : Nat} (h : Sorted (win f a b)) (h1 : a ≤ c) (h2 : d ≤ b) : Sorted (win f c d) :=
  sorted_win.2 fun i j q1 q2 q3 => sorted_win.1 h i j (by omega) q2 (by omega)
theorem below_win {f g : Nat → Cn} {a b c d : Nat} : Below (win f a b) (win g c d) ↔ ∀ i j, a ≤ i → i < b → c ≤ j → j < d → (f i).1 ≤ (g j).1 := by
  unfold Below
  constructor
  · intro h i j h1 h2 h3 h4
    exact h _ (mem_win.2 ⟨i, h1, h2, rfl⟩) _ (mem_win.2 ⟨j, h3, h4, rfl⟩)
  · intro h x hx y hy
    obtain ⟨i, h1, h2, rfl⟩ := mem_win.1 hx
    obtain ⟨j, h3, h4, rfl⟩ := mem_win.1 hy
    exact h i j h1 h2 h3 h4

/-- two elements change places -/
def swp (f : Nat → Cn) (i j : Nat) : Nat → Cn := fun k => if k = i then f j else if k = j then f i else f k
theorem swp_out (f : Nat → Cn) {i j k : Nat} (h1 : k ≠ i) (h2 : k ≠ j) : swp f i j k = f k := by unfold swp; rw [if_neg h1, if_neg h2]
theorem swp_l (f : Nat → Cn) (i j : Nat) : swp f i j i = f j := if_pos rfl
theorem swp_r (f : Nat → Cn) (i j : Nat) : swp f i j j = f i := by
  unfold swp; split
  · rename_i h; rw [h]
  · exact if_pos rfl
theorem perm_swp1 (f : Nat → Cn) {a b i : Nat} (h1 : a ≤ i) (h2 : i + 1 < b) : (win (swp f i (i + 1)) a b).Perm (win f a b) := by
  rw [win_app _ (m := i) h1 (by omega), win_app f (m := i) h1 (by omega)]
  rw [win_congr (f := swp f i (i + 1)) (g := f) (a := a) (b := i) (fun k q1 q2 => swp_out f (by omega) (by omega))]
  refine List.Perm.append_left _ ?_
  rw [win_cons _ (by omega), win_cons _ (a := i + 1) h2, win_cons f (a := i) (by omega), win_cons f (a := i + 1) h2, swp_l, swp_r]
  rw [win_congr (f := swp f i (i + 1)) (g := f) (a := i + 1 + 1) (b := b) (fun k q1 q2 => swp_out f (by omega) (by omega))]
  exact List.Perm.swap _ _ _
/-- what a step did: a window's elements anew, all others as they were -/
structure Anew (f g : Nat → Cn) (a b : Nat) : Prop where
  perm : (win g a b).Perm (win f a b)
  out : ∀ k, ¬ (a ≤ k ∧ k < b) → g k = f k
theorem Anew.refl (f : Nat → Cn) (a b : Nat) : Anew f f a b := ⟨List.Perm.refl _, fun _ _ => rfl⟩
theorem Anew.trans {f g h : Nat → Cn} {a b : Nat} (x : Anew f g a b) (y : Anew g h a b) : Anew f h a b :=
  ⟨y.perm.trans x.perm, fun k hk => (y.out k hk).trans (x.out k hk)⟩
theorem Anew.wide {f g : Nat → Cn} {a b c d : Nat} (x : Anew f g a b) (h0 : a ≤ b) (h1 : c ≤ a) (h2 : b ≤ d) : Anew f g c d := by
  refine ⟨?_, fun k hk => x.out k (by omega)⟩
  rw [win_app g (a := c) (m := a) (b := d) h1 (by omega), win_app f (a := c) (m := a) (b := d) h1 (by omega), win_app g (a := a) (m := b) (b := d) h0 h2, win_app f (a := a) (m := b) (b := d) h0 h2]
  rw [win_congr (f := g) (g := f) (a := c) (b := a) (fun k _ _ => x.out k (by omega)), win_congr (f := g) (g := f) (a := b) (b := d) (fun k _ _ => x.out k (by omega))]
  exact List.Perm.append_left _ (List.Perm.append_right _ x.perm)
theorem Anew.same {f g : Nat → Cn} {a b c d : Nat} (x : Anew f g a b) (h : d ≤ a ∨ b ≤ c) : win g c d = win f c d :=
  win_congr fun k h1 h2 => x.out k (by omega)

/-- two stretches of n elements change places -/
def swr (f : Nat → Cn) (a b n : Nat) : Nat → Cn := fun k => if a ≤ k ∧ k < a + n then f (k - a + b) else if b ≤ k ∧ k < b + n then f (k - b + a) else f k
theorem swr_zero (f : Nat → Cn) (a b : Nat) : swr f a b 0 = f := by funext k; unfold swr; rw [if_neg (by omega), if_neg (by omega)]
theorem swr_step (f : Nat → Cn) {a b n : Nat} (h : a + n < b) : swp (swr f a b n) (a + n) (b + n) = swr f a b (n + 1) := by
  funext k
  unfold swp swr
  repeat' split
  all_goals first | rfl | (exfalso; omega) | (congr 1; omega)
/-- a turn: what stands from m to b is brought ahead of what stands from a to m -/
def rot (f : Nat → Cn) (a m b : Nat) : Nat → Cn := fun k => if a ≤ k ∧ k < a + (b - m) then f (k - a + m) else if a + (b - m) ≤ k ∧ k < b then f (k - (b - m)) else f k
theorem rot_gt (f : Nat → Cn) {i j m : Nat} (h1 : i ≤ m) (h2 : j < i) : rot (swr f (m - i) m j) (m - (i - j)) m (m + j) = rot f (m - i) m (m + j) := by
  funext k
  unfold rot swr
  repeat' split
  all_goals first | rfl | (exfalso; omega) | (congr 1; omega)
theorem rot_lt (f : Nat → Cn) {i j m : Nat} (h1 : i ≤ m) (h2 : i < j) : rot (swr f (m - i) (m + j - i) i) (m - i) m (m + (j - i)) = rot f (m - i) m (m + j) := by
  funext k
  unfold rot swr
  repeat' split
  all_goals first | rfl | (exfalso; omega) | (congr 1; omega)
theorem rot_eq (f : Nat → Cn) {i m : Nat} (h1 : i ≤ m) : swr f (m - i) m i = rot f (m - i) m (m + i) := by
  funext k
  unfold rot swr
  repeat' split
  all_goals first | rfl | (exfalso; omega) | (congr 1; omega)
theorem rot_win (f : Nat → Cn) {a m b : Nat} (h1 : a ≤ m) (h2 : m ≤ b) : win (rot f a m b) a (a + (b - m)) = win f m b ∧ win (rot f a m b) (a + (b - m)) b = win f a m := by
  constructor
  · refine win_shift (by omega) fun k hk => ?_
    unfold rot; rw [if_pos (by omega)]; congr 1; omega
  · refine win_shift (by omega) fun k hk => ?_
    unfold rot; rw [if_neg (by omega), if_pos (by omega)]; congr 1; omega
theorem rot_anew (f : Nat → Cn) {a m b : Nat} (h1 : a ≤ m) (h2 : m ≤ b) : Anew f (rot f a m b) a b := by
  obtain ⟨e1, e2⟩ := rot_win f h1 h2
  refine ⟨?_, fun k hk => ?_⟩
  · rw [win_app _ (m := a + (b - m)) (by omega) (by omega), e1, e2, win_app f h1 h2]
    exact List.perm_append_comm
  · unfold rot; rw [if_neg (by omega), if_neg (by omega)]

/-- the merge's cut: what stands ahead of s in the first run and ahead of e in the second one goes ahead -/
structure Cut (f : Nat → Cn) (a m b s e : Nat) : Prop where
  h1 : a ≤ s
  h2 : s ≤ m
  h3 : m ≤ e
  h4 : e ≤ b
  l1 : ∀ i j, a ≤ i → i < s → e ≤ j → j < b → (f i).1 ≤ (f j).1
  l2 : ∀ i j, m ≤ i → i < e → s ≤ j → j < m → (f i).1 ≤ (f j).1
/-- the four parts behind the turn, each pair merged: the whole is sorted -/
theorem merged {f g h : Nat → Cn} {a m b s e c : Nat} (ha : Sorted (win f a m)) (hb : Sorted (win f m b)) (k : Cut f a m b s e) (hc : c = s + (e - m))
    (g1 : Anew (rot f s m e) g a c) (s1 : Sorted (win g a c)) (g2 : Anew g h c b) (s2 : Sorted (win h c b)) : Anew f h a b ∧ Sorted (win h a b) := by
  obtain ⟨k1, k2, k3, k4, l1, l2⟩ := k
  obtain ⟨e1, e2⟩ := rot_win f k2 k3
  rw [← hc] at e1 e2
  have hac : a ≤ c := by omega
  have hcb : c ≤ b := by omega
  have r := (rot_anew f k2 k3).wide (by omega) k1 k4
  have A := (r.trans (g1.wide hac (Nat.le_refl _) hcb)).trans (g2.wide hcb hac (Nat.le_refl _))
  refine ⟨A, ?_⟩
  have w1 : win h a c = win g a c := g2.same (.inl (Nat.le_refl _))
  have w2 : win g c b = win (rot f s m e) c b := g1.same (.inr (Nat.le_refl _))
  have p1 : (win g a c).Perm (win f a s ++ win f m e) := by
    refine g1.perm.trans ?_
    rw [win_app (rot f s m e) (m := s) k1 (by omega), e1]
    rw [(rot_anew f k2 k3).same (.inl (Nat.le_refl _))]
  have p2 : (win h c b).Perm (win f s m ++ win f e b) := by
    refine g2.perm.trans ?_
    rw [w2, win_app (rot f s m e) (m := e) (by omega) k4, e2]
    rw [(rot_anew f k2 k3).same (.inr (Nat.le_refl _))]
  rw [win_app f k1 k2] at ha
  rw [win_app f k3 k4] at hb
  have := merge_parts (C1 := win g a c) (C2 := win h c b) ha hb (below_win.2 l1) (below_win.2 l2) p1 s1 p2 s2
  rw [win_app h hac hcb, w1]
  exact this.1

/-- insertion: the window from a to i is sorted, and from i on one element walks down -/
structure Ins (f : Nat → Cn) (a i j : Nat) : Prop where
  lo : ∀ x y, a ≤ x → x < y → y ≤ i → x ≠ j → y ≠ j → (f x).1 ≤ (f y).1
  hi : ∀ y, j < y → y ≤ i → (f j).1 ≤ (f y).1
theorem Ins.start {f : Nat → Cn} {a i : Nat} (h : Sorted (win f a i)) : Ins f a i i :=
  ⟨fun x y h1 h2 h3 _ h5 => sorted_win.1 h x y h1 h2 (by omega), fun y h1 h2 => by omega⟩
theorem Ins.step {f : Nat → Cn} {a i j : Nat} (h : Ins f a i (j + 1)) (hj : a ≤ j) (hi : j + 1 ≤ i) (hlt : (f (j + 1)).1 < (f j).1) : Ins (swp f (j + 1) j) a i j := by
  refine ⟨fun x y h1 h2 h3 hx hy => ?_, fun y h1 h2 => ?_⟩
  · by_cases ex : x = j + 1
    · subst ex
      rw [swp_l, swp_out f (by omega) (by omega)]
      exact h.lo j y hj (by omega) h3 (by omega) (by omega)
    · by_cases ey : y = j + 1
      · subst ey
        rw [swp_l, swp_out f ex hx]
        exact h.lo x j h1 (by omega) (by omega) (by omega) (by omega)
      · rw [swp_out f ex hx, swp_out f ey hy]
        exact h.lo x y h1 h2 h3 ex ey
  · rw [swp_r]
    by_cases ey : y = j + 1
    · subst ey; rw [swp_l]; omega
    · rw [swp_out f ey (by omega)]
      exact h.hi y (by omega) h2
theorem Ins.done {f : Nat → Cn} {a i j : Nat} (h : Ins f a i j) (hj : a ≤ j) (hji : j ≤ i) (he : j = a ∨ (f (j - 1)).1 ≤ (f j).1) : Sorted (win f a (i + 1)) := by
  refine sorted_win.2 fun x y h1 h2 h3 => ?_
  by_cases ex : x = j
  · subst ex; exact h.hi y h2 (by omega)
  · by_cases ey : y = j
    · subst ey
      rcases he with rfl | he
      · omega
      · by_cases exj : x = y - 1
        · subst exj; exact he
        · have := h.lo x (y - 1) h1 (by omega) (by omega) ex (by omega)
          omega
    · exact h.lo x y h1 h2 (by omega) ex ey
def upTo (f : Nat → Cn) (a k : Nat) : Nat → Cn := rot f a (a + 1) (k + 1)
theorem upTo_start (f : Nat → Cn) (a : Nat) : upTo f a a = f := by
  funext k
  unfold upTo rot
  repeat' split
  all_goals first | rfl | (exfalso; omega) | (congr 1; omega)
theorem upTo_step (f : Nat → Cn) {a k : Nat} (h : a ≤ k) : swp (upTo f a k) k (k + 1) = upTo f a (k + 1) := by
  funext x
  unfold swp upTo rot
  repeat' split
  all_goals first | rfl | (exfalso; omega) | (congr 1; omega)
def downTo (f : Nat → Cn) (m k : Nat) : Nat → Cn := rot f k m (m + 1)
theorem downTo_start (f : Nat → Cn) (m : Nat) : downTo f m m = f := by
  funext k
  unfold downTo rot
  repeat' split
  all_goals first | rfl | (exfalso; omega) | (congr 1; omega)
theorem downTo_step (f : Nat → Cn) {m k : Nat} (h : k < m) : swp (downTo f m (k + 1)) (k + 1) k = downTo f m k := by
  funext x
  unfold swp downTo rot
  repeat' split
  all_goals first | rfl | (exfalso; omega) | (congr 1; omega)
/-- a turn of two parts that need nothing more: the whole is sorted -/
theorem turned {f : Nat → Cn} {a m b s e : Nat} (ha : Sorted (win f a m)) (hb : Sorted (win f m b)) (k : Cut f a m b s e) (hl : s = a ∨ e = m) (hr : s = m ∨ e = b) : Anew f (rot f s m e) a b ∧ Sorted (win (rot f s m e) a b) := by
  obtain ⟨k1, k2, k3, k4, l1, l2⟩ := k
  obtain ⟨e1, e2⟩ := rot_win f k2 k3
  refine merged ha hb ⟨k1, k2, k3, k4, l1, l2⟩ rfl (Anew.refl _ _ _) ?_ (Anew.refl _ _ _) ?_
  · rw [win_app (rot f s m e) (m := s) k1 (by omega), e1, (rot_anew f k2 k3).same (.inl (Nat.le_refl _))]
    rcases hl with rfl | rfl
    · rw [win_nil f (Nat.le_refl _)]; exact sorted_part hb (Nat.le_refl _) k4
    · rw [win_nil f (Nat.le_refl e), List.append_nil]; exact sorted_part ha (Nat.le_refl _) k2
  · rw [win_app (rot f s m e) (m := e) (by omega) k4, e2, (rot_anew f k2 k3).same (.inr (Nat.le_refl _))]
    rcases hr with rfl | rfl
    · rw [win_nil f (Nat.le_refl _)]; exact sorted_part hb k3 (Nat.le_refl _)
    · rw [win_nil f (Nat.le_refl _), List.append_nil]; exact sorted_part ha k1 (Nat.le_refl _)
end Go.Proofs.YtlipngdfhpaodaaGreat.Srt

/- The walks of the stable sort at pairs of numbers: swapRange, rotate. -/
namespace Go.Proofs.YtlipngdfhpaodaaGreat.Lo
open Go.RowKit Srt

/-- an element is (rank, place): its rank is its point and its place -/
def big : Int := 4294967296
/-- the order's premises: what the pairs are, their points, what the comparator's box needs, and what it answers -/
structure Ho where
  hb : Nat
  M : Nat
  sz : Nat
  T : Nat → Int
  N : Nat → Int
  P : Nat → Int
  H : Nat → World → Prop
  lt : M ≤ 4294967296
  keep : ∀ {g : Nat} {w w' : World}, H g w → Only (· = g) w w' → H g w'
  cmp : ∀ (g x y : Nat) (w : World), H g w → x < M → y < M →
    Calls Tryz.prog 86 #[.agg #[.int .i64 (T x), .int .i64 (N x)], .agg #[.int .i64 (T y), .int .i64 (N y)], .pointer (some ⟨hb, 0, none⟩)] w fun e w' => e = .returned (.int .i64 (P x - P y)) ∧ Only (fun _ => False) w w'
/-- an element of the row -/
def Ho.V (C : Ho) (x : Cn) : Prop := x.2 < C.M ∧ x.1 = C.P x.2 * 4294967296 + x.2
variable {C : Ho}
/-- a row of n pairs at the head of a block -/
def Arr (C : Ho) (w : World) (g n : Nat) (f : Nat → Cn) : Prop := (∃ X : Array Value, w.heap[g]? = some (.cells X 72 (0, 0)) ∧ (n * 2 ≤ X.size ∧ X.size = C.sz) ∧ ∀ i, i < n → X[i * 2]? = some (.int .i64 (C.T (f i).2)) ∧ X[i * 2 + 1]? = some (.int .i64 (C.N (f i).2))) ∧ C.H g w ∧ ∀ i, i < n → C.V (f i)
structure ArrAt (C : Ho) (w : World) (g i : Nat) (x : Cn) : Prop where
  c0 : w.cell? ⟨g, i * 2, none⟩ = some (.int .i64 (C.T x.2))
  c1 : w.cell? ⟨g, i * 2 + 1, none⟩ = some (.int .i64 (C.N x.2))
  f0 : w.frozen? ⟨g, i * 2, none⟩ = false
  f1 : w.frozen? ⟨g, i * 2 + 1, none⟩ = false
theorem Arr.get {w : World} {g n : Nat} {f : Nat → Cn} (h : Arr C w g n f) {i : Nat} (hi : i < n) : ArrAt C w g i (f i) := by
  obtain ⟨⟨X, h1, h2, h3⟩, _⟩ := h
  obtain ⟨q1, q2⟩ := h3 i hi
  exact ⟨by rw [blk_cell h1, q1], by rw [blk_cell h1, q2], blk_free h1 _, blk_free h1 _⟩
theorem Arr.put {w : World} {g n : Nat} {f : Nat → Cn} (h : Arr C w g n f) (i : Nat) (x : Cn) (hx : C.V x) : Arr C ((w.setCell ⟨g, i * 2, none⟩ (.int .i64 (C.T x.2))).setCell ⟨g, i * 2 + 1, none⟩ (.int .i64 (C.N x.2))) g n (fun k => if k = i then x else f k) := by
  obtain ⟨⟨X, h1, h2, h3⟩, hH, hV⟩ := h
  refine ⟨⟨_, blk_set (blk_set h1 _ _) _ _, by simpa using h2, fun k hk => ?_⟩, C.keep hH (((Only.refl (· = g) w).setCell (p := ⟨g, _, none⟩) (.inr rfl) _).setCell (p := ⟨g, _, none⟩) (.inr rfl) _), fun k hk => ?_⟩
  · obtain ⟨q1, q2⟩ := h3 k hk
    by_cases e : k = i
    · subst e
      dsimp only
      rw [if_pos rfl]
      constructor
      · rw [Array.getElem?_setIfInBounds_ne (by omega), Array.getElem?_setIfInBounds_self_of_lt (by omega)]
      · rw [Array.getElem?_setIfInBounds_self_of_lt (by simp; omega)]
    · dsimp only
      rw [if_neg e]
      constructor
      · rw [Array.getElem?_setIfInBounds_ne (by omega), Array.getElem?_setIfInBounds_ne (by omega), q1]
      · rw [Array.getElem?_setIfInBounds_ne (by omega), Array.getElem?_setIfInBounds_ne (by omega), q2]
  · dsimp only
    split
    · exact hx
    · exact hV k hk
theorem Arr.congr {w : World} {g n : Nat} {f f' : Nat → Cn} (h : Arr C w g n f) (e : ∀ i, i < n → f i = f' i) : Arr C w g n f' := by
  obtain ⟨⟨X, h1, h2, h3⟩, hH, hV⟩ := h
  exact ⟨⟨X, h1, h2, fun i hi => by rw [← e i hi]; exact h3 i hi⟩, hH, fun i hi => by rw [← e i hi]; exact hV i hi⟩
theorem Arr.none {w w' : World} {g n : Nat} {f : Nat → Cn} (h : Arr C w g n f) (O : Only (fun _ => False) w w') : Arr C w' g n f := by
  obtain ⟨⟨X, h1, h2, h3⟩, hH, hV⟩ := h
  exact ⟨⟨X, O.blk h1 id, h2, h3⟩, C.keep hH (O.mono fun _ _ q => q.elim), hV⟩
theorem Arr.drew {w : World} {g n : Nat} {f : Nat → Cn} (h : Arr C w g n f) : Arr C w.drew g n f := h.none (Only.refl _ _).drew
/-- two elements that change places, as the program does it -/
def swpW (C : Ho) (w : World) (g i j : Nat) (x y : Cn) : World := (((w.setCell ⟨g, i * 2, none⟩ (.int .i64 (C.T y.2))).setCell ⟨g, i * 2 + 1, none⟩ (.int .i64 (C.N y.2))).setCell ⟨g, j * 2, none⟩ (.int .i64 (C.T x.2))).setCell ⟨g, j * 2 + 1, none⟩ (.int .i64 (C.N x.2))
theorem Arr.swap {w : World} {g n : Nat} {f : Nat → Cn} (h : Arr C w g n f) (i j : Nat) (hi : i < n := by omega) (hj : j < n := by omega) : Arr C (swpW C w g i j (f i) (f j)) g n (swp f i j) := by
  have := (h.put i (f j) (h.2.2 j hj)).put j (f i) (h.2.2 i hi)
  refine this.congr fun k _ => ?_
  unfold swp
  by_cases e : k = j
  · rw [if_pos e]
    by_cases e' : k = i
    · rw [if_pos e', ← e, ← e']
    · rw [if_neg e', if_pos e]
  · rw [if_neg e, if_neg e]
theorem only_swpW (C : Ho) (w : World) (g i j : Nat) (x y : Cn) : Only (· = g) w (swpW C w g i j x y) :=
  ((((Only.refl (· = g) w).setCell (p := ⟨g, _, none⟩) (.inr rfl) _).setCell (p := ⟨g, _, none⟩) (.inr rfl) _).setCell (p := ⟨g, _, none⟩) (.inr rfl) _).setCell (p := ⟨g, _, none⟩) (.inr rfl) _
theorem i64_of (x : Nat) (h : x ≤ 9223372036854775807) {y : Int} (e : y = x) : IntKind.i64.wrap y = (x : Int) := by rw [e, IntKind.wrap_i64]; omega

/-- a slice at a block's head -/
abbrev hv (g n cap : Nat) : Value := .slice (some ⟨g, 0, none⟩) n cap
set_option maxHeartbeats 2000000 in
theorem swapr_calls (C : Ho) (g n cap a b m : Nat) (F : Value) (f : Nat → Cn) (w : World) (hn : n ≤ 9007199254740992) (h1 : a + m ≤ b) (h2 : b + m ≤ n) (hA : Arr C w g n f) :
    Calls Tryz.prog 291 #[hv g n cap, .int .i64 a, .int .i64 b, .int .i64 m, F] w fun e w' => e = .returned (.tuple #[]) ∧ Only (· = g) w w' ∧ Arr C w' g n (swr f a b m) := by
  have hA' := Lib.hid hA; clear hA
  go_enter Tryz.func291, Tryz.ntmps291
  go_wp2_with fail
  go_loopw [10] (fun i wr => ∃ k : Nat, k ≤ m ∧ i = .int .i64 k ∧ Only (· = g) w wr ∧ Arr C wr g n (swr f a b k)) (fun i _ => m - (intOf i).toNat)
  case atStart => exact ⟨0, Nat.zero_le _, rfl, Only.refl _ _, by rw [swr_zero]; exact hA'.out⟩
  case round =>
    obtain ⟨k, hk, rfl, O, hR⟩ := hrel
    by_cases hlt : k < m
    · have hx : a + k < n := by omega
      have hy : b + k < n := by omega
      obtain ⟨x0, x1, x2, x3⟩ := hR.get hx
      obtain ⟨y0, y1, y2, y3⟩ := hR.get hy
      have hS := hR.swap (a + k) (b + k)
      rw [swr_step f (by omega)] at hS
      have O' := Lib.hid (O.trans (only_swpW C wr g (a + k) (b + k) (swr f a b k (a + k)) (swr f a b k (b + k))))
      have hS' := Lib.hid hS
      clear hR hS O
      generalize swr f a b k (a + k) = u at *
      generalize swr f a b k (b + k) = v at *
      obtain ⟨u1, u2⟩ := u
      obtain ⟨v1, v2⟩ := v
      have wx : IntKind.i64.wrap ((a : Int) + k) = ((a + k : Nat) : Int) := i64_of (a + k) (by omega) (by omega)
      have wy : IntKind.i64.wrap ((b : Int) + k) = ((b + k : Nat) : Int) := i64_of (b + k) (by omega) (by omega)
      have hne : a + k ≠ b + k := by omega
      generalize a + k = x at *
      generalize b + k = y at *
      go_wp2_with fail
      go_region
      all_goals
        go_wp2_with fail
        exact ⟨⟨k + 1, by omega, by go_num, O'.out.drew, hS'.out.drew⟩, by simp [intOf]; omega⟩
    · obtain rfl : k = m := by omega
      go_wp2_with fail
      go_end0
      exact ⟨rfl, O, hR⟩
theorem swapr_ints (C : Ho) (g n cap a b m : Nat) (A B M : Int) (F : Value) (f : Nat → Cn) (w : World) (ea : A = a) (eb : B = b) (em : M = m) (hn : n ≤ 9007199254740992) (h1 : a + m ≤ b) (h2 : b + m ≤ n) (hA : Arr C w g n f) :
    Calls Tryz.prog 291 #[hv g n cap, .int .i64 A, .int .i64 B, .int .i64 M, F] w fun e w' => e = .returned (.tuple #[]) ∧ Only (· = g) w w' ∧ Arr C w' g n (swr f a b m) := by
  subst ea; subst eb; subst em
  exact swapr_calls C g n cap a b m F f w hn h1 h2 hA
/-- what is left to be turned -/
structure RotIn (f : Nat → Cn) (a m b i j : Nat) (h : Nat → Cn) : Prop where
  i0 : 0 < i
  j0 : 0 < j
  i1 : i ≤ m - a
  j1 : j ≤ b - m
  eq : rot h (m - i) m (m + j) = rot f a m b
def RotRel (C : Ho) (w : World) (g n : Nat) (f : Nat → Cn) (a m b : Nat) (p q : Value) (wr : World) : Prop := ∃ i j : Nat, ∃ h, p = .int .i64 i ∧ q = .int .i64 j ∧ RotIn f a m b i j h ∧ Only (· = g) w wr ∧ Arr C wr g n h
set_option maxHeartbeats 2000000 in
theorem rot_calls (C : Ho) (g n cap a m b : Nat) (A M B : Int) (F : Value) (f : Nat → Cn) (w : World) (ea : A = a) (em : M = m) (eb : B = b) (hn : n ≤ 9007199254740992) (h1 : a < m) (h2 : m < b) (h3 : b ≤ n) (hA : Arr C w g n f) :
    Calls Tryz.prog 257 #[hv g n cap, .int .i64 A, .int .i64 M, .int .i64 B, F] w fun e w' => e = .returned (.tuple #[]) ∧ Only (· = g) w w' ∧ Arr C w' g n (rot f a m b) := by
  subst ea; subst eb; subst em
  have hA' := Lib.hid hA; clear hA
  go_enter Tryz.func257, Tryz.ntmps257
  go_wp2_with fail
  go_loopw [10, 11] (fun p q wr => RotRel C w g n f a m b p q wr) (fun p q _ => (intOf p).toNat + (intOf q).toNat)
  case atStart => exact ⟨m - a, b - m, f, by congr 1; omega, by congr 1; omega, ⟨by omega, by omega, by omega, by omega, by congr 1 <;> omega⟩, Only.refl _ _, hA'.out⟩
  case round =>
    obtain ⟨i, j, h, rfl, rfl, ⟨i0, j0, i1, j1, e⟩, O, hR⟩ := hrel
    have hR' := Lib.hid hR
    have O' := Lib.hid O
    have e' := Lib.hid e
    clear hR O e
    rcases Nat.lt_trichotomy i j with hlt | rfl | hgt
    · have k1 : ((i : Int) == j) = false := by simp; omega
      have k2 : ((i : Int) != j) = true := by simp; omega
      have k3 : decide ((i : Int) > j) = false := by simp; omega
      go_wp2_with fail
      refine (swapr_ints C g n cap (m - i) (m + j - i) i _ _ _ F h wr (by omega) (by omega) rfl hn (by omega) (by omega) hR'.out).mono ?_
      rintro e1 w1 ⟨rfl, O1, R1⟩
      go_wp2_with fail
      go_roundw
      case rel => exact ⟨i, j - i, _, rfl, by congr 1; omega, ⟨by omega, by omega, by omega, by omega, by rw [rot_lt h (by omega) hlt]; exact e'.out⟩, O'.out.trans O1, R1⟩
      case measure => simp [intOf]; omega
    · have k1 : ((i : Int) == i) = true := by simp
      have k2 : ((i : Int) != i) = false := by simp
      go_wp2_with fail
      refine (swapr_ints C g n cap (m - i) m i _ _ _ F h wr (by omega) (by omega) rfl hn (by omega) (by omega) hR'.out).mono ?_
      rintro e1 w1 ⟨rfl, O1, R1⟩
      go_wp2_with fail
      go_end0
      rw [rot_eq h (by omega), e'.out] at R1
      exact ⟨rfl, O'.out.trans O1, R1⟩
    · have k1 : ((i : Int) == j) = false := by simp; omega
      have k2 : ((i : Int) != j) = true := by simp; omega
      have k3 : decide ((i : Int) > j) = true := by simp; omega
      go_wp2_with fail
      refine (swapr_ints C g n cap (m - i) m j _ _ _ F h wr (by omega) (by omega) rfl hn (by omega) (by omega) hR'.out).mono ?_
      rintro e1 w1 ⟨rfl, O1, R1⟩
      go_wp2_with fail
      go_roundw
      case rel => exact ⟨i - j, j, _, by congr 1; omega, rfl, ⟨by omega, by omega, by omega, by omega, by rw [rot_gt h (by omega) hgt]; exact e'.out⟩, O'.out.trans O1, R1⟩
      case measure => simp [intOf]; omega
end Go.Proofs.YtlipngdfhpaodaaGreat.Lo

/- The walks of the order of counts, and of the insertion sort. -/
namespace Go.Proofs.YtlipngdfhpaodaaGreat.Lo
open Go.RowKit Srt
variable {C : Ho}

/-- the comparator's answer -/
def cmpN (C : Ho) (x y : Cn) : Int := C.P x.2 - C.P y.2
/-- two elements that may be compared: the first one was laid behind the second one -/
structure Ap (C : Ho) (x y : Cn) : Prop where
  vx : C.V x
  vy : C.V y
  lt : y.2 < x.2
theorem cmpN_lt {x y : Cn} (hp : Ap C x y) (h : x.1 < y.1) : decide (cmpN C x y < 0) = true := by
  obtain ⟨⟨_, e1⟩, ⟨_, e2⟩, h3⟩ := hp
  unfold cmpN
  rw [e1, e2] at h
  simp; omega
theorem cmpN_ge {x y : Cn} (hp : Ap C x y) (h : ¬ x.1 < y.1) : decide (cmpN C x y < 0) = false := by
  obtain ⟨⟨l1, e1⟩, ⟨l2, e2⟩, h3⟩ := hp
  have := C.lt
  unfold cmpN
  rw [e1, e2] at h
  simp; omega
/-- two elements that are compared: what stays -/
structure Cm (C : Ho) (W : World) (g i j : Nat) (x y : Cn) (w : World) : Prop where
  only : Only (fun _ => False) W w
  gl : g < W.heap.size
  a : ArrAt C w g i x
  b : ArrAt C w g j y
  hh : C.H g w
  ap : Ap C x y
theorem Cm.cells {W : World} {g i j : Nat} {x1 : Int} {x2 : Nat} {y1 : Int} {y2 : Nat} {w : World} (h : Cm C W g i j (x1, x2) (y1, y2) w) :
    w.cell? ⟨g, i * 2, none⟩ = some (.int .i64 (C.T x2)) ∧ w.cell? ⟨g, i * 2 + 1, none⟩ = some (.int .i64 (C.N x2)) ∧ w.cell? ⟨g, j * 2, none⟩ = some (.int .i64 (C.T y2)) ∧ w.cell? ⟨g, j * 2 + 1, none⟩ = some (.int .i64 (C.N y2)) := ⟨h.a.c0, h.a.c1, h.b.c0, h.b.c1⟩
theorem ArrAt.only {S : Nat → Prop} {w w' : World} {g i : Nat} {x : Cn} (h : ArrAt C w g i x) (O : Only S w w') (hs : ¬ S g) : ArrAt C w' g i x := by
  have hl : g < w.heap.size := World.block_lt_of_cell? w _ h.c0
  have fr : ∀ o, w'.frozen? ⟨g, o, none⟩ = w.frozen? ⟨g, o, none⟩ := fun o => World.frozen?_of_block (w := w) (O.block g hl hs)
  exact ⟨by rw [O.cellAt hl hs]; exact h.c0, by rw [O.cellAt hl hs]; exact h.c1, by rw [fr]; exact h.f0, by rw [fr]; exact h.f1⟩
theorem Cm.to {W : World} {g i j : Nat} {x y : Cn} {w w' : World} (h : Cm C W g i j x y w) (O : Only (fun _ => False) w w') : Cm C W g i j x y w' :=
  ⟨h.only.trans O, h.gl, h.a.only O id, h.b.only O id, C.keep h.hh (O.mono fun _ _ q => q.elim), h.ap⟩
theorem Cm.drew {W : World} {g i j : Nat} {x y : Cn} {w : World} (h : Cm C W g i j x y w) : Cm C W g i j x y w.drew := h.to (Only.refl _ _).drew
theorem Cm.start {W : World} {g n i j : Nat} {f : Nat → Cn} (h : Arr C W g n f) (hi : i < n) (hj : j < n) (hp : (f j).2 < (f i).2) : Cm C W g i j (f i) (f j) W :=
  ⟨Only.refl _ _, World.block_lt_of_cell? W _ (h.get hi).c0, h.get hi, h.get hj, h.2.1, ⟨h.2.2 i hi, h.2.2 j hj, hp⟩⟩
theorem cm_cmp {W : World} {g i j : Nat} {x1 : Int} {x2 : Nat} {y1 : Int} {y2 : Nat} {w : World} (h : Cm C W g i j (x1, x2) (y1, y2) w) :
    Calls Tryz.prog 86 #[.agg #[.int .i64 (C.T x2), .int .i64 (C.N x2)], .agg #[.int .i64 (C.T y2), .int .i64 (C.N y2)], .pointer (some ⟨C.hb, 0, none⟩)] w fun e w' => e = .returned (.int .i64 (cmpN C (x1, x2) (y1, y2))) ∧ Cm C W g i j (x1, x2) (y1, y2) w' :=
  (C.cmp g x2 y2 w h.hh h.ap.vx.1 h.ap.vy.1).mono fun _ _ ⟨he, O⟩ => ⟨he, h.to O⟩

/-- the order, as a value -/
def cmpf (C : Ho) : Value := .func (.func 86) #[] #[.pointer (some ⟨C.hb, 0, none⟩)]
/-- what is not yet inserted lies behind -/
def As (f : Nat → Cn) (a i b : Nat) : Prop := ∀ x y, a ≤ x → x < y → i ≤ y → y < b → (f x).2 < (f y).2
/-- the element that walks lies behind those ahead of it -/
structure Pl (f : Nat → Cn) (a i j b : Nat) : Prop where
  s : As f a (i + 1) b
  q : ∀ q, a ≤ q → q < j → (f q).2 < (f j).2
theorem Pl.start {f : Nat → Cn} {a i b : Nat} (h : As f a i b) (hi : i < b) : Pl f a i i b :=
  ⟨fun x y h1 h2 h3 h4 => h x y h1 h2 (by omega) h4, fun q h1 h2 => h q i h1 h2 (Nat.le_refl _) hi⟩
theorem Pl.step {f : Nat → Cn} {a i j b : Nat} (h : Pl f a i (j + 1) b) (haj : a ≤ j) (hj : j + 1 ≤ i) : Pl (swp f (j + 1) j) a i j b := by
  refine ⟨fun x y h1 h2 h3 h4 => ?_, fun q h1 h2 => ?_⟩
  · rw [swp_out f (i := j + 1) (j := j) (k := y) (by omega) (by omega)]
    by_cases e1 : x = j + 1
    · subst e1; rw [swp_l]; exact h.s j y haj (by omega) h3 h4
    · by_cases e2 : x = j
      · subst e2; rw [swp_r]; exact h.s (x + 1) y (by omega) (by omega) h3 h4
      · rw [swp_out f e1 e2]; exact h.s x y h1 h2 h3 h4
  · rw [swp_r, swp_out f (by omega) (by omega)]; exact h.q q h1 (by omega)
def InsO (C : Ho) (w : World) (g n a b : Nat) (f : Nat → Cn) (v : Value) (wr : World) : Prop := ∃ i : Nat, ∃ h, v = .int .i64 i ∧ a + 1 ≤ i ∧ (i = a + 1 ∨ i ≤ b) ∧ Anew f h a b ∧ Sorted (win h a i) ∧ As h a i b ∧ Only (· = g) w wr ∧ Arr C wr g n h
def InsI (C : Ho) (w : World) (g n a b i : Nat) (f : Nat → Cn) (v : Value) (wr : World) : Prop := ∃ j : Nat, ∃ h, v = .int .i64 j ∧ a ≤ j ∧ j ≤ i ∧ Anew f h a b ∧ Ins h a i j ∧ Pl h a i j b ∧ Only (· = g) w wr ∧ Arr C wr g n h
theorem swp_comm (f : Nat → Cn) (i j : Nat) : swp f i j = swp f j i := by
  funext k; unfold swp
  by_cases h1 : k = i
  · by_cases h2 : k = j
    · rw [if_pos h1, if_pos h2, ← h1, ← h2]
    · rw [if_pos h1, if_neg h2, if_pos h1]
  · by_cases h2 : k = j
    · rw [if_neg h1, if_pos h2, if_pos h2]
    · rw [if_neg h1, if_neg h2, if_neg h2, if_neg h1]
theorem swp_anew (f : Nat → Cn) {a b q : Nat} (h1 : a ≤ q) (h2 : q + 1 < b) : Anew f (swp f (q + 1) q) a b :=
  ⟨by rw [swp_comm]; exact perm_swp1 f h1 h2, fun k hk => swp_out f (by omega) (by omega)⟩
theorem ins_v {j q : Nat} (hq : j = q + 1) : Value.int .i64 ((j : Int) - 1) = .int .i64 (q : Nat) := by subst hq; congr 1; omega
theorem ins_next {w wr w8 : World} {g n a b i j q : Nat} {f h3 : Nat → Cn} {x1 y1 : Int} {x2 y2 : Nat} (hN : Anew f h3 a b) (hI : Ins h3 a i j) (hP : Pl h3 a i j b) (O : Only (· = g) w wr) (hR : Arr C wr g n h3) (h1 : a ≤ j) (h2 : j ≤ i) (hib : i < b) (hq : j = q + 1) (_hb : b ≤ n)
    (hx : h3 j = (x1, x2)) (hy : h3 q = (y1, y2)) (hC : Cm C wr g j q (x1, x2) (y1, y2) w8) (hlt : x1 < y1) (ha : a < j := by omega) :
    InsI C w g n a b i f (.int .i64 (q : Nat)) (swpW C w8 g j q (x1, x2) (y1, y2)).drew := by
  have A8 := (hR.none hC.only).swap j q (by omega) (by omega)
  rw [hx, hy] at A8
  subst hq
  have hl : (h3 (q + 1)).1 < (h3 q).1 := by rw [hx, hy]; exact hlt
  exact ⟨q, swp h3 (q + 1) q, rfl, by omega, by omega, hN.trans (swp_anew h3 (by omega) (by omega)), hI.step (by omega) h2 hl, hP.step (by omega) h2, O.trans ((hC.only.mono (fun _ _ h => h.elim)).trans (only_swpW C _ _ _ _ _ _)).drew, A8.drew⟩
theorem ins_done {w wr w8 : World} {g n a b i j : Nat} {f h3 : Nat → Cn} (hN : Anew f h3 a b) (hI : Ins h3 a i j) (hP : Pl h3 a i j b) (O : Only (· = g) w wr) (hR : Arr C wr g n h3) (h1 : a ≤ j) (h2 : j ≤ i) (hib : i < b) (he : j = a ∨ ∃ q, j = q + 1 ∧ (h3 q).1 ≤ (h3 j).1)
    (hC : Only (fun _ => False) wr w8) : InsO C w g n a b f (.int .i64 ((i : Int) + 1)) w8 := by
  refine ⟨i + 1, h3, by go_num, by omega, .inr (by omega), hN, hI.done h1 h2 ?_, hP.s, O.trans (hC.mono (fun _ _ h => h.elim)), hR.none hC⟩
  rcases he with he | ⟨q, rfl, he⟩
  · exact .inl he
  · exact .inr he
set_option maxHeartbeats 4000000 in
set_option maxRecDepth 100000 in
theorem insert_calls (C : Ho) (g n cap a b : Nat) (f : Nat → Cn) (w : World) (hn : n ≤ 9007199254740992) (h1 : a ≤ b) (h2 : b ≤ n) (hA : Arr C w g n f) (hAs : As f a (a + 1) b) :
    Calls Tryz.prog 209 #[hv g n cap, .int .i64 a, .int .i64 b, cmpf C] w fun e w' => e = .returned (.tuple #[]) ∧ Only (· = g) w w' ∧ ∃ h, Arr C w' g n h ∧ Anew f h a b ∧ Sorted (win h a b) := by
  have hA' := Lib.hid hA; clear hA
  have hAs' := Lib.hid hAs; clear hAs
  unfold cmpf
  go_enter Tryz.func209, Tryz.ntmps209
  go_wp2_with fail
  go_loopw [8] (fun v wr => InsO C w g n a b f v wr) (fun v _ => b - (intOf v).toNat)
  case atStart => exact ⟨a + 1, f, by go_num, Nat.le_refl _, .inl rfl, Anew.refl _ _ _, by rw [win_one]; exact sorted_one _, hAs'.out, Only.refl _ _, hA'.out⟩
  case round =>
    obtain ⟨i, h, rfl, hi1, hi2, hN, hS, hPs, O, hR⟩ := hrel
    have hPs' := Lib.hid hPs
    have hN' := Lib.hid hN
    have hS' := Lib.hid hS
    have O' := Lib.hid O
    have hR' := Lib.hid hR
    have hi2' := Lib.hid hi2
    clear hN hS hPs O hR hi2
    by_cases hlt : i < b
    · go_wp2_with fail
      go_loopw [9] (fun v wr => InsI C w g n a b i f v wr) (fun v _ => (intOf v).toNat)
      case atStart => exact ⟨i, h, rfl, by omega, Nat.le_refl _, hN'.out, Ins.start hS'.out, Pl.start hPs'.out hlt, O'.out, hR'.out⟩
      case round =>
        obtain ⟨j, h3, rfl, hj1, hj2, hN3, hI3, hP3, O3, hR3⟩ := hrel
        have hP3' := Lib.hid hP3
        have hN3' := Lib.hid hN3
        have hI3' := Lib.hid hI3
        have O3' := Lib.hid O3
        have hR3' := Lib.hid hR3
        clear hN3 hI3 hP3 O3 hR3 hR' O' hS' hN'
        by_cases hja : a < j
        · obtain ⟨q, hq⟩ : ∃ q, j = q + 1 := ⟨j - 1, by omega⟩
          have hC := Cm.start hR3'.out (i := j) (j := q) (by omega) (by omega) (hP3'.out.q q (by omega) (by omega))
          have kg : decide ((j : Int) > a) = true := by simp; omega
          have wj : IntKind.i64.wrap ((j : Int) - 1) = (q : Int) := i64_of q (by omega) (by omega)
          have hqn : q < n := by omega
          have hjn : j < n := by omega
          have Hq := Lib.hid hq
          clear hq
          rcases hx : h3 j with ⟨x1, x2⟩
          rcases hy : h3 q with ⟨y1, y2⟩
          rw [hx, hy] at hC
          have Hx := Lib.hid hx
          have Hy := Lib.hid hy
          clear hx hy
          obtain ⟨d0, d1, d2, d3⟩ := hC.cells
          by_cases hxy : x1 < y1
          · have kc := cmpN_lt hC.ap hxy
            have hxy' := Lib.hid hxy
            clear hxy
            go_wp2_with fail
            go_region_held3 (fun w' => Cm C wr g j q (x1, x2) (y1, y2) w' ∧ w'.cell? ⟨g, j * 2, none⟩ = some (.int .i64 (C.T x2)) ∧ w'.cell? ⟨g, j * 2 + 1, none⟩ = some (.int .i64 (C.N x2)) ∧ w'.cell? ⟨g, q * 2, none⟩ = some (.int .i64 (C.T y2)) ∧ w'.cell? ⟨g, q * 2 + 1, none⟩ = some (.int .i64 (C.N y2)))
              ((go_split_ands; first | exact ⟨by assumption, Cm.cells (by assumption)⟩ | exact ⟨Cm.drew (by assumption), Cm.cells (Cm.drew (by assumption))⟩))
              (first | (go_at_call 86; go_split_ands; refine (cm_cmp (by assumption)).mono ?_; rintro e w8 ⟨rfl, hC8⟩))
            have A9 := ins_next hN3'.out hI3'.out hP3'.out O3'.out hR3'.out hj1 hj2 hlt Hq.out h2 Hx.out Hy.out hC8 hxy'.out
            have A9' := Lib.hid A9
            obtain ⟨e0, e1, e2, e3⟩ := hC8.a
            obtain ⟨t0, t1, t2, t3⟩ := hC8.b
            clear A9 hC8
            have hne : j ≠ q := by have := Hq.out; omega
            go_wp2_with fail
            go_region
            all_goals
              go_wp2_with fail
              exact ⟨A9'.out, by have := Hq.out; simp [intOf]; omega⟩
          · have kc := cmpN_ge hC.ap hxy
            have hxy' := Lib.hid hxy
            clear hxy
            go_wp2_with fail
            go_region_held3 (fun w' => Cm C wr g j q (x1, x2) (y1, y2) w' ∧ w'.cell? ⟨g, j * 2, none⟩ = some (.int .i64 (C.T x2)) ∧ w'.cell? ⟨g, j * 2 + 1, none⟩ = some (.int .i64 (C.N x2)) ∧ w'.cell? ⟨g, q * 2, none⟩ = some (.int .i64 (C.T y2)) ∧ w'.cell? ⟨g, q * 2 + 1, none⟩ = some (.int .i64 (C.N y2)))
              ((go_split_ands; first | exact ⟨by assumption, Cm.cells (by assumption)⟩ | exact ⟨Cm.drew (by assumption), Cm.cells (Cm.drew (by assumption))⟩))
              (first | (go_at_call 86; go_split_ands; refine (cm_cmp (by assumption)).mono ?_; rintro e w8 ⟨rfl, hC8⟩))
            have A9 := ins_done hN3'.out hI3'.out hP3'.out O3'.out hR3'.out hj1 hj2 hlt (.inr ⟨q, Hq.out, by rw [Hx.out, Hy.out]; have := hxy'.out; dsimp only; omega⟩) hC8.only
            have A9' := Lib.hid A9
            clear A9 hC8
            go_wp2_with fail
            go_roundw
            case rel => exact A9'.out
            case measure => simp [intOf]; omega
        · obtain rfl : j = a := by omega
          have kg : decide ((j : Int) > j) = false := by simp
          go_wp2_with fail
          go_quiet (fail)
          have A9 := ins_done hN3'.out hI3'.out hP3'.out O3'.out hR3'.out hj1 hj2 hlt (.inl rfl) ((Only.refl _ wr).drewN nq)
          have A9' := Lib.hid A9
          clear A9
          go_wp2_with fail
          go_roundw
          case rel => exact A9'.out
          case measure => simp [intOf]; omega
    · go_wp2_with fail
      go_end0
      exact ⟨rfl, O'.out, h, hR'.out, hN'.out, sorted_part hS'.out (Nat.le_refl _) (by omega)⟩
end Go.Proofs.YtlipngdfhpaodaaGreat.Lo

/- The walk of symMerge where the first run is one element. -/
namespace Go.Proofs.YtlipngdfhpaodaaGreat.Lo
open Go.RowKit Srt
variable {C : Ho}

/-- the left part was laid ahead of the right part -/
def Apt (f : Nat → Cn) (a m b : Nat) : Prop := ∀ x y, a ≤ x → x < m → m ≤ y → y < b → (f x).2 < (f y).2
def SymRes (C : Ho) (w : World) (g n a b : Nat) (f : Nat → Cn) (e : Ending) (w' : World) : Prop := e = .returned (.tuple #[]) ∧ Only (· = g) w w' ∧ ∃ h, Arr C w' g n h ∧ Anew f h a b ∧ Sorted (win h a b)
def SL (w : World) (a m b : Nat) (f : Nat → Cn) (p q : Value) (wr : World) : Prop := ∃ i j : Nat, p = .int .i64 i ∧ q = .int .i64 j ∧ m ≤ i ∧ i ≤ j ∧ j ≤ b ∧ (∀ k, m ≤ k → k < i → (f k).1 < (f a).1) ∧ (∀ k, j ≤ k → k < b → (f a).1 ≤ (f k).1) ∧ Only (fun _ => False) w wr
theorem left_done {f : Nat → Cn} {a m b i : Nat} (hm : m = a + 1) (h1 : m ≤ i) (h2 : i ≤ b) (hb : Sorted (win f m b)) (l1 : ∀ k, m ≤ k → k < i → (f k).1 < (f a).1) (l2 : ∀ k, i ≤ k → k < b → (f a).1 ≤ (f k).1) :
    Anew f (rot f a m i) a b ∧ Sorted (win (rot f a m i) a b) := by
  have ha : Sorted (win f a m) := by subst hm; rw [win_one]; exact sorted_one _
  obtain ⟨e1, e2⟩ := rot_win f (a := a) (m := m) (b := i) (by omega) h1
  refine merged (s := a) (e := i) ha hb ⟨Nat.le_refl _, by omega, h1, h2, fun x y q1 q2 => by omega, fun x y q1 q2 q3 q4 => ?_⟩ rfl (Anew.refl _ _ _) ?_ (Anew.refl _ _ _) ?_
  · obtain rfl : y = a := by omega
    have := l1 x q1 q2; omega
  · rw [e1]; exact sorted_part hb (Nat.le_refl _) h2
  · rw [win_app _ (m := i) (by omega) h2, e2, (rot_anew f (a := a) (m := m) (b := i) (by omega) h1).same (.inr (Nat.le_refl _))]
    refine sorted_app.2 ⟨ha, sorted_part hb h1 (Nat.le_refl _), below_win.2 fun x y q1 q2 q3 q4 => ?_⟩
    obtain rfl : x = a := by omega
    exact l2 y q3 q4
def SLu (C : Ho) (w : World) (g n a i : Nat) (f : Nat → Cn) (v : Value) (wr : World) : Prop := ∃ k : Nat, v = .int .i64 k ∧ a ≤ k ∧ k + 1 ≤ i ∧ Only (· = g) w wr ∧ Arr C wr g n (upTo f a k)
theorem slu_next {w wr : World} {g n a i k : Nat} {f : Nat → Cn} {x1 y1 : Int} {x2 y2 : Nat} (hin : i ≤ n) (h1 : a ≤ k) (h2 : k + 1 + 1 ≤ i) (O : Only (· = g) w wr) (hR : Arr C wr g n (upTo f a k)) (hx : upTo f a k k = (x1, x2)) (hy : upTo f a k (k + 1) = (y1, y2)) :
    SLu C w g n a i f (.int .i64 ((k : Int) + 1)) (swpW C wr g k (k + 1) (x1, x2) (y1, y2)).drew := by
  have A := hR.swap k (k + 1) (by omega) (by omega)
  rw [hx, hy, upTo_step f h1] at A
  exact ⟨k + 1, by go_num, by omega, h2, (O.trans (only_swpW C _ _ _ _ _ _)).drew, A.drew⟩
theorem slu_end {w wr : World} {g n a m b i k : Nat} {f : Nat → Cn} (hm : m = a + 1) (h1 : m ≤ i) (h2 : i ≤ b) (hb : Sorted (win f m b)) (l1 : ∀ k, m ≤ k → k < i → (f k).1 < (f a).1) (l2 : ∀ k, i ≤ k → k < b → (f a).1 ≤ (f k).1) (hk : k + 1 = i) (O : Only (· = g) w wr) (hR : Arr C wr g n (upTo f a k)) :
    SymRes C w g n a b f (.returned (.tuple #[])) wr := by
  obtain ⟨r1, r2⟩ := left_done hm h1 h2 hb l1 l2
  refine ⟨rfl, O, _, hR, ?_⟩
  unfold upTo
  rw [hk, ← hm]
  exact ⟨r1, r2⟩
set_option maxHeartbeats 4000000 in
set_option maxRecDepth 200000 in
theorem symm_left (C : Ho) (g n cap a m b : Nat) (f : Nat → Cn) (w : World) (hn : n ≤ 9007199254740992) (hm : m = a + 1) (h2 : m < b) (h3 : b ≤ n) (hA : Arr C w g n f) (hb : Sorted (win f m b)) (hap : Apt f a m b) :
    Calls Tryz.prog 210 #[hv g n cap, .int .i64 a, .int .i64 m, .int .i64 b, cmpf C] w (SymRes C w g n a b f) := by
  have hA' := Lib.hid hA; clear hA
  have hb' := Lib.hid hb; clear hb
  have hap' := Lib.hid hap; clear hap
  have k1 : ((m : Int) - a == 1) = true := by simp; omega
  have am : a < m := by omega
  have hm' := Lib.hid hm; clear hm
  unfold cmpf
  go_enter Tryz.func210, Tryz.ntmps210
  go_wp2_with fail
  go_loopw [10, 11] (fun p q wr => SL w a m b f p q wr) (fun p q _ => (intOf q).toNat - (intOf p).toNat)
  case atStart => exact ⟨m, b, rfl, rfl, Nat.le_refl _, by omega, Nat.le_refl _, fun k q1 q2 => by omega, fun k q1 q2 => by omega, Only.refl _ _⟩
  case round =>
    obtain ⟨i, j, rfl, rfl, i1, i2, i3, l1, l2, O⟩ := hrel
    have L1 := Lib.hid l1
    have L2 := Lib.hid l2
    clear l1 l2
    by_cases hlt : i < j
    · have hh : (((i : Int) + j) / 2) = (((i + j) / 2 : Nat) : Int) := by omega
      obtain ⟨c, hc⟩ : ∃ c, c = (i + j) / 2 := ⟨_, rfl⟩
      have c1 : i ≤ c := by omega
      have c2 : c < j := by omega
      have hc' := Lib.hid hc
      rw [← hc] at hh
      clear hc
      have hcn : c < n := by omega
      have han : a < n := by omega
      have hR := hA'.out.none O
      have hC := Cm.start hR (i := c) (j := a) (hcn) (han) (hap'.out a c (Nat.le_refl _) am (by omega) (by omega))
      rcases hx : f c with ⟨x1, x2⟩
      rcases hy : f a with ⟨y1, y2⟩
      rw [hx, hy] at hC
      have Hx := Lib.hid hx
      have Hy := Lib.hid hy
      clear hx hy
      obtain ⟨d0, d1, d2, d3⟩ := hC.cells
      have O' := Lib.hid O
      clear O hR
      by_cases hxy : x1 < y1
      · have kc := cmpN_lt hC.ap hxy
        have hxy' := Lib.hid hxy
        clear hxy
        go_wp2_with fail
        go_region_held3 (fun w' => Cm C wr g c a (x1, x2) (y1, y2) w' ∧ w'.cell? ⟨g, c * 2, none⟩ = some (.int .i64 (C.T x2)) ∧ w'.cell? ⟨g, c * 2 + 1, none⟩ = some (.int .i64 (C.N x2)) ∧ w'.cell? ⟨g, a * 2, none⟩ = some (.int .i64 (C.T y2)) ∧ w'.cell? ⟨g, a * 2 + 1, none⟩ = some (.int .i64 (C.N y2)))
          ((go_split_ands; first | exact ⟨by assumption, Cm.cells (by assumption)⟩ | exact ⟨Cm.drew (by assumption), Cm.cells (Cm.drew (by assumption))⟩))
          (first | (go_at_call 86; go_split_ands; refine (cm_cmp (by assumption)).mono ?_; rintro e w8 ⟨rfl, hC8⟩))
        have O8 := Lib.hid (O'.out.trans hC8.only)
        clear hC8
        go_wp2_with fail
        go_roundw
        case rel => exact ⟨c + 1, j, by go_num, rfl, by omega, by omega, i3, fun k q1 q2 => by have := sorted_le hb'.out q1 (show k ≤ c by omega) (by omega); have f1 : (f c).1 = x1 := (by rw [Hx.out]); have f2 : (f a).1 = y1 := (by rw [Hy.out]); have := hxy'.out; omega, L2.out, O8.out⟩
        case measure => simp [intOf]; omega
      · have kc := cmpN_ge hC.ap hxy
        have hxy' := Lib.hid hxy
        clear hxy
        go_wp2_with fail
        go_region_held3 (fun w' => Cm C wr g c a (x1, x2) (y1, y2) w' ∧ w'.cell? ⟨g, c * 2, none⟩ = some (.int .i64 (C.T x2)) ∧ w'.cell? ⟨g, c * 2 + 1, none⟩ = some (.int .i64 (C.N x2)) ∧ w'.cell? ⟨g, a * 2, none⟩ = some (.int .i64 (C.T y2)) ∧ w'.cell? ⟨g, a * 2 + 1, none⟩ = some (.int .i64 (C.N y2)))
          ((go_split_ands; first | exact ⟨by assumption, Cm.cells (by assumption)⟩ | exact ⟨Cm.drew (by assumption), Cm.cells (Cm.drew (by assumption))⟩))
          (first | (go_at_call 86; go_split_ands; refine (cm_cmp (by assumption)).mono ?_; rintro e w8 ⟨rfl, hC8⟩))
        have O8 := Lib.hid (O'.out.trans hC8.only)
        clear hC8
        go_wp2_with fail
        go_roundw
        case rel => exact ⟨i, c, rfl, rfl, i1, c1, by omega, L1.out, fun k q1 q2 => by have := sorted_le hb'.out (show m ≤ c by omega) q1 q2; have f1 : (f c).1 = x1 := (by rw [Hx.out]); have f2 : (f a).1 = y1 := (by rw [Hy.out]); have := hxy'.out; omega, O8.out⟩
        case measure => simp [intOf]; omega
    · obtain rfl : i = j := by omega
      have O' := Lib.hid O
      have hR := Lib.hid (hA'.out.none O)
      clear O
      go_wp2_with fail
      go_loopw [13] (fun v wr' => SLu C w g n a i f v wr') (fun v _ => i - (intOf v).toNat)
      case atStart => exact ⟨a, rfl, Nat.le_refl _, by omega, O'.out.mono (fun _ _ h => h.elim), by rw [upTo_start]; exact hR.out⟩
      case round =>
        obtain ⟨k, rfl, q1, q2, O2, hR2⟩ := hrel
        by_cases hlt2 : k + 1 < i
        · obtain ⟨x0, x1, x2, x3⟩ := hR2.get (i := k) (by omega)
          obtain ⟨y0, y1, y2, y3⟩ := hR2.get (i := k + 1) (by omega)
          rcases hu : upTo f a k k with ⟨u1, u2⟩
          rcases hv : upTo f a k (k + 1) with ⟨v1, v2⟩
          have N := Lib.hid (slu_next (i := i) (by omega) q1 (by omega) O2 hR2 hu hv)
          rw [hu] at x0 x1
          rw [hv] at y0 y1
          dsimp only at x0 x1 y0 y1
          have wk : IntKind.i64.wrap ((k : Int) + 1) = ((k + 1 : Nat) : Int) := i64_of (k + 1) (by omega) (by omega)
          have kt : decide ((k : Int) < i - 1) = true := by simp; omega
          have hkn : k < n := by omega
          have hkn1 : k + 1 < n := by omega
          have hne : k ≠ k + 1 := by omega
          have tn : ((k : Int) + 1).toNat = k + 1 := by omega
          clear hu hv O2 hR2
          go_wp2_with fail
          go_region
          all_goals
            go_wp2_with fail
            exact ⟨N.out, by simp [intOf]; omega⟩
        · have kt : decide ((k : Int) < i - 1) = false := by simp; omega
          have N := Lib.hid (slu_end (k := k) hm'.out i1 i3 hb'.out L1.out L2.out (by omega) O2 hR2)
          go_wp2_with fail
          go_end0
          exact N.out
end Go.Proofs.YtlipngdfhpaodaaGreat.Lo

/- The walk of symMerge where the second run is one element. -/
namespace Go.Proofs.YtlipngdfhpaodaaGreat.Lo
open Go.RowKit Srt
variable {C : Ho}

theorem right_done {f : Nat → Cn} {a m b i : Nat} (hm : b = m + 1) (h1 : a ≤ i) (h2 : i ≤ m) (ha : Sorted (win f a m)) (l1 : ∀ k, a ≤ k → k < i → (f k).1 ≤ (f m).1) (l2 : ∀ k, i ≤ k → k < m → (f m).1 < (f k).1) :
    Anew f (rot f i m b) a b ∧ Sorted (win (rot f i m b) a b) := by
  have hb : Sorted (win f m b) := by subst hm; rw [win_one]; exact sorted_one _
  obtain ⟨e1, e2⟩ := rot_win f (a := i) (m := m) (b := b) h2 (by omega)
  refine merged (s := i) (e := b) ha hb ⟨h1, h2, by omega, Nat.le_refl _, fun x y q1 q2 => by omega, fun x y q1 q2 q3 q4 => ?_⟩ rfl (Anew.refl _ _ _) ?_ (Anew.refl _ _ _) ?_
  · obtain rfl : x = m := by omega
    have := l2 y q3 q4; omega
  · rw [win_app _ (m := i) h1 (by omega), e1, (rot_anew f (a := i) (m := m) (b := b) h2 (by omega)).same (.inl (Nat.le_refl _))]
    refine sorted_app.2 ⟨sorted_part ha (Nat.le_refl _) h2, hb, below_win.2 fun x y q1 q2 q3 q4 => ?_⟩
    obtain rfl : y = m := by omega
    exact l1 x q1 q2
  · rw [e2]; exact sorted_part ha h1 (Nat.le_refl _)
def SR (w : World) (a m : Nat) (f : Nat → Cn) (p q : Value) (wr : World) : Prop := ∃ i j : Nat, p = .int .i64 i ∧ q = .int .i64 j ∧ a ≤ i ∧ i ≤ j ∧ j ≤ m ∧ (∀ k, a ≤ k → k < i → (f k).1 ≤ (f m).1) ∧ (∀ k, j ≤ k → k < m → (f m).1 < (f k).1) ∧ Only (fun _ => False) w wr
def SRd (C : Ho) (w : World) (g n m i : Nat) (f : Nat → Cn) (v : Value) (wr : World) : Prop := ∃ k : Nat, v = .int .i64 k ∧ i ≤ k ∧ k ≤ m ∧ Only (· = g) w wr ∧ Arr C wr g n (downTo f m k)
theorem srd_next {w wr : World} {g n m i k q : Nat} {f : Nat → Cn} {x1 y1 : Int} {x2 y2 : Nat} (hmn : m < n) (hq : k = q + 1) (h1 : i ≤ q) (h2 : k ≤ m) (O : Only (· = g) w wr) (hR : Arr C wr g n (downTo f m k)) (hx : downTo f m k k = (x1, x2)) (hy : downTo f m k q = (y1, y2)) :
    SRd C w g n m i f (.int .i64 (q : Nat)) (swpW C wr g k q (x1, x2) (y1, y2)).drew := by
  have A := hR.swap k q (by omega) (by omega)
  rw [hx, hy] at A
  subst hq
  rw [downTo_step f (by omega)] at A
  exact ⟨q, rfl, h1, by omega, (O.trans (only_swpW C _ _ _ _ _ _)).drew, A.drew⟩
theorem srd_end {w wr : World} {g n a m b i k : Nat} {f : Nat → Cn} (hm : b = m + 1) (h1 : a ≤ i) (h2 : i ≤ m) (ha : Sorted (win f a m)) (l1 : ∀ k, a ≤ k → k < i → (f k).1 ≤ (f m).1) (l2 : ∀ k, i ≤ k → k < m → (f m).1 < (f k).1) (hk : k = i) (O : Only (· = g) w wr) (hR : Arr C wr g n (downTo f m k)) :
    SymRes C w g n a b f (.returned (.tuple #[])) wr := by
  obtain ⟨r1, r2⟩ := right_done hm h1 h2 ha l1 l2
  refine ⟨rfl, O, _, hR, ?_⟩
  unfold downTo
  rw [hk, ← hm]
  exact ⟨r1, r2⟩
set_option maxHeartbeats 4000000 in
set_option maxRecDepth 200000 in
theorem symm_right (C : Ho) (g n cap a m b : Nat) (f : Nat → Cn) (w : World) (hn : n ≤ 9007199254740992) (ham : a + 1 < m) (hm : b = m + 1) (h3 : b ≤ n) (hA : Arr C w g n f) (ha : Sorted (win f a m)) (hap : Apt f a m b) :
    Calls Tryz.prog 210 #[hv g n cap, .int .i64 a, .int .i64 m, .int .i64 b, cmpf C] w (SymRes C w g n a b f) := by
  have hA' := Lib.hid hA; clear hA
  have ha' := Lib.hid ha; clear ha
  have hap' := Lib.hid hap; clear hap
  have k1 : ((m : Int) - a == 1) = false := by simp; omega
  have k2 : ((b : Int) - m == 1) = true := by simp; omega
  have am : m < b := by omega
  have hm' := Lib.hid hm; clear hm
  unfold cmpf
  go_enter Tryz.func210, Tryz.ntmps210
  go_wp2_with fail
  go_loopw [14, 15] (fun p q wr => SR w a m f p q wr) (fun p q _ => (intOf q).toNat - (intOf p).toNat)
  case atStart => exact ⟨a, m, rfl, rfl, Nat.le_refl _, by omega, Nat.le_refl _, fun k q1 q2 => by omega, fun k q1 q2 => by omega, Only.refl _ _⟩
  case round =>
    obtain ⟨i, j, rfl, rfl, i1, i2, i3, l1, l2, O⟩ := hrel
    have L1 := Lib.hid l1
    have L2 := Lib.hid l2
    clear l1 l2
    by_cases hlt : i < j
    · have hh : (((i : Int) + j) / 2) = (((i + j) / 2 : Nat) : Int) := by omega
      obtain ⟨c, hc⟩ : ∃ c, c = (i + j) / 2 := ⟨_, rfl⟩
      have c1 : i ≤ c := by omega
      have c2 : c < j := by omega
      have hc' := Lib.hid hc
      rw [← hc] at hh
      clear hc
      have hcn : c < n := by omega
      have hmn : m < n := by omega
      have hR := hA'.out.none O
      have hC := Cm.start hR (i := m) (j := c) (hmn) (hcn) (hap'.out c m (by omega) (by omega) (Nat.le_refl _) am)
      rcases hx : f m with ⟨x1, x2⟩
      rcases hy : f c with ⟨y1, y2⟩
      rw [hx, hy] at hC
      have Hx := Lib.hid hx
      have Hy := Lib.hid hy
      clear hx hy
      obtain ⟨d0, d1, d2, d3⟩ := hC.cells
      have O' := Lib.hid O
      clear O hR
      by_cases hxy : x1 < y1
      · have kc := cmpN_lt hC.ap hxy
        have hxy' := Lib.hid hxy
        clear hxy
        go_wp2_with fail
        go_region_held3 (fun w' => Cm C wr g m c (x1, x2) (y1, y2) w' ∧ w'.cell? ⟨g, m * 2, none⟩ = some (.int .i64 (C.T x2)) ∧ w'.cell? ⟨g, m * 2 + 1, none⟩ = some (.int .i64 (C.N x2)) ∧ w'.cell? ⟨g, c * 2, none⟩ = some (.int .i64 (C.T y2)) ∧ w'.cell? ⟨g, c * 2 + 1, none⟩ = some (.int .i64 (C.N y2)))
          ((go_split_ands; first | exact ⟨by assumption, Cm.cells (by assumption)⟩ | exact ⟨Cm.drew (by assumption), Cm.cells (Cm.drew (by assumption))⟩))
          (first | (go_at_call 86; go_split_ands; refine (cm_cmp (by assumption)).mono ?_; rintro e w8 ⟨rfl, hC8⟩))
        have O8 := Lib.hid (O'.out.trans hC8.only)
        clear hC8
        go_wp2_with fail
        go_roundw
        case rel => exact ⟨i, c, rfl, rfl, i1, c1, by omega, L1.out, fun k q1 q2 => by have := sorted_le ha'.out (show a ≤ c by omega) q1 q2; have f1 : (f m).1 = x1 := (by rw [Hx.out]); have f2 : (f c).1 = y1 := (by rw [Hy.out]); have := hxy'.out; omega, O8.out⟩
        case measure => simp [intOf]; omega
      · have kc := cmpN_ge hC.ap hxy
        have hxy' := Lib.hid hxy
        clear hxy
        go_wp2_with fail
        go_region_held3 (fun w' => Cm C wr g m c (x1, x2) (y1, y2) w' ∧ w'.cell? ⟨g, m * 2, none⟩ = some (.int .i64 (C.T x2)) ∧ w'.cell? ⟨g, m * 2 + 1, none⟩ = some (.int .i64 (C.N x2)) ∧ w'.cell? ⟨g, c * 2, none⟩ = some (.int .i64 (C.T y2)) ∧ w'.cell? ⟨g, c * 2 + 1, none⟩ = some (.int .i64 (C.N y2)))
          ((go_split_ands; first | exact ⟨by assumption, Cm.cells (by assumption)⟩ | exact ⟨Cm.drew (by assumption), Cm.cells (Cm.drew (by assumption))⟩))
          (first | (go_at_call 86; go_split_ands; refine (cm_cmp (by assumption)).mono ?_; rintro e w8 ⟨rfl, hC8⟩))
        have O8 := Lib.hid (O'.out.trans hC8.only)
        clear hC8
        go_wp2_with fail
        go_roundw
        case rel => exact ⟨c + 1, j, by go_num, rfl, by omega, by omega, i3, fun k q1 q2 => by have := sorted_le ha'.out q1 (show k ≤ c by omega) (by omega); have f1 : (f m).1 = x1 := (by rw [Hx.out]); have f2 : (f c).1 = y1 := (by rw [Hy.out]); have := hxy'.out; omega, L2.out, O8.out⟩
        case measure => simp [intOf]; omega
    · obtain rfl : i = j := by omega
      have O' := Lib.hid O
      have hR := Lib.hid (hA'.out.none O)
      clear O
      go_wp2_with fail
      go_loopw [17] (fun v wr' => SRd C w g n m i f v wr') (fun v _ => (intOf v).toNat)
      case atStart => exact ⟨m, rfl, by omega, Nat.le_refl _, O'.out.mono (fun _ _ h => h.elim), by rw [downTo_start]; exact hR.out⟩
      case round =>
        obtain ⟨k, rfl, q1, q2, O2, hR2⟩ := hrel
        by_cases hlt2 : i < k
        · obtain ⟨q, hq⟩ : ∃ q, k = q + 1 := ⟨k - 1, by omega⟩
          obtain ⟨x0, x1, x2, x3⟩ := hR2.get (i := k) (by omega)
          obtain ⟨y0, y1, y2, y3⟩ := hR2.get (i := q) (by omega)
          rcases hu : downTo f m k k with ⟨u1, u2⟩
          rcases hv : downTo f m k q with ⟨v1, v2⟩
          have N := Lib.hid (srd_next (show m < n by omega) (i := i) hq (by omega) q2 O2 hR2 hu hv)
          rw [hu] at x0 x1
          rw [hv] at y0 y1
          dsimp only at x0 x1 y0 y1
          have wk : IntKind.i64.wrap ((k : Int) - 1) = (q : Int) := i64_of q (by omega) (by omega)
          have kt : decide ((k : Int) > i) = true := by simp; omega
          have hkn : k < n := by omega
          have hkn1 : q < n := by omega
          have hne : k ≠ q := by omega
          have hqk : q < k := by omega
          clear hu hv O2 hR2 hq
          go_wp2_with fail
          go_region
          all_goals
            go_wp2_with fail
            exact ⟨N.out, by simp [intOf]; omega⟩
        · have kt : decide ((k : Int) > i) = false := by simp; omega
          have N := Lib.hid (srd_end (k := k) hm'.out i1 i3 ha'.out L1.out L2.out (by omega) O2 hR2)
          go_wp2_with fail
          go_end0
          exact N.out
end Go.Proofs.YtlipngdfhpaodaaGreat.Lo

/- The walk of symMerge, and of the whole sort. -/
namespace Go.Proofs.YtlipngdfhpaodaaGreat.Lo
open Go.RowKit Srt
variable {C : Ho}

def Mid (a m b d s0 r0 : Nat) : Prop := (d < m ∧ s0 + b = d + m ∧ r0 = d) ∨ (m ≤ d ∧ s0 = a ∧ r0 = m)
theorem mid_cut {f : Nat → Cn} {a m b d s0 r0 s e : Nat} (ham : a + 1 < m) (_hmb : m + 1 < b) (hd : 2 * d ≤ a + b) (hd2 : a + b ≤ 2 * d + 1) (hs : Mid a m b d s0 r0)
    (ha : Sorted (win f a m)) (hb : Sorted (win f m b)) (h1 : s0 ≤ s) (h2 : s ≤ r0) (he : e + s = d + m) (l1 : ∀ k, s0 ≤ k → k < s → (f k).1 ≤ (f (d + m - 1 - k)).1) (l2 : ∀ k, s ≤ k → k < r0 → (f (d + m - 1 - k)).1 < (f k).1) : Cut f a m b s e ∧ d = s + (e - m) := by
  have g1 : a ≤ s := by rcases hs with ⟨h, h', h''⟩ | ⟨h, h', h''⟩ <;> omega
  have g2 : s ≤ m := by rcases hs with ⟨h, h', h''⟩ | ⟨h, h', h''⟩ <;> omega
  have g3 : m ≤ e := by rcases hs with ⟨h, h', h''⟩ | ⟨h, h', h''⟩ <;> omega
  have g4 : e ≤ b := by rcases hs with ⟨h, h', h''⟩ | ⟨h, h', h''⟩ <;> omega
  refine ⟨⟨g1, g2, g3, g4, fun i j q1 q2 q3 q4 => ?_, fun i j q1 q2 q3 q4 => ?_⟩, by omega⟩
  · have hlt : s0 < s := by rcases hs with ⟨h, h', h''⟩ | ⟨h, h', h''⟩ <;> omega
    have x1 := sorted_le ha q1 (show i ≤ s - 1 by omega) (by omega)
    have x2 := l1 (s - 1) (by omega) (by omega)
    rw [show d + m - 1 - (s - 1) = e by omega] at x2
    have x3 := sorted_le hb g3 q3 q4
    omega
  · have hlt : s < r0 := by rcases hs with ⟨h, h', h''⟩ | ⟨h, h', h''⟩ <;> omega
    have x1 := sorted_le hb q1 (show i ≤ e - 1 by omega) (by omega)
    have x2 := l2 s (by omega) hlt
    rw [show d + m - 1 - s = e - 1 by omega] at x2
    have x3 := sorted_le ha g1 q3 q4
    omega
theorem rot_triv (f : Nat → Cn) {s m e : Nat} (h : ¬ (s < m ∧ m < e)) (h1 : s ≤ m) (h2 : m ≤ e) : rot f s m e = f := by
  funext k
  unfold rot
  repeat' split
  all_goals first | rfl | (exfalso; omega) | (congr 1; omega)
/-- the windows behind the turn -/
theorem cut_wins {f : Nat → Cn} {a m b s e d : Nat} (k : Cut f a m b s e) (hd : d = s + (e - m)) (ha : Sorted (win f a m)) (hb : Sorted (win f m b)) :
    Sorted (win (rot f s m e) a s) ∧ Sorted (win (rot f s m e) s d) ∧ Sorted (win (rot f s m e) d e) ∧ Sorted (win (rot f s m e) e b) := by
  obtain ⟨k1, k2, k3, k4, l1, l2⟩ := k
  obtain ⟨e1, e2⟩ := rot_win f k2 k3
  rw [← hd] at e1 e2
  have R := rot_anew f k2 k3
  rw [R.same (.inl (Nat.le_refl _)), e1, e2, R.same (.inr (Nat.le_refl _))]
  exact ⟨sorted_part ha (Nat.le_refl _) k2, sorted_part hb (Nat.le_refl _) k4, sorted_part ha k1 (Nat.le_refl _), sorted_part hb k3 (Nat.le_refl _)⟩
/-- the first half's merge was not needed -/
theorem half_l {f : Nat → Cn} {a s d : Nat} (h : ¬ (a < s ∧ s < d)) (h1 : a ≤ s) (h2 : s ≤ d) (q1 : Sorted (win f a s)) (q2 : Sorted (win f s d)) : Sorted (win f a d) := by
  by_cases e : a = s
  · rw [e]; exact q2
  · have : s = d := by omega
    rw [← this]; exact q1
theorem half_r {f : Nat → Cn} {d e b : Nat} (h : ¬ (d < e ∧ e < b)) (h1 : d ≤ e) (h2 : e ≤ b) (q1 : Sorted (win f d e)) (q2 : Sorted (win f e b)) : Sorted (win f d b) := half_l h h1 h2 q1 q2
def SM (w : World) (d m s0 r0 : Nat) (f : Nat → Cn) (p q : Value) (wr : World) : Prop := ∃ s r : Nat, p = .int .i64 s ∧ q = .int .i64 r ∧ s0 ≤ s ∧ s ≤ r ∧ r ≤ r0 ∧ (∀ k, s0 ≤ k → k < s → (f k).1 ≤ (f (d + m - 1 - k)).1) ∧ (∀ k, r ≤ k → k < r0 → (f (d + m - 1 - k)).1 < (f k).1) ∧ Only (fun _ => False) w wr
theorem sm_lo {f : Nat → Cn} {a m b d s0 r0 s c : Nat} (ham : a + 1 < m) (_hmb : m + 1 < b) (hd : 2 * d ≤ a + b) (hd2 : a + b ≤ 2 * d + 1) (hs : Mid a m b d s0 r0) (ha : Sorted (win f a m)) (hb : Sorted (win f m b)) (hc : c < r0) (_h1 : s0 ≤ s) (_h2 : s ≤ c) (h : (f c).1 ≤ (f (d + m - 1 - c)).1) :
    ∀ k, s0 ≤ k → k < c + 1 → (f k).1 ≤ (f (d + m - 1 - k)).1 := by
  intro k q1 q2
  have x1 := sorted_le ha (show a ≤ k by rcases hs with ⟨h, h', h''⟩ | ⟨h, h', h''⟩ <;> omega) (show k ≤ c by omega) (by rcases hs with ⟨h, h', h''⟩ | ⟨h, h', h''⟩ <;> omega)
  have x2 := sorted_le hb (i := d + m - 1 - c) (j := d + m - 1 - k) (by rcases hs with ⟨h, h', h''⟩ | ⟨h, h', h''⟩ <;> omega) (by omega) (by rcases hs with ⟨h, h', h''⟩ | ⟨h, h', h''⟩ <;> omega)
  omega
theorem sm_hi {f : Nat → Cn} {a m b d s0 r0 c : Nat} (ham : a + 1 < m) (hmb : m + 1 < b) (hd : 2 * d ≤ a + b) (hd2 : a + b ≤ 2 * d + 1) (hs : Mid a m b d s0 r0) (ha : Sorted (win f a m)) (hb : Sorted (win f m b)) (hc : s0 ≤ c) (h : (f (d + m - 1 - c)).1 < (f c).1) :
    ∀ k, c ≤ k → k < r0 → (f (d + m - 1 - k)).1 < (f k).1 := by
  intro k q1 q2
  have x1 := sorted_le ha (show a ≤ c by rcases hs with ⟨h, h', h''⟩ | ⟨h, h', h''⟩ <;> omega) q1 (by rcases hs with ⟨h, h', h''⟩ | ⟨h, h', h''⟩ <;> omega)
  have x2 := sorted_le hb (i := d + m - 1 - k) (j := d + m - 1 - c) (by rcases hs with ⟨h, h', h''⟩ | ⟨h, h', h''⟩ <;> omega) (by omega) (by rcases hs with ⟨h, h', h''⟩ | ⟨h, h', h''⟩ <;> omega)
  omega
theorem apt_rot {f : Nat → Cn} {a m b s e d : Nat} (h : Apt f a m b) (h1 : a ≤ s) (h2 : s ≤ m) (h3 : m ≤ e) (h4 : e ≤ b) (hd : d = s + (e - m)) : Apt (rot f s m e) a s d ∧ Apt (rot f s m e) d e b := by
  refine ⟨fun x y q1 q2 q3 q4 => ?_, fun x y q1 q2 q3 q4 => ?_⟩
  · have e1 : rot f s m e x = f x := by unfold rot; rw [if_neg (by omega), if_neg (by omega)]
    have e2 : rot f s m e y = f (y - s + m) := by unfold rot; rw [if_pos (by omega)]
    rw [e1, e2]; exact h _ _ q1 (by omega) (by omega) (by omega)
  · have e1 : rot f s m e x = f (x - (e - m)) := by unfold rot; rw [if_neg (by omega), if_pos (by omega)]
    have e2 : rot f s m e y = f y := by unfold rot; rw [if_neg (by omega), if_neg (by omega)]
    rw [e1, e2]; exact h _ _ (by omega) (by omega) (by omega) q4
theorem Apt.anew {f g : Nat → Cn} {a m b c d : Nat} (h : Apt f a m b) (N : Anew f g c d) (hd : d ≤ a) (ham : a ≤ m) : Apt g a m b := by
  intro x y q1 q2 q3 q4
  rw [N.out x (by omega), N.out y (by omega)]; exact h x y q1 q2 q3 q4
def SymAt (C : Ho) (g n cap a m b : Nat) (f : Nat → Cn) (w : World) : Prop := Arr C w g n f → Sorted (win f a m) → Sorted (win f m b) → Apt f a m b → Calls Tryz.prog 210 #[hv g n cap, .int .i64 a, .int .i64 m, .int .i64 b, cmpf C] w (SymRes C w g n a b f)
set_option maxHeartbeats 16000000 in
set_option maxRecDepth 200000 in
theorem symm_main (C : Ho) (g n cap a m b : Nat) (f : Nat → Cn) (w : World) (hn : n ≤ 9007199254740992) (ham : a + 1 < m) (hmb : m + 1 < b) (h3 : b ≤ n) (hA : Arr C w g n f) (ha : Sorted (win f a m)) (hb : Sorted (win f m b)) (hap : Apt f a m b)
    (IH : ∀ a' m' b' f' w', b' - a' < b - a → a' < m' → m' < b' → b' ≤ n → SymAt C g n cap a' m' b' f' w') :
    Calls Tryz.prog 210 #[hv g n cap, .int .i64 a, .int .i64 m, .int .i64 b, cmpf C] w (SymRes C w g n a b f) := by
  have hA' := Lib.hid hA; clear hA
  have ha' := Lib.hid ha; clear ha
  have hb' := Lib.hid hb; clear hb
  have hap' := Lib.hid hap; clear hap
  have IH' := Lib.hid IH; clear IH
  have k1 : ((m : Int) - a == 1) = false := by simp; omega
  have k2 : ((b : Int) - m == 1) = false := by simp; omega
  obtain ⟨d, hd⟩ : ∃ d, d = (a + b) / 2 := ⟨_, rfl⟩
  have dd1 : 2 * d ≤ a + b := by omega
  have dd2 : a + b ≤ 2 * d + 1 := by omega
  have hh : (((a : Int) + b) / 2) = (d : Int) := by omega
  clear hd
  obtain ⟨p, hp⟩ : ∃ p, p = d + m - 1 := ⟨_, rfl⟩
  have hpi : (d : Int) + m - 1 = (p : Int) := by omega
  have hp' := Lib.hid hp
  have p1 : p ≤ d + m - 1 := by omega
  have p2 : d + m - 1 ≤ p := by omega
  clear hp
  by_cases hdm : d < m
  · have kd : decide ((m : Int) > d) = true := by simp; omega
    obtain ⟨s0, hs0⟩ : ∃ s0, s0 = d + m - b := ⟨_, rfl⟩
    have hs1 : s0 + b = d + m := by omega
    have hsi : (d : Int) + m - b = (s0 : Int) := by omega
    clear hs0
    have HM : Hid (Mid a m b d s0 d) := Lib.hid (.inl ⟨hdm, hs1, rfl⟩)
    have h01 : s0 ≤ d := by omega
    have r0n : d ≤ n := by omega
    have r0p : d ≤ p := by omega
    unfold cmpf
    go_enter Tryz.func210, Tryz.ntmps210
    go_wp2_with fail
    go_loopw [20, 21] (fun u v wr => SM w d m s0 d f u v wr) (fun u v _ => (intOf v).toNat - (intOf u).toNat)
    case atStart => exact ⟨s0, d, rfl, rfl, Nat.le_refl _, h01, Nat.le_refl _, fun k q1 q2 => by omega, fun k q1 q2 => by omega, Only.refl _ _⟩
    case round =>
      obtain ⟨s, r, rfl, rfl, i1, i2, i3, l1, l2, O⟩ := hrel
      have L1 := Lib.hid l1
      have L2 := Lib.hid l2
      clear l1 l2
      by_cases hlt : s < r
      · obtain ⟨c, hc⟩ : ∃ c, c = (s + r) / 2 := ⟨_, rfl⟩
        have hc2 : (((s : Int) + r) / 2) = (c : Int) := by omega
        have c1 : s ≤ c := by omega
        have c2 : c < r := by omega
        clear hc
        obtain ⟨q, hq⟩ : ∃ q, q = p - c := ⟨_, rfl⟩
        have cp : c ≤ p := by omega
        have wq : IntKind.i64.wrap ((p : Int) - c) = (q : Int) := i64_of q (by omega) (by omega)
        have hqn : q < n := by omega
        have hcn : c < n := by omega
        have hqd : q = d + m - 1 - c := by omega
        have Hq := Lib.hid hqd
        clear hqd hq
        have hR := hA'.out.none O
        have hC := Cm.start hR (i := q) (j := c) (hqn) (hcn) (hap'.out c q (by have := Hq.out; rcases HM.out with ⟨u1, u2, u3⟩ | ⟨u1, u2, u3⟩ <;> omega) (by have := Hq.out; rcases HM.out with ⟨u1, u2, u3⟩ | ⟨u1, u2, u3⟩ <;> omega) (by have := Hq.out; rcases HM.out with ⟨u1, u2, u3⟩ | ⟨u1, u2, u3⟩ <;> omega) (by have := Hq.out; rcases HM.out with ⟨u1, u2, u3⟩ | ⟨u1, u2, u3⟩ <;> omega))
        rcases hx : f q with ⟨x1, x2⟩
        rcases hy : f c with ⟨y1, y2⟩
        rw [hx, hy] at hC
        have Hx := Lib.hid hx
        have Hy := Lib.hid hy
        clear hx hy
        obtain ⟨d0, d1, d2, d3⟩ := hC.cells
        have O' := Lib.hid O
        clear O hR
        by_cases hxy : x1 < y1
        · have kc := cmpN_lt hC.ap hxy
          have hxy' := Lib.hid hxy
          clear hxy
          go_wp2_with fail
          go_region_held3 (fun w' => Cm C wr g q c (x1, x2) (y1, y2) w' ∧ w'.cell? ⟨g, q * 2, none⟩ = some (.int .i64 (C.T x2)) ∧ w'.cell? ⟨g, q * 2 + 1, none⟩ = some (.int .i64 (C.N x2)) ∧ w'.cell? ⟨g, c * 2, none⟩ = some (.int .i64 (C.T y2)) ∧ w'.cell? ⟨g, c * 2 + 1, none⟩ = some (.int .i64 (C.N y2)))
            ((go_split_ands; first | exact ⟨by assumption, Cm.cells (by assumption)⟩ | exact ⟨Cm.drew (by assumption), Cm.cells (Cm.drew (by assumption))⟩))
            (first | (go_at_call 86; go_split_ands; refine (cm_cmp (by assumption)).mono ?_; rintro e w8 ⟨rfl, hC8⟩))
          have O8 := Lib.hid (O'.out.trans hC8.only)
          clear hC8
          go_wp2_with fail
          go_roundw
          case rel => exact ⟨s, c, rfl, rfl, i1, c1, by omega, L1.out, sm_hi ham hmb dd1 dd2 HM.out ha'.out hb'.out (by omega) (by have f1 : (f q).1 = x1 := (by rw [Hx.out]); have f2 : (f c).1 = y1 := (by rw [Hy.out]); have := hxy'.out; rw [Hq.out] at f1; omega), O8.out⟩
          case measure => simp [intOf]; omega
        · have kc := cmpN_ge hC.ap hxy
          have hxy' := Lib.hid hxy
          clear hxy
          go_wp2_with fail
          go_region_held3 (fun w' => Cm C wr g q c (x1, x2) (y1, y2) w' ∧ w'.cell? ⟨g, q * 2, none⟩ = some (.int .i64 (C.T x2)) ∧ w'.cell? ⟨g, q * 2 + 1, none⟩ = some (.int .i64 (C.N x2)) ∧ w'.cell? ⟨g, c * 2, none⟩ = some (.int .i64 (C.T y2)) ∧ w'.cell? ⟨g, c * 2 + 1, none⟩ = some (.int .i64 (C.N y2)))
            ((go_split_ands; first | exact ⟨by assumption, Cm.cells (by assumption)⟩ | exact ⟨Cm.drew (by assumption), Cm.cells (Cm.drew (by assumption))⟩))
            (first | (go_at_call 86; go_split_ands; refine (cm_cmp (by assumption)).mono ?_; rintro e w8 ⟨rfl, hC8⟩))
          have O8 := Lib.hid (O'.out.trans hC8.only)
          clear hC8
          go_wp2_with fail
          go_roundw
          case rel => exact ⟨c + 1, r, by go_num, rfl, by omega, by omega, i3, sm_lo ham hmb dd1 dd2 HM.out ha'.out hb'.out (by omega) i1 c1 (by have f1 : (f q).1 = x1 := (by rw [Hx.out]); have f2 : (f c).1 = y1 := (by rw [Hy.out]); have := hxy'.out; rw [Hq.out] at f1; omega), L2.out, O8.out⟩
          case measure => simp [intOf]; omega
      · obtain rfl : s = r := by omega
        obtain ⟨e, he⟩ : ∃ e, e = d + m - s := ⟨_, rfl⟩
        have hes : e + s = d + m := by omega
        have hei : (d : Int) + m - s = (e : Int) := by omega
        clear he
        obtain ⟨hK, hds⟩ := mid_cut ham hmb dd1 dd2 HM.out ha'.out hb'.out i1 i3 hes L1.out L2.out
        have hds' := Lib.hid hds
        clear hds
        have K1 := hK.h1
        have K2 := hK.h2
        have K3 := hK.h3
        have K4 := hK.h4
        have HK := Lib.hid hK
        clear hK
        obtain ⟨W1, W2, W3, W4⟩ := cut_wins HK.out hds'.out ha'.out hb'.out
        have W1' := Lib.hid W1
        have W2' := Lib.hid W2
        have W3' := Lib.hid W3
        have W4' := Lib.hid W4
        clear W1 W2 W3 W4
        obtain ⟨ap1, ap2⟩ := apt_rot hap'.out K1 K2 K3 K4 hds'.out
        have AP1 := Lib.hid ap1; have AP2 := Lib.hid ap2
        clear ap1 ap2
        have sd : s ≤ d := by have := hds'.out; omega
        have de : d ≤ e := by omega
        have hR := Lib.hid (hA'.out.none O)
        have O' := Lib.hid (O.mono (T := (· = g)) (fun _ _ h => h.elim))
        clear O
        have hde := hds'.out
        have e1 : m ≤ e → e - m + m = e := by omega
        by_cases hrot : s < m ∧ m < e
        · have t1 : decide ((s : Int) < m) = true := by simp; omega
          have t2 : decide ((m : Int) < e) = true := by simp; omega
          have sd2 : s < d := by omega
          have de2 : d < e := by omega
          clear hde e1
          go_wp2_with fail
          refine (rot_calls C g n cap s m e _ _ _ _ f wr rfl rfl rfl hn hrot.1 hrot.2 (by omega) hR.out).mono ?_
          rintro e3 w3 ⟨rfl, O3, R3⟩
          have R3' := Lib.hid R3
          have O3' := Lib.hid (O'.out.trans O3)
          clear R3 O3
          by_cases hl : a < s
          · have l1 : decide ((a : Int) < s) = true := by simp; omega
            have l2 : decide ((s : Int) < d) = true := by simp; omega
            go_wp2_with fail
            refine ((IH'.out a s d (rot f s m e) w3 (by omega) (by omega) (by omega) (by omega)) R3'.out W1'.out W2'.out AP1.out).mono ?_
            rintro e4 w4 ⟨rfl, O4, g4, R4, N4, S4⟩
            have R4' := Lib.hid R4
            have N4' := Lib.hid N4
            have S4' := Lib.hid S4
            have O4' := Lib.hid (O3'.out.trans O4)
            clear R4 N4 S4 O4
            have V3 := Lib.hid (show Sorted (win g4 d e) by rw [N4'.out.same (.inr (Nat.le_refl _))]; exact W3'.out)
            have V4 := Lib.hid (show Sorted (win g4 e b) by rw [N4'.out.same (.inr de)]; exact W4'.out)
            by_cases hr : e < b
            · skip
              have r1 : decide ((d : Int) < e) = true := by simp; omega
              have r2 : decide ((e : Int) < b) = true := by simp; omega
              go_wp2_with fail
              refine ((IH'.out d e b g4 w4 (by omega) (by omega) (by omega) (by omega)) R4'.out V3.out V4.out (AP2.out.anew N4'.out (Nat.le_refl _) de)).mono ?_
              rintro e5 w5 ⟨rfl, O5, g5, R5, N5, S5⟩
              have R5' := Lib.hid R5
              have N5' := Lib.hid N5
              have S5' := Lib.hid S5
              have O5' := Lib.hid (O4'.out.trans O5)
              clear R5 N5 S5 O5
              go_wp2_with fail
              go_end0
              exact ⟨rfl, O5'.out, _, R5'.out, merged ha'.out hb'.out HK.out hds'.out N4'.out S4'.out N5'.out S5'.out⟩
            · skip
              have V5 := Lib.hid (half_r (by omega) de K4 V3.out V4.out)
              have r1 : decide ((d : Int) < e) = true := by simp; omega
              have r2 : decide ((e : Int) < b) = false := by simp; omega
              go_wp2_with fail
              go_end0
              exact ⟨rfl, O4'.out, _, R4'.out, merged ha'.out hb'.out HK.out hds'.out N4'.out S4'.out (Anew.refl _ _ _) V5.out⟩
          · have l1 : decide ((a : Int) < s) = false := by simp; omega
            have S4' := Lib.hid (half_l (by omega) K1 sd W1'.out W2'.out)
            have N4' := Lib.hid (Anew.refl (rot f s m e) a d)
            have V3 := Lib.hid (show Sorted (win (rot f s m e) d e) by rw [N4'.out.same (.inr (Nat.le_refl _))]; exact W3'.out)
            have V4 := Lib.hid (show Sorted (win (rot f s m e) e b) by rw [N4'.out.same (.inr de)]; exact W4'.out)
            by_cases hr : e < b
            · skip
              have r1 : decide ((d : Int) < e) = true := by simp; omega
              have r2 : decide ((e : Int) < b) = true := by simp; omega
              go_wp2_with fail
              refine ((IH'.out d e b (rot f s m e) w3 (by omega) (by omega) (by omega) (by omega)) R3'.out V3.out V4.out AP2.out).mono ?_
              rintro e5 w5 ⟨rfl, O5, g5, R5, N5, S5⟩
              have R5' := Lib.hid R5
              have N5' := Lib.hid N5
              have S5' := Lib.hid S5
              have O5' := Lib.hid (O3'.out.trans O5)
              clear R5 N5 S5 O5
              go_wp2_with fail
              go_end0
              exact ⟨rfl, O5'.out, _, R5'.out, merged ha'.out hb'.out HK.out hds'.out N4'.out S4'.out N5'.out S5'.out⟩
            · skip
              have V5 := Lib.hid (half_r (by omega) de K4 V3.out V4.out)
              have r1 : decide ((d : Int) < e) = true := by simp; omega
              have r2 : decide ((e : Int) < b) = false := by simp; omega
              go_wp2_with fail
              go_end0
              exact ⟨rfl, O3'.out, _, R3'.out, merged ha'.out hb'.out HK.out hds'.out N4'.out S4'.out (Anew.refl _ _ _) V5.out⟩
        · have R3' := Lib.hid (show Arr C wr g n (rot f s m e) by rw [rot_triv f hrot K2 K3]; exact hR.out)
          by_cases hrot1 : s < m
          · have t1 : decide ((s : Int) < m) = true := by simp; omega
            have t2 : decide ((m : Int) < e) = false := by simp; omega
            have sd2 : d ≤ s := by omega
            have em : e ≤ m := by omega
            have hl : a < s := by omega
            clear hde e1
            have l1 : decide ((a : Int) < s) = true := by simp; omega
            have l2 : decide ((s : Int) < d) = false := by simp; omega
            have S4' := Lib.hid (half_l (by omega) K1 sd W1'.out W2'.out)
            have N4' := Lib.hid (Anew.refl (rot f s m e) a d)
            have V3 := Lib.hid (show Sorted (win (rot f s m e) d e) by rw [N4'.out.same (.inr (Nat.le_refl _))]; exact W3'.out)
            have V4 := Lib.hid (show Sorted (win (rot f s m e) e b) by rw [N4'.out.same (.inr de)]; exact W4'.out)
            have r1 : decide ((d : Int) < e) = true := by simp; omega
            have r2 : decide ((e : Int) < b) = true := by simp; omega
            go_wp2_with fail
            refine ((IH'.out d e b (rot f s m e) wr (by omega) (by omega) (by omega) (by omega)) R3'.out V3.out V4.out AP2.out).mono ?_
            rintro e5 w5 ⟨rfl, O5, g5, R5, N5, S5⟩
            have R5' := Lib.hid R5
            have N5' := Lib.hid N5
            have S5' := Lib.hid S5
            have O5' := Lib.hid (O'.out.trans O5)
            clear R5 N5 S5 O5
            go_wp2_with fail
            go_end0
            exact ⟨rfl, O5'.out, _, R5'.out, merged ha'.out hb'.out HK.out hds'.out N4'.out S4'.out N5'.out S5'.out⟩
          · exfalso; omega
  · have kd : decide ((m : Int) > d) = false := by simp; omega
    have HM : Hid (Mid a m b d a m) := Lib.hid (.inr ⟨by omega, rfl, rfl⟩)
    have h01 : a ≤ m := by omega
    have r0n : m ≤ n := by omega
    have r0p : m ≤ p := by omega
    unfold cmpf
    go_enter Tryz.func210, Tryz.ntmps210
    go_wp2_with fail
    go_loopw [20, 21] (fun u v wr => SM w d m a m f u v wr) (fun u v _ => (intOf v).toNat - (intOf u).toNat)
    case atStart => exact ⟨a, m, rfl, rfl, Nat.le_refl _, h01, Nat.le_refl _, fun k q1 q2 => by omega, fun k q1 q2 => by omega, Only.refl _ _⟩
    case round =>
      obtain ⟨s, r, rfl, rfl, i1, i2, i3, l1, l2, O⟩ := hrel
      have L1 := Lib.hid l1
      have L2 := Lib.hid l2
      clear l1 l2
      by_cases hlt : s < r
      · obtain ⟨c, hc⟩ : ∃ c, c = (s + r) / 2 := ⟨_, rfl⟩
        have hc2 : (((s : Int) + r) / 2) = (c : Int) := by omega
        have c1 : s ≤ c := by omega
        have c2 : c < r := by omega
        clear hc
        obtain ⟨q, hq⟩ : ∃ q, q = p - c := ⟨_, rfl⟩
        have cp : c ≤ p := by omega
        have wq : IntKind.i64.wrap ((p : Int) - c) = (q : Int) := i64_of q (by omega) (by omega)
        have hqn : q < n := by omega
        have hcn : c < n := by omega
        have hqd : q = d + m - 1 - c := by omega
        have Hq := Lib.hid hqd
        clear hqd hq
        have hR := hA'.out.none O
        have hC := Cm.start hR (i := q) (j := c) (hqn) (hcn) (hap'.out c q (by have := Hq.out; rcases HM.out with ⟨u1, u2, u3⟩ | ⟨u1, u2, u3⟩ <;> omega) (by have := Hq.out; rcases HM.out with ⟨u1, u2, u3⟩ | ⟨u1, u2, u3⟩ <;> omega) (by have := Hq.out; rcases HM.out with ⟨u1, u2, u3⟩ | ⟨u1, u2, u3⟩ <;> omega) (by have := Hq.out; rcases HM.out with ⟨u1, u2, u3⟩ | ⟨u1, u2, u3⟩ <;> omega))
        rcases hx : f q with ⟨x1, x2⟩
        rcases hy : f c with ⟨y1, y2⟩
        rw [hx, hy] at hC
        have Hx := Lib.hid hx
        have Hy := Lib.hid hy
        clear hx hy
        obtain ⟨d0, d1, d2, d3⟩ := hC.cells
        have O' := Lib.hid O
        clear O hR
        by_cases hxy : x1 < y1
        · have kc := cmpN_lt hC.ap hxy
          have hxy' := Lib.hid hxy
          clear hxy
          go_wp2_with fail
          go_region_held3 (fun w' => Cm C wr g q c (x1, x2) (y1, y2) w' ∧ w'.cell? ⟨g, q * 2, none⟩ = some (.int .i64 (C.T x2)) ∧ w'.cell? ⟨g, q * 2 + 1, none⟩ = some (.int .i64 (C.N x2)) ∧ w'.cell? ⟨g, c * 2, none⟩ = some (.int .i64 (C.T y2)) ∧ w'.cell? ⟨g, c * 2 + 1, none⟩ = some (.int .i64 (C.N y2)))
            ((go_split_ands; first | exact ⟨by assumption, Cm.cells (by assumption)⟩ | exact ⟨Cm.drew (by assumption), Cm.cells (Cm.drew (by assumption))⟩))
            (first | (go_at_call 86; go_split_ands; refine (cm_cmp (by assumption)).mono ?_; rintro e w8 ⟨rfl, hC8⟩))
          have O8 := Lib.hid (O'.out.trans hC8.only)
          clear hC8
          go_wp2_with fail
          go_roundw
          case rel => exact ⟨s, c, rfl, rfl, i1, c1, by omega, L1.out, sm_hi ham hmb dd1 dd2 HM.out ha'.out hb'.out (by omega) (by have f1 : (f q).1 = x1 := (by rw [Hx.out]); have f2 : (f c).1 = y1 := (by rw [Hy.out]); have := hxy'.out; rw [Hq.out] at f1; omega), O8.out⟩
          case measure => simp [intOf]; omega
        · have kc := cmpN_ge hC.ap hxy
          have hxy' := Lib.hid hxy
          clear hxy
          go_wp2_with fail
          go_region_held3 (fun w' => Cm C wr g q c (x1, x2) (y1, y2) w' ∧ w'.cell? ⟨g, q * 2, none⟩ = some (.int .i64 (C.T x2)) ∧ w'.cell? ⟨g, q * 2 + 1, none⟩ = some (.int .i64 (C.N x2)) ∧ w'.cell? ⟨g, c * 2, none⟩ = some (.int .i64 (C.T y2)) ∧ w'.cell? ⟨g, c * 2 + 1, none⟩ = some (.int .i64 (C.N y2)))
            ((go_split_ands; first | exact ⟨by assumption, Cm.cells (by assumption)⟩ | exact ⟨Cm.drew (by assumption), Cm.cells (Cm.drew (by assumption))⟩))
            (first | (go_at_call 86; go_split_ands; refine (cm_cmp (by assumption)).mono ?_; rintro e w8 ⟨rfl, hC8⟩))
          have O8 := Lib.hid (O'.out.trans hC8.only)
          clear hC8
          go_wp2_with fail
          go_roundw
          case rel => exact ⟨c + 1, r, by go_num, rfl, by omega, by omega, i3, sm_lo ham hmb dd1 dd2 HM.out ha'.out hb'.out (by omega) i1 c1 (by have f1 : (f q).1 = x1 := (by rw [Hx.out]); have f2 : (f c).1 = y1 := (by rw [Hy.out]); have := hxy'.out; rw [Hq.out] at f1; omega), L2.out, O8.out⟩
          case measure => simp [intOf]; omega
      · obtain rfl : s = r := by omega
        obtain ⟨e, he⟩ : ∃ e, e = d + m - s := ⟨_, rfl⟩
        have hes : e + s = d + m := by omega
        have hei : (d : Int) + m - s = (e : Int) := by omega
        clear he
        obtain ⟨hK, hds⟩ := mid_cut ham hmb dd1 dd2 HM.out ha'.out hb'.out i1 i3 hes L1.out L2.out
        have hds' := Lib.hid hds
        clear hds
        have K1 := hK.h1
        have K2 := hK.h2
        have K3 := hK.h3
        have K4 := hK.h4
        have HK := Lib.hid hK
        clear hK
        obtain ⟨W1, W2, W3, W4⟩ := cut_wins HK.out hds'.out ha'.out hb'.out
        have W1' := Lib.hid W1
        have W2' := Lib.hid W2
        have W3' := Lib.hid W3
        have W4' := Lib.hid W4
        clear W1 W2 W3 W4
        obtain ⟨ap1, ap2⟩ := apt_rot hap'.out K1 K2 K3 K4 hds'.out
        have AP1 := Lib.hid ap1; have AP2 := Lib.hid ap2
        clear ap1 ap2
        have sd : s ≤ d := by have := hds'.out; omega
        have de : d ≤ e := by omega
        have hR := Lib.hid (hA'.out.none O)
        have O' := Lib.hid (O.mono (T := (· = g)) (fun _ _ h => h.elim))
        clear O
        have hde := hds'.out
        have e1 : m ≤ e → e - m + m = e := by omega
        by_cases hrot : s < m ∧ m < e
        · have t1 : decide ((s : Int) < m) = true := by simp; omega
          have t2 : decide ((m : Int) < e) = true := by simp; omega
          have sd2 : s < d := by omega
          have de2 : d < e := by omega
          clear hde e1
          go_wp2_with fail
          refine (rot_calls C g n cap s m e _ _ _ _ f wr rfl rfl rfl hn hrot.1 hrot.2 (by omega) hR.out).mono ?_
          rintro e3 w3 ⟨rfl, O3, R3⟩
          have R3' := Lib.hid R3
          have O3' := Lib.hid (O'.out.trans O3)
          clear R3 O3
          by_cases hl : a < s
          · have l1 : decide ((a : Int) < s) = true := by simp; omega
            have l2 : decide ((s : Int) < d) = true := by simp; omega
            go_wp2_with fail
            refine ((IH'.out a s d (rot f s m e) w3 (by omega) (by omega) (by omega) (by omega)) R3'.out W1'.out W2'.out AP1.out).mono ?_
            rintro e4 w4 ⟨rfl, O4, g4, R4, N4, S4⟩
            have R4' := Lib.hid R4
            have N4' := Lib.hid N4
            have S4' := Lib.hid S4
            have O4' := Lib.hid (O3'.out.trans O4)
            clear R4 N4 S4 O4
            have V3 := Lib.hid (show Sorted (win g4 d e) by rw [N4'.out.same (.inr (Nat.le_refl _))]; exact W3'.out)
            have V4 := Lib.hid (show Sorted (win g4 e b) by rw [N4'.out.same (.inr de)]; exact W4'.out)
            by_cases hr : e < b
            · skip
              have r1 : decide ((d : Int) < e) = true := by simp; omega
              have r2 : decide ((e : Int) < b) = true := by simp; omega
              go_wp2_with fail
              refine ((IH'.out d e b g4 w4 (by omega) (by omega) (by omega) (by omega)) R4'.out V3.out V4.out (AP2.out.anew N4'.out (Nat.le_refl _) de)).mono ?_
              rintro e5 w5 ⟨rfl, O5, g5, R5, N5, S5⟩
              have R5' := Lib.hid R5
              have N5' := Lib.hid N5
              have S5' := Lib.hid S5
              have O5' := Lib.hid (O4'.out.trans O5)
              clear R5 N5 S5 O5
              go_wp2_with fail
              go_end0
              exact ⟨rfl, O5'.out, _, R5'.out, merged ha'.out hb'.out HK.out hds'.out N4'.out S4'.out N5'.out S5'.out⟩
            · skip
              have V5 := Lib.hid (half_r (by omega) de K4 V3.out V4.out)
              have r1 : decide ((d : Int) < e) = true := by simp; omega
              have r2 : decide ((e : Int) < b) = false := by simp; omega
              go_wp2_with fail
              go_end0
              exact ⟨rfl, O4'.out, _, R4'.out, merged ha'.out hb'.out HK.out hds'.out N4'.out S4'.out (Anew.refl _ _ _) V5.out⟩
          · have l1 : decide ((a : Int) < s) = false := by simp; omega
            have S4' := Lib.hid (half_l (by omega) K1 sd W1'.out W2'.out)
            have N4' := Lib.hid (Anew.refl (rot f s m e) a d)
            have V3 := Lib.hid (show Sorted (win (rot f s m e) d e) by rw [N4'.out.same (.inr (Nat.le_refl _))]; exact W3'.out)
            have V4 := Lib.hid (show Sorted (win (rot f s m e) e b) by rw [N4'.out.same (.inr de)]; exact W4'.out)
            by_cases hr : e < b
            · skip
              have r1 : decide ((d : Int) < e) = true := by simp; omega
              have r2 : decide ((e : Int) < b) = true := by simp; omega
              go_wp2_with fail
              refine ((IH'.out d e b (rot f s m e) w3 (by omega) (by omega) (by omega) (by omega)) R3'.out V3.out V4.out AP2.out).mono ?_
              rintro e5 w5 ⟨rfl, O5, g5, R5, N5, S5⟩
              have R5' := Lib.hid R5
              have N5' := Lib.hid N5
              have S5' := Lib.hid S5
              have O5' := Lib.hid (O3'.out.trans O5)
              clear R5 N5 S5 O5
              go_wp2_with fail
              go_end0
              exact ⟨rfl, O5'.out, _, R5'.out, merged ha'.out hb'.out HK.out hds'.out N4'.out S4'.out N5'.out S5'.out⟩
            · skip
              have V5 := Lib.hid (half_r (by omega) de K4 V3.out V4.out)
              have r1 : decide ((d : Int) < e) = true := by simp; omega
              have r2 : decide ((e : Int) < b) = false := by simp; omega
              go_wp2_with fail
              go_end0
              exact ⟨rfl, O3'.out, _, R3'.out, merged ha'.out hb'.out HK.out hds'.out N4'.out S4'.out (Anew.refl _ _ _) V5.out⟩
        · have R3' := Lib.hid (show Arr C wr g n (rot f s m e) by rw [rot_triv f hrot K2 K3]; exact hR.out)
          by_cases hrot1 : s < m
          · exfalso; omega
          · have t1 : decide ((s : Int) < m) = false := by simp; omega
            have em : e ≤ d := by omega
            have l1 : decide ((a : Int) < s) = true := by simp; omega
            clear hde e1
            by_cases hl : s < d
            · have l2 : decide ((s : Int) < d) = true := by simp; omega
              go_wp2_with fail
              refine ((IH'.out a s d (rot f s m e) wr (by omega) (by omega) (by omega) (by omega)) R3'.out W1'.out W2'.out AP1.out).mono ?_
              rintro e4 w4 ⟨rfl, O4, g4, R4, N4, S4⟩
              have R4' := Lib.hid R4
              have N4' := Lib.hid N4
              have S4' := Lib.hid S4
              have O4' := Lib.hid (O'.out.trans O4)
              clear R4 N4 S4 O4
              have V3 := Lib.hid (show Sorted (win g4 d e) by rw [N4'.out.same (.inr (Nat.le_refl _))]; exact W3'.out)
              have V4 := Lib.hid (show Sorted (win g4 e b) by rw [N4'.out.same (.inr de)]; exact W4'.out)
              have V5 := Lib.hid (half_r (by omega) de K4 V3.out V4.out)
              have r1 : decide ((d : Int) < e) = false := by simp; omega
              go_wp2_with fail
              go_end0
              exact ⟨rfl, O4'.out, _, R4'.out, merged ha'.out hb'.out HK.out hds'.out N4'.out S4'.out (Anew.refl _ _ _) V5.out⟩
            · have l2 : decide ((s : Int) < d) = false := by simp; omega
              have S4' := Lib.hid (half_l (by omega) K1 sd W1'.out W2'.out)
              have N4' := Lib.hid (Anew.refl (rot f s m e) a d)
              have V3 := Lib.hid (show Sorted (win (rot f s m e) d e) by rw [N4'.out.same (.inr (Nat.le_refl _))]; exact W3'.out)
              have V4 := Lib.hid (show Sorted (win (rot f s m e) e b) by rw [N4'.out.same (.inr de)]; exact W4'.out)
              have V5 := Lib.hid (half_r (by omega) de K4 V3.out V4.out)
              have r1 : decide ((d : Int) < e) = false := by simp; omega
              go_wp2_with fail
              go_end0
              exact ⟨rfl, O'.out, _, R3'.out, merged ha'.out hb'.out HK.out hds'.out N4'.out S4'.out (Anew.refl _ _ _) V5.out⟩
end Go.Proofs.YtlipngdfhpaodaaGreat.Lo

/- The walks of the stable sort. -/
namespace Go.Proofs.YtlipngdfhpaodaaGreat.Lo
open Go.RowKit Srt
variable {C : Ho}

theorem symm_all (C : Ho) (g n cap : Nat) (hn : n ≤ 9007199254740992) : ∀ k a m b f w, b - a ≤ k → a < m → m < b → b ≤ n → SymAt C g n cap a m b f w
  | 0, a, m, b, f, w, h, h1, h2, h3 => by omega
  | k + 1, a, m, b, f, w, h, h1, h2, h3 => fun hA ha hb hap => by
    by_cases e1 : m = a + 1
    · exact symm_left C g n cap a m b f w hn e1 h2 h3 hA hb hap
    · by_cases e2 : b = m + 1
      · exact symm_right C g n cap a m b f w hn (by omega) e2 h3 hA ha hap
      · exact symm_main C g n cap a m b f w hn (by omega) (by omega) h3 hA ha hb hap fun a' m' b' f' w' hlt => symm_all C g n cap hn k a' m' b' f' w' (by omega)
theorem symm_calls (C : Ho) (g n cap a m b : Nat) (A M B : Int) (f : Nat → Cn) (w : World) (ea : A = a) (em : M = m) (eb : B = b) (hn : n ≤ 9007199254740992) (h1 : a < m) (h2 : m < b) (h3 : b ≤ n) (hA : Arr C w g n f) (ha : Sorted (win f a m)) (hb : Sorted (win f m b)) (hap : Apt f a m b) :
    Calls Tryz.prog 210 #[hv g n cap, .int .i64 A, .int .i64 M, .int .i64 B, cmpf C] w (SymRes C w g n a b f) := by
  subst ea; subst em; subst eb
  exact symm_all C g n cap hn (b - a) a m b f w (Nat.le_refl _) h1 h2 h3 hA ha hb hap

/-- each stretch of t is sorted, as far as a -/
def BS (f : Nat → Cn) (a t : Nat) : Prop := ∀ x y, x < y → y < a → x / t = y / t → (f x).1 ≤ (f y).1
/-- each stretch of s is sorted, from a on -/
def Up (f : Nat → Cn) (a n s : Nat) : Prop := ∀ x y, a ≤ x → x < y → y < n → x / s = y / s → (f x).1 ≤ (f y).1
theorem BS.next {f g : Nat → Cn} {a b t c : Nat} (h : BS f a t) (ha : a = c * t) (ht : 0 < t) (hN : Anew f g a b) (hS : Sorted (win g a b)) : BS g b t := by
  intro x y h1 h2 h3
  by_cases hy : y < a
  · rw [hN.out x (by omega), hN.out y (by omega)]; exact h x y h1 hy h3
  · have q1 : c ≤ y / t := (Nat.le_div_iff_mul_le ht).2 (by omega)
    have q2 : c * t ≤ x := (Nat.le_div_iff_mul_le ht).1 (by omega)
    exact sorted_le hS (by omega) (by omega) h2
theorem Up.next {f g : Nat → Cn} {a b n s : Nat} (h : Up f a n s) (hab : a ≤ b) (hN : Anew f g a b) : Up g b n s := by
  intro x y h1 h2 h3 h4
  rw [hN.out x (by omega), hN.out y (by omega)]
  exact h x y (by omega) h2 h3 h4
theorem Up.win {f : Nat → Cn} {a n s q l r : Nat} (h : Up f a n s) (h1 : a ≤ l) (h2 : q * s ≤ l) (h3 : r ≤ (q + 1) * s) (h4 : r ≤ n) : Sorted (win f l r) :=
  sorted_win.2 fun x y p1 p2 p3 => h x y (by omega) p2 (by omega) (by rw [Nat.div_eq_of_lt_le (by omega) (by omega : x < (q + 1) * s), Nat.div_eq_of_lt_le (by omega) (by omega : y < (q + 1) * s)])
theorem BS.up {f : Nat → Cn} {n s : Nat} (h : BS f n s) : Up f 0 n s := fun x y _ h2 h3 h4 => h x y h2 h3 h4
theorem BS.zero (f : Nat → Cn) (t : Nat) : BS f 0 t := fun x y _ h2 => by omega
theorem BS.all {f : Nat → Cn} {n s : Nat} (h : BS f n s) (hs : n ≤ s) : Sorted (win f 0 n) :=
  sorted_win.2 fun x y _ h2 h3 => h x y h2 h3 (by rw [Nat.div_eq_of_lt (by omega), Nat.div_eq_of_lt (by omega)])
/-- the stretches of t were laid one behind the other -/
def Blk (f : Nat → Cn) (n t : Nat) : Prop := ∀ x y, x < y → y < n → x / t < y / t → (f x).2 < (f y).2
/-- so it stands from a on -/
def Nx (f : Nat → Cn) (a n s : Nat) : Prop := ∀ x y, a ≤ x → x < y → y < n → x / s < y / s → (f x).2 < (f y).2
theorem Blk.nx {f : Nat → Cn} {n s : Nat} (h : Blk f n s) : Nx f 0 n s := fun x y _ h2 h3 h4 => h x y h2 h3 h4
theorem Blk.dbl {f : Nat → Cn} {n s : Nat} (h : Blk f n s) : Blk f n (2 * s) := fun x y h1 h2 h3 => h x y h1 h2 (by
  rw [Nat.mul_comm, ← Nat.div_div_eq_div_mul, ← Nat.div_div_eq_div_mul] at h3; omega)
theorem Blk.next {f g : Nat → Cn} {a b n t c : Nat} (h : Blk f n t) (ha : a = c * t) (hb : b ≤ a + t) (hbn : b ≤ n) (N : Anew f g a b) : Blk g n t := by
  have pre : ∀ z, z < n → ∃ z', z' < n ∧ g z = f z' ∧ z' / t = z / t := by
    intro z hz
    by_cases hi : a ≤ z ∧ z < b
    · have hm : g z ∈ win f a b := N.perm.mem_iff.1 (mem_win.2 ⟨z, hi.1, hi.2, rfl⟩)
      obtain ⟨z', q1, q2, q3⟩ := mem_win.1 hm
      have e1 : z' / t = c := Nat.div_eq_of_lt_le (by omega) (by rw [Nat.add_mul]; omega)
      have e2 : z / t = c := Nat.div_eq_of_lt_le (by omega) (by rw [Nat.add_mul]; omega)
      exact ⟨z', by omega, q3.symm, by rw [e1, e2]⟩
    · exact ⟨z, hz, N.out z hi, rfl⟩
  intro x y h1 h2 h3
  obtain ⟨x', p1, p2, p3⟩ := pre x (by omega)
  obtain ⟨y', q1, q2, q3⟩ := pre y h2
  rw [p2, q2]
  refine h x' y' ?_ q1 (by omega)
  rcases Nat.lt_or_ge x' y' with e | e
  · exact e
  · have := Nat.div_le_div_right (c := t) e; omega
theorem Nx.next {f g : Nat → Cn} {a b n s : Nat} (h : Nx f a n s) (hab : a ≤ b) (N : Anew f g a b) : Nx g b n s := by
  intro x y h1 h2 h3 h4
  rw [N.out x (by omega), N.out y (by omega)]
  exact h x y (by omega) h2 h3 h4
theorem Nx.asc {f : Nat → Cn} {a b n : Nat} (h : Nx f a n 1) (hb : b ≤ n) : As f a (a + 1) b := fun x y h1 h2 _ h4 => h x y h1 h2 (by omega) (by omega)
theorem Nx.apt {f : Nat → Cn} {a b n s q : Nat} (h : Nx f a n s) (ha : a = q * s) (hs : 0 < s) (hb : b ≤ n) : Apt f a (a + s) b := fun x y h1 h2 h3 h4 => h x y h1 (by omega) (by omega) (by
  have e1 : x / s = q := Nat.div_eq_of_lt_le (by omega) (by rw [Nat.add_mul]; omega)
  have e2 : q + 1 ≤ y / s := (Nat.le_div_iff_mul_le hs).2 (by rw [Nat.add_mul]; omega)
  omega)
def St1 (C : Ho) (w : World) (g n : Nat) (f : Nat → Cn) (p q : Value) (wr : World) : Prop := ∃ c a : Nat, ∃ h, p = .int .i64 a ∧ q = .int .i64 ((a : Int) + 20) ∧ a = c * 20 ∧ a ≤ n ∧ Anew f h 0 n ∧ BS h a 20 ∧ (Blk h n 20 ∧ Nx h a n 1) ∧ Only (· = g) w wr ∧ Arr C wr g n h
def St2 (C : Ho) (w : World) (g n : Nat) (f : Nat → Cn) (p : Value) (wr : World) : Prop := ∃ s : Nat, ∃ h, p = .int .i64 s ∧ 20 ≤ s ∧ s ≤ 2 * n + 20 ∧ Anew f h 0 n ∧ BS h n s ∧ Blk h n s ∧ Only (· = g) w wr ∧ Arr C wr g n h
def St3 (C : Ho) (w : World) (g n s : Nat) (f : Nat → Cn) (p q : Value) (wr : World) : Prop := ∃ c a : Nat, ∃ h, p = .int .i64 a ∧ q = .int .i64 ((a : Int) + 2 * s) ∧ a = c * (2 * s) ∧ a ≤ n ∧ Anew f h 0 n ∧ BS h a (2 * s) ∧ Up h a n s ∧ (Blk h n (2 * s) ∧ Nx h a n s) ∧ Only (· = g) w wr ∧ Arr C wr g n h
set_option maxHeartbeats 4000000 in
set_option maxRecDepth 100000 in
theorem stable_calls (C : Ho) (g n cap : Nat) (f : Nat → Cn) (w : World) (hn : n ≤ 9007199254740992) (hA : Arr C w g n f) (h0 : ∀ x y, x < y → y < n → (f x).2 < (f y).2) :
    Calls Tryz.prog 148 #[hv g n cap, .int .i64 n, cmpf C] w (SymRes C w g n 0 n f) := by
  have hA' := Lib.hid hA; clear hA
  have H0 := Lib.hid h0; clear h0
  unfold cmpf
  go_enter Tryz.func148, Tryz.ntmps148
  go_wp2_with fail
  go_loopw [7, 8] (fun p q wr => St1 C w g n f p q wr) (fun p _ _ => n - (intOf p).toNat)
  case atStart => exact ⟨0, 0, f, rfl, rfl, by omega, Nat.zero_le _, Anew.refl _ _ _, BS.zero _ _, ⟨fun x y h1 h2 _ => H0.out x y h1 h2, fun x y _ h1 h2 _ => H0.out x y h1 h2⟩, Only.refl _ _, hA'.out⟩
  case round =>
    obtain ⟨c, a, h, rfl, rfl, ha, han, hN, hB, hQ, O, hR⟩ := hrel
    have Q1 := Lib.hid hQ; clear hQ
    have Ha := Lib.hid ha
    have N1 := Lib.hid hN
    have B1 := Lib.hid hB
    have O1 := Lib.hid O
    have R1 := Lib.hid hR
    clear ha hN hB O hR
    by_cases hlt : a + 20 ≤ n
    · have kt : decide ((a : Int) + 20 ≤ n) = true := by simp; omega
      go_wp2_with fail
      refine (insert_calls C g n cap a (a + 20) h wr hn (by omega) hlt R1.out (Q1.out.2.asc hlt)).mono ?_
      rintro e1 w1 ⟨rfl, O2, h2, R2, N2, S2⟩
      have X := Lib.hid (show St1 C w g n f (.int .i64 ((a : Int) + 20)) (.int .i64 ((a : Int) + 20 + 20)) w1 from ⟨c + 1, a + 20, h2, by go_num, by go_num, by have := Ha.out; omega, hlt, N1.out.trans (N2.wide (by omega) (by omega) hlt), B1.out.next Ha.out (by decide) N2 S2, ⟨Q1.out.1.next Ha.out (Nat.le_refl _) hlt N2, Q1.out.2.next (by omega) N2⟩, O1.out.trans O2, R2⟩)
      clear O2 R2 N2 S2
      go_wp2_with fail
      go_roundw
      case rel => exact X.out
      case measure => simp [intOf]; omega
    · have kt : decide ((a : Int) + 20 ≤ n) = false := by simp; omega
      go_wp2_with fail
      refine (insert_calls C g n cap a n h wr hn (by omega) (Nat.le_refl _) R1.out (Q1.out.2.asc (Nat.le_refl _))).mono ?_
      rintro e1 w1 ⟨rfl, O2, h2, R2, N2, S2⟩
      have X := Lib.hid (show St2 C w g n f (.int .i64 (20 : Nat)) w1 from ⟨20, h2, rfl, Nat.le_refl _, by omega, N1.out.trans (N2.wide (by omega) (by omega) (Nat.le_refl _)), B1.out.next Ha.out (by decide) N2 S2, Q1.out.1.next Ha.out (by omega) (Nat.le_refl _) N2, O1.out.trans O2, R2⟩)
      clear O2 R2 N2 S2
      go_wp2_with fail
      go_loopw [6] (fun p wr => St2 C w g n f p wr) (fun p _ => n - (intOf p).toNat)
      case atStart => exact X.out
      case round =>
        obtain ⟨s, h3, rfl, s1, s2, hN3, hB3, hQ3, O3, hR3⟩ := hrel
        have Q3b := Lib.hid hQ3; clear hQ3
        have N3 := Lib.hid hN3
        have B3 := Lib.hid hB3
        have P3 := Lib.hid O3
        have R3 := Lib.hid hR3
        clear hN3 hB3 O3 hR3
        by_cases hsn : s < n
        · go_wp2_with fail
          go_loopw [7, 8] (fun p q wr => St3 C w g n s f p q wr) (fun p _ _ => n - (intOf p).toNat)
          case atStart => exact ⟨0, 0, h3, rfl, by congr 1 <;> omega, by omega, Nat.zero_le _, N3.out, BS.zero _ _, B3.out.up, ⟨Q3b.out.dbl, Q3b.out.nx⟩, P3.out, R3.out⟩
          case round =>
            obtain ⟨c4, a4, h4, rfl, rfl, ha4, han4, hN4, hB4, hU4, hQ4, O4, hR4⟩ := hrel
            have Q4 := Lib.hid hQ4; clear hQ4
            have hq : a4 = 2 * c4 * s := by rw [ha4, Nat.mul_comm 2 c4, Nat.mul_assoc]
            have hq1 : (2 * c4 + 1) * s = a4 + s := by rw [Nat.add_mul, ← hq]; omega
            have hq2 : (2 * c4 + 1 + 1) * s = a4 + s + s := by rw [Nat.add_mul, hq1]; omega
            have hq3 : (c4 + 1) * (2 * s) = a4 + 2 * s := by rw [Nat.add_mul, ← ha4]; omega
            have Q0 := Lib.hid hq
            have Q1 := Lib.hid hq1
            have Q2 := Lib.hid hq2
            have Q3 := Lib.hid hq3
            have Ha4 := Lib.hid ha4
            have N4 := Lib.hid hN4
            have B4 := Lib.hid hB4
            have U4 := Lib.hid hU4
            have P4 := Lib.hid O4
            have R4 := Lib.hid hR4
            clear hq hq1 hq2 hq3 ha4 hN4 hB4 hU4 O4 hR4
            by_cases hlt4 : a4 + 2 * s ≤ n
            · have kt : decide ((a4 : Int) + 2 * s ≤ n) = true := by simp; omega
              go_wp2_with fail
              refine (symm_calls C g n cap a4 (a4 + s) (a4 + 2 * s) _ _ _ h4 _ (by omega) (by omega) (by omega) hn (by omega) (by omega) hlt4 R4.out (U4.out.win (q := 2 * c4) (Nat.le_refl _) (Nat.le_of_eq Q0.out.symm) (Nat.le_of_eq Q1.out.symm) (by omega)) (U4.out.win (q := 2 * c4 + 1) (by omega) (Nat.le_of_eq Q1.out) (by have := Q2.out; omega) hlt4) (Q4.out.2.apt Q0.out (by omega) hlt4)).mono ?_
              rintro e5 w5 ⟨rfl, O5, h5, R5, N5, S5⟩
              have X := Lib.hid (show St3 C w g n s f (.int .i64 ((a4 : Int) + 2 * s)) (.int .i64 ((a4 : Int) + 2 * s + 2 * s)) w5 from ⟨c4 + 1, a4 + 2 * s, h5, by go_num, by congr 1 <;> omega, Q3.out.symm, hlt4, N4.out.trans (N5.wide (by omega) (by omega) hlt4), B4.out.next Ha4.out (by omega) N5 S5, U4.out.next (by omega) N5, ⟨Q4.out.1.next Ha4.out (Nat.le_refl _) hlt4 N5, Q4.out.2.next (by omega) N5⟩, P4.out.trans O5, R5⟩)
              clear O5 R5 N5 S5
              go_wp2_with fail
              go_roundw
              case rel => exact X.out
              case measure => simp [intOf]; omega
            · have kt : decide ((a4 : Int) + 2 * s ≤ n) = false := by simp; omega
              by_cases hm : a4 + s < n
              · have km : decide ((a4 : Int) + s < n) = true := by simp; omega
                go_wp2_with fail
                refine (symm_calls C g n cap a4 (a4 + s) n _ _ _ h4 _ (by omega) (by omega) (by omega) hn (by omega) hm (Nat.le_refl _) R4.out (U4.out.win (q := 2 * c4) (Nat.le_refl _) (Nat.le_of_eq Q0.out.symm) (Nat.le_of_eq Q1.out.symm) (by omega)) (U4.out.win (q := 2 * c4 + 1) (by omega) (Nat.le_of_eq Q1.out) (by have := Q2.out; omega) (Nat.le_refl _)) (Q4.out.2.apt Q0.out (by omega) (Nat.le_refl _))).mono ?_
                rintro e5 w5 ⟨rfl, O5, h5, R5, N5, S5⟩
                have X := Lib.hid (show St2 C w g n f (.int .i64 ((s : Int) * 2)) w5 from ⟨2 * s, h5, by congr 1 <;> omega, by omega, by omega, N4.out.trans (N5.wide (by omega) (by omega) (Nat.le_refl _)), B4.out.next Ha4.out (by omega) N5 S5, Q4.out.1.next Ha4.out (by omega) (Nat.le_refl _) N5, P4.out.trans O5, R5⟩)
                clear O5 R5 N5 S5
                go_wp2_with fail
                go_roundw
                case rel => exact X.out
                case measure => simp [intOf]; omega
              · have km : decide ((a4 : Int) + s < n) = false := by simp; omega
                have X := Lib.hid (show St2 C w g n f (.int .i64 ((s : Int) * 2)) wr from ⟨2 * s, h4, by congr 1 <;> omega, by omega, by omega, N4.out, B4.out.next Ha4.out (by omega) (Anew.refl h4 a4 n) (U4.out.win (q := 2 * c4) (Nat.le_refl _) (Nat.le_of_eq Q0.out.symm) (by have := Q1.out; omega) (Nat.le_refl _)), Q4.out.1, P4.out, R4.out⟩)
                go_wp2_with fail
                go_roundw
                case rel => exact X.out
                case measure => simp [intOf]; omega
        · go_wp2_with fail
          go_end0
          exact ⟨rfl, P3.out, h3, R3.out, N3.out, B3.out.all (by omega)⟩
theorem sort_calls (C : Ho) (g n cap : Nat) (f : Nat → Cn) (w : World) (hn : n ≤ 9007199254740992) (hA : Arr C w g n f) (h0 : ∀ x y, x < y → y < n → (f x).2 < (f y).2) :
    Calls Tryz.prog 85 #[hv g n cap, cmpf C] w (SymRes C w g n 0 n f) := by
  have K := Lib.hid (stable_calls C g n cap f w hn hA h0)
  clear hA h0
  go_enter Tryz.func85, Tryz.ntmps85
  go_wp2_with fail
  refine K.out.mono ?_
  rintro e1 w1 ⟨rfl, O1, h, R1, N1, S1⟩
  have X := Lib.hid (show SymRes C w g n 0 n f (.returned (.tuple #[])) w1 from ⟨rfl, O1, h, R1, N1, S1⟩)
  clear O1 R1 N1 S1
  go_wp2_with fail
  go_end0
  exact X.out
end Go.Proofs.YtlipngdfhpaodaaGreat.Lo

/- Plain facts on the order of the calls of a history: the calls with a point, row by row; ranks; the insertion from the left; one sorted list. -/
namespace Go.Proofs.YtlipngdfhpaodaaGreat.Lo
open Srt

/-- the calls of a row that have a point, as far as k -/
def pts (p : Nat → Nat → Int) (i k : Nat) : List (Nat × Nat) := ((List.range k).filter fun j => decide (0 < p i j)).map fun j => (i, j)
/-- the calls of the first m rows -/
def coll (p : Nat → Nat → Int) (L : Nat → Nat) : Nat → List (Nat × Nat)
  | 0 => []
  | i + 1 => coll p L i ++ pts p i (L i)
/-- as far as the k-th call of row i -/
def upto (p : Nat → Nat → Int) (L : Nat → Nat) (i k : Nat) : List (Nat × Nat) := coll p L i ++ pts p i k
theorem upto_zero (p : Nat → Nat → Int) (L : Nat → Nat) (i : Nat) : upto p L i 0 = coll p L i := by simp [upto, pts]
theorem upto_row (p : Nat → Nat → Int) (L : Nat → Nat) (i : Nat) : upto p L i (L i) = coll p L (i + 1) := rfl
theorem upto_take (p : Nat → Nat → Int) (L : Nat → Nat) (i k : Nat) (h : 0 < p i k) : upto p L i (k + 1) = upto p L i k ++ [(i, k)] := by
  unfold upto pts
  rw [List.range_succ, List.filter_append, List.map_append, List.append_assoc]
  simp [h]
theorem upto_skip (p : Nat → Nat → Int) (L : Nat → Nat) (i k : Nat) (h : ¬ 0 < p i k) : upto p L i (k + 1) = upto p L i k := by
  unfold upto pts
  rw [List.range_succ, List.filter_append, List.map_append]
  simp [h]
theorem pts_prefix (p : Nat → Nat → Int) (i : Nat) {k n : Nat} (h : k ≤ n) : pts p i k <+: pts p i n := by
  obtain ⟨d, rfl⟩ : ∃ d, n = k + d := ⟨n - k, by omega⟩
  unfold pts
  rw [List.range_add, List.filter_append, List.map_append]
  exact List.prefix_append _ _
theorem coll_prefix (p : Nat → Nat → Int) (L : Nat → Nat) {i : Nat} : ∀ {m : Nat}, i ≤ m → coll p L i <+: coll p L m
  | 0, h => by obtain rfl : i = 0 := by omega
               exact List.prefix_refl _
  | m + 1, h => by
    rcases Nat.lt_or_eq_of_le h with h1 | rfl
    · exact (coll_prefix p L (by omega : i ≤ m)).trans (List.prefix_append _ _)
    · exact List.prefix_refl _
theorem upto_prefix (p : Nat → Nat → Int) (L : Nat → Nat) {i k m : Nat} (hk : k ≤ L i) (hi : i < m) : upto p L i k <+: coll p L m :=
  ((List.prefix_append_right_inj (coll p L i)).2 (pts_prefix p i hk)).trans (coll_prefix p L hi)
theorem mem_pts {p : Nat → Nat → Int} {i k : Nat} {x : Nat × Nat} (h : x ∈ pts p i k) : x.1 = i ∧ x.2 < k ∧ 0 < p x.1 x.2 := by
  unfold pts at h
  simp only [List.mem_map, List.mem_filter, List.mem_range, decide_eq_true_eq] at h
  obtain ⟨j, ⟨h1, h2⟩, rfl⟩ := h
  exact ⟨rfl, h1, h2⟩
theorem mem_coll {p : Nat → Nat → Int} {L : Nat → Nat} {x : Nat × Nat} : ∀ {m : Nat}, x ∈ coll p L m → x.1 < m ∧ x.2 < L x.1 ∧ 0 < p x.1 x.2
  | 0, h => by simp [coll] at h
  | m + 1, h => by
    rcases List.mem_append.1 h with h | h
    · obtain ⟨h1, h2, h3⟩ := mem_coll h; exact ⟨by omega, h2, h3⟩
    · obtain ⟨h1, h2, h3⟩ := mem_pts h; exact ⟨by omega, by rw [h1]; exact h2, h3⟩
/-- how many calls the first m rows have -/
def tots (L : Nat → Nat) : Nat → Nat
  | 0 => 0
  | i + 1 => tots L i + L i
theorem pts_len (p : Nat → Nat → Int) (i k : Nat) : (pts p i k).length ≤ k := by
  unfold pts
  rw [List.length_map]
  refine Nat.le_trans (List.length_filter_le _ _) ?_
  simp
theorem coll_len (p : Nat → Nat → Int) (L : Nat → Nat) : ∀ m, (coll p L m).length ≤ tots L m
  | 0 => Nat.zero_le _
  | m + 1 => by
    have h1 := coll_len p L m
    have h2 := pts_len p m (L m)
    unfold coll tots
    rw [List.length_append]; omega

/-- the call that was collected as the j-th one -/
def at_ (F : List (Nat × Nat)) (j : Nat) : Nat × Nat := F.getD j (0, 0)
theorem at_prefix {F G : List (Nat × Nat)} {x : Nat × Nat} (h : G ++ [x] <+: F) : at_ F G.length = x ∧ G.length < F.length := by
  obtain ⟨t, rfl⟩ := h
  unfold at_
  rw [List.getD_eq_getElem?_getD]
  simp
theorem at_mem {F : List (Nat × Nat)} {j : Nat} (h : j < F.length) : at_ F j ∈ F := by
  unfold at_
  rw [List.getD_eq_getElem?_getD, List.getElem?_eq_getElem h]
  exact List.getElem_mem _
/-- the rank of the j-th collected call, and j -/
def el (p : Nat → Nat → Int) (F : List (Nat × Nat)) (j : Nat) : Cn := (p (at_ F j).1 (at_ F j).2 * 4294967296 + j, j)
/-- the first c of them -/
def els (p : Nat → Nat → Int) (F : List (Nat × Nat)) (c : Nat) : List Cn := (List.range c).map (el p F)
theorem els_snoc (p : Nat → Nat → Int) (F : List (Nat × Nat)) (c : Nat) : els p F (c + 1) = els p F c ++ [el p F c] := by
  unfold els; rw [List.range_succ, List.map_append]; rfl
theorem els_len (p : Nat → Nat → Int) (F : List (Nat × Nat)) (c : Nat) : (els p F c).length = c := by simp [els]
theorem mem_els {p : Nat → Nat → Int} {F : List (Nat × Nat)} {c : Nat} {x : Cn} (h : x ∈ els p F c) : ∃ j, j < c ∧ x = el p F j := by
  unfold els at h
  simp only [List.mem_map, List.mem_range] at h
  obtain ⟨j, h1, h2⟩ := h
  exact ⟨j, h1, h2.symm⟩
/-- a list that holds the first c calls by rank -/
structure Ord (p : Nat → Nat → Int) (F : List (Nat × Nat)) (c : Nat) (l : List Cn) : Prop where
  perm : l.Perm (els p F c)
  srt : Sorted l
theorem Ord.len {p : Nat → Nat → Int} {F : List (Nat × Nat)} {c : Nat} {l : List Cn} (h : Ord p F c l) : l.length = c := by rw [h.perm.length_eq, els_len]
theorem Ord.nil (p : Nat → Nat → Int) (F : List (Nat × Nat)) : Ord p F 0 [] := ⟨List.Perm.refl _, sorted_nil⟩
theorem Ord.mem {p : Nat → Nat → Int} {F : List (Nat × Nat)} {c : Nat} {l : List Cn} (h : Ord p F c l) {x : Cn} (hx : x ∈ l) : ∃ j, j < c ∧ x = el p F j := mem_els (h.perm.mem_iff.1 hx)
theorem sorted_uniq : ∀ (l1 l2 : List Cn), l1.Perm l2 → Sorted l1 → Sorted l2 → (∀ x ∈ l1, ∀ y ∈ l1, x.1 = y.1 → x = y) → l1 = l2
  | [], l2, p, _, _, _ => by rw [List.Perm.eq_nil p.symm]
  | a :: t, [], p, _, _, _ => by have := p.length_eq; simp at this
  | a :: t, b :: u, p, h1, h2, hu => by
    have ha := List.pairwise_cons.1 h1
    have hb := List.pairwise_cons.1 h2
    have e : a = b := by
      have m1 : a ∈ b :: u := p.subset (by simp)
      have m2 : b ∈ a :: t := p.symm.subset (by simp)
      refine hu a (by simp) b m2 ?_
      have l1 : a.1 ≤ b.1 := by
        rcases List.mem_cons.1 m2 with e | e
        · rw [e]; exact Int.le_refl _
        · exact ha.1 _ e
      have l2 : b.1 ≤ a.1 := by
        rcases List.mem_cons.1 m1 with e | e
        · rw [e]; exact Int.le_refl _
        · exact hb.1 _ e
      omega
    subst e
    rw [sorted_uniq t u (List.Perm.cons_inv p) ha.2 hb.2 (fun x hx y hy => hu x (by simp [hx]) y (by simp [hy]))]
theorem Ord.uniq {p : Nat → Nat → Int} {F : List (Nat × Nat)} {c : Nat} {l1 l2 : List Cn} (hc : c ≤ 4294967296) (h1 : Ord p F c l1) (h2 : Ord p F c l2) : l1 = l2 := by
  refine sorted_uniq l1 l2 (h1.perm.trans h2.perm.symm) h1.srt h2.srt fun x hx y hy e => ?_
  obtain ⟨i, hi, rfl⟩ := h1.mem hx
  obtain ⟨j, hj, rfl⟩ := h1.mem hy
  have : i = j := by unfold el at e; dsimp only at e; omega
  rw [this]
/-- the document's step -/
theorem Ord.put {p : Nat → Nat → Int} {F : List (Nat × Nat)} {c : Nat} {l : List Cn} {a : Nat} (h : Ord p F c l) (hc : c < 4294967296) (ha : a ≤ c)
    (h1 : ∀ k x, a ≤ k → l[k]? = some x → p (at_ F c).1 (at_ F c).2 < p (at_ F x.2).1 (at_ F x.2).2)
    (h2 : a = 0 ∨ ∃ x, l[a - 1]? = some x ∧ p (at_ F x.2).1 (at_ F x.2).2 ≤ p (at_ F c).1 (at_ F c).2) : Ord p F (c + 1) (l.take a ++ el p F c :: l.drop a) := by
  have hl := h.len
  refine ⟨?_, ?_⟩
  · rw [els_snoc]
    have e1 : (l.take a ++ el p F c :: l.drop a).Perm (el p F c :: (l.take a ++ l.drop a)) := List.perm_middle
    rw [List.take_append_drop] at e1
    exact e1.trans ((List.perm_append_singleton _ _).symm.trans (h.perm.append_right _))
  · have hs : Sorted (l.take a ++ l.drop a) := by rw [List.take_append_drop]; exact h.srt
    obtain ⟨s1, s2, s3⟩ := sorted_app.1 hs
    refine sorted_app.2 ⟨s1, List.pairwise_cons.2 ⟨?_, s2⟩, ?_⟩
    · intro x hx
      obtain ⟨k, hk⟩ := List.getElem?_of_mem hx
      rw [List.getElem?_drop] at hk
      have q := h1 _ _ (by omega) hk
      obtain ⟨j, hj, rfl⟩ := h.mem (List.mem_of_mem_drop hx)
      simp only [el] at q ⊢
      omega
    · intro x hx y hy
      rcases List.mem_cons.1 hy with e' | e'
      · subst e'
        rcases h2 with h2 | ⟨z, hz, hle⟩
        · subst h2; simp at hx
        · have hzm := List.mem_of_getElem? hz
          obtain ⟨j, hj, rfl⟩ := h.mem hzm
          have hxz : x.1 ≤ (el p F j).1 := by
            obtain ⟨k, hk⟩ := List.getElem?_of_mem hx
            rw [List.getElem?_take] at hk
            split at hk
            · rename_i hka
              by_cases hkz : k = a - 1
              · subst hkz; rw [hz] at hk; injection hk with hk; subst hk; exact Int.le_refl _
              · have hkl : k < l.length := by omega
                have hal : a - 1 < l.length := by omega
                rw [List.getElem?_eq_getElem hkl] at hk
                rw [List.getElem?_eq_getElem hal] at hz
                injection hk with hk; injection hz with hz
                have hr := List.pairwise_iff_getElem.1 h.srt k (a - 1) hkl hal (by omega)
                rw [hk, hz] at hr; exact hr
            · cases hk
          refine Int.le_trans hxz ?_
          simp only [el] at hle ⊢
          omega
      · exact s3 x hx y e'
end Go.Proofs.YtlipngdfhpaodaaGreat.Lo

/- Rows of pairs as lists of elements: flat; the row of the call's own handed to the sort, and back. -/
namespace Go.Proofs.YtlipngdfhpaodaaGreat.Lo
open Go.RowKit Srt

/-- a list of elements as cells -/
def flat (T N : Nat → Int) : List Cn → List Value
  | [] => []
  | x :: l => .int .i64 (T x.2) :: .int .i64 (N x.2) :: flat T N l
theorem flat_len (T N : Nat → Int) (l : List Cn) : (flat T N l).length = l.length * 2 := by
  induction l with
  | nil => rfl
  | cons x t ih => simp only [flat, List.length_cons, ih]; omega
theorem flat_app (T N : Nat → Int) (l r : List Cn) : flat T N (l ++ r) = flat T N l ++ flat T N r := by
  induction l with
  | nil => rfl
  | cons x t ih => simp only [List.cons_append, flat, ih]
theorem flat_get (T N : Nat → Int) : ∀ (l : List Cn) (i : Nat) (x : Cn), l[i]? = some x → (flat T N l)[i * 2]? = some (.int .i64 (T x.2)) ∧ (flat T N l)[i * 2 + 1]? = some (.int .i64 (N x.2))
  | [], i, x, h => by simp at h
  | y :: l, 0, x, h => by
    simp only [List.getElem?_cons_zero, Option.some.injEq] at h
    subst h
    exact ⟨rfl, rfl⟩
  | y :: l, i + 1, x, h => by
    rw [List.getElem?_cons_succ] at h
    obtain ⟨h1, h2⟩ := flat_get T N l i x h
    simp only [flat]
    rw [show (i + 1) * 2 = i * 2 + 1 + 1 by omega]
    simp only [List.getElem?_cons_succ]
    exact ⟨h1, h2⟩
theorem flat_take (T N : Nat → Int) : ∀ (l : List Cn) (a : Nat), flat T N (l.take a) = (flat T N l).take (a * 2)
  | [], a => by simp [flat]
  | x :: l, 0 => by simp [flat]
  | x :: l, a + 1 => by
    rw [show (a + 1) * 2 = a * 2 + 1 + 1 by omega]
    simp only [List.take_succ_cons, flat, flat_take T N l a]
theorem flat_drop (T N : Nat → Int) : ∀ (l : List Cn) (a : Nat), flat T N (l.drop a) = (flat T N l).drop (a * 2)
  | [], a => by simp [flat]
  | x :: l, 0 => by simp [flat]
  | x :: l, a + 1 => by
    rw [show (a + 1) * 2 = a * 2 + 1 + 1 by omega]
    simp only [List.drop_succ_cons, flat, flat_drop T N l a]
theorem flat_one (T N : Nat → Int) (l : List Cn) : ∀ u ∈ flat T N l, u.oneCell' = true := by
  induction l with
  | nil => intro u hu; cases hu
  | cons x t ih =>
    intro u hu
    simp only [flat, List.mem_cons] at hu
    rcases hu with rfl | rfl | hu
    · rfl
    · rfl
    · exact ih u hu
/-- cells that stand two by two are the flat list -/
theorem flat_of {T N : Nat → Int} {xs : List Value} {n : Nat} {f : Nat → Cn} (hl : xs.length = n * 2) (h : ∀ i, i < n → xs[i * 2]? = some (.int .i64 (T (f i).2)) ∧ xs[i * 2 + 1]? = some (.int .i64 (N (f i).2))) : xs = flat T N (win f 0 n) := by
  have hw : (win f 0 n).length = n := by rw [win_len]; omega
  apply List.ext_getElem?
  intro k
  by_cases hk : k < n * 2
  · have hi : k / 2 < n := by omega
    have hg : (win f 0 n)[k / 2]? = some (f (k / 2)) := by
      rw [List.getElem?_eq_getElem (by omega)]
      simp [win]
    obtain ⟨a1, a2⟩ := flat_get T N _ _ _ hg
    obtain ⟨b1, b2⟩ := h _ hi
    rcases Nat.mod_two_eq_zero_or_one k with e | e
    · rw [show k = k / 2 * 2 by omega, b1, a1]
    · rw [show k = k / 2 * 2 + 1 by omega, b2, a2]
  · rw [List.getElem?_eq_none (by omega), List.getElem?_eq_none (by rw [flat_len, hw]; omega)]
/-- a list as a function -/
def fn (l : List Cn) (i : Nat) : Cn := l.getD i (0, 0)
theorem win_fn (l : List Cn) : win (fn l) 0 l.length = l := by
  apply List.ext_getElem?
  intro k
  by_cases hk : k < l.length
  · rw [List.getElem?_eq_getElem (by rw [win_len]; omega), List.getElem?_eq_getElem hk]
    simp [win, fn, List.getD_eq_getElem?_getD, List.getElem?_eq_getElem hk]
  · rw [List.getElem?_eq_none (by rw [win_len]; omega), List.getElem?_eq_none (by omega)]
theorem fn_get {l : List Cn} {i : Nat} (h : i < l.length) : l[i]? = some (fn l i) := by
  unfold fn; rw [List.getD_eq_getElem?_getD, List.getElem?_eq_getElem h]; rfl
theorem fn_mem {l : List Cn} {i : Nat} (h : i < l.length) : fn l i ∈ l := List.mem_of_getElem? (fn_get h)

def Tf (F : List (Nat × Nat)) (j : Nat) : Int := ((at_ F j).1 : Nat)
def Nf (F : List (Nat × Nat)) (j : Nat) : Int := ((at_ F j).2 : Nat)
def Pf (p : Nat → Nat → Int) (F : List (Nat × Nat)) (j : Nat) : Int := p (at_ F j).1 (at_ F j).2
/-- the parts of a row of the call's own -/
theorem own_open {w : World} {base n : Nat} {v : Value} {xs : List Value} (h : w.ownsRow base 72 2 v n xs) : (v = .slice none 0 0 ∧ n = 0) ∨
    ∃ g cap X, v = .slice (some ⟨g, 0, none⟩) n cap ∧ base ≤ g ∧ w.heap[g]? = some (.cells X 72 (0, 0)) ∧ n ≤ cap ∧ cap ≤ maxLen ∧ X.size = cap * 2 ∧ X.toList.take (n * 2) = xs := by
  rcases h.2 with q | ⟨g, cap, cur, q1, q2, q3, q4, q5, q6, q7⟩
  · exact .inl q
  · exact .inr ⟨g, cap, cur, q1, q2, q3, q4, q5, q6, q7⟩
theorem own_cells {w : World} {base n g cap : Nat} {X : Array Value} {T N : Nat → Int} {l : List Cn} (_ho : w.ownsRow base 72 2 (.slice (some ⟨g, 0, none⟩) n cap) n (flat T N l)) (hb : w.heap[g]? = some (.cells X 72 (0, 0))) (ht : X.toList.take (n * 2) = flat T N l) {i : Nat} {x : Cn} (hi : i < n) (hx : l[i]? = some x) :
    w.cell? ⟨g, i * 2, none⟩ = some (.int .i64 (T x.2)) ∧ w.cell? ⟨g, i * 2 + 1, none⟩ = some (.int .i64 (N x.2)) := by
  obtain ⟨h1, h2⟩ := flat_get T N l i x hx
  rw [← ht, List.getElem?_take, if_pos (by omega)] at h1 h2
  exact ⟨by rw [blk_cell hb, ← Array.getElem?_toList, h1], by rw [blk_cell hb, ← Array.getElem?_toList, h2]⟩
/-- handed to the sort -/
theorem arr_of {C : Ho} {w : World} {n g : Nat} {X : Array Value} {l : List Cn} (hl : l.length = n) (hb : w.heap[g]? = some (.cells X 72 (0, 0))) (hs : X.size = C.sz) (hn : n * 2 ≤ X.size) (ht : X.toList.take (n * 2) = flat C.T C.N l) (hH : C.H g w) (hV : ∀ x ∈ l, C.V x) : Arr C w g n (fn l) := by
  refine ⟨⟨X, hb, ⟨hn, hs⟩, fun i hi => ?_⟩, hH, fun i hi => hV _ (fn_mem (by omega))⟩
  obtain ⟨h1, h2⟩ := flat_get C.T C.N l i (fn l i) (fn_get (by omega))
  rw [← ht, List.getElem?_take, if_pos (by omega)] at h1 h2
  exact ⟨by rw [← Array.getElem?_toList, h1], by rw [← Array.getElem?_toList, h2]⟩
/-- and back -/
theorem own_of {C : Ho} {w : World} {base n g cap : Nat} {h : Nat → Cn} (hA : Arr C w g n h) (hs : C.sz = cap * 2) (hb : base ≤ g) (hn : n ≤ cap) (hc : cap ≤ maxLen) : w.ownsRow base 72 2 (.slice (some ⟨g, 0, none⟩) n cap) n (flat C.T C.N (win h 0 n)) := by
  obtain ⟨⟨X, h1, ⟨h2, h3⟩, h4⟩, _, _⟩ := hA
  have hw : (win h 0 n).length = n := by rw [win_len]; omega
  refine ⟨by rw [flat_len, hw], .inr ⟨g, cap, X, rfl, hb, h1, hn, hc, by omega, ?_⟩⟩
  refine flat_of (T := C.T) (N := C.N) (n := n) (f := h) (by rw [List.length_take, Array.length_toList]; omega) fun i hi => ?_
  obtain ⟨q1, q2⟩ := h4 i hi
  rw [List.getElem?_take, if_pos (by omega), List.getElem?_take, if_pos (by omega), Array.getElem?_toList, Array.getElem?_toList]
  exact ⟨q1, q2⟩
end Go.Proofs.YtlipngdfhpaodaaGreat.Lo
