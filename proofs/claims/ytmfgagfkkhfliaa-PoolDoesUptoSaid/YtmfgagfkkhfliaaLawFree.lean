/- The walk of the law's 'free'. -/
import Derived.Test.YtmfgagfkkhfliaaSame
namespace Go.Proofs.Ytmfgagfkkhfliaa
open Go.RowKit

def num (c : Int) : Value := .int .i64 c
/-- both lists of the call's own: x and y, with what they hold; nothing else has changed. -/
structure Two (w wr : World) (B n : Nat) (ax ay : Option Addr) (cx cy : Nat) (xs ys : List Value) : Prop where
  only : Only (fun _ => False) w wr
  base : w.heap.size ≤ B
  size : B ≤ wr.heap.size
  x : wr.ownsRow B 3 1 (.slice ax n cx) n xs
  y : wr.ownsRow B 3 1 (.slice ay n cy) n ys
  apart : ∀ g h, ax = some ⟨g, 0, none⟩ → ay = some ⟨h, 0, none⟩ → g ≠ h

theorem own_keep {w : World} {B g : Nat} {v : Value} {n j : Nat} {xs : List Value} {u : Value} (h : w.ownsRow B 3 1 v n xs) (hne : ∀ k, v.ownBlock = some k → g ≠ k) : (w.setCell ⟨g, j, none⟩ u).ownsRow B 3 1 v n xs :=
  ownsRow_setCell_other h (fun e => hne _ e rfl) u
theorem Two.setx {w wr : World} {B n g : Nat} {ay : Option Addr} {cx cy : Nat} {xs ys : List Value} (h : Two w wr B n (some ⟨g, 0, none⟩) ay cx cy xs ys) (hg : B ≤ g) (j : Nat) (u : Value) : Two w (wr.setCell ⟨g, j, none⟩ u) B n (some ⟨g, 0, none⟩) ay cx cy (xs.set j u) ys := by
  refine ⟨h.only.setCell (.inl (by have := h.base; show _ ≤ g; omega)) _, h.base, by have := h.size; simp [World.setCell]; omega, (h.x.stored j u).1, own_keep h.y ?_, h.apart⟩
  intro k hk
  rcases h.y.2 with ⟨e, _⟩ | ⟨g2, cap, cur, e, _⟩
  · rw [e] at hk; cases hk
  · rw [e] at hk; simp [Value.ownBlock] at hk; subst hk
    exact h.apart _ _ rfl (by simp at e; exact e.1)
theorem Two.sety {w wr : World} {B n g : Nat} {ax : Option Addr} {cx cy : Nat} {xs ys : List Value} (h : Two w wr B n ax (some ⟨g, 0, none⟩) cx cy xs ys) (hg : B ≤ g) (j : Nat) (u : Value) : Two w (wr.setCell ⟨g, j, none⟩ u) B n ax (some ⟨g, 0, none⟩) cx cy xs (ys.set j u) := by
  refine ⟨h.only.setCell (.inl (by have := h.base; show _ ≤ g; omega)) _, h.base, by have := h.size; simp [World.setCell]; omega, own_keep h.x ?_, (h.y.stored j u).1, h.apart⟩
  intro k hk
  rcases h.x.2 with ⟨e, _⟩ | ⟨g2, cap, cur, e, _⟩
  · rw [e] at hk; cases hk
  · rw [e] at hk; simp [Value.ownBlock] at hk; subst hk
    exact fun q => h.apart _ _ (by simp at e; exact e.1) rfl q.symm

def A1 (w : World) (B n : Nat) (ax ay : Option Addr) (cx cy : Nat) (ys : List Value) (i : Value) (wr : World) : Prop :=
  ∃ (k : Nat) (xs : List Value), k ≤ n ∧ i = .int .i64 k ∧ Two w wr B n ax ay cx cy xs ys ∧ ∀ j, j < k → xs[j]? = some (num (-1))
def A2 (w : World) (B n : Nat) (ax ay : Option Addr) (cx cy : Nat) (xs : List Value) (i : Value) (wr : World) : Prop :=
  ∃ (k : Nat) (ys : List Value), k ≤ n ∧ i = .int .i64 k ∧ Two w wr B n ax ay cx cy xs ys ∧ ∀ j, j < k → ys[j]? = some (num (-2))

/-- u and v, grown out of x and y. -/
structure Half (w wr : World) (B n : Nat) (ax ay : Option Addr) (u v : Value) (k l : Nat) : Prop where
  only : Only (fun _ => False) w wr
  base : w.heap.size ≤ B
  size : B ≤ wr.heap.size
  hu : wr.ownsRow B 3 1 u (n + k) (List.replicate (n + k) (num (-1)))
  hv : wr.ownsRow B 3 1 v (n + l) (List.replicate (n + l) (num (-2)))
  hx : ∀ g, ax = some ⟨g, 0, none⟩ → g < wr.heap.size ∧ ∀ j, j < n → wr.cell? ⟨g, j, none⟩ = some (num (-1))
  hy : ∀ g, ay = some ⟨g, 0, none⟩ → g < wr.heap.size ∧ ∀ j, j < n → wr.cell? ⟨g, j, none⟩ = some (num (-2))
  uv : ∀ g h, u.ownBlock = some g → v.ownBlock = some h → g ≠ h
  uy : ∀ g h, u.ownBlock = some g → ay = some ⟨h, 0, none⟩ → g ≠ h
  vx : ∀ g h, v.ownBlock = some g → ax = some ⟨h, 0, none⟩ → g ≠ h
theorem all_eq {xs : List Value} {n : Nat} {u : Value} (hl : xs.length = n) (h : ∀ j, j < n → xs[j]? = some u) : xs = List.replicate n u := by
  apply List.ext_getElem?
  intro j
  by_cases hj : j < n
  · rw [h j hj]; simp [hj]
  · rw [List.getElem?_eq_none (by omega)]; simp [hj]

theorem Two.half {w wr : World} {B n : Nat} {ax ay : Option Addr} {cx cy : Nat} {xs ys : List Value} (h : Two w wr B n ax ay cx cy xs ys) (hx : ∀ j, j < n → xs[j]? = some (num (-1))) (hy : ∀ j, j < n → ys[j]? = some (num (-2))) :
    Half w wr B n ax ay (.slice ax n cx) (.slice ay n cy) 0 0 := by
  have ex := all_eq (by have := h.x.1; omega) hx
  have ey := all_eq (by have := h.y.1; omega) hy
  have bx : ∀ g, (Value.slice ax n cx).ownBlock = some g → ax = some ⟨g, 0, none⟩ := by
    intro g hg
    rcases h.x.2 with ⟨e, _⟩ | ⟨g2, cap, cur, e, _⟩
    · rw [e] at hg; cases hg
    · rw [e] at hg; simp [Value.ownBlock] at hg; subst hg; simp at e; exact e.1
  have bY : ∀ g, (Value.slice ay n cy).ownBlock = some g → ay = some ⟨g, 0, none⟩ := by
    intro g hg
    rcases h.y.2 with ⟨e, _⟩ | ⟨g2, cap, cur, e, _⟩
    · rw [e] at hg; cases hg
    · rw [e] at hg; simp [Value.ownBlock] at hg; subst hg; simp at e; exact e.1
  refine ⟨h.only, h.base, h.size, by rw [Nat.add_zero, ← ex]; exact h.x, by rw [Nat.add_zero, ← ey]; exact h.y, ?_, ?_, fun g k hg hk => h.apart _ _ (bx _ hg) (bY _ hk), fun g k hg hk => h.apart _ _ (bx _ hg) hk, fun g k hg hk q => h.apart _ _ hk (bY _ hg) q.symm⟩
  · rintro g rfl
    refine ⟨(h.x.lt g rfl).2, fun j hj => ?_⟩
    have hc : cx = cx := rfl
    rw [own_cell h.x j hj, hx j hj]
  · rintro g rfl
    refine ⟨(h.y.lt g rfl).2, fun j hj => ?_⟩
    rw [own_cell h.y j hj, hy j hj]

theorem Half.alloc {w wr : World} {B n : Nat} {ax ay : Option Addr} {u v : Value} {k l : Nat} (h : Half w wr B n ax ay u v k l) (o : Obj) : Half w (wr.alloc o) B n ax ay u v k l :=
  ⟨h.only.alloc o, h.base, by have := h.size; simp; omega, h.hu.alloc o, h.hv.alloc o,
   fun g hg => ⟨by have := (h.hx g hg).1; simp; omega, fun j hj => by rw [World.cell?_of_block (w := wr) (Below.heap_alloc _ _ _ (h.hx g hg).1)]; exact (h.hx g hg).2 j hj⟩,
   fun g hg => ⟨by have := (h.hy g hg).1; simp; omega, fun j hj => by rw [World.cell?_of_block (w := wr) (Below.heap_alloc _ _ _ (h.hy g hg).1)]; exact (h.hy g hg).2 j hj⟩, h.uv, h.uy, h.vx⟩

theorem rep_succ (n : Nat) (u : Value) : List.replicate n u ++ [u] = List.replicate (n + 1) u := by rw [List.replicate_succ']

theorem Half.growu {w wr w2 : World} {B n : Nat} {ax ay : Option Addr} {u v u' : Value} {k l : Nat} (h : Half w wr B n ax ay u v k l) (hg : Grew wr w2 u u' (n + k)) (ho : w2.ownsRow B 3 1 u' (n + k + 1) (List.replicate (n + k) (num (-1)) ++ [num (-1)])) :
    Half w w2 B n ax ay u' v (k + 1) l := by
  have hlt := h.hu.lt
  refine ⟨h.only.grown hg.grown (fun g e => .inl (by have := h.base; have := (hlt g e).1; omega)), h.base, Nat.le_trans h.size hg.grown.size, by rw [rep_succ] at ho; exact ho, h.hv.kept hg.grown ?_, ?_, ?_, ?_, ?_, h.vx⟩
  · cases hv : v.ownBlock with
    | none => exact .inl rfl
    | some b => exact .inr (fun e => h.uv _ _ e.symm hv rfl)
  · intro g hgx
    obtain ⟨q1, q2⟩ := h.hx g hgx
    refine ⟨Nat.lt_of_lt_of_le q1 hg.grown.size, fun j hj => ?_⟩
    by_cases e : u.ownBlock = some g
    · rw [hg.cells g j e (by omega)]; exact q2 j hj
    · rw [World.cell?_of_block (w := wr) (hg.grown.block g q1 (fun q => e q.symm))]; exact q2 j hj
  · intro g hgy
    obtain ⟨q1, q2⟩ := h.hy g hgy
    refine ⟨Nat.lt_of_lt_of_le q1 hg.grown.size, fun j hj => ?_⟩
    rw [World.cell?_of_block (w := wr) (hg.grown.block g q1 (fun q => h.uy _ _ q.symm hgy rfl))]; exact q2 j hj
  · intro g k2 e1 e2
    rcases hg.which with q | ⟨g2, q1, q2⟩
    · exact h.uv _ _ (by rw [← q]; exact e1) e2
    · have := (h.hv.lt k2 e2).2
      rw [q1] at e1; cases e1; omega
  · intro g k2 e1 e2
    rcases hg.which with q | ⟨g2, q1, q2⟩
    · exact h.uy _ _ (by rw [← q]; exact e1) e2
    · have := (h.hy k2 e2).1
      rw [q1] at e1; cases e1; omega
theorem Half.growv {w wr w2 : World} {B n : Nat} {ax ay : Option Addr} {u v v' : Value} {k l : Nat} (h : Half w wr B n ax ay u v k l) (hg : Grew wr w2 v v' (n + l)) (ho : w2.ownsRow B 3 1 v' (n + l + 1) (List.replicate (n + l) (num (-2)) ++ [num (-2)])) :
    Half w w2 B n ax ay u v' k (l + 1) := by
  have hlt := h.hv.lt
  refine ⟨h.only.grown hg.grown (fun g e => .inl (by have := h.base; have := (hlt g e).1; omega)), h.base, Nat.le_trans h.size hg.grown.size, h.hu.kept hg.grown ?_, by rw [rep_succ] at ho; exact ho, ?_, ?_, ?_, h.uy, ?_⟩
  · cases hv : u.ownBlock with
    | none => exact .inl rfl
    | some b => exact .inr (fun e => h.uv _ _ hv e.symm rfl)
  · intro g hgx
    obtain ⟨q1, q2⟩ := h.hx g hgx
    refine ⟨Nat.lt_of_lt_of_le q1 hg.grown.size, fun j hj => ?_⟩
    rw [World.cell?_of_block (w := wr) (hg.grown.block g q1 (fun q => h.vx _ _ q.symm hgx rfl))]; exact q2 j hj
  · intro g hgy
    obtain ⟨q1, q2⟩ := h.hy g hgy
    refine ⟨Nat.lt_of_lt_of_le q1 hg.grown.size, fun j hj => ?_⟩
    by_cases e : v.ownBlock = some g
    · rw [hg.cells g j e (by omega)]; exact q2 j hj
    · rw [World.cell?_of_block (w := wr) (hg.grown.block g q1 (fun q => e q.symm))]; exact q2 j hj
  · intro g k2 e1 e2
    rcases hg.which with q | ⟨g2, q1, q2⟩
    · exact h.uv _ _ e1 (by rw [← q]; exact e2)
    · have := (h.hu.lt g e1).2
      rw [q1] at e2; cases e2; omega
  · intro g k2 e1 e2
    rcases hg.which with q | ⟨g2, q1, q2⟩
    · exact h.vx _ _ (by rw [← q]; exact e1) e2
    · have := (h.hx k2 e2).1
      rw [q1] at e1; cases e1; omega
end Go.Proofs.Ytmfgagfkkhfliaa
