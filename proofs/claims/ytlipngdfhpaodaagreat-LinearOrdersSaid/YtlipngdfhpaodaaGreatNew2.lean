/- The walk of New: the program's slab, the good way. -/
import Derived.Test.YtlipngdfhpaodaaGreatNew
namespace Go.Proofs.YtlipngdfhpaodaaGreat
open Go.RowKit

/-- the program's slab in memory -/
structure SlabAt (base s c : Nat) (kind p : Int) (st wd : Nat) (u : Nat → Value) (L : Nat → Nat) (R : Nat → Nat → Nat) (V : Nat → Nat → Nat → Int) (w : World) : Prop where
  sge : base ≤ s
  obj : w.heap[s]? = some (.cells #[inst kind c p] 130 (0, 0))
  l0 : L 0 = st
  l1 : L 1 = st
  held : Held base c wd u L R V w
theorem SlabAt.only {base s c : Nat} {kind p : Int} {st wd : Nat} {u : Nat → Value} {L : Nat → Nat} {R : Nat → Nat → Nat} {V : Nat → Nat → Nat → Int} {w w' : World} (h : SlabAt base s c kind p st wd u L R V w) (O : Only (fun _ => False) w w') : SlabAt base s c kind p st wd u L R V w' :=
  ⟨h.sge, O.blk h.obj (by simp), h.l0, h.l1, h.held.only O (fun _ _ _ q => q)⟩
theorem SlabAt.store {base s c : Nat} {kind p : Int} {st wd : Nat} {u : Nat → Value} {L : Nat → Nat} {R : Nat → Nat → Nat} {V : Nat → Nat → Nat → Int} {w : World} (h : SlabAt base s c kind p st wd u L R V w) {b i : Nat} (hb : b < 2) (hi : i < st) (k : Nat) (x : Int) :
    SlabAt base s c kind p st wd u L R (upd2 V b i (upd (V b i) k x)) (w.setCell ⟨R b i, k, none⟩ (.int .i64 x)) := by
  have hl : i < L b := by
    have e0 := h.l0; have e1 := h.l1
    have hcs : b = 0 ∨ b = 1 := by omega
    rcases hcs with rfl | rfl <;> omega
  refine ⟨h.sge, ?_, h.l0, h.l1, h.held.store hb hl k x⟩
  obtain ⟨cs, q, _⟩ := h.held.wrd b hb i hl
  refine blk_set_ne h.obj _ _ ?_
  intro e
  have e' : s = R b i := e
  have ho := h.obj
  rw [e', q] at ho; injection ho with ho; injection ho with _ ho _; exact absurd ho (by decide)
/-- the cells ahead of (n, m, l) hold what they hold at first -/
structure NewAt (w : World) (s c : Nat) (kind p : Int) (st wd : Nat) (n m l : Nat) (wr : World) : Prop where
  only : Only (fun _ => False) w wr
  slab : ∃ u L R V, SlabAt w.heap.size s c kind p st wd u L R V wr ∧ ∀ b i k, b < 2 → i < st → k < wd → (b < n ∨ b = n ∧ (i < m ∨ i = m ∧ k < l)) → V b i k = first kind k
def NewRes (kind p : Int) (st : Nat) (w : World) (e : Ending) (w' : World) : Prop :=
  ∃ s c, e = .returned (.tuple #[.pointer (some ⟨s, 0, none⟩), .int .i64 0]) ∧ NewAt w s c kind p st (wide kind p) 2 0 0 w'

theorem NewAt.mono {w wr : World} {s c : Nat} {kind p : Int} {st wd n m l n' m' l' : Nat} (h : NewAt w s c kind p st wd n m l wr)
    (hh : ∀ b i k, b < 2 → i < st → k < wd → (b < n' ∨ b = n' ∧ (i < m' ∨ i = m' ∧ k < l')) → (b < n ∨ b = n ∧ (i < m ∨ i = m ∧ k < l))) : NewAt w s c kind p st wd n' m' l' wr := by
  obtain ⟨O, u, L, R, V, hS, hV⟩ := h
  exact ⟨O, u, L, R, V, hS, fun b i k hb hi hk q => hV b i k hb hi hk (hh b i k hb hi hk q)⟩
/-- what the round reads, and that its store goes on -/
structure NewSee (w : World) (s c : Nat) (kind p : Int) (st wd n m l g cap r : Nat) (w1 : World) : Prop where
  sc : w1.cell? ⟨s, 0, none⟩ = some (inst kind c p)
  cc : w1.cell? ⟨c, n, none⟩ = some (.slice (some ⟨g, 0, none⟩) st cap)
  gc : w1.cell? ⟨g, m, none⟩ = some (.slice (some ⟨r, 0, none⟩) wd wd)
  rc : ∃ x, w1.cell? ⟨r, l, none⟩ = some (.int .i64 x)
  rf : w1.frozen? ⟨r, l, none⟩ = false
  next : NewAt w s c kind p st wd n m (l + 1) (w1.setCell ⟨r, l, none⟩ (.int .i64 (first kind l)))
theorem NewAt.see {w wr : World} {s c : Nat} {kind p : Int} {st wd n m l : Nat} (h : NewAt w s c kind p st wd n m l wr) (hn : n < 2) (hm : m < st) (hl : l < wd) :
    ∃ g cap r, ∀ w1, Only (fun _ => False) wr w1 → NewSee w s c kind p st wd n m l g cap r w1 := by
  obtain ⟨O, u, L, R, V, hS, hV⟩ := h
  have hLn : L n = st := by
    have e0 := hS.l0; have e1 := hS.l1
    have hcs : n = 0 ∨ n = 1 := by omega
    rcases hcs with rfl | rfl <;> omega
  obtain ⟨g, cap, q1, _⟩ := hS.held.head hn (i := m) (by omega)
  refine ⟨g, cap, R n m, fun w1 O1 => ?_⟩
  have hS1 := hS.only O1
  obtain ⟨g', cap', q1', q2⟩ := hS1.held.head hn (i := m) (by omega)
  rw [q1] at q1'
  have eg : g = g' := by injection q1' with a; injection a with a; injection a
  subst eg
  have hwr := hS1.held.wrd n hn m (by omega)
  refine ⟨by rw [blk_cell hS1.obj]; rfl, ?_, q2, ⟨_, hwr.cell hl⟩, hwr.free l, ⟨(O.trans O1).setCell (.inl (hS.held.rge n hn m (by omega))) _, u, L, R, _, hS1.store hn hm l (first kind l), fun b i k hb hi hk q => ?_⟩⟩
  · rw [blk_cell hS1.held.obj]
    have hcs : n = 0 ∨ n = 1 := by omega
    rw [← hLn, ← q1]
    rcases hcs with rfl | rfl <;> rfl
  · by_cases e : b = n ∧ i = m
    · obtain ⟨rfl, rfl⟩ := e
      rw [upd2_same]
      by_cases ek : k = l
      · subst ek; rw [upd_same]
      · rw [upd_ne _ _ ek]; exact hV _ _ _ hb hi hk (by omega)
    · rw [upd2_ne _ _ e]; exact hV _ _ _ hb hi hk (by omega)
end Go.Proofs.YtlipngdfhpaodaaGreat
