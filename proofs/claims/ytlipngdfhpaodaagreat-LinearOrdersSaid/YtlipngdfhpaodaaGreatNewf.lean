/- The walk of New: what holds in a round of its loops, the blocks' places given. -/
import Derived.Test.YtlipngdfhpaodaaGreatMeth
namespace Go.Proofs.YtlipngdfhpaodaaGreat
open Go.RowKit

structure NewF (w : World) (s c : Nat) (kind p : Int) (st wd : Nat) (u : Nat → Value) (L : Nat → Nat) (R : Nat → Nat → Nat) (n m l : Nat) (wr : World) : Prop where
  only : Only (fun _ => False) w wr
  slab : ∃ V, SlabAt w.heap.size s c kind p st wd u L R V wr ∧ ∀ b i k, b < 2 → i < st → k < wd → (b < n ∨ b = n ∧ (i < m ∨ i = m ∧ k < l)) → V b i k = first kind k
section
variable {w : World} {s c : Nat} {kind p : Int} {st wd : Nat} {u : Nat → Value} {L : Nat → Nat} {R : Nat → Nat → Nat} {n m l : Nat} {wr : World}
theorem NewAt.f (h : NewAt w s c kind p st wd n m l wr) : ∃ u L R, NewF w s c kind p st wd u L R n m l wr := by
  obtain ⟨O, u, L, R, V, hS, hV⟩ := h; exact ⟨u, L, R, O, V, hS, hV⟩
theorem NewF.at (h : NewF w s c kind p st wd u L R n m l wr) : NewAt w s c kind p st wd n m l wr := by
  obtain ⟨O, V, hS, hV⟩ := h; exact ⟨O, u, L, R, V, hS, hV⟩
theorem NewF.next {w1 : World} (h : NewF w s c kind p st wd u L R n m l wr) (O1 : Only (fun _ => False) wr w1) : NewF w s c kind p st wd u L R n m l w1 := by
  obtain ⟨O, V, hS, hV⟩ := h; exact ⟨O.trans O1, V, hS.only O1, hV⟩
theorem NewF.head (h : NewF w s c kind p st wd u L R n m l wr) (hn : n < 2) (hm : m < st) : ∃ g cap, u n = .slice (some ⟨g, 0, none⟩) st cap ∧
    ∀ w1, NewF w s c kind p st wd u L R n m l w1 → w1.cell? ⟨s, 0, none⟩ = some (inst kind c p) ∧ w1.cell? ⟨c, n, none⟩ = some (.slice (some ⟨g, 0, none⟩) st cap) ∧ w1.cell? ⟨g, m, none⟩ = some (.slice (some ⟨R n m, 0, none⟩) wd wd) ∧ (R n m < w1.heap.size) := by
  obtain ⟨O, V, hS, hV⟩ := h
  have hLn : L n = st := by
    have e0 := hS.l0; have e1 := hS.l1
    have hcs : n = 0 ∨ n = 1 := by omega
    rcases hcs with rfl | rfl <;> omega
  obtain ⟨g, cap, q1, _⟩ := hS.held.head hn (i := m) (by omega)
  rw [hLn] at q1
  refine ⟨g, cap, q1, fun w1 h1 => ?_⟩
  obtain ⟨O1, V1, hS1, hV1⟩ := h1
  obtain ⟨g', cap', q1', q2⟩ := hS1.held.head hn (i := m) (by omega)
  rw [q1] at q1'
  have eg : g = g' := by injection q1' with a; injection a with a; injection a
  subst eg
  refine ⟨by rw [blk_cell hS1.obj]; rfl, ?_, q2, (hS1.held.wrd n hn m (by omega)).lt⟩
  rw [blk_cell hS1.held.obj]
  have hcs : n = 0 ∨ n = 1 := by omega
  rw [← q1]
  rcases hcs with rfl | rfl <;> rfl
theorem NewF.word (h : NewF w s c kind p st wd u L R n m l wr) (hn : n < 2) (hm : m < st) (hl : l < wd) : (∃ x : Int, wr.cell? ⟨R n m, l, none⟩ = some (.int .i64 x)) ∧ wr.frozen? ⟨R n m, l, none⟩ = false := by
  obtain ⟨O, V, hS, hV⟩ := h
  have hLn : L n = st := by
    have e0 := hS.l0; have e1 := hS.l1
    have hcs : n = 0 ∨ n = 1 := by omega
    rcases hcs with rfl | rfl <;> omega
  have hwr := hS.held.wrd n hn m (by omega)
  exact ⟨⟨_, hwr.cell hl⟩, hwr.free l⟩
theorem NewF.put (h : NewF w s c kind p st wd u L R n m l wr) (hn : n < 2) (hm : m < st) (hl : l < wd) : NewF w s c kind p st wd u L R n m (l + 1) (wr.setCell ⟨R n m, l, none⟩ (.int .i64 (first kind l))) := by
  obtain ⟨O, V, hS, hV⟩ := h
  have hLn : L n = st := by
    have e0 := hS.l0; have e1 := hS.l1
    have hcs : n = 0 ∨ n = 1 := by omega
    rcases hcs with rfl | rfl <;> omega
  refine ⟨O.setCell (.inl (hS.held.rge n hn m (by omega))) _, _, hS.store hn hm l (first kind l), fun b i k hb hi hk q => ?_⟩
  by_cases e : b = n ∧ i = m
  · obtain ⟨rfl, rfl⟩ := e
    rw [upd2_same]
    by_cases ek : k = l
    · subst ek; rw [upd_same]
    · rw [upd_ne _ _ ek]; exact hV _ _ _ hb hi hk (by omega)
  · rw [upd2_ne _ _ e]; exact hV _ _ _ hb hi hk (by omega)
theorem NewF.less (h : NewF w s c kind p st wd u L R n m (l + 1) wr) : NewF w s c kind p st wd u L R n m l wr := by
  obtain ⟨O, V, hS, hV⟩ := h
  exact ⟨O, V, hS, fun b i k hb hi hk q => hV b i k hb hi hk (by omega)⟩
theorem new_start {w1 w2 : World} {kind p : Int} {st wd : Nat} {u : Nat → Value} {L : Nat → Nat} {R : Nat → Nat → Nat} {V : Nat → Nat → Nat → Int} (O2 : Only (fun _ => False) w1 w2) (h0 : L 0 = st) (h1 : L 1 = st)
    (hH : Held w1.heap.size w1.heap.size wd u L R V w2) : NewAt w1 w2.heap.size w1.heap.size kind p st wd 0 0 0 (w2.alloc (.cells #[inst kind w1.heap.size p] 130)) :=
  ⟨O2.alloc _, u, L, R, V, ⟨O2.size, blk_new _ _, h0, h1, hH.only ((Only.refl (fun _ => False) w2).alloc _) (fun _ _ _ q => q)⟩, fun b i k _ _ _ q => by omega⟩
/-- what a region's walk needs of each world that it passes -/
def NewS (w : World) (s c : Nat) (kind p : Int) (st wd : Nat) (u : Nat → Value) (L : Nat → Nat) (R : Nat → Nat → Nat) (n m l : Nat) (wr : World) : Prop := NewF w s c kind p st wd u L R n m l wr
end
end Go.Proofs.YtlipngdfhpaodaaGreat
