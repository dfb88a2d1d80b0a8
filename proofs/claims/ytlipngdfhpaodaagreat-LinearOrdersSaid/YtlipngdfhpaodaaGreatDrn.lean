/- What holds while a buffer is emptied. -/
import Derived.Test.YtlipngdfhpaodaaGreatMergc
namespace Go.Proofs.YtlipngdfhpaodaaGreat
open Go.RowKit

theorem put_ne {w : World} {b b2 : Nat} {c1 c2 : Array Value} {t1 t2 : TypeId} {f1 f2 : Nat × Nat} (h1 : w.heap[b]? = some (.cells c1 t1 f1)) (h2 : w.heap[b2]? = some (.cells c2 t2 f2)) (ht : t1 ≠ t2) : b ≠ b2 := by
  intro e; rw [e, h2] at h1; injection h1 with h1; injection h1 with _ h1 _; exact ht h1.symm
/-- so far a buffer is emptied: i rows, ks words of the next, kh of which are in the list hv; the sum of the rows ahead -/
structure DrF (base : Nat) (w : World) (s c : Nat) (kind p : Int) (st wd : Nat) (u : Nat → Value) (L : Nat → Nat) (R : Nat → Nat → Nat) (V : Nat → Nat → Nat → Int) (b i ks kh : Nat) (hv : Value) (hi lo : Int) (wr : World) : Prop where
  only : Only (fun j => ∃ i', i' < st ∧ j = R b i') w wr
  slab : SlabAt base s c kind p st wd u L R (clr kind V b i ks) wr
  own : wr.ownsRow w.heap.size 2 1 hv kh (nums (V b i) kh)
  all : wr.heap[w.heap.size + 1]? = some (.cells #[.int .i64 hi, .int .u64 lo, .slice none 0 0, .int .u64 0, .complex .f64 0 0, .float .f64 0, .float .f64 0] 109 (0, 0))
  res : wr.heap[w.heap.size]? = some (.cells #[.int .i64 0, .int .u64 0, .slice none 0 0, .int .u64 0, .complex .f64 0 0, .float .f64 0, .float .f64 0] 109 (0, 0))
section
variable {base : Nat} {w : World} {s c : Nat} {kind p : Int} {st wd : Nat} {u : Nat → Value} {L : Nat → Nat} {R : Nat → Nat → Nat} {V : Nat → Nat → Nat → Int} {b i ks kh : Nat} {hv : Value} {hi lo : Int} {wr : World}
theorem DrF.next {w1 : World} (h : DrF base w s c kind p st wd u L R V b i ks kh hv hi lo wr) (O : Only (fun _ => False) wr w1) : DrF base w s c kind p st wd u L R V b i ks kh hv hi lo w1 := by
  refine ⟨h.only.trans (O.mono fun _ _ q => q.elim), h.slab.only O, own_block h.own fun g hg => ?_, O.blk h.all (by simp), O.blk h.res (by simp)⟩
  obtain ⟨_, cur, q⟩ := own_tag h.own hg
  rw [q, O.blk q (by simp)]
theorem SlabAt.len (h : SlabAt base s c kind p st wd u L R V wr) (hb : b < 2) : L b = st := by
  have e0 := h.l0; have e1 := h.l1
  have hcs : b = 0 ∨ b = 1 := by omega
  rcases hcs with rfl | rfl <;> omega
theorem DrF.it (h : DrF base w s c kind p st wd u L R V b i ks kh hv hi lo wr) : wr.cell? ⟨s, 0, none⟩ = some (inst kind c p) := by rw [blk_cell h.slab.obj]; rfl
theorem DrF.it1 (h : DrF base w s c 1 p st wd u L R V b i ks kh hv hi lo wr) : wr.cell? ⟨s, 0, none⟩ = some (.iface 132 (.agg #[.pointer (some ⟨c, 0, none⟩)])) := h.it
theorem DrF.word (h : DrF base w s c kind p st wd u L R V b i ks kh hv hi lo wr) (hb : b < 2) (hi' : i < st) (hk : ks < wd) : wr.cell? ⟨R b i, ks, none⟩ = some (.int .i64 (V b i ks)) ∧ wr.frozen? ⟨R b i, ks, none⟩ = false := by
  have hw := h.slab.held.wrd b hb i (by rw [h.slab.len hb]; exact hi')
  refine ⟨?_, hw.free ks⟩
  rw [hw.cell hk, clr_here]
theorem DrF.put (h : DrF base w s c kind p st wd u L R V b i ks kh hv hi lo wr) (hb : b < 2) (hi' : i < st) : DrF base w s c kind p st wd u L R V b i (ks + 1) kh hv hi lo (wr.setCell ⟨R b i, ks, none⟩ (.int .i64 (first kind ks))) := by
  have hw := h.slab.held.wrd b hb i (by rw [h.slab.len hb]; exact hi')
  obtain ⟨cs, q1, _⟩ := hw
  refine ⟨h.only.setCell (.inr ⟨i, hi', rfl⟩) _, ?_, own_block h.own fun g hg => ?_, blk_set_ne h.all _ _ (put_ne h.all q1 (by decide)), blk_set_ne h.res _ _ (put_ne h.res q1 (by decide))⟩
  · have := h.slab.store hb hi' ks (first kind ks)
    rw [clr_put] at this; exact this
  · obtain ⟨_, cur, q⟩ := own_tag h.own hg
    rw [q, blk_set_ne q _ _ (put_ne q q1 (by decide))]
theorem DrF.own_alloc (h : DrF base w s c kind p st wd u L R V b i ks kh hv hi lo wr) (o : Obj) : (wr.alloc o).ownsRow w.heap.size 2 1 hv kh (nums (V b i) kh) :=
  (h.next ((Only.refl _ wr).alloc o)).own
theorem DrF.app {w1 : World} {v' : Value} (h : DrF base w s c kind p st wd u L R V b i ks kh hv hi lo wr) (hg : Grew wr w1 hv v' (kh * 1)) (ho : w1.ownsRow w.heap.size 2 1 v' (kh + 1) (nums (V b i) kh ++ [.int .i64 (V b i kh)])) :
    DrF base w s c kind p st wd u L R V b i ks (kh + 1) v' hi lo w1 := by
  refine ⟨h.only.grown hg.grown fun k q => .inl (own_tag h.own q).1, h.slab.keepT (hg.keep h.own (by decide)) (hg.keep h.own (by decide)) (hg.keep h.own (by decide)) (hg.keep h.own (by decide)), by rw [nums_succ]; exact ho, hg.keep h.own (t := 109) (by decide) _ _ _ h.all, hg.keep h.own (t := 109) (by decide) _ _ _ h.res⟩
theorem DrF.slice (h : DrF base w s c kind p st wd u L R V b i ks kh hv hi lo wr) (hk : 0 < kh) : ∃ g cap, hv = .slice (some ⟨g, 0, none⟩) kh cap ∧ ∀ w1, DrF base w s c kind p st wd u L R V b i ks kh hv hi lo w1 → ∀ k, k < kh → w1.cell? ⟨g, k, none⟩ = some (.int .i64 (V b i k)) := by
  rcases h.own.2 with ⟨_, q⟩ | ⟨g, cap, cur, q1, _⟩
  · omega
  · subst q1
    refine ⟨g, cap, rfl, fun w1 h1 k hk => ?_⟩
    rcases h1.own.2 with ⟨q, _⟩ | ⟨g', cap', cur', q1, q2, q3, q4, q5, q6, q7⟩
    · cases q
    · injection q1 with q1; injection q1 with q1; injection q1 with q1
      subst q1
      rw [blk_cell q3]
      have : (cur'.toList.take (kh * 1))[k]? = (nums (V b i) kh)[k]? := by rw [q7]
      rw [List.getElem?_take, if_pos (by omega)] at this
      simp [nums, hk] at this
      simpa using this
/-- a row is done: its part is laid to the sum -/
theorem DrF.done {hi' lo' : Int} {w1 : World} (h : DrF base w s c kind p st wd u L R V b i wd kh hv hi lo wr)
    (e : w1 = put7 wr (w.heap.size + 1) (.int .i64 hi') (.int .u64 lo') (.slice none 0 0) (.int .u64 0) (.complex .f64 0 0) (.float .f64 0) (.float .f64 0)) :
    DrF base w s c kind p st wd u L R V b (i + 1) 0 0 (.slice none 0 0) hi' lo' w1 := by
  subst e
  have kp : ∀ t, t ≠ 109 → Keep t wr (put7 wr (w.heap.size + 1) (.int .i64 hi') (.int .u64 lo') (.slice none 0 0) (.int .u64 0) (.complex .f64 0 0) (.float .f64 0) (.float .f64 0)) := fun t ht =>
    Keep.chain7 ((Only.refl (fun _ => False) wr).keep t) h.all ht.symm _ _ _ _ _ _ _
  refine ⟨h.only.put7 (.inl (by omega)) _ _ _ _ _ _ _, (h.slab.keepT (kp _ (by decide)) (kp _ (by decide)) (kp _ (by decide)) (kp _ (by decide))).congr fun b' j l _ _ hl => clr_next kind V b i wd wd b' j l (Nat.le_refl _) hl, ⟨rfl, .inl ⟨rfl, rfl⟩⟩, put7_blk h.all _ _ _ _ _ _ _, ?_⟩
  have hne : w.heap.size ≠ w.heap.size + 1 := by omega
  exact blk_set_ne (blk_set_ne (blk_set_ne (blk_set_ne (blk_set_ne (blk_set_ne (blk_set_ne h.res _ _ hne) _ _ hne) _ _ hne) _ _ hne) _ _ hne) _ _ hne) _ _ hne
theorem drf_start (h : SlabAt base s c kind p st wd u L R V w) : DrF base w s c kind p st wd u L R V b 0 0 0 (.slice none 0 0) 0 0
    ((w.alloc (.cells #[.int .i64 0, .int .u64 0, .slice none 0 0, .int .u64 0, .complex .f64 0 0, .float .f64 0, .float .f64 0] 109)).alloc (.cells #[.int .i64 0, .int .u64 0, .slice none 0 0, .int .u64 0, .complex .f64 0 0, .float .f64 0, .float .f64 0] 109)) := by
  have O : Only (fun _ => False) w ((w.alloc (.cells #[.int .i64 0, .int .u64 0, .slice none 0 0, .int .u64 0, .complex .f64 0 0, .float .f64 0, .float .f64 0] 109)).alloc (.cells #[.int .i64 0, .int .u64 0, .slice none 0 0, .int .u64 0, .complex .f64 0 0, .float .f64 0, .float .f64 0] 109)) := ((Only.refl _ w).alloc _).alloc _
  refine ⟨O.mono fun _ _ q => q.elim, by rw [clr_start]; exact h.only O, ⟨rfl, .inl ⟨rfl, rfl⟩⟩, ?_, blk_alloc (blk_new _ _) _⟩
  have e1 : (w.alloc (.cells #[.int .i64 0, .int .u64 0, .slice none 0 0, .int .u64 0, .complex .f64 0 0, .float .f64 0, .float .f64 0] 109)).heap.size = w.heap.size + 1 := by simp
  rw [← e1]; exact blk_new _ _
end
end Go.Proofs.YtlipngdfhpaodaaGreat
