/- The walk of Merge at the parts of counters; what an append leaves of the slab; the sum of a buffer. -/
import Derived.Test.YtlipngdfhpaodaaGreatMerg
namespace Go.Proofs.YtlipngdfhpaodaaGreat
open Go.RowKit

theorem mergec_calls (ah al bh bl : Int) (w : World) (h2 : al ≤ 18446744073709551615) (h4 : bl ≤ 18446744073709551615) :
    Calls Tryz.prog 75 #[partc ah al, partc bh bl] w fun e w' => e = .returned (partc (hiSum ah al bh bl) (loSum al bl : Nat)) ∧ Only (fun _ => False) w w' := by
  rw [partc_eq, partc_eq]
  refine (merge_calls ah al 0 bh bl 0 0 0 0 0 0 0 0 0 none none 0 0 0 0 w h2 h4 (fun p l x _ => p = none ∧ l = 0 ∧ x = 0) (fun s c => s = 0 ∧ c = 0) (fun _ _ _ _ _ h _ => h) ?_ ?_).mono ?_
  · intro w1 _
    refine (rmerge_nil w1).mono ?_
    rintro e w2 ⟨rfl, O⟩
    exact ⟨none, 0, 0, rfl, O, rfl, rfl, rfl⟩
  · intro w1
    refine (pmerge_zero w1).mono ?_
    rintro e w2 ⟨rfl, rfl⟩
    exact ⟨0, 0, rfl, Only.refl _ _, rfl, rfl⟩
  · rintro e w1 ⟨p, l, x, s, c, rfl, ⟨rfl, rfl, rfl⟩, ⟨rfl, rfl⟩, O⟩
    exact ⟨rfl, O⟩

section
variable {base s c : Nat} {kind p : Int} {st wd : Nat} {u : Nat → Value} {L : Nat → Nat} {R : Nat → Nat → Nat} {V : Nat → Nat → Nat → Int} {w w' : World}
theorem SlabAt.keepT (h : SlabAt base s c kind p st wd u L R V w) (k1 : Keep 130 w w') (k2 : Keep 136 w w') (k3 : Keep 140 w w') (k4 : Keep 120 w w') : SlabAt base s c kind p st wd u L R V w' := by
  refine ⟨h.sge, k1 _ _ _ h.obj, h.l0, h.l1, h.held.cge, k3 _ _ _ h.held.obj, fun b hb => own_block (h.held.own b hb) fun g hg => ?_, fun b hb i hi => ?_, h.held.rge, h.held.inj, h.held.heads⟩
  · obtain ⟨_, cur, q2⟩ := own_tag (h.held.own b hb) hg
    rw [k2 _ _ _ q2, q2]
  · obtain ⟨cs, r1, r2⟩ := h.held.wrd b hb i hi
    exact ⟨cs, k4 _ _ _ r1, r2⟩
theorem SlabAt.congr {V' : Nat → Nat → Nat → Int} (h : SlabAt base s c kind p st wd u L R V w) (e : ∀ b i k, b < 2 → i < st → k < wd → V b i k = V' b i k) : SlabAt base s c kind p st wd u L R V' w := by
  have e0 := h.l0; have e1 := h.l1
  refine ⟨h.sge, h.obj, h.l0, h.l1, h.held.cge, h.held.obj, h.held.own, fun b hb i hi => (h.held.wrd b hb i hi).congr fun k hk => e b i k hb ?_ hk, h.held.rge, h.held.inj, h.held.heads⟩
  have hcs : b = 0 ∨ b = 1 := by omega
  rcases hcs with rfl | rfl <;> omega
end
theorem Grew.keep {t e : TypeId} {w w' : World} {v v' : Value} {n m base : Nat} {xs : List Value} (h : Grew w w' v v' n) (ho : w.ownsRow base e 1 v m xs) (ht : t ≠ e) : Keep t w w' := fun k cs f q => by
  rw [h.grown.block k (blk_lt q) ?_, q]
  intro hk
  obtain ⟨_, cur, q2⟩ := own_tag ho hk.symm
  rw [q] at q2; injection q2 with q2; injection q2 with _ q2 _; exact ht q2
theorem keep_alloc {t : TypeId} (w : World) (o : Obj) : Keep t w (w.alloc o) := fun _ _ _ q => blk_alloc q o
theorem keep_drew {t : TypeId} (w : World) : Keep t w w.drew := fun _ _ _ q => q

/-- the words that are emptied: rows ahead of i, and of row i the words ahead of k -/
def clr (kind : Int) (V : Nat → Nat → Nat → Int) (b i k : Nat) : Nat → Nat → Nat → Int := fun b' j l => if b' = b ∧ (j < i ∨ j = i ∧ l < k) then first kind l else V b' j l
theorem clr_start (kind : Int) (V : Nat → Nat → Nat → Int) (b : Nat) : clr kind V b 0 0 = V := by
  funext b' j l; unfold clr; rw [if_neg (by omega)]
theorem clr_next (kind : Int) (V : Nat → Nat → Nat → Int) (b i k wd : Nat) (b' j l : Nat) (hk : wd ≤ k) (hl : l < wd) : clr kind V b i k b' j l = clr kind V b (i + 1) 0 b' j l := by
  unfold clr
  by_cases h : b' = b ∧ (j < i ∨ j = i ∧ l < k)
  · rw [if_pos h, if_pos (by omega)]
  · rw [if_neg h, if_neg (by omega)]
theorem clr_here (kind : Int) (V : Nat → Nat → Nat → Int) (b i k : Nat) : clr kind V b i k b i k = V b i k := by unfold clr; rw [if_neg (by omega)]
theorem clr_put (kind : Int) (V : Nat → Nat → Nat → Int) (b i k : Nat) : upd2 (clr kind V b i k) b i (upd (clr kind V b i k b i) k (first kind k)) = clr kind V b i (k + 1) := by
  funext b' j l
  by_cases h : b' = b ∧ j = i
  · obtain ⟨rfl, rfl⟩ := h
    rw [upd2_same]
    by_cases hl : l = k
    · subst hl; rw [upd_same]; unfold clr; rw [if_pos (by omega)]
    · rw [upd_ne _ _ hl]; unfold clr
      by_cases h2 : l < k
      · rw [if_pos (by omega), if_pos (by omega)]
      · rw [if_neg (by omega), if_neg (by omega)]
  · rw [upd2_ne _ _ h]; unfold clr
    by_cases h2 : b' = b ∧ (j < i ∨ j = i ∧ l < k)
    · rw [if_pos h2, if_pos (by omega)]
    · rw [if_neg h2, if_neg (by omega)]
def nums (V : Nat → Int) (k : Nat) : List Value := (List.range k).map fun l => .int .i64 (V l)
theorem nums_succ (V : Nat → Int) (k : Nat) : nums V (k + 1) = nums V k ++ [.int .i64 (V k)] := by simp [nums, List.range_succ]
/-- the sum of the stripes ahead of n: high and low -/
def sumTo (V : Nat → Nat → Int) : Nat → Int × Int
  | 0 => (0, 0)
  | n + 1 => (hiSum (sumTo V n).1 (sumTo V n).2 (V n 1) (IntKind.u64.wrap (V n 0)), (loSum (sumTo V n).2 (IntKind.u64.wrap (V n 0)) : Nat))
theorem lo_le (al bl : Int) : ((loSum al bl : Nat) : Int) ≤ 18446744073709551615 := by unfold loSum lowOf; omega
theorem sumTo_le (V : Nat → Nat → Int) (n : Nat) : (sumTo V n).2 ≤ 18446744073709551615 := by
  cases n with
  | zero => simp [sumTo]
  | succ n => exact lo_le _ _
theorem u64_mod (x : Int) : IntKind.u64.wrap x = x % 18446744073709551616 := by
  simp [IntKind.wrap, IntKind.signed, IntKind.bits]
theorem u64_le (x : Int) : IntKind.u64.wrap x ≤ 18446744073709551615 := by
  rw [u64_mod]; omega
end Go.Proofs.YtlipngdfhpaodaaGreat
