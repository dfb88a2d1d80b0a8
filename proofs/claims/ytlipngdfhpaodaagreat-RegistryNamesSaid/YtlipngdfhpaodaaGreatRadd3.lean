/- The walk of a recorder's Add. -/
import Derived.Test.YtlipngdfhpaodaaGreatRadd2
namespace Go.Proofs.YtlipngdfhpaodaaGreat
open Go.RowKit

section
variable {base s c : Nat} {p : Int} {st : Nat} {u : Nat → Value} {L : Nat → Nat} {R : Nat → Nat → Nat} {V : Nat → Nat → Nat → Int} {w : World} {rb sh ph : Nat} {i : Nat} {n : Int} {rf : Nat → Int} {now start : Int} {en : Nat → Int}
theorem RaddRes.back {b q : Nat} {W0 w' : World} {e : Ending} (h : RaddRes base sh ph s c p st u L R V b q i n rf now start en W0 e w') (O : Only (fun _ => False) w W0) : RaddRes base sh ph s c p st u L R V b q i n rf now start en w e w' := by
  unfold RaddRes at h ⊢
  split at h
  · rename_i hn; rw [if_pos hn]
    exact ⟨h.1, h.2.1, h.2.2.1, (O.mono fun _ _ q => q.elim).trans h.2.2.2⟩
  · rename_i hn; rw [if_neg hn]
    exact ⟨h.1, h.2.1, h.2.2.1, (O.mono fun _ _ q => q.elim).trans h.2.2.2⟩
theorem RaddRes.val {b q : Nat} {w' : World} {e : Ending} (h : RaddRes base sh ph s c p st u L R V b q i n rf now start en w e w') : e = .returned (.int .i64 (if n ≥ 0 then 0 else 2)) := by
  unfold RaddRes at h
  split at h
  · rename_i hn; rw [if_pos hn]; exact h.1
  · rename_i hn; rw [if_neg hn]; exact h.1
set_option maxHeartbeats 1000000 in
theorem radd_calls (hrb : w.heap[rb]? = some (.cells #[.pointer (some ⟨sh, 0, none⟩), .int .i64 i, .bool false] 250 (0, 0))) (hS : SlabAt base s c 1 p st 2 u L R V w) (b : Nat) (hR : RecAt base sh ph b rf now start en w) (h0 : 0 < st) (hm : st ≤ 16) (hb : b < 2) (hi : i < st) (q : Nat) (hq : q < 2) (hp : phaseOf start = q)
    (hx : -9223372036854775808 ≤ V b i 0 ∧ V b i 0 ≤ 9223372036854775807) (hs : -9223372036854775808 ≤ start ∧ start ≤ 9223372036854775807) :
    Calls Tryz.prog 39 #[.pointer (some ⟨rb, 0, none⟩), .pointer none, .pointer (some ⟨s, 0, none⟩), .int .i64 n] w (RaddRes base sh ph s c p st u L R V b q i n rf now start en w) := by
  have e1 : (w.alloc (.cells #[.pointer (some ⟨rb, 0, none⟩)] 55)).heap.size = w.heap.size + 1 := by simp
  have e2 : ((w.alloc (.cells #[.pointer (some ⟨rb, 0, none⟩)] 55)).alloc (.cells #[.pointer none] 165)).heap.size = w.heap.size + 1 + 1 := by simp
  have e3 : (((w.alloc (.cells #[.pointer (some ⟨rb, 0, none⟩)] 55)).alloc (.cells #[.pointer none] 165)).alloc (.cells #[.pointer (some ⟨s, 0, none⟩)] 34)).heap.size = w.heap.size + 1 + 1 + 1 := by simp
  obtain ⟨W0, hW⟩ : ∃ W0, W0 = (((w.alloc (.cells #[.pointer (some ⟨rb, 0, none⟩)] 55)).alloc (.cells #[.pointer none] 165)).alloc (.cells #[.pointer (some ⟨s, 0, none⟩)] 34)).alloc (.cells #[.int .i64 n] 2) := ⟨_, rfl⟩
  have O0 : Only (fun _ => False) w W0 := by rw [hW]; exact ((((Only.refl _ w).alloc _).alloc _).alloc _).alloc _
  have hC : ClosAt w.heap.size rb s sh i n W0 := by
    refine ⟨?_, ?_, ?_, ?_, O0.blk hrb (by simp)⟩
    · rw [hW]; exact blk_alloc (blk_alloc (blk_alloc (blk_new _ _) _) _) _
    · rw [hW, ← e1]; exact blk_alloc (blk_alloc (blk_new _ _) _) _
    · rw [hW, ← e2]; exact blk_alloc (blk_new _ _) _
    · rw [hW, ← e3]; exact blk_new _ _
  have K := Lib.hid (record_calls hC (hS.only O0) b (hR.only O0 (by simp) (by simp)) h0 hm hb hi q hq hp hx hs)
  have HO := Lib.hid O0
  have HW := Lib.hid hW
  clear hC hS hR hx hs hp hrb e1 e2 e3 O0 hW
  go_enter Tryz.func39, Tryz.ntmps39
  go_wp2_with fail
  rw [← HW.out]
  refine K.out.mono ?_
  intro e w1 hr
  have HF := Lib.hid (hr.back HO.out)
  obtain ⟨x, rfl⟩ : ∃ x : Int, e = .returned (.int .i64 x) := ⟨_, hr.val⟩
  clear hr HW K
  go_wp2_with fail
  go_ret
  exact HF.out
end
end Go.Proofs.YtlipngdfhpaodaaGreat
