/- The walks of stripes and row: how many stripes, and a stripe's words. -/
import Derived.Test.YtlipngdfhpaodaaGreatMade
namespace Go.Proofs.YtlipngdfhpaodaaGreat
open Go.RowKit

section
variable {base c wd : Nat} {u : Nat → Value} {L : Nat → Nat} {R : Nat → Nat → Nat} {V : Nat → Nat → Nat → Int} {w w' : World}
theorem Held.head (h : Held base c wd u L R V w) {b i : Nat} (hb : b < 2) (hi : i < L b) : ∃ g cap, u b = .slice (some ⟨g, 0, none⟩) (L b) cap ∧ w.cell? ⟨g, i, none⟩ = some (slv (R b i) wd) := by
  rcases (h.own b hb).2 with ⟨_, q⟩ | ⟨g, cap, cur, q1, q2, q3, q4, q5, q6, q7⟩
  · omega
  · refine ⟨g, cap, q1, ?_⟩
    rw [blk_cell q3]
    have : (cur.toList.take (L b * 1))[i]? = (sl (R b) wd (L b))[i]? := by rw [q7]
    rw [sl_get _ _ _ _ hi, List.getElem?_take, if_pos (by omega)] at this
    simpa using this
end

theorem stripes_calls {base c wd : Nat} {u : Nat → Value} {L : Nat → Nat} {R : Nat → Nat → Nat} {V : Nat → Nat → Nat → Int} (w : World) (h : Held base c wd u L R V w) (h0 : 0 < L 0) :
    Calls Tryz.prog 338 #[.pointer (some ⟨c, 0, none⟩)] w fun e w' => e = .returned (.int .i64 (L 0 : Nat)) ∧ w' = w := by
  obtain ⟨g, cap, q1, _⟩ := h.head (b := 0) (by decide) h0
  have c0 : w.cell? ⟨c, 0, none⟩ = some (.slice (some ⟨g, 0, none⟩) (L 0) cap) := by rw [blk_cell h.obj, ← q1]; rfl
  clear h q1
  generalize L 0 = n at *
  go_enter Tryz.func338, Tryz.ntmps338
  go_wp2_with fail
  go_ret
  exact ⟨rfl, rfl⟩
/-- a stripe's words; none, if there is no such stripe -/
theorem row_calls {base c wd st : Nat} {u : Nat → Value} {L : Nat → Nat} {R : Nat → Nat → Nat} {V : Nat → Nat → Nat → Int} (w : World) (h : Held base c wd u L R V w) (h0 : 0 < st) (hm : st ≤ 16) (e0 : L 0 = st) (e1 : L 1 = st) (b i : Int) :
    Calls Tryz.prog 337 #[.pointer (some ⟨c, 0, none⟩), .int .i64 b, .int .i64 i] w fun e w' => e = .returned (if 0 ≤ b ∧ b < 2 ∧ 0 ≤ i ∧ i < st then slv (R b.toNat i.toNat) wd else .slice none 0 0) ∧ w' = w := by
  by_cases b0 : b < 0
  · rw [if_neg (by omega)]
    have g0 : decide (b < 0) = true := decide_eq_true b0
    go_enter Tryz.func337, Tryz.ntmps337
    go_wp2_with fail
    go_ret
    exact ⟨rfl, rfl⟩
  have g0 : decide (b < 0) = false := decide_eq_false b0
  by_cases b2 : b ≥ 2
  · rw [if_neg (by omega)]
    have g1 : decide (b ≥ 2) = true := decide_eq_true b2
    go_enter Tryz.func337, Tryz.ntmps337
    go_wp2_with fail
    go_ret
    exact ⟨rfl, rfl⟩
  have g1 : decide (b ≥ 2) = false := decide_eq_false b2
  by_cases i0 : i < 0
  · rw [if_neg (by omega)]
    have g2 : decide (i < 0) = true := decide_eq_true i0
    go_enter Tryz.func337, Tryz.ntmps337
    go_wp2_with fail
    go_ret
    exact ⟨rfl, rfl⟩
  have g2 : decide (i < 0) = false := decide_eq_false i0
  have hst : 0 < L 0 := by omega
  by_cases i1 : i ≥ (st : Int)
  · rw [if_neg (by omega)]
    have g3 : decide (i ≥ (st : Int)) = true := decide_eq_true i1
    have k := stripes_calls w h hst
    rw [e0] at k
    have hk := Lib.hid k; clear k h
    go_enter Tryz.func337, Tryz.ntmps337
    go_wp2_with fail
    refine hk.out.mono ?_
    rintro e w1 ⟨rfl, rfl⟩
    go_wp2_with fail
    go_ret
    exact ⟨rfl, rfl⟩
  have g3 : decide (i ≥ (st : Int)) = false := decide_eq_false i1
  rw [if_pos (by omega)]
  have k := stripes_calls w h hst
  rw [e0] at k
  have hk := Lib.hid k; clear k
  obtain ⟨j, rfl⟩ : ∃ j : Nat, i = j := ⟨i.toNat, by omega⟩
  have hj : j < st := by omega
  have hb : b = 0 ∨ b = 1 := by omega
  rcases hb with rfl | rfl
  · obtain ⟨g, cap, q1, q2⟩ := h.head (b := 0) (i := j) (by decide) (by omega)
    have c0 : w.cell? ⟨c, 0, none⟩ = some (.slice (some ⟨g, 0, none⟩) st cap) := by rw [blk_cell h.obj, ← e0, ← q1]; rfl
    have q3 : w.cell? ⟨g, j, none⟩ = some (.slice (some ⟨R 0 j, 0, none⟩) wd wd) := q2
    clear h q1 q2 e0 e1 hst
    go_enter Tryz.func337, Tryz.ntmps337
    go_wp2_with fail
    refine hk.out.mono ?_
    rintro e w1 ⟨rfl, rfl⟩
    go_wp2_with fail
    go_ret
    exact ⟨rfl, rfl⟩
  · obtain ⟨g, cap, q1, q2⟩ := h.head (b := 1) (i := j) (by decide) (by omega)
    have c0 : w.cell? ⟨c, 1, none⟩ = some (.slice (some ⟨g, 0, none⟩) st cap) := by rw [blk_cell h.obj, ← e1, ← q1]; rfl
    have q3 : w.cell? ⟨g, j, none⟩ = some (.slice (some ⟨R 1 j, 0, none⟩) wd wd) := q2
    clear h q1 q2 e0 e1 hst
    go_enter Tryz.func337, Tryz.ntmps337
    go_wp2_with fail
    refine hk.out.mono ?_
    rintro e w1 ⟨rfl, rfl⟩
    go_wp2_with fail
    go_ret
    exact ⟨rfl, rfl⟩
end Go.Proofs.YtlipngdfhpaodaaGreat
