/- The walks of the small plain calls: precision, length, width, cells, of the program and of the document. -/
import Derived.Test.YtlipngdfhpaodaaGreatWord
namespace Go.Proofs.YtlipngdfhpaodaaGreat
open Go.RowKit

theorem right_calls (p : Int) (w : World) : Calls Tryz.prog 161 #[.int .i64 p] w fun e w' => e = .returned (.bool (decide (1 ≤ p ∧ p ≤ 14))) ∧ w' = w := by
  by_cases h1 : 1 ≤ p
  · have g1 : decide (p ≥ 1) = true := decide_eq_true h1
    by_cases h2 : p ≤ 14
    · have g2 : decide (p ≤ 14) = true := decide_eq_true h2
      go_enter Tryz.func161, Tryz.ntmps161
      go_wp2_with fail
      go_ret
      exact ⟨by simp [h2, h1], rfl⟩
    · have g2 : decide (p ≤ 14) = false := decide_eq_false h2
      go_enter Tryz.func161, Tryz.ntmps161
      go_wp2_with fail
      go_ret
      exact ⟨by simp [h2, h1], rfl⟩
  · have g1 : decide (p ≥ 1) = false := decide_eq_false h1
    go_enter Tryz.func161, Tryz.ntmps161
    go_wp2_with fail
    go_ret
    exact ⟨by simp [h1], rfl⟩
theorem precision_calls (p : Int) (w : World) : Calls Tryz.prog 217 #[.int .i64 p] w fun e w' => e = .returned (.bool (decide (1 ≤ p ∧ p ≤ 14))) ∧ w' = w := by
  by_cases h1 : 1 ≤ p
  · have g1 : decide (p ≥ 1) = true := decide_eq_true h1
    by_cases h2 : p ≤ 14
    · have g2 : decide (p ≤ 14) = true := decide_eq_true h2
      go_enter Tryz.func217, Tryz.ntmps217
      go_wp2_with fail
      go_ret
      exact ⟨by simp [h2, h1], rfl⟩
    · have g2 : decide (p ≤ 14) = false := decide_eq_false h2
      go_enter Tryz.func217, Tryz.ntmps217
      go_wp2_with fail
      go_ret
      exact ⟨by simp [h2, h1], rfl⟩
  · have g1 : decide (p ≥ 1) = false := decide_eq_false h1
    go_enter Tryz.func217, Tryz.ntmps217
    go_wp2_with fail
    go_ret
    exact ⟨by simp [h1], rfl⟩

/-- how many buckets there are -/
def blen (p : Int) : Nat := if 1 ≤ p ∧ p ≤ 14 then (64 - p.toNat) * 2 ^ p.toNat else 0
theorem blen_out {p : Int} (h : ¬ (1 ≤ p ∧ p ≤ 14)) : blen p = 0 := if_neg h
theorem blen_le (p : Int) : blen p ≤ 819200 := by
  unfold blen
  split
  case isTrue h =>
    obtain ⟨h1, h2⟩ := h
    have : p = 1 ∨ p = 2 ∨ p = 3 ∨ p = 4 ∨ p = 5 ∨ p = 6 ∨ p = 7 ∨ p = 8 ∨ p = 9 ∨ p = 10 ∨ p = 11 ∨ p = 12 ∨ p = 13 ∨ p = 14 := by omega
    rcases this with h | h | h | h | h | h | h | h | h | h | h | h | h | h <;> subst h <;> decide
  case isFalse h => omega
theorem length_calls (p : Int) (w : World) : Calls Tryz.prog 100 #[.int .i64 p] w fun e w' => e = .returned (.int .i64 (blen p : Nat)) ∧ w' = w := by
  by_cases h : 1 ≤ p ∧ p ≤ 14
  · have : p = 1 ∨ p = 2 ∨ p = 3 ∨ p = 4 ∨ p = 5 ∨ p = 6 ∨ p = 7 ∨ p = 8 ∨ p = 9 ∨ p = 10 ∨ p = 11 ∨ p = 12 ∨ p = 13 ∨ p = 14 := by omega
    rcases this with h | h | h | h | h | h | h | h | h | h | h | h | h | h <;> subst h <;>
    · go_enter Tryz.func100, Tryz.ntmps100
      go_wp2_with fail
      refine (right_calls _ _).mono ?_
      rintro e w1 ⟨rfl, rfl⟩
      go_wp2_with fail
      go_ret
      exact ⟨rfl, rfl⟩
  · rw [blen_out h]
    have g : decide (1 ≤ p ∧ p ≤ 14) = false := decide_eq_false h
    go_enter Tryz.func100, Tryz.ntmps100
    go_wp2_with fail
    refine (right_calls _ _).mono ?_
    rw [g]
    rintro e w1 ⟨rfl, rfl⟩
    go_wp2_with fail
    go_ret
    exact ⟨rfl, rfl⟩
theorem rlength_calls (p : Int) (w : World) : Calls Tryz.prog 162 #[.int .i64 p] w fun e w' => e = .returned (.int .i64 (blen p : Nat)) ∧ w' = w := by
  by_cases h : 1 ≤ p ∧ p ≤ 14
  · have : p = 1 ∨ p = 2 ∨ p = 3 ∨ p = 4 ∨ p = 5 ∨ p = 6 ∨ p = 7 ∨ p = 8 ∨ p = 9 ∨ p = 10 ∨ p = 11 ∨ p = 12 ∨ p = 13 ∨ p = 14 := by omega
    rcases this with h | h | h | h | h | h | h | h | h | h | h | h | h | h <;> subst h <;>
    · go_enter Tryz.func162, Tryz.ntmps162
      go_wp2_with fail
      refine (precision_calls _ _).mono ?_
      rintro e w1 ⟨rfl, rfl⟩
      go_wp2_with fail
      go_ret
      exact ⟨rfl, rfl⟩
  · rw [blen_out h]
    have g : decide (1 ≤ p ∧ p ≤ 14) = false := decide_eq_false h
    go_enter Tryz.func162, Tryz.ntmps162
    go_wp2_with fail
    refine (precision_calls _ _).mono ?_
    rw [g]
    rintro e w1 ⟨rfl, rfl⟩
    go_wp2_with fail
    go_ret
    exact ⟨rfl, rfl⟩
end Go.Proofs.YtlipngdfhpaodaaGreat
