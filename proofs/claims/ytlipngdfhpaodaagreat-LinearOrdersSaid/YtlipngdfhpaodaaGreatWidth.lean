/- The walks of width, may, Cells, First, of the program and of the document. -/
import Derived.Test.YtlipngdfhpaodaaGreatSmall
namespace Go.Proofs.YtlipngdfhpaodaaGreat
open Go.RowKit

/-- how many cells a stripe has -/
def wide (kind p : Int) : Nat := if kind = 1 then 2 else if kind = 2 then 2 + blen p else if kind = 3 then 5 else 0
theorem wide_1 (p : Int) : wide 1 p = 2 := rfl
theorem wide_2 (p : Int) : wide 2 p = 2 + blen p := rfl
theorem wide_3 (p : Int) : wide 3 p = 5 := rfl
theorem wide_out {kind : Int} (p : Int) (h1 : kind ≠ 1) (h2 : kind ≠ 2) (h3 : kind ≠ 3) : wide kind p = 0 := by unfold wide; rw [if_neg h1, if_neg h2, if_neg h3]
theorem wide_le (kind p : Int) : wide kind p ≤ 819202 := by
  have := blen_le p
  unfold wide; split
  · omega
  · split
    · omega
    · split <;> omega

theorem width_calls (kind p : Int) (w : World) : Calls Tryz.prog 43 #[.int .i64 kind, .int .i64 p] w fun e w' => e = .returned (.int .i64 (wide kind p : Nat)) ∧ w' = w := by
  by_cases h1 : kind = 1
  · subst h1
    go_enter Tryz.func43, Tryz.ntmps43
    go_wp2_with fail
    go_ret
    exact ⟨rfl, rfl⟩
  · have g1 : (kind == 1) = false := by simpa using h1
    by_cases h2 : kind = 2
    · subst h2
      have hb := blen_le p
      have e1 : wrap64 (2 + (blen p : Int)) = ((2 + blen p : Nat) : Int) := by exact IntWalk.wrap64_in _ (by omega)
      go_enter Tryz.func43, Tryz.ntmps43
      go_wp2_with fail
      refine (length_calls _ _).mono ?_
      rintro e w1 ⟨rfl, rfl⟩
      go_wp2_with fail
      go_ret
      exact ⟨rfl, rfl⟩
    · have g2 : (kind == 2) = false := by simpa using h2
      by_cases h3 : kind = 3
      · subst h3
        go_enter Tryz.func43, Tryz.ntmps43
        go_wp2_with fail
        go_ret
        exact ⟨rfl, rfl⟩
      · have g3 : (kind == 3) = false := by simpa using h3
        rw [wide_out p h1 h2 h3]
        go_enter Tryz.func43, Tryz.ntmps43
        go_wp2_with fail
        go_ret
        exact ⟨rfl, rfl⟩
/-- may there be so many stripes, and that precision? -/
def mayB (st p : Int) : Bool := decide (1 ≤ st) && decide (st ≤ 16) && decide (1 ≤ p) && decide (p ≤ 14)
theorem may_calls (st p : Int) (w : World) : Calls Tryz.prog 44 #[.int .i64 st, .int .i64 p] w fun e w' => e = .returned (.bool (mayB st p)) ∧ w' = w := by
  unfold mayB
  generalize g1 : decide (1 ≤ st) = b1
  generalize g2 : decide (st ≤ 16) = b2
  generalize g3 : decide (1 ≤ p) = b3
  generalize g4 : decide (p ≤ 14) = b4
  have g1' : decide (st ≥ 1) = b1 := g1
  have g3' : decide (p ≥ 1) = b3 := g3
  cases b1 <;> cases b2 <;> cases b3 <;> cases b4 <;>
  · go_enter Tryz.func44, Tryz.ntmps44
    go_wp2_with fail
    go_ret
    exact ⟨rfl, rfl⟩
/-- how many words in all -/
def cellsN (kind st p : Int) : Int := if mayB st p = true then 2 * st * (wide kind p : Nat) else 0
theorem mayB_of {st p : Int} (h : mayB st p = true) : 1 ≤ st ∧ st ≤ 16 ∧ 1 ≤ p ∧ p ≤ 14 := by
  unfold mayB at h; simp only [Bool.and_eq_true, decide_eq_true_eq] at h; omega
theorem cells_calls (kind st p : Int) (w : World) : Calls Tryz.prog 45 #[.int .i64 kind, .int .i64 st, .int .i64 p] w fun e w' => e = .returned (.int .i64 (cellsN kind st p)) ∧ w' = w := by
  unfold cellsN
  cases hm : mayB st p with
  | false =>
    go_enter Tryz.func45, Tryz.ntmps45
    go_wp2_with fail
    refine (may_calls _ _ _).mono ?_
    rw [hm]
    rintro e w1 ⟨rfl, rfl⟩
    go_wp2_with fail
    go_ret
    exact ⟨rfl, rfl⟩
  | true =>
    obtain ⟨a1, a2, _, _⟩ := mayB_of hm
    have hb := wide_le kind p
    have e1 : wrap64 (2 * st) = 2 * st := by exact IntWalk.wrap64_in _ (by omega)
    have e2 : wrap64 (2 * st * (wide kind p : Nat)) = 2 * st * (wide kind p : Nat) := by
      have q1 : 0 ≤ 2 * st * ((wide kind p : Nat) : Int) := Int.mul_nonneg (by omega) (by omega)
      have q2 : 2 * st * ((wide kind p : Nat) : Int) ≤ 32 * 819202 := Int.mul_le_mul (by omega) (by omega) (by omega) (by omega)
      exact IntWalk.wrap64_in _ (by omega)
    go_enter Tryz.func45, Tryz.ntmps45
    go_wp2_with fail
    refine (may_calls _ _ _).mono ?_
    rw [hm]
    rintro e w1 ⟨rfl, rfl⟩
    go_wp2_with fail
    refine (width_calls _ _ _).mono ?_
    rintro e w1 ⟨rfl, rfl⟩
    go_wp2_with fail
    go_ret
    exact ⟨rfl, rfl⟩
end Go.Proofs.YtlipngdfhpaodaaGreat
