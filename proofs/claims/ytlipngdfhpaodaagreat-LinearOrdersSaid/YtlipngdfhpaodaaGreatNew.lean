/- The walk of New: the program's slab. -/
import Derived.Test.YtlipngdfhpaodaaGreatRow
namespace Go.Proofs.YtlipngdfhpaodaaGreat
open Go.RowKit

/-- the error of New, 0: none -/
def newE (kind st p : Int) : Int := if wide kind 1 = 0 then 7 else if mayB st p = false then 1 else if cellsN kind st p > 1048576 then 13 else 0

theorem new_bad (kind st p : Int) (w : World) (h : newE kind st p ≠ 0) :
    Calls Tryz.prog 11 #[.int .i64 kind, .int .i64 st, .int .i64 p] w fun e w' => e = .returned (.tuple #[.pointer none, .int .i64 (newE kind st p)]) ∧ Only (fun _ => False) w w' := by
  unfold newE at h ⊢
  by_cases h1 : wide kind 1 = 0
  · rw [if_pos h1]
    have hw := Lib.hid h1
    clear h
    go_enter Tryz.func11, Tryz.ntmps11
    go_wp2_with fail
    refine (width_calls _ _ _).mono ?_
    rw [hw.out]
    rintro e w1 ⟨rfl, rfl⟩
    go_wp2_with fail
    go_ret2
    exact ⟨rfl, Only.refl _ _⟩
  rw [if_neg h1] at h ⊢
  have g1 : ((wide kind 1 : Nat) == 0) = false := by simpa using h1
  have g1' : (((wide kind 1 : Nat) : Int) == 0) = false := by simpa using h1
  clear h1
  cases hm : mayB st p with
  | false =>
    rw [hm] at h
    rw [if_pos rfl] at h ⊢
    clear h
    have hm' := Lib.hid hm; clear hm
    go_enter Tryz.func11, Tryz.ntmps11
    go_wp2_with fail
    refine (width_calls _ _ _).mono ?_
    rintro e w1 ⟨rfl, rfl⟩
    go_wp2_with fail
    refine (may_calls _ _ _).mono ?_
    rw [hm'.out]
    rintro e w1 ⟨rfl, rfl⟩
    go_wp2_with fail
    go_ret2
    exact ⟨rfl, Only.refl _ _⟩
  | true =>
    rw [hm] at h
    rw [if_neg (by decide)] at h ⊢
    by_cases h3 : cellsN kind st p > 1048576
    · rw [if_pos h3]
      have g3 : decide (cellsN kind st p > 1048576) = true := decide_eq_true h3
      have hm' := Lib.hid hm; clear hm h h3
      go_enter Tryz.func11, Tryz.ntmps11
      go_wp2_with fail
      refine (width_calls _ _ _).mono ?_
      rintro e w1 ⟨rfl, rfl⟩
      go_wp2_with fail
      refine (may_calls _ _ _).mono ?_
      rw [hm'.out]
      rintro e w1 ⟨rfl, rfl⟩
      go_wp2_with fail
      refine (cells_calls _ _ _ _).mono ?_
      rintro e w1 ⟨rfl, rfl⟩
      go_wp2_with fail
      go_ret2
      exact ⟨rfl, Only.refl _ _⟩
    · rw [if_neg h3] at h; exact absurd rfl h
end Go.Proofs.YtlipngdfhpaodaaGreat
