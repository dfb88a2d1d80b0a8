/- Rounding an unrounded number up, down, to the nearest one. Plain arithmetic. -/
import Derived.Test.YthjfdhkahmlolaaGreatDoorUsz
import Derived.Test.YthjfdhkahmlolaaGreatDoorUsq
namespace Go.Proofs.YthjfdhkahmlolaaGreatDoor.Usc

theorem or_one_eq (a : Nat) : a ||| 1 = 2 * (a / 2) + 1 := by
  have h1 : (a ||| 1) / 2 = a / 2 := by rw [Nat.or_div_two]; simp
  have h2 : (a ||| 1) % 2 = 1 := Nat.or_mod_two_eq_one.2 (.inr rfl)
  omega
theorem unr_eq (n d : Nat) : unr n d = if n % d = 0 then n / d else 2 * (n / d / 2) + 1 := by
  unfold unr
  split
  · simp
  · exact or_one_eq _
theorem le_mul_iff (n K d : Nat) (hd : 0 < d) : n ≤ K * d ↔ n / d + (if n % d = 0 then 0 else 1) ≤ K := by
  have h := Nat.div_add_mod n d
  have hl := Nat.mod_lt n hd
  rw [Nat.mul_comm] at h
  generalize n / d = A at *
  generalize n % d = R at *
  constructor
  · intro hh
    rcases Nat.lt_or_ge K (A + (if R = 0 then 0 else 1)) with hlt | hge
    · exfalso
      split at hlt
      · have := Nat.mul_le_mul_right d (show K + 1 ≤ A by omega)
        rw [Nat.succ_mul] at this
        omega
      · have := Nat.mul_le_mul_right d (show K ≤ A by omega)
        omega
    · exact hge
  · intro hh
    split at hh
    · have := Nat.mul_le_mul_right d (show A ≤ K by omega)
      omega
    · have := Nat.mul_le_mul_right d (show A + 1 ≤ K by omega)
      rw [Nat.succ_mul] at this
      omega
theorem ceil0 (n d k : Nat) (hd : 0 < d) : (unr n d + 3) / 4 ≤ k ↔ n ≤ 4 * k * d := by
  rw [le_mul_iff _ _ _ hd, unr_eq]
  by_cases h : n % d = 0
  · rw [if_pos h, if_pos h]; omega
  · rw [if_neg h, if_neg h]; omega
theorem floor0 (n d k : Nat) (hd : 0 < d) : k ≤ unr n d / 4 ↔ 4 * k * d ≤ n := by
  rw [← Nat.le_div_iff_mul_le hd, unr_eq]
  by_cases h : n % d = 0
  · rw [if_pos h]; omega
  · rw [if_neg h]; omega
theorem ceil1 (n d k : Nat) (hd : 0 < d) : (unr n d + 1 + 3) / 4 ≤ k ↔ n < 4 * k * d := by
  rw [← Nat.div_lt_iff_lt_mul hd, unr_eq]
  by_cases h : n % d = 0
  · rw [if_pos h]; omega
  · rw [if_neg h]; omega
theorem unr_pos (n d : Nat) (_hd : 0 < d) (hn : 0 < n) : 1 ≤ unr n d := by
  rw [unr_eq]
  split
  · have h := Nat.div_add_mod n d
    rcases Nat.eq_zero_or_pos (n / d) with e | e
    · rw [e] at h; omega
    · exact e
  · omega
theorem floor1 (n d k : Nat) (hd : 0 < d) (hn : 0 < n) : k ≤ (unr n d - 1) / 4 ↔ 4 * k * d < n := by
  have hp := unr_pos n d hd hn
  rw [← Nat.not_le, le_mul_iff _ _ _ hd]
  rw [unr_eq] at hp ⊢
  by_cases h : n % d = 0
  · rw [if_pos h] at hp ⊢; rw [if_pos h]; omega
  · rw [if_neg h] at hp ⊢; rw [if_neg h]; omega
/-- the nearest one: r -/
theorem round0 (n d : Nat) (hd : 0 < d) (r : Nat) (hr : r = (unr n d + 1 + unr n d / 4 % 2) / 4) :
    4 * r * d ≤ n + 2 * d ∧ n ≤ 4 * r * d + 2 * d ∧ (4 * r * d = n + 2 * d → r % 2 = 0) ∧ (n = 4 * r * d + 2 * d → r % 2 = 0) := by
  have e2 : (4 * r) * d ≤ n + 2 * d ↔ 4 * r ≤ n / d + 2 := by
    rw [← Nat.le_div_iff_mul_le hd, Nat.add_mul_div_right _ _ hd]
  have e3 : n ≤ 4 * r * d + 2 * d ↔ n / d + (if n % d = 0 then 0 else 1) ≤ 4 * r + 2 := by
    rw [← Nat.add_mul, le_mul_iff _ _ _ hd]
  have e4 : 4 * r * d = n + 2 * d → n % d = 0 ∧ n / d + 2 = 4 * r := by
    intro h
    have h5 : n + 2 * d = d * (4 * r) := by rw [Nat.mul_comm d]; omega
    have h6 : (n + 2 * d) % d = 0 := by rw [h5, Nat.mul_mod_right]
    have h7 : (n + 2 * d) / d = 4 * r := by rw [h5, Nat.mul_div_cancel_left _ hd]
    rw [Nat.add_mul_mod_self_right] at h6
    rw [Nat.add_mul_div_right _ _ hd] at h7
    exact ⟨h6, h7⟩
  have e5 : n = 4 * r * d + 2 * d → n % d = 0 ∧ n / d = 4 * r + 2 := by
    intro h
    have h5 : n = d * (4 * r + 2) := by rw [Nat.mul_comm d, Nat.add_mul]; omega
    exact ⟨by rw [h5, Nat.mul_mod_right], by rw [h5, Nat.mul_div_cancel_left _ hd]⟩
  rw [unr_eq] at hr
  refine ⟨e2.2 ?_, e3.2 ?_, fun h => ?_, fun h => ?_⟩
  · by_cases h : n % d = 0
    · rw [if_pos h] at hr; omega
    · rw [if_neg h] at hr; omega
  · by_cases h : n % d = 0
    · rw [if_pos h] at hr ⊢; omega
    · rw [if_neg h] at hr ⊢; omega
  · obtain ⟨a, b⟩ := e4 h
    rw [if_pos a] at hr; omega
  · obtain ⟨a, b⟩ := e5 h
    rw [if_pos a] at hr; omega
end Go.Proofs.YthjfdhkahmlolaaGreatDoor.Usc
