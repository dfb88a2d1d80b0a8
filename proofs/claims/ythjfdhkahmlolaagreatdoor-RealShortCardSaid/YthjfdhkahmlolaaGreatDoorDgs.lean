/- Digits: how many, with noughts behind; what is printed of a float above 0. Plain. -/
import Derived.Test.YthjfdhkahmlolaaGreatDoorShg
import Derived.Lib.ItoaNum
namespace Go.Proofs.YthjfdhkahmlolaaGreatDoor.Usc
open Go.Lib

theorem pow_le_nDigits (u : Nat) (h : 1 ≤ u) : 10 ^ (nDigits u - 1) ≤ u := by
  induction u using Nat.strongRecOn with
  | _ u ih =>
    by_cases h10 : u < 10
    · rw [nDigits_small h10]; simpa using h
    · rw [nDigits_big h10]
      have h1 := ih (u / 10) (by omega) (by omega)
      have h2 := nDigits_pos (u / 10)
      have h3 : 10 ^ (nDigits (u / 10) + 1 - 1) = 10 ^ (nDigits (u / 10) - 1) * 10 := by rw [← Nat.pow_succ]; congr 1; omega
      rw [h3]
      generalize 10 ^ (nDigits (u / 10) - 1) = P at *
      omega
theorem nDig_le {D : Nat} (h1 : 1 ≤ D) (h2 : D < 100000000000000000) : nDigits D ≤ 17 := by
  rcases Nat.lt_or_ge 17 (nDigits D) with g | g
  · have h3 := pow_le_nDigits D h1
    have h4 : (10 : Nat) ^ 17 ≤ 10 ^ (nDigits D - 1) := Nat.pow_le_pow_right (by decide) (by omega)
    rw [show (10 : Nat) ^ 17 = 100000000000000000 by decide] at h4
    omega
  · exact g
theorem nDigits_pow (k c : Nat) (h : 1 ≤ c) : nDigits (10 ^ k * c) = nDigits c + k := by
  induction k with
  | zero => simp
  | succ k ih =>
    have hp : 0 < 10 ^ k := Nat.pow_pos (by decide)
    have h1 : 0 < 10 ^ k * c := Nat.mul_pos hp h
    have e : 10 ^ (k + 1) * c = 10 * (10 ^ k * c) := by rw [Nat.pow_succ, Nat.mul_comm (10 ^ k) 10, Nat.mul_assoc]
    rw [e, nDigits_big (by omega), Nat.mul_div_cancel_left _ (by decide), ih]; rfl
theorem dg_pow (k c j : Nat) : dg (10 ^ k * c) (j + k) = dg c j := by
  unfold dg
  rw [Nat.pow_add, Nat.mul_comm (10 ^ j), ← Nat.div_div_eq_div_mul, Nat.mul_div_cancel_left _ (Nat.pow_pos (by decide))]
/-- the places of the digits, as they lie ahead of the noughts -/
theorem dg_at (k c t : Nat) (hc : 1 ≤ c) (ht : t < nDigits c) : (decDigits c)[t]? = some (dg (10 ^ k * c) (nDigits (10 ^ k * c) - 1 - t)) := by
  rw [decDigits_eq, nDigits_pow k c hc, List.getElem?_map, List.getElem?_range ht, show nDigits c + k - 1 - t = (nDigits c - 1 - t) + k by omega, dg_pow]
  rfl
/-- c 10^s is what is printed of the float b: no nought last -/
def Sh (b c : Nat) (s : Int) : Prop := ∃ k : Nat, 10 ^ k * c = sfd (mB b) (eB b) ∧ s = sfq (mB b) (eB b) + k ∧ c % 10 ≠ 0
theorem pow10_split {k k' c c' : Nat} (h : 10 ^ k * c = 10 ^ k' * c') (hc : c % 10 ≠ 0) (hc' : c' % 10 ≠ 0) : k = k' ∧ c = c' := by
  rcases Nat.lt_trichotomy k k' with g | g | g
  · exfalso
    rw [show k' = k + (k' - k - 1) + 1 by omega, Nat.pow_succ, Nat.pow_add, Nat.mul_assoc, Nat.mul_assoc] at h
    have := Nat.eq_of_mul_eq_mul_left (Nat.pow_pos (by decide)) h
    rw [this, Nat.mul_left_comm, Nat.mul_mod_right] at hc
    exact hc rfl
  · subst g
    exact ⟨rfl, Nat.eq_of_mul_eq_mul_left (Nat.pow_pos (by decide)) h⟩
  · exfalso
    rw [show k = k' + (k - k' - 1) + 1 by omega, Nat.pow_succ, Nat.pow_add, Nat.mul_assoc, Nat.mul_assoc] at h
    have := Nat.eq_of_mul_eq_mul_left (Nat.pow_pos (by decide)) h.symm
    rw [this, Nat.mul_left_comm, Nat.mul_mod_right] at hc'
    exact hc' rfl
theorem Sh.unique {b c c' : Nat} {s s' : Int} (h : Sh b c s) (h' : Sh b c' s') : c = c' ∧ s = s' := by
  obtain ⟨k, e1, e2, e3⟩ := h
  obtain ⟨k', f1, f2, f3⟩ := h'
  obtain ⟨rfl, rfl⟩ := pow10_split (e1.trans f1.symm) e3 f3
  exact ⟨rfl, e2.trans f2.symm⟩
theorem Sh.rd {b c : Nat} {s : Int} (H : Parts b) (h : Sh b c s) : Rd b c s := by
  obtain ⟨k, e1, e2, e3⟩ := h
  have := (short H).2.2
  rw [← e1, Rd.tens] at this
  rw [e2]; exact this
theorem sfq_bound {b : Nat} (H : Parts b) : -400 ≤ sfq (mB b) (eB b) ∧ sfq (mB b) (eB b) ≤ 400 := by
  have h := (nrm b H).p0
  rw [sfq_is]
  split <;> omega
structure Shb (c : Nat) (s : Int) : Prop where
  c0 : 1 ≤ c
  c1 : c < 100000000000000000
  n0 : 1 ≤ nDigits c
  n1 : nDigits c ≤ 17
  s0 : -400 ≤ s
  s1 : s ≤ 417
theorem Sh.bounds {b c : Nat} {s : Int} (H : Parts b) (h : Sh b c s) : Shb c s := by
  obtain ⟨k, e1, e2, e3⟩ := h
  obtain ⟨g1, g2, _⟩ := short H
  have g3 := sfq_bound H
  rw [← e1] at g1 g2
  have hp : 1 ≤ 10 ^ k := Nat.pow_pos (by decide)
  have hc0 : 1 ≤ c := by omega
  have hc1 : c ≤ 10 ^ k * c := Nat.le_mul_of_pos_left _ hp
  have hn := nDig_le g1 g2
  rw [nDigits_pow k c hc0] at hn
  have hn0 := nDigits_pos c
  exact ⟨hc0, by omega, hn0, by omega, by omega, by omega⟩
end Go.Proofs.YthjfdhkahmlolaaGreatDoor.Usc
