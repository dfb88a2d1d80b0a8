/- Unrounded scaling by a table's row that is exact in its upper word. -/
import Derived.Test.YthjfdhkahmlolaaGreatDoorUsn
namespace Go.Proofs.YthjfdhkahmlolaaGreatDoor.Usc
theorem prog_zero (x H s : Nat) (hx : x < 18446744073709551616) (hH : H < 18446744073709551616) (he : x % 2 = 0) : uscaleN x H 0 s = unr (x * H) (2 ^ s * 18446744073709551616) := by
  have hA : x * H < 340282366920938463463374607431768211456 := Nat.mul_lt_mul'' hx hH
  have hev : x * H % 2 = 0 := by rw [Nat.mul_mod, he]; simp
  unfold uscaleN hiN loN unr
  rw [Nat.mul_zero, Nat.zero_div, stick_true, stick_true]
  generalize x * H = A at *
  have hS : 0 < 2 ^ s := Nat.two_pow_pos s
  have e1 : A / (2 ^ s * 18446744073709551616) = A / 18446744073709551616 / 2 ^ s := by rw [Nat.mul_comm, Nat.div_div_eq_div_mul]
  have e2 : A % (2 ^ s * 18446744073709551616) = A % 18446744073709551616 + 18446744073709551616 * (A / 18446744073709551616 % 2 ^ s) := by rw [Nat.mul_comm, Nat.mod_mul]
  rw [e1, e2]
  generalize 2 ^ s = S at *
  have hdm := Nat.div_add_mod (A / 18446744073709551616) S
  rw [Nat.mul_comm] at hdm
  by_cases h0 : A / 18446744073709551616 / S * S ≠ A / 18446744073709551616
  · rw [if_pos h0]
    have : A / 18446744073709551616 % S ≠ 0 := by omega
    rw [if_neg (show ¬ (A % 18446744073709551616 + 18446744073709551616 * (A / 18446744073709551616 % S) = 0) by omega)]; rfl
  · rw [if_neg h0]
    have h1 : A / 18446744073709551616 % S = 0 := by omega
    rw [h1, Nat.mul_zero, Nat.add_zero, decide_eq_false (by omega : ¬ A % 18446744073709551616 < 0)]
    have e3 : subN (A / 18446744073709551616) (false : Bool).toNat = A / 18446744073709551616 := by unfold subN; simp only [Bool.toNat_false]; omega
    have e4 : subN (A % 18446744073709551616) 0 = A % 18446744073709551616 := by unfold subN; omega
    rw [e3, e4]
    by_cases h2 : A % 18446744073709551616 = 0
    · rw [if_pos h2, decide_eq_false (by omega)]; rfl
    · rw [if_neg h2, decide_eq_true (by omega)]; rfl
/-- the rounded row tells the whole part, where the product lies far enough above a whole number -/
theorem unr_far {x P Q M pm : Nat} (hQ : 0 < Q) (hM : 0 < M) (h1 : P ≤ pm * Q) (h2 : pm * Q < P + Q) (hx : x < 18446744073709551616) (hx0 : 0 < x) (ht : 36893488147419103232 ≤ x * pm % M) :
    unr (x * P) (Q * M) = (x * pm / M) ||| 1 := by
  have hdm := Nat.div_add_mod (x * pm) M
  have hlt := Nat.mod_lt (x * pm) hM
  generalize hy : x * pm / M = y at *
  generalize x * pm % M = t at *
  have a1 : x * P ≤ x * (pm * Q) := Nat.mul_le_mul_left _ h1
  have a2 : x * (pm * Q) < x * (P + Q) := Nat.mul_lt_mul_of_pos_left h2 hx0
  rw [Nat.mul_add] at a2
  rw [← Nat.mul_assoc, ← hdm, Nat.add_mul] at a1 a2
  have a3 : x * Q ≤ 18446744073709551616 * Q := Nat.mul_le_mul_right _ (by omega)
  have a4 : 36893488147419103232 * Q ≤ t * Q := Nat.mul_le_mul_right _ ht
  have a5 : t * Q + Q ≤ M * Q := by rw [← Nat.succ_mul]; exact Nat.mul_le_mul_right _ hlt
  have a6 : M * y * Q = y * (Q * M) := by rw [Nat.mul_comm M y, Nat.mul_assoc, Nat.mul_comm M Q]
  have a7 : M * Q = Q * M := Nat.mul_comm _ _
  obtain ⟨e1, e2⟩ := div_of (V := x * P) (M := Q * M) (q := y) (K := M * y * Q) a6 (by omega) (by omega)
  unfold unr
  rw [e1, e2, if_neg (by omega)]
end Go.Proofs.YthjfdhkahmlolaaGreatDoor.Usc
