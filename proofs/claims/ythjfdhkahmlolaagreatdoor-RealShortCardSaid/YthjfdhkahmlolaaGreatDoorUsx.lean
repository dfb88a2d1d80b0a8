/- What printing scales is unrounded scaling by the true power of ten: at every row outside -23 .. 24. -/
import Derived.Test.YthjfdhkahmlolaaGreatDoorUsv
import Derived.Test.YthjfdhkahmlolaaGreatDoorUsw
namespace Go.Proofs.YthjfdhkahmlolaaGreatDoor.Usc
/-- the row's power, its binary exponent, its fraction at 128 places -/
def powOf (i : Nat) : Int := (i : Int) - 348
def lpOf (i : Nat) : Int := Int.shiftRight (powOf i * 108853) 15
def numOf (i : Nat) : Nat := 10 ^ (powOf i).toNat * 2 ^ (127 - lpOf i).toNat
def denOf (i : Nat) : Nat := 10 ^ (-powOf i).toNat * 2 ^ (-(127 - lpOf i)).toNat
theorem denOf_pos (i : Nat) : 0 < denOf i := Nat.mul_pos (Nat.pow_pos (by decide)) (Nat.pow_pos (by decide))
theorem row_true {i : Nat} {r : Nat × Nat} (h : Go.Pinned.pow10Rows[i]? = some r) :
    r.1 < 18446744073709551616 ∧ r.2 < 18446744073709551616 ∧ r.2 ≤ r.1 * 18446744073709551616 ∧ numOf i ≤ (r.1 * 18446744073709551616 - r.2) * denOf i ∧ (r.1 * 18446744073709551616 - r.2) * denOf i < numOf i + denOf i := by
  have q := rowsOk_at _ 0 i r table_ok h
  unfold rowOk at q
  rw [Nat.zero_add] at q
  simp only [Bool.and_eq_true, decide_eq_true_eq] at q
  obtain ⟨⟨⟨⟨⟨q1, q2⟩, q3⟩, _⟩, q4⟩, q5⟩ := q
  exact ⟨q1, q2, by omega, q4, q5⟩
theorem pow_shift (s : Nat) : 2 ^ s * 340282366920938463463374607431768211456 = 1024 * 2 ^ (s + 118) := by
  rw [Nat.pow_add]
  have : (340282366920938463463374607431768211456 : Nat) = 1024 * 2 ^ 118 := by decide
  rw [this, Nat.mul_left_comm]
theorem uscale_print {x i s : Nat} {r : Nat × Nat} (hr : Go.Pinned.pow10Rows[i]? = some r) (hi : ¬ (325 ≤ i ∧ i ≤ 372)) (hs : 5 ≤ s ∧ s ≤ 8) (hx : 9007199254740992 ≤ x ∧ x < 18014398509481984) :
    uscaleN (1024 * x) r.1 r.2 s = unr (1024 * x * numOf i) (denOf i * (2 ^ s * 340282366920938463463374607431768211456)) := by
  obtain ⟨r1, r2, r3, r4, r5⟩ := row_true hr
  have hp := rowsPrint_at _ 0 i r print_ok hr (by rw [Nat.zero_add]; exact hi)
  have hk : printOk r s = true := by
    obtain ⟨p5, p6, p7, p8⟩ := hp
    obtain ⟨h1, h2⟩ := hs
    have : s = 5 ∨ s = 6 ∨ s = 7 ∨ s = 8 := by omega
    rcases this with e | e | e | e <;> subst e <;> assumption
  unfold printOk at hk
  have hM : 0 < 2 ^ (s + 118) := Nat.pow_pos (by decide)
  obtain ⟨f1, f2⟩ := far_of hk (x := x) hx.1 (by omega) hM
  have hM1 : 0 < 1024 * 2 ^ (s + 118) := by omega
  have em : 1024 * x * (r.1 * 18446744073709551616 - r.2) % (1024 * 2 ^ (s + 118)) = 1024 * (x * (r.1 * 18446744073709551616 - r.2) % 2 ^ (s + 118)) := by
    rw [Nat.mul_assoc, Nat.mul_mod_mul_left]
  have hbig : 18014398509481984 ≤ 2 ^ (s + 118) := Nat.le_trans (by decide) (Nat.pow_le_pow_right (by decide) (by omega : 54 ≤ s + 118))
  have g1 := prog_far (1024 * x) r.1 r.2 s (by omega) r1 r2 r3 (by rw [pow_shift, em]; omega) (by rw [pow_shift, em]; omega)
  have g2 := unr_far (x := 1024 * x) (P := numOf i) (Q := denOf i) (M := 1024 * 2 ^ (s + 118)) (pm := r.1 * 18446744073709551616 - r.2) (denOf_pos i) hM1 r4 r5 (by omega) (by omega) (by rw [em]; omega)
  rw [pow_shift] at g1 ⊢
  rw [g1, g2]
end Go.Proofs.YthjfdhkahmlolaaGreatDoor.Usc
