/- Unrounded scaling by a table's row that is exact in its upper word. -/
import Derived.Test.YthjfdhkahmlolaaGreatDoorJP16
import Derived.Test.YthjfdhkahmlolaaGreatDoorJP17
namespace Go.Proofs.YthjfdhkahmlolaaGreatDoor.Usc
theorem prog_zero (x H s : Nat) (hx : x < 18446744073709551616) (hH : H < 18446744073709551616) (he : x % 2 = 0) : uscaleN x H 0 s = unr (x * H) (2 ^ s * 18446744073709551616) := by
  have hA : x * H < 340282366920938463463374607431768211456 := Nat.mul_lt_mul'' hx hH
  have hev : x * H % 2 = 0 := by rw [Nat.mul_mod, he]; simp
  unfold uscaleN hiN loN unr
  rw [Nat.mul_zero, Nat.zero_div, stick_true, stick_true]
  generalize x * H = A at *
  have hS : 0 < 2 ^ s := Nat.two_pow_pos s
  have e1 : A / (2 ^ s * 18446744073709551616) = A / 18446744073709551616 / 2 ^ s := by rw [Nat.mul_comm, Nat.div_div_eq_div_mul]
  have e2 : A % (2 ^ s * 18446744073709551616) = A % 18446744073709551616 + 18446744073709551616 * (A / 18446744073709551616 % 2 ^ s) := by rw [Nat.mul_comm, Nat.mod_mul]
  rw [e1, e2]
  generalize 2 ^ s = S at *
  have hdm := Nat.div_add_mod (A / 18446744073709551616) S
  rw [Nat.mul_comm] at hdm
  by_cases h0 : A / 18446744073709551616 / S * S ≠ A / 18446744073709551616
  · rw [if_pos h0]
    have : A / 18446744073709551616 % S ≠ 0 := by omega
    rw [if_neg (show ¬ (A % 18446744073709551616 + 18446744073709551616 * (A / 18446744073709551616 % S) = 0) by omega)]; rfl
  · rw [if_neg h0]
    have h1 : A / 18446744073709551616 % S = 0 := by omega
    rw [h1, Nat.mul_zero, Nat.add_zero, decide_eq_false (by omega : ¬ A % 18446744073709551616 < 0)]
    have e3 : subN (A / 18446744073709551616) (false : Bool).toNat = A / 18446744073709551616 := by unfold subN; simp only [Bool.toNat_false]; omega
    have e4 : subN (A % 18446744073709551616) 0 = A % 18446744073709551616 := by unfold subN; omega
    rw [e3, e4]
    by_cases h2 : A % 18446744073709551616 = 0
    · rw [if_pos h2, decide_eq_false (by omega)]; rfl
    · rw [if_neg h2, decide_eq_true (by omega)]; rfl
/-- the rounded row tells the whole part, where the product lies far enough above a whole number -/
theorem unr_far {x P Q M pm : Nat} (hQ : 0 < Q) (hM : 0 < M) (h1 : P ≤ pm * Q) (h2 : pm * Q < P + Q) (hx : x < 18446744073709551616) (hx0 : 0 < x) (ht : 36893488147419103232 ≤ x * pm % M) :
    unr (x * P) (Q * M) = (x * pm / M) ||| 1 := by
  have hdm := Nat.div_add_mod (x * pm) M
  have hlt := Nat.mod_lt (x * pm) hM
  generalize hy : x * pm / M = y at *
  generalize x * pm % M = t at *
  have a1 : x * P ≤ x * (pm * Q) := Nat.mul_le_mul_left _ h1
  have a2 : x * (pm * Q) < x * (P + Q) := Nat.mul_lt_mul_of_pos_left h2 hx0
  rw [Nat.mul_add] at a2
  rw [← Nat.mul_assoc, ← hdm, Nat.add_mul] at a1 a2
  have a3 : x * Q ≤ 18446744073709551616 * Q := Nat.mul_le_mul_right _ (by omega)
  have a4 : 36893488147419103232 * Q ≤ t * Q := Nat.mul_le_mul_right _ ht
  have a5 : t * Q + Q ≤ M * Q := by rw [← Nat.succ_mul]; exact Nat.mul_le_mul_right _ hlt
  have a6 : M * y * Q = y * (Q * M) := by rw [Nat.mul_comm M y, Nat.mul_assoc, Nat.mul_comm M Q]
  have a7 : M * Q = Q * M := Nat.mul_comm _ _
  obtain ⟨e1, e2⟩ := div_of (V := x * P) (M := Q * M) (q := y) (K := M * y * Q) a6 (by omega) (by omega)
  unfold unr
  rw [e1, e2, if_neg (by omega)]
end Go.Proofs.YthjfdhkahmlolaaGreatDoor.Usc

/- What printing scales is unrounded scaling by the true power of ten: at every row outside -23 .. 24. -/
namespace Go.Proofs.YthjfdhkahmlolaaGreatDoor.Usc
/-- the row's power, its binary exponent, its fraction at 128 places -/
def powOf (i : Nat) : Int := (i : Int) - 348
def lpOf (i : Nat) : Int := Int.shiftRight (powOf i * 108853) 15
def numOf (i : Nat) : Nat := 10 ^ (powOf i).toNat * 2 ^ (127 - lpOf i).toNat
def denOf (i : Nat) : Nat := 10 ^ (-powOf i).toNat * 2 ^ (-(127 - lpOf i)).toNat
theorem denOf_pos (i : Nat) : 0 < denOf i := Nat.mul_pos (Nat.pow_pos (by decide)) (Nat.pow_pos (by decide))
theorem row_true {i : Nat} {r : Nat × Nat} (h : Go.Pinned.pow10Rows[i]? = some r) :
    r.1 < 18446744073709551616 ∧ r.2 < 18446744073709551616 ∧ r.2 ≤ r.1 * 18446744073709551616 ∧ numOf i ≤ (r.1 * 18446744073709551616 - r.2) * denOf i ∧ (r.1 * 18446744073709551616 - r.2) * denOf i < numOf i + denOf i := by
  have q := rowsOk_at _ 0 i r table_ok h
  unfold rowOk at q
  rw [Nat.zero_add] at q
  simp only [Bool.and_eq_true, decide_eq_true_eq] at q
  obtain ⟨⟨⟨⟨⟨q1, q2⟩, q3⟩, _⟩, q4⟩, q5⟩ := q
  exact ⟨q1, q2, by omega, q4, q5⟩
theorem pow_shift (s : Nat) : 2 ^ s * 340282366920938463463374607431768211456 = 1024 * 2 ^ (s + 118) := by
  rw [Nat.pow_add]
  have : (340282366920938463463374607431768211456 : Nat) = 1024 * 2 ^ 118 := by decide
  rw [this, Nat.mul_left_comm]
theorem uscale_print {x i s : Nat} {r : Nat × Nat} (hr : Go.Pinned.pow10Rows[i]? = some r) (hi : ¬ (325 ≤ i ∧ i ≤ 372)) (hs : 5 ≤ s ∧ s ≤ 8) (hx : 9007199254740992 ≤ x ∧ x < 18014398509481984) :
    uscaleN (1024 * x) r.1 r.2 s = unr (1024 * x * numOf i) (denOf i * (2 ^ s * 340282366920938463463374607431768211456)) := by
  obtain ⟨r1, r2, r3, r4, r5⟩ := row_true hr
  have hp := rowsPrint_at _ 0 i r print_ok hr (by rw [Nat.zero_add]; exact hi)
  have hk : printOk r s = true := by
    obtain ⟨p5, p6, p7, p8⟩ := hp
    obtain ⟨h1, h2⟩ := hs
    have : s = 5 ∨ s = 6 ∨ s = 7 ∨ s = 8 := by omega
    rcases this with e | e | e | e <;> subst e <;> assumption
  unfold printOk at hk
  have hM : 0 < 2 ^ (s + 118) := Nat.pow_pos (by decide)
  obtain ⟨f1, f2⟩ := far_of hk (x := x) hx.1 (by omega) hM
  have hM1 : 0 < 1024 * 2 ^ (s + 118) := by omega
  have em : 1024 * x * (r.1 * 18446744073709551616 - r.2) % (1024 * 2 ^ (s + 118)) = 1024 * (x * (r.1 * 18446744073709551616 - r.2) % 2 ^ (s + 118)) := by
    rw [Nat.mul_assoc, Nat.mul_mod_mul_left]
  have hbig : 18014398509481984 ≤ 2 ^ (s + 118) := Nat.le_trans (by decide) (Nat.pow_le_pow_right (by decide) (by omega : 54 ≤ s + 118))
  have g1 := prog_far (1024 * x) r.1 r.2 s (by omega) r1 r2 r3 (by rw [pow_shift, em]; omega) (by rw [pow_shift, em]; omega)
  have g2 := unr_far (x := 1024 * x) (P := numOf i) (Q := denOf i) (M := 1024 * 2 ^ (s + 118)) (pm := r.1 * 18446744073709551616 - r.2) (denOf_pos i) hM1 r4 r5 (by omega) (by omega) (by rw [em]; omega)
  rw [pow_shift] at g1 ⊢
  rw [g1, g2]
end Go.Proofs.YthjfdhkahmlolaaGreatDoor.Usc

/- What printing scales at the rows 0 .. 24: exact in the upper word. -/
namespace Go.Proofs.YthjfdhkahmlolaaGreatDoor.Usc
theorem unr_scale (n d c : Nat) (hc : 0 < c) : unr (n * c) (d * c) = unr n d := by
  unfold unr
  rw [Nat.mul_div_mul_right _ _ hc, Nat.mul_mod_mul_right]
  by_cases h : n % d = 0
  · rw [if_pos h, h, if_pos (Nat.zero_mul c)]
  · rw [if_neg h, if_neg (by
      intro e
      rcases Nat.mul_eq_zero.1 e with e | e
      · exact h e
      · omega)]
theorem zero_rows : (List.range 25).all (fun k => match Go.Pinned.pow10Rows[348 + k]? with | some r => decide (r.2 = 0) && decide (numOf (348 + k) = r.1 * 18446744073709551616 * denOf (348 + k)) | none => false) = true := by kernel_rfl
theorem uscale_zero {x k s : Nat} {r : Nat × Nat} (hr : Go.Pinned.pow10Rows[348 + k]? = some r) (hk : k < 25) (hx : x < 18446744073709551616) (he : x % 2 = 0) :
    uscaleN x r.1 r.2 s = unr (x * numOf (348 + k)) (denOf (348 + k) * (2 ^ s * 340282366920938463463374607431768211456)) := by
  obtain ⟨r1, _, _, _, _⟩ := row_true hr
  have h := List.all_eq_true.1 zero_rows k (List.mem_range.2 hk)
  rw [hr] at h
  simp only [Bool.and_eq_true, decide_eq_true_eq] at h
  rw [h.1, prog_zero x r.1 s hx r1 he, h.2]
  have hc : 0 < 18446744073709551616 * denOf (348 + k) := Nat.mul_pos (by decide) (denOf_pos _)
  rw [← unr_scale (x * r.1) (2 ^ s * 18446744073709551616) _ hc]
  congr 1
  · rw [Nat.mul_assoc, Nat.mul_assoc]
  · have : (340282366920938463463374607431768211456 : Nat) = 18446744073709551616 * 18446744073709551616 := by decide
    rw [this, Nat.mul_comm (denOf _), Nat.mul_assoc, Nat.mul_assoc, Nat.mul_assoc]
end Go.Proofs.YthjfdhkahmlolaaGreatDoor.Usc
