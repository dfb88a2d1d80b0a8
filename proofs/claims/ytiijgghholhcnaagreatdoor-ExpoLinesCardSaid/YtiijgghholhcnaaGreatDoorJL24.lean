/- Unrounded scaling by a table's row that is exact in its upper word. -/
import Derived.Test.YtiijgghholhcnaaGreatDoorJL22
import Derived.Test.YtiijgghholhcnaaGreatDoorJL23
namespace Go.Proofs.YtiijgghholhcnaaGreatDoor.Re.Usc
theorem prog_zero (x H s : Nat) (hx : x < 18446744073709551616) (hH : H < 18446744073709551616) (he : x % 2 = 0) : uscaleN x H 0 s = unr (x * H) (2 ^ s * 18446744073709551616) := by
  have hA : x * H < 340282366920938463463374607431768211456 := Nat.mul_lt_mul'' hx hH
  have hev : x * H % 2 = 0 := by rw [Nat.mul_mod, he]; simp
  unfold uscaleN hiN loN unr
  rw [Nat.mul_zero, Nat.zero_div, stick_true, stick_true]
  generalize x * H = A at *
  have hS : 0 < 2 ^ s := Nat.two_pow_pos s
  have e1 : A / (2 ^ s * 18446744073709551616) = A / 18446744073709551616 / 2 ^ s := by rw [Nat.mul_comm, Nat.div_div_eq_div_mul]
  have e2 : A % (2 ^ s * 18446744073709551616) = A % 18446744073709551616 + 18446744073709551616 * (A / 18446744073709551616 % 2 ^ s) := by rw [Nat.mul_comm, Nat.mod_mul]
  rw [e1, e2]
  generalize 2 ^ s = S at *
  have hdm := Nat.div_add_mod (A / 18446744073709551616) S
  rw [Nat.mul_comm] at hdm
  by_cases h0 : A / 18446744073709551616 / S * S ≠ A / 18446744073709551616
  · rw [if_pos h0]
    have : A / 18446744073709551616 % S ≠ 0 := by omega
    rw [if_neg (show ¬ (A % 18446744073709551616 + 18446744073709551616 * (A / 18446744073709551616 % S) = 0) by omega)]; rfl
  · rw [if_neg h0]
    have h1 : A / 18446744073709551616 % S = 0 := by omega
    rw [h1, Nat.mul_zero, Nat.add_zero, decide_eq_false (by omega : ¬ A % 18446744073709551616 < 0)]
    have e3 : subN (A / 18446744073709551616) (false : Bool).toNat = A / 18446744073709551616 := by unfold subN; simp only [Bool.toNat_false]; omega
    have e4 : subN (A % 18446744073709551616) 0 = A % 18446744073709551616 := by unfold subN; omega
    rw [e3, e4]
    by_cases h2 : A % 18446744073709551616 = 0
    · rw [if_pos h2, decide_eq_false (by omega)]; rfl
    · rw [if_neg h2, decide_eq_true (by omega)]; rfl
/-- the rounded row tells the whole part, where the product lies far enough above a whole number -/
theorem unr_far {x P Q M pm : Nat} (hQ : 0 < Q) (hM : 0 < M) (h1 : P ≤ pm * Q) (h2 : pm * Q < P + Q) (hx : x < 18446744073709551616) (hx0 : 0 < x) (ht : 36893488147419103232 ≤ x * pm % M) :
    unr (x * P) (Q * M) = (x * pm / M) ||| 1 := by
  have hdm := Nat.div_add_mod (x * pm) M
  have hlt := Nat.mod_lt (x * pm) hM
  generalize hy : x * pm / M = y at *
  generalize x * pm % M = t at *
  have a1 : x * P ≤ x * (pm * Q) := Nat.mul_le_mul_left _ h1
  have a2 : x * (pm * Q) < x * (P + Q) := Nat.mul_lt_mul_of_pos_left h2 hx0
  rw [Nat.mul_add] at a2
  rw [← Nat.mul_assoc, ← hdm, Nat.add_mul] at a1 a2
  have a3 : x * Q ≤ 18446744073709551616 * Q := Nat.mul_le_mul_right _ (by omega)
  have a4 : 36893488147419103232 * Q ≤ t * Q := Nat.mul_le_mul_right _ ht
  have a5 : t * Q + Q ≤ M * Q := by rw [← Nat.succ_mul]; exact Nat.mul_le_mul_right _ hlt
  have a6 : M * y * Q = y * (Q * M) := by rw [Nat.mul_comm M y, Nat.mul_assoc, Nat.mul_comm M Q]
  have a7 : M * Q = Q * M := Nat.mul_comm _ _
  obtain ⟨e1, e2⟩ := div_of (V := x * P) (M := Q * M) (q := y) (K := M * y * Q) a6 (by omega) (by omega)
  unfold unr
  rw [e1, e2, if_neg (by omega)]
end Go.Proofs.YtiijgghholhcnaaGreatDoor.Re.Usc

/- What printing scales is unrounded scaling by the true power of ten: at every row outside -23 .. 24. -/
namespace Go.Proofs.YtiijgghholhcnaaGreatDoor.Re.Usc
/-- the row's power, its binary exponent, its fraction at 128 places -/
def powOf (i : Nat) : Int := (i : Int) - 348
def lpOf (i : Nat) : Int := Int.shiftRight (powOf i * 108853) 15
def numOf (i : Nat) : Nat := 10 ^ (powOf i).toNat * 2 ^ (127 - lpOf i).toNat
def denOf (i : Nat) : Nat := 10 ^ (-powOf i).toNat * 2 ^ (-(127 - lpOf i)).toNat
theorem denOf_pos (i : Nat) : 0 < denOf i := Nat.mul_pos (Nat.pow_pos (by decide)) (Nat.pow_pos (by decide))
theorem row_true {i : Nat} {r : Nat × Nat} (h : Go.Pinned.pow10Rows[i]? = some r) :
    r.1 < 18446744073709551616 ∧ r.2 < 18446744073709551616 ∧ r.2 ≤ r.1 * 18446744073709551616 ∧ numOf i ≤ (r.1 * 18446744073709551616 - r.2) * denOf i ∧ (r.1 * 18446744073709551616 - r.2) * denOf i < numOf i + denOf i := by
  have q := rowsOk_at _ 0 i r table_ok h
  unfold rowOk at q
  rw [Nat.zero_add] at q
  simp only [Bool.and_eq_true, decide_eq_true_eq] at q
  obtain ⟨⟨⟨⟨⟨q1, q2⟩, q3⟩, _⟩, q4⟩, q5⟩ := q
  exact ⟨q1, q2, by omega, q4, q5⟩
theorem pow_shift (s : Nat) : 2 ^ s * 340282366920938463463374607431768211456 = 1024 * 2 ^ (s + 118) := by
  rw [Nat.pow_add]
  have : (340282366920938463463374607431768211456 : Nat) = 1024 * 2 ^ 118 := by decide
  rw [this, Nat.mul_left_comm]
theorem uscale_print {x i s : Nat} {r : Nat × Nat} (hr : Go.Pinned.pow10Rows[i]? = some r) (hi : ¬ (325 ≤ i ∧ i ≤ 372)) (hs : 5 ≤ s ∧ s ≤ 8) (hx : 9007199254740992 ≤ x ∧ x < 18014398509481984) :
    uscaleN (1024 * x) r.1 r.2 s = unr (1024 * x * numOf i) (denOf i * (2 ^ s * 340282366920938463463374607431768211456)) := by
  obtain ⟨r1, r2, r3, r4, r5⟩ := row_true hr
  have hp := rowsPrint_at _ 0 i r print_ok hr (by rw [Nat.zero_add]; exact hi)
  have hk : printOk r s = true := by
    obtain ⟨p5, p6, p7, p8⟩ := hp
    obtain ⟨h1, h2⟩ := hs
    have : s = 5 ∨ s = 6 ∨ s = 7 ∨ s = 8 := by omega
    rcases this with e | e | e | e <;> subst e <;> assumption
  unfold printOk at hk
  have hM : 0 < 2 ^ (s + 118) := Nat.pow_pos (by decide)
  obtain ⟨f1, f2⟩ := far_of hk (x := x) hx.1 (by omega) hM
  have hM1 : 0 < 1024 * 2 ^ (s + 118) := by omega
  have em : 1024 * x * (r.1 * 18446744073709551616 - r.2) % (1024 * 2 ^ (s + 118)) = 1024 * (x * (r.1 * 18446744073709551616 - r.2) % 2 ^ (s + 118)) := by
    rw [Nat.mul_assoc, Nat.mul_mod_mul_left]
  have hbig : 18014398509481984 ≤ 2 ^ (s + 118) := Nat.le_trans (by decide) (Nat.pow_le_pow_right (by decide) (by omega : 54 ≤ s + 118))
  have g1 := prog_far (1024 * x) r.1 r.2 s (by omega) r1 r2 r3 (by rw [pow_shift, em]; omega) (by rw [pow_shift, em]; omega)
  have g2 := unr_far (x := 1024 * x) (P := numOf i) (Q := denOf i) (M := 1024 * 2 ^ (s + 118)) (pm := r.1 * 18446744073709551616 - r.2) (denOf_pos i) hM1 r4 r5 (by omega) (by omega) (by rw [em]; omega)
  rw [pow_shift] at g1 ⊢
  rw [g1, g2]
end Go.Proofs.YtiijgghholhcnaaGreatDoor.Re.Usc

/- What printing scales at the rows 0 .. 24: exact in the upper word. -/
namespace Go.Proofs.YtiijgghholhcnaaGreatDoor.Re.Usc
theorem unr_scale (n d c : Nat) (hc : 0 < c) : unr (n * c) (d * c) = unr n d := by
  unfold unr
  rw [Nat.mul_div_mul_right _ _ hc, Nat.mul_mod_mul_right]
  by_cases h : n % d = 0
  · rw [if_pos h, h, if_pos (Nat.zero_mul c)]
  · rw [if_neg h, if_neg (by
      intro e
      rcases Nat.mul_eq_zero.1 e with e | e
      · exact h e
      · omega)]
theorem zero_rows : (List.range 25).all (fun k => match Go.Pinned.pow10Rows[348 + k]? with | some r => decide (r.2 = 0) && decide (numOf (348 + k) = r.1 * 18446744073709551616 * denOf (348 + k)) | none => false) = true := by kernel_rfl
theorem uscale_zero {x k s : Nat} {r : Nat × Nat} (hr : Go.Pinned.pow10Rows[348 + k]? = some r) (hk : k < 25) (hx : x < 18446744073709551616) (he : x % 2 = 0) :
    uscaleN x r.1 r.2 s = unr (x * numOf (348 + k)) (denOf (348 + k) * (2 ^ s * 340282366920938463463374607431768211456)) := by
  obtain ⟨r1, _, _, _, _⟩ := row_true hr
  have h := List.all_eq_true.1 zero_rows k (List.mem_range.2 hk)
  rw [hr] at h
  simp only [Bool.and_eq_true, decide_eq_true_eq] at h
  rw [h.1, prog_zero x r.1 s hx r1 he, h.2]
  have hc : 0 < 18446744073709551616 * denOf (348 + k) := Nat.mul_pos (by decide) (denOf_pos _)
  rw [← unr_scale (x * r.1) (2 ^ s * 18446744073709551616) _ hc]
  congr 1
  · rw [Nat.mul_assoc, Nat.mul_assoc]
  · have : (340282366920938463463374607431768211456 : Nat) = 18446744073709551616 * 18446744073709551616 := by decide
    rw [this, Nat.mul_comm (denOf _), Nat.mul_assoc, Nat.mul_assoc, Nat.mul_assoc]
end Go.Proofs.YtiijgghholhcnaaGreatDoor.Re.Usc

/- What printing scales at the rows -23 .. -1: whole, or far from whole numbers. -/
namespace Go.Proofs.YtiijgghholhcnaaGreatDoor.Re.Usc
def gOf (i s : Nat) : Nat := 2 ^ (348 - i) * (2 ^ s * 340282366920938463463374607431768211456)
def negOk (i s : Nat) : Bool := decide (36893488147419103232 * denOf i ≤ gOf i s) && decide (denOf i * (2 ^ s * 340282366920938463463374607431768211456) = 5 ^ (348 - i) * gOf i s) && decide (gOf i s * (1024 * numOf i / gOf i s) = 1024 * numOf i)
theorem neg_rows : (List.range 23).all (fun j => negOk (325 + j) 5 && negOk (325 + j) 6 && negOk (325 + j) 7 && negOk (325 + j) 8) = true := by kernel_rfl
theorem neg_at {i s : Nat} (hi : 325 ≤ i ∧ i ≤ 347) (hs : 5 ≤ s ∧ s ≤ 8) : negOk i s = true := by
  have h := List.all_eq_true.1 neg_rows (i - 325) (List.mem_range.2 (by omega))
  rw [show 325 + (i - 325) = i by omega] at h
  simp only [Bool.and_eq_true] at h
  obtain ⟨⟨⟨h5, h6⟩, h7⟩, h8⟩ := h
  have : s = 5 ∨ s = 6 ∨ s = 7 ∨ s = 8 := by omega
  rcases this with e | e | e | e
  · rw [e]; exact h5
  · rw [e]; exact h6
  · rw [e]; exact h7
  · rw [e]; exact h8
theorem neg_core {x H L s P Q M g c F pm : Nat} (hMM : 2 ^ s * 340282366920938463463374607431768211456 = M) (hpm : H * 18446744073709551616 - L = pm)
    (r1 : H < 18446744073709551616) (r2 : L < 18446744073709551616) (r3 : L ≤ H * 18446744073709551616) (r4 : P ≤ pm * Q) (r5 : pm * Q < P + Q) (hd : 0 < Q)
    (h1 : 36893488147419103232 * Q ≤ g) (h2 : Q * M = F * g) (h3 : g * c = 1024 * P) (hx : 0 < x ∧ x < 18014398509481984) :
    uscaleN (1024 * x) H L s = unr (1024 * x * P) (Q * M) := by
  have hM : 0 < M := by rw [← hMM]; exact Nat.mul_pos (Nat.pow_pos (by decide)) (by decide)
  have hg : 0 < g := by omega
  have hF : 0 < F := by
    rcases Nat.eq_zero_or_pos F with e | e
    · subst e; rw [Nat.zero_mul] at h2
      have := Nat.mul_pos hd hM; omega
    · exact e
  -- N = g w
  have hN : 1024 * x * P = g * (x * c) := by rw [Nat.mul_right_comm, ← h3, Nat.mul_assoc, Nat.mul_comm c x]
  generalize x * c = w at *
  have hw := Nat.div_add_mod w F
  have hwl := Nat.mod_lt w hF
  generalize w / F = y at *
  generalize w % F = u at *
  -- N = (Q M) y + g u
  have hN2 : 1024 * x * P = y * (Q * M) + g * u := by rw [hN, ← hw, Nat.mul_add, h2, Nat.mul_comm y, Nat.mul_right_comm, Nat.mul_comm (F * y) g]
  have hgu : g * u + g ≤ Q * M := by rw [h2, Nat.mul_comm F g, ← Nat.mul_succ]; exact Nat.mul_le_mul_left _ hwl
  -- x pm Q = N + 1024 x d
  have b1 : 1024 * x * P ≤ 1024 * x * pm * Q := by rw [Nat.mul_assoc _ pm Q]; exact Nat.mul_le_mul_left _ r4
  have b2 : 1024 * x * pm * Q < 1024 * x * P + 1024 * x * Q := by rw [Nat.mul_assoc _ pm Q, ← Nat.mul_add]; exact Nat.mul_lt_mul_of_pos_left r5 (by omega)
  -- t
  have b3 : y * M ≤ 1024 * x * pm := by
    have : y * M * Q ≤ 1024 * x * pm * Q := by rw [Nat.mul_assoc, Nat.mul_comm M Q]; omega
    exact Nat.le_of_mul_le_mul_right this hd
  obtain ⟨t, ht⟩ : ∃ t, 1024 * x * pm = y * M + t := ⟨_, (Nat.add_sub_cancel' b3).symm⟩
  have b4 : 1024 * x * pm * Q = y * (Q * M) + t * Q := by rw [ht, Nat.add_mul, Nat.mul_assoc, Nat.mul_comm M Q]
  have b5 : g * u ≤ t * Q := by omega
  have b6 : t * Q < g * u + 1024 * x * Q := by omega
  have b7 : 1024 * x * Q ≤ 18446744073709551616 * Q := Nat.mul_le_mul_right _ (by omega)
  rcases Nat.eq_zero_or_pos u with e | e
  · subst e
    rw [Nat.mul_zero, Nat.add_zero] at hN2
    rw [Nat.mul_zero, Nat.zero_add] at b6
    have t1 : t < 1024 * x := Nat.lt_of_mul_lt_mul_right b6
    rw [prog_whole (1024 * x) H L s y t (by omega) r1 r2 r3 (by rw [hpm, hMM]; exact ht) (.inl t1)]
    unfold unr
    rw [hN2, Nat.mul_div_cancel _ (Nat.mul_pos hd hM), Nat.mul_mod_left, if_pos rfl]
    simp
  · have g1 : g ≤ g * u := Nat.le_mul_of_pos_right _ e
    have t1 : 36893488147419103232 ≤ t := Nat.le_of_mul_le_mul_right (by omega : 36893488147419103232 * Q ≤ t * Q) hd
    have t2 : (t + 18446744073709551616) * Q ≤ M * Q := by rw [Nat.add_mul, Nat.mul_comm M Q]; omega
    have t3 : t + 18446744073709551616 ≤ M := Nat.le_of_mul_le_mul_right t2 hd
    have em : 1024 * x * pm % M = t := by rw [ht, Nat.mul_comm y M, Nat.mul_add_mod, Nat.mod_eq_of_lt (by omega)]
    have g2 := prog_far (1024 * x) H L s (by omega) r1 r2 r3 (by rw [hpm, hMM, em]; exact t1) (by rw [hpm, hMM, em]; omega)
    have g3 := unr_far (x := 1024 * x) (P := P) (Q := Q) (M := M) (pm := pm) hd hM r4 r5 (by omega) (by omega) (by rw [em]; exact t1)
    rw [hpm, hMM] at g2
    rw [g2, g3]
theorem uscale_neg {x i s : Nat} {r : Nat × Nat} (hr : Go.Pinned.pow10Rows[i]? = some r) (hi : 325 ≤ i ∧ i ≤ 347) (hs : 5 ≤ s ∧ s ≤ 8) (hx : 0 < x ∧ x < 18014398509481984) :
    uscaleN (1024 * x) r.1 r.2 s = unr (1024 * x * numOf i) (denOf i * (2 ^ s * 340282366920938463463374607431768211456)) := by
  obtain ⟨r1, r2, r3, r4, r5⟩ := row_true hr
  have h := neg_at hi hs
  unfold negOk at h
  simp only [Bool.and_eq_true, decide_eq_true_eq] at h
  exact neg_core rfl rfl r1 r2 r3 r4 r5 (denOf_pos i) h.1.1 h.1.2 h.2 hx
end Go.Proofs.YtiijgghholhcnaaGreatDoor.Re.Usc

/- What printing scales at subnormal numbers: the row 324 at the shifts 9 .. 58. -/
namespace Go.Proofs.YtiijgghholhcnaaGreatDoor.Re.Usc
theorem uscale_far {x i s : Nat} {r : Nat × Nat} (hr : Go.Pinned.pow10Rows[i]? = some r) (hk : printOk r s = true) (hx : 9007199254740992 ≤ x ∧ x < 18014398509481984) :
    uscaleN (1024 * x) r.1 r.2 s = unr (1024 * x * numOf i) (denOf i * (2 ^ s * 340282366920938463463374607431768211456)) := by
  obtain ⟨r1, r2, r3, r4, r5⟩ := row_true hr
  unfold printOk at hk
  have hM : 0 < 2 ^ (s + 118) := Nat.pow_pos (by decide)
  obtain ⟨f1, f2⟩ := far_of hk (x := x) hx.1 (by omega) hM
  have hM1 : 0 < 1024 * 2 ^ (s + 118) := by omega
  have em : 1024 * x * (r.1 * 18446744073709551616 - r.2) % (1024 * 2 ^ (s + 118)) = 1024 * (x * (r.1 * 18446744073709551616 - r.2) % 2 ^ (s + 118)) := by
    rw [Nat.mul_assoc, Nat.mul_mod_mul_left]
  have hbig : 18014398509481984 ≤ 2 ^ (s + 118) := Nat.le_trans (by decide) (Nat.pow_le_pow_right (by decide) (by omega : 54 ≤ s + 118))
  have g1 := prog_far (1024 * x) r.1 r.2 s (by omega) r1 r2 r3 (by rw [pow_shift, em]; omega) (by rw [pow_shift, em]; omega)
  have g2 := unr_far (x := 1024 * x) (P := numOf i) (Q := denOf i) (M := 1024 * 2 ^ (s + 118)) (pm := r.1 * 18446744073709551616 - r.2) (denOf_pos i) hM1 r4 r5 (by omega) (by omega) (by rw [em]; omega)
  rw [pow_shift] at g1 ⊢
  rw [g1, g2]
theorem sub_ok : (List.range 50).all (fun j => match Go.Pinned.pow10Rows[672]? with | some r => printOk r (9 + j) | none => false) = true := by kernel_rfl
theorem uscale_sub {x s : Nat} {r : Nat × Nat} (hr : Go.Pinned.pow10Rows[672]? = some r) (hs : 9 ≤ s ∧ s ≤ 58) (hx : 9007199254740992 ≤ x ∧ x < 18014398509481984) :
    uscaleN (1024 * x) r.1 r.2 s = unr (1024 * x * numOf 672) (denOf 672 * (2 ^ s * 340282366920938463463374607431768211456)) := by
  have h := List.all_eq_true.1 sub_ok (s - 9) (List.mem_range.2 (by omega))
  rw [hr, show 9 + (s - 9) = s by omega] at h
  exact uscale_far hr h hx
end Go.Proofs.YtiijgghholhcnaaGreatDoor.Re.Usc

/- Rounding an unrounded number up, down, to the nearest one. Plain arithmetic. -/
namespace Go.Proofs.YtiijgghholhcnaaGreatDoor.Re.Usc

theorem or_one_eq (a : Nat) : a ||| 1 = 2 * (a / 2) + 1 := by
  have h1 : (a ||| 1) / 2 = a / 2 := by rw [Nat.or_div_two]; simp
  have h2 : (a ||| 1) % 2 = 1 := Nat.or_mod_two_eq_one.2 (.inr rfl)
  omega
theorem unr_eq (n d : Nat) : unr n d = if n % d = 0 then n / d else 2 * (n / d / 2) + 1 := by
  unfold unr
  split
  · simp
  · exact or_one_eq _
theorem le_mul_iff (n K d : Nat) (hd : 0 < d) : n ≤ K * d ↔ n / d + (if n % d = 0 then 0 else 1) ≤ K := by
  have h := Nat.div_add_mod n d
  have hl := Nat.mod_lt n hd
  rw [Nat.mul_comm] at h
  generalize n / d = A at *
  generalize n % d = R at *
  constructor
  · intro hh
    rcases Nat.lt_or_ge K (A + (if R = 0 then 0 else 1)) with hlt | hge
    · exfalso
      split at hlt
      · have := Nat.mul_le_mul_right d (show K + 1 ≤ A by omega)
        rw [Nat.succ_mul] at this
        omega
      · have := Nat.mul_le_mul_right d (show K ≤ A by omega)
        omega
    · exact hge
  · intro hh
    split at hh
    · have := Nat.mul_le_mul_right d (show A ≤ K by omega)
      omega
    · have := Nat.mul_le_mul_right d (show A + 1 ≤ K by omega)
      rw [Nat.succ_mul] at this
      omega
theorem ceil0 (n d k : Nat) (hd : 0 < d) : (unr n d + 3) / 4 ≤ k ↔ n ≤ 4 * k * d := by
  rw [le_mul_iff _ _ _ hd, unr_eq]
  by_cases h : n % d = 0
  · rw [if_pos h, if_pos h]; omega
  · rw [if_neg h, if_neg h]; omega
theorem floor0 (n d k : Nat) (hd : 0 < d) : k ≤ unr n d / 4 ↔ 4 * k * d ≤ n := by
  rw [← Nat.le_div_iff_mul_le hd, unr_eq]
  by_cases h : n % d = 0
  · rw [if_pos h]; omega
  · rw [if_neg h]; omega
theorem ceil1 (n d k : Nat) (hd : 0 < d) : (unr n d + 1 + 3) / 4 ≤ k ↔ n < 4 * k * d := by
  rw [← Nat.div_lt_iff_lt_mul hd, unr_eq]
  by_cases h : n % d = 0
  · rw [if_pos h]; omega
  · rw [if_neg h]; omega
theorem unr_pos (n d : Nat) (_hd : 0 < d) (hn : 0 < n) : 1 ≤ unr n d := by
  rw [unr_eq]
  split
  · have h := Nat.div_add_mod n d
    rcases Nat.eq_zero_or_pos (n / d) with e | e
    · rw [e] at h; omega
    · exact e
  · omega
theorem floor1 (n d k : Nat) (hd : 0 < d) (hn : 0 < n) : k ≤ (unr n d - 1) / 4 ↔ 4 * k * d < n := by
  have hp := unr_pos n d hd hn
  rw [← Nat.not_le, le_mul_iff _ _ _ hd]
  rw [unr_eq] at hp ⊢
  by_cases h : n % d = 0
  · rw [if_pos h] at hp ⊢; rw [if_pos h]; omega
  · rw [if_neg h] at hp ⊢; rw [if_neg h]; omega
/-- the nearest one: r -/
theorem round0 (n d : Nat) (hd : 0 < d) (r : Nat) (hr : r = (unr n d + 1 + unr n d / 4 % 2) / 4) :
    4 * r * d ≤ n + 2 * d ∧ n ≤ 4 * r * d + 2 * d ∧ (4 * r * d = n + 2 * d → r % 2 = 0) ∧ (n = 4 * r * d + 2 * d → r % 2 = 0) := by
  have e2 : (4 * r) * d ≤ n + 2 * d ↔ 4 * r ≤ n / d + 2 := by
    rw [← Nat.le_div_iff_mul_le hd, Nat.add_mul_div_right _ _ hd]
  have e3 : n ≤ 4 * r * d + 2 * d ↔ n / d + (if n % d = 0 then 0 else 1) ≤ 4 * r + 2 := by
    rw [← Nat.add_mul, le_mul_iff _ _ _ hd]
  have e4 : 4 * r * d = n + 2 * d → n % d = 0 ∧ n / d + 2 = 4 * r := by
    intro h
    have h5 : n + 2 * d = d * (4 * r) := by rw [Nat.mul_comm d]; omega
    have h6 : (n + 2 * d) % d = 0 := by rw [h5, Nat.mul_mod_right]
    have h7 : (n + 2 * d) / d = 4 * r := by rw [h5, Nat.mul_div_cancel_left _ hd]
    rw [Nat.add_mul_mod_self_right] at h6
    rw [Nat.add_mul_div_right _ _ hd] at h7
    exact ⟨h6, h7⟩
  have e5 : n = 4 * r * d + 2 * d → n % d = 0 ∧ n / d = 4 * r + 2 := by
    intro h
    have h5 : n = d * (4 * r + 2) := by rw [Nat.mul_comm d, Nat.add_mul]; omega
    exact ⟨by rw [h5, Nat.mul_mod_right], by rw [h5, Nat.mul_div_cancel_left _ hd]⟩
  rw [unr_eq] at hr
  refine ⟨e2.2 ?_, e3.2 ?_, fun h => ?_, fun h => ?_⟩
  · by_cases h : n % d = 0
    · rw [if_pos h] at hr; omega
    · rw [if_neg h] at hr; omega
  · by_cases h : n % d = 0
    · rw [if_pos h] at hr ⊢; omega
    · rw [if_neg h] at hr ⊢; omega
  · obtain ⟨a, b⟩ := e4 h
    rw [if_pos a] at hr; omega
  · obtain ⟨a, b⟩ := e5 h
    rw [if_pos a] at hr; omega
end Go.Proofs.YtiijgghholhcnaaGreatDoor.Re.Usc
