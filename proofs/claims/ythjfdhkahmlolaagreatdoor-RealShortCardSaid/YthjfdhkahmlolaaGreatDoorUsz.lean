/- What printing scales at the rows -23 .. -1: whole, or far from whole numbers. -/
import Derived.Test.YthjfdhkahmlolaaGreatDoorUsy
namespace Go.Proofs.YthjfdhkahmlolaaGreatDoor.Usc
def gOf (i s : Nat) : Nat := 2 ^ (348 - i) * (2 ^ s * 340282366920938463463374607431768211456)
def negOk (i s : Nat) : Bool := decide (36893488147419103232 * denOf i ≤ gOf i s) && decide (denOf i * (2 ^ s * 340282366920938463463374607431768211456) = 5 ^ (348 - i) * gOf i s) && decide (gOf i s * (1024 * numOf i / gOf i s) = 1024 * numOf i)
theorem neg_rows : (List.range 23).all (fun j => negOk (325 + j) 5 && negOk (325 + j) 6 && negOk (325 + j) 7 && negOk (325 + j) 8) = true := by kernel_rfl
theorem neg_at {i s : Nat} (hi : 325 ≤ i ∧ i ≤ 347) (hs : 5 ≤ s ∧ s ≤ 8) : negOk i s = true := by
  have h := List.all_eq_true.1 neg_rows (i - 325) (List.mem_range.2 (by omega))
  rw [show 325 + (i - 325) = i by omega] at h
  simp only [Bool.and_eq_true] at h
  obtain ⟨⟨⟨h5, h6⟩, h7⟩, h8⟩ := h
  have : s = 5 ∨ s = 6 ∨ s = 7 ∨ s = 8 := by omega
  rcases this with e | e | e | e
  · rw [e]; exact h5
  · rw [e]; exact h6
  · rw [e]; exact h7
  · rw [e]; exact h8
theorem neg_core {x H L s P Q M g c F pm : Nat} (hMM : 2 ^ s * 340282366920938463463374607431768211456 = M) (hpm : H * 18446744073709551616 - L = pm)
    (r1 : H < 18446744073709551616) (r2 : L < 18446744073709551616) (r3 : L ≤ H * 18446744073709551616) (r4 : P ≤ pm * Q) (r5 : pm * Q < P + Q) (hd : 0 < Q)
    (h1 : 36893488147419103232 * Q ≤ g) (h2 : Q * M = F * g) (h3 : g * c = 1024 * P) (hx : 0 < x ∧ x < 18014398509481984) :
    uscaleN (1024 * x) H L s = unr (1024 * x * P) (Q * M) := by
  have hM : 0 < M := by rw [← hMM]; exact Nat.mul_pos (Nat.pow_pos (by decide)) (by decide)
  have hg : 0 < g := by omega
  have hF : 0 < F := by
    rcases Nat.eq_zero_or_pos F with e | e
    · subst e; rw [Nat.zero_mul] at h2
      have := Nat.mul_pos hd hM; omega
    · exact e
  -- N = g w
  have hN : 1024 * x * P = g * (x * c) := by rw [Nat.mul_right_comm, ← h3, Nat.mul_assoc, Nat.mul_comm c x]
  generalize x * c = w at *
  have hw := Nat.div_add_mod w F
  have hwl := Nat.mod_lt w hF
  generalize w / F = y at *
  generalize w % F = u at *
  -- N = (Q M) y + g u
  have hN2 : 1024 * x * P = y * (Q * M) + g * u := by rw [hN, ← hw, Nat.mul_add, h2, Nat.mul_comm y, Nat.mul_right_comm, Nat.mul_comm (F * y) g]
  have hgu : g * u + g ≤ Q * M := by rw [h2, Nat.mul_comm F g, ← Nat.mul_succ]; exact Nat.mul_le_mul_left _ hwl
  -- x pm Q = N + 1024 x d
  have b1 : 1024 * x * P ≤ 1024 * x * pm * Q := by rw [Nat.mul_assoc _ pm Q]; exact Nat.mul_le_mul_left _ r4
  have b2 : 1024 * x * pm * Q < 1024 * x * P + 1024 * x * Q := by rw [Nat.mul_assoc _ pm Q, ← Nat.mul_add]; exact Nat.mul_lt_mul_of_pos_left r5 (by omega)
  -- t
  have b3 : y * M ≤ 1024 * x * pm := by
    have : y * M * Q ≤ 1024 * x * pm * Q := by rw [Nat.mul_assoc, Nat.mul_comm M Q]; omega
    exact Nat.le_of_mul_le_mul_right this hd
  obtain ⟨t, ht⟩ : ∃ t, 1024 * x * pm = y * M + t := ⟨_, (Nat.add_sub_cancel' b3).symm⟩
  have b4 : 1024 * x * pm * Q = y * (Q * M) + t * Q := by rw [ht, Nat.add_mul, Nat.mul_assoc, Nat.mul_comm M Q]
  have b5 : g * u ≤ t * Q := by omega
  have b6 : t * Q < g * u + 1024 * x * Q := by omega
  have b7 : 1024 * x * Q ≤ 18446744073709551616 * Q := Nat.mul_le_mul_right _ (by omega)
  rcases Nat.eq_zero_or_pos u with e | e
  · subst e
    rw [Nat.mul_zero, Nat.add_zero] at hN2
    rw [Nat.mul_zero, Nat.zero_add] at b6
    have t1 : t < 1024 * x := Nat.lt_of_mul_lt_mul_right b6
    rw [prog_whole (1024 * x) H L s y t (by omega) r1 r2 r3 (by rw [hpm, hMM]; exact ht) (.inl t1)]
    unfold unr
    rw [hN2, Nat.mul_div_cancel _ (Nat.mul_pos hd hM), Nat.mul_mod_left, if_pos rfl]
    simp
  · have g1 : g ≤ g * u := Nat.le_mul_of_pos_right _ e
    have t1 : 36893488147419103232 ≤ t := Nat.le_of_mul_le_mul_right (by omega : 36893488147419103232 * Q ≤ t * Q) hd
    have t2 : (t + 18446744073709551616) * Q ≤ M * Q := by rw [Nat.add_mul, Nat.mul_comm M Q]; omega
    have t3 : t + 18446744073709551616 ≤ M := Nat.le_of_mul_le_mul_right t2 hd
    have em : 1024 * x * pm % M = t := by rw [ht, Nat.mul_comm y M, Nat.mul_add_mod, Nat.mod_eq_of_lt (by omega)]
    have g2 := prog_far (1024 * x) H L s (by omega) r1 r2 r3 (by rw [hpm, hMM, em]; exact t1) (by rw [hpm, hMM, em]; omega)
    have g3 := unr_far (x := 1024 * x) (P := P) (Q := Q) (M := M) (pm := pm) hd hM r4 r5 (by omega) (by omega) (by rw [em]; exact t1)
    rw [hpm, hMM] at g2
    rw [g2, g3]
theorem uscale_neg {x i s : Nat} {r : Nat × Nat} (hr : Go.Pinned.pow10Rows[i]? = some r) (hi : 325 ≤ i ∧ i ≤ 347) (hs : 5 ≤ s ∧ s ≤ 8) (hx : 0 < x ∧ x < 18014398509481984) :
    uscaleN (1024 * x) r.1 r.2 s = unr (1024 * x * numOf i) (denOf i * (2 ^ s * 340282366920938463463374607431768211456)) := by
  obtain ⟨r1, r2, r3, r4, r5⟩ := row_true hr
  have h := neg_at hi hs
  unfold negOk at h
  simp only [Bool.and_eq_true, decide_eq_true_eq] at h
  exact neg_core rfl rfl r1 r2 r3 r4 r5 (denOf_pos i) h.1.1 h.1.2 h.2 hx
end Go.Proofs.YthjfdhkahmlolaaGreatDoor.Usc
