/- What shortFloat tells reads back as the float, and has at most 17 digits. Plain arithmetic. -/
import Derived.Test.YthjfdhkahmlolaaGreatDoorJP22
namespace Go.Proofs.YthjfdhkahmlolaaGreatDoor.Usc

theorem sfdmin_is (m : Nat) (e : Int) : sfdmin m e = (sfu m e (sfmin m e) + sfodd m e + 3) / 4 := by rw [sfdmin.eq_1]
theorem sfdmax_is (m : Nat) (e : Int) : sfdmax m e = (sfu m e (sfmax m e) - sfodd m e) / 4 := by rw [sfdmax.eq_1]
theorem dmin_u {b : Nat} (H : Parts b) : sfdmin (mB b) (eB b) = (unr (sfmin (mB b) (eB b) * PB b) (QB b) + b % 2 + 3) / 4 := by rw [sfdmin_is, sfodd_eq H, (nrm b H).xmin]
theorem dmax_u {b : Nat} (H : Parts b) : sfdmax (mB b) (eB b) = (unr (sfmax (mB b) (eB b) * PB b) (QB b) - b % 2) / 4 := by rw [sfdmax_is, sfodd_eq H, (nrm b H).xmax]
theorem join_min {D u r k x y : Nat} (h : D = (u + r + 3) / 4) (h3 : (u + 3) / 4 ≤ k ↔ x ≤ y) (h4 : (u + 1 + 3) / 4 ≤ k ↔ x < y) (hr : r = 0 ∨ r = 1) : D ≤ k ↔ if r = 0 then x ≤ y else x < y := by
  rw [h]
  rcases hr with e | e <;> subst e
  · rw [if_pos rfl]; exact h3
  · rw [if_neg (by decide)]; exact h4
theorem join_max {D u r k x y : Nat} (h : D = (u - r) / 4) (h3 : k ≤ u / 4 ↔ y ≤ x) (h4 : k ≤ (u - 1) / 4 ↔ y < x) (hr : r = 0 ∨ r = 1) : k ≤ D ↔ if r = 0 then y ≤ x else y < x := by
  rw [h]
  rcases hr with e | e <;> subst e
  · rw [if_pos rfl]; exact h3
  · rw [if_neg (by decide)]; exact h4
theorem dmin_iff {b : Nat} (H : Parts b) (k : Nat) : sfdmin (mB b) (eB b) ≤ k ↔ if b % 2 = 0 then sfmin (mB b) (eB b) * PB b ≤ 4 * k * QB b else sfmin (mB b) (eB b) * PB b < 4 * k * QB b :=
  join_min (dmin_u H) (ceil0 _ _ k (QB_pos b)) (ceil1 _ _ k (QB_pos b)) (Nat.mod_two_eq_zero_or_one b)
theorem sfmin_pos {b : Nat} (H : Parts b) : 0 < sfmin (mB b) (eB b) := by
  obtain ⟨b1, b2, z1, z2⟩ := mB_bounds H
  have hz := half2 H
  have h : 2 ^ (zB b - 1) ≤ 2 ^ 62 := Nat.pow_le_pow_right (by decide) (by omega)
  rw [show (2 : Nat) ^ 62 = 4611686018427387904 by decide] at h
  unfold sfmin
  rw [sfz_eB H]
  split <;> omega
theorem sfmax_pos {b : Nat} (H : Parts b) : 0 < sfmax (mB b) (eB b) := by
  have := (mB_bounds H).1
  exact Nat.lt_of_lt_of_le (by omega) (Nat.le_add_right _ _)
theorem sfmax_lt {b : Nat} (H : Parts b) : sfmax (mB b) (eB b) < 18446744073709551616 := by
  obtain ⟨b1, b2, z1, z2⟩ := mB_bounds H
  have hz := half2 H
  have hh : 0 < 2 ^ (zB b - 1) := Nat.two_pow_pos _
  unfold sfmax
  rw [sfz_eB H]; omega
theorem sfmin_le {b : Nat} (_H : Parts b) : sfmin (mB b) (eB b) ≤ mB b := by unfold sfmin; split <;> exact Nat.sub_le _ _
theorem dmax_iff {b : Nat} (H : Parts b) (k : Nat) : k ≤ sfdmax (mB b) (eB b) ↔ if b % 2 = 0 then 4 * k * QB b ≤ sfmax (mB b) (eB b) * PB b else 4 * k * QB b < sfmax (mB b) (eB b) * PB b :=
  join_max (dmax_u H) (floor0 _ _ k (QB_pos b)) (floor1 _ _ k (QB_pos b) (Nat.mul_pos (sfmax_pos H) (PB_pos b))) (Nat.mod_two_eq_zero_or_one b)
theorem unr_bound {b x : Nat} (H : Parts b) (hx : x ≤ sfmax (mB b) (eB b)) : unr (x * PB b) (QB b) ≤ 400000000000000003 := by
  have hb := (nrm b H).bound
  have h1 : x * PB b ≤ sfmax (mB b) (eB b) * PB b := Nat.mul_le_mul_right _ hx
  have h2 := (floor0 (x * PB b) (QB b) 100000000000000001 (QB_pos b)).1
  have h3 := QB_pos b
  rcases Nat.lt_or_ge 400000000000000003 (unr (x * PB b) (QB b)) with g | g
  · have := h2 (by omega); omega
  · exact g
theorem sfok {b : Nat} (H : Parts b) : SfOk (mB b) (eB b) := by
  obtain ⟨b1, b2, z1, z2⟩ := mB_bounds H
  have E := nrm b H
  have r := eB_range H
  have hle : mB b ≤ sfmax (mB b) (eB b) := Nat.le_add_right _ _
  have q1 := unr_bound H (x := sfmin (mB b) (eB b)) (Nat.le_trans (sfmin_le H) hle)
  have q2 := unr_bound H (x := sfmax (mB b) (eB b)) (Nat.le_refl _)
  have q3 := unr_bound H (x := mB b) hle
  have p1 := unr_pos (sfmin (mB b) (eB b) * PB b) (QB b) (QB_pos b) (Nat.mul_pos (sfmin_pos H) (PB_pos b))
  have p2 := unr_pos (sfmax (mB b) (eB b) * PB b) (QB b) (QB_pos b) (Nat.mul_pos (sfmax_pos H) (PB_pos b))
  refine ⟨b1, sfmax_lt H, by omega, by rw [sfz_eB H]; exact z2, E.p0, E.s0, ?_, ?_, ?_⟩
  · rw [E.xmin]; omega
  · rw [E.xmax]; omega
  · rw [E.xm]; omega
/-- the decimals at the row's scale that read back are those between both ends -/
theorem rd_iff {b : Nat} (H : Parts b) (k : Nat) : Rd b k (-sfp (mB b) (eB b)) ↔ sfdmin (mB b) (eB b) ≤ k ∧ k ≤ sfdmax (mB b) (eB b) := by
  have E := nrm b H
  have hp : powOf (iB b) = sfp (mB b) (eB b) := by have := E.p0; unfold powOf iB; omega
  have hl : lpOf (iB b) = sfp (mB b) (eB b) * 108853 / 32768 := by
    unfold lpOf; rw [hp]; exact Int.shiftRight_eq_div_pow _ _
  have he : -eB b = sB b + lpOf (iB b) + 3 := by
    rw [hl]
    have := E.s0.1
    have es : ((sB b : Nat) : Int) = sfs (mB b) (eB b) := by unfold sB; omega
    rw [es]; unfold sfs; omega
  obtain ⟨a1, a2⟩ := row_le (k := k) he (min_mid H)
  obtain ⟨c1, c2⟩ := row_le (k := k) he (max_mid H)
  rw [dmin_iff H, dmax_iff H]
  unfold Rd
  rw [Int.neg_neg, ← hp]
  have hQ : QB b = denOf (iB b) * (2 ^ sB b * 340282366920938463463374607431768211456) := rfl
  have hP : PB b = numOf (iB b) := rfl
  rw [← hQ, ← hP] at a1 a2 c1 c2
  rcases Nat.mod_two_eq_zero_or_one b with e | e
  · rw [e, if_pos rfl, if_pos rfl, if_pos rfl, a2, c1]
  · rw [e, if_neg (by decide), if_neg (by decide), if_neg (by decide)]
    rw [← Nat.not_le, ← Nat.not_le, ← Nat.not_le, ← Nat.not_le, a1, c2]
/-- one unit wide: at the exponent -11 -/
theorem at11 {b : Nat} (H : Parts b) (hs : sfskew (mB b) (eB b) = false) (he : eB b = -11) : sfdmin (mB b) (eB b) = mantB b ∧ sfdmax (mB b) (eB b) = mantB b := by
  have hz : zB b = 11 := by
    have := H.e1; obtain ⟨_, _, z1, z2⟩ := mB_bounds H
    rcases Nat.lt_or_ge b 4503599627370496 with h | h
    · obtain ⟨_, q2, q3⟩ := H.sub h
      unfold eB at he; omega
    · obtain ⟨_, q2⟩ := H.nrm h
      unfold zB; omega
  have hsz : sfz (eB b) = 11 := by rw [sfz_eB H, hz]
  have hp : sfp (mB b) (eB b) = 0 := by unfold sfp; rw [hs, hsz, he]; rfl
  have hi : iB b = 348 := by unfold iB; rw [hp]; rfl
  have hss : sB b = 8 := by unfold sB sfs; rw [hp, he]; rfl
  have hP : PB b = 170141183460469231731687303715884105728 := by unfold PB; rw [hi]; decide +kernel
  have hQ : QB b = 87112285931760246646623899502532662132736 := by unfold QB; rw [hi, hss]; decide +kernel
  have hmin := sfmin_eq H hs
  have hmax := sfmax_eq H
  rw [hz, show (2 : Nat) ^ (11 - 1) = 1024 by decide] at hmin hmax
  have m1 := H.m1
  have d1 := fun k => dmin_iff H k
  have d2 := fun k => dmax_iff H k
  rw [hmin, hP, hQ] at d1
  rw [hmax, hP, hQ] at d2
  generalize sfdmin (mB b) (eB b) = dm at *
  generalize sfdmax (mB b) (eB b) = dx at *
  have a1 := d1 (mantB b); have a2 := d1 (mantB b - 1)
  have c1 := d2 (mantB b); have c2 := d2 (mantB b + 1)
  generalize mantB b = m at *
  by_cases hb : b % 2 = 0
  · rw [if_pos hb] at a1 a2 c1 c2
    omega
  · rw [if_neg hb] at a1 a2 c1 c2
    omega
end Go.Proofs.YthjfdhkahmlolaaGreatDoor.Usc
