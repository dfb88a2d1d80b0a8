/- What shortFloat tells reads back as the float, and has at most 17 digits. Plain arithmetic. -/
import Derived.Test.YtiijgghholhcnaaGreatDoorJL26
import Derived.Lib.ItoaNum
namespace Go.Proofs.YtiijgghholhcnaaGreatDoor.Re.Usc

theorem sfdmin_is (m : Nat) (e : Int) : sfdmin m e = (sfu m e (sfmin m e) + sfodd m e + 3) / 4 := by rw [sfdmin.eq_1]
theorem sfdmax_is (m : Nat) (e : Int) : sfdmax m e = (sfu m e (sfmax m e) - sfodd m e) / 4 := by rw [sfdmax.eq_1]
theorem dmin_u {b : Nat} (H : Parts b) : sfdmin (mB b) (eB b) = (unr (sfmin (mB b) (eB b) * PB b) (QB b) + b % 2 + 3) / 4 := by rw [sfdmin_is, sfodd_eq H, (nrm b H).xmin]
theorem dmax_u {b : Nat} (H : Parts b) : sfdmax (mB b) (eB b) = (unr (sfmax (mB b) (eB b) * PB b) (QB b) - b % 2) / 4 := by rw [sfdmax_is, sfodd_eq H, (nrm b H).xmax]
theorem join_min {D u r k x y : Nat} (h : D = (u + r + 3) / 4) (h3 : (u + 3) / 4 ≤ k ↔ x ≤ y) (h4 : (u + 1 + 3) / 4 ≤ k ↔ x < y) (hr : r = 0 ∨ r = 1) : D ≤ k ↔ if r = 0 then x ≤ y else x < y := by
  rw [h]
  rcases hr with e | e <;> subst e
  · rw [if_pos rfl]; exact h3
  · rw [if_neg (by decide)]; exact h4
theorem join_max {D u r k x y : Nat} (h : D = (u - r) / 4) (h3 : k ≤ u / 4 ↔ y ≤ x) (h4 : k ≤ (u - 1) / 4 ↔ y < x) (hr : r = 0 ∨ r = 1) : k ≤ D ↔ if r = 0 then y ≤ x else y < x := by
  rw [h]
  rcases hr with e | e <;> subst e
  · rw [if_pos rfl]; exact h3
  · rw [if_neg (by decide)]; exact h4
theorem dmin_iff {b : Nat} (H : Parts b) (k : Nat) : sfdmin (mB b) (eB b) ≤ k ↔ if b % 2 = 0 then sfmin (mB b) (eB b) * PB b ≤ 4 * k * QB b else sfmin (mB b) (eB b) * PB b < 4 * k * QB b :=
  join_min (dmin_u H) (ceil0 _ _ k (QB_pos b)) (ceil1 _ _ k (QB_pos b)) (Nat.mod_two_eq_zero_or_one b)
theorem sfmin_pos {b : Nat} (H : Parts b) : 0 < sfmin (mB b) (eB b) := by
  obtain ⟨b1, b2, z1, z2⟩ := mB_bounds H
  have hz := half2 H
  have h : 2 ^ (zB b - 1) ≤ 2 ^ 62 := Nat.pow_le_pow_right (by decide) (by omega)
  rw [show (2 : Nat) ^ 62 = 4611686018427387904 by decide] at h
  unfold sfmin
  rw [sfz_eB H]
  split <;> omega
theorem sfmax_pos {b : Nat} (H : Parts b) : 0 < sfmax (mB b) (eB b) := by
  have := (mB_bounds H).1
  exact Nat.lt_of_lt_of_le (by omega) (Nat.le_add_right _ _)
theorem sfmax_lt {b : Nat} (H : Parts b) : sfmax (mB b) (eB b) < 18446744073709551616 := by
  obtain ⟨b1, b2, z1, z2⟩ := mB_bounds H
  have hz := half2 H
  have hh : 0 < 2 ^ (zB b - 1) := Nat.two_pow_pos _
  unfold sfmax
  rw [sfz_eB H]; omega
theorem sfmin_le {b : Nat} (_H : Parts b) : sfmin (mB b) (eB b) ≤ mB b := by unfold sfmin; split <;> exact Nat.sub_le _ _
theorem dmax_iff {b : Nat} (H : Parts b) (k : Nat) : k ≤ sfdmax (mB b) (eB b) ↔ if b % 2 = 0 then 4 * k * QB b ≤ sfmax (mB b) (eB b) * PB b else 4 * k * QB b < sfmax (mB b) (eB b) * PB b :=
  join_max (dmax_u H) (floor0 _ _ k (QB_pos b)) (floor1 _ _ k (QB_pos b) (Nat.mul_pos (sfmax_pos H) (PB_pos b))) (Nat.mod_two_eq_zero_or_one b)
theorem unr_bound {b x : Nat} (H : Parts b) (hx : x ≤ sfmax (mB b) (eB b)) : unr (x * PB b) (QB b) ≤ 400000000000000003 := by
  have hb := (nrm b H).bound
  have h1 : x * PB b ≤ sfmax (mB b) (eB b) * PB b := Nat.mul_le_mul_right _ hx
  have h2 := (floor0 (x * PB b) (QB b) 100000000000000001 (QB_pos b)).1
  have h3 := QB_pos b
  rcases Nat.lt_or_ge 400000000000000003 (unr (x * PB b) (QB b)) with g | g
  · have := h2 (by omega); omega
  · exact g
theorem sfok {b : Nat} (H : Parts b) : SfOk (mB b) (eB b) := by
  obtain ⟨b1, b2, z1, z2⟩ := mB_bounds H
  have E := nrm b H
  have r := eB_range H
  have hle : mB b ≤ sfmax (mB b) (eB b) := Nat.le_add_right _ _
  have q1 := unr_bound H (x := sfmin (mB b) (eB b)) (Nat.le_trans (sfmin_le H) hle)
  have q2 := unr_bound H (x := sfmax (mB b) (eB b)) (Nat.le_refl _)
  have q3 := unr_bound H (x := mB b) hle
  have p1 := unr_pos (sfmin (mB b) (eB b) * PB b) (QB b) (QB_pos b) (Nat.mul_pos (sfmin_pos H) (PB_pos b))
  have p2 := unr_pos (sfmax (mB b) (eB b) * PB b) (QB b) (QB_pos b) (Nat.mul_pos (sfmax_pos H) (PB_pos b))
  refine ⟨b1, sfmax_lt H, by omega, by rw [sfz_eB H]; exact z2, E.p0, E.s0, ?_, ?_, ?_⟩
  · rw [E.xmin]; omega
  · rw [E.xmax]; omega
  · rw [E.xm]; omega
/-- the decimals at the row's scale that read back are those between both ends -/
theorem rd_iff {b : Nat} (H : Parts b) (k : Nat) : Rd b k (-sfp (mB b) (eB b)) ↔ sfdmin (mB b) (eB b) ≤ k ∧ k ≤ sfdmax (mB b) (eB b) := by
  have E := nrm b H
  have hp : powOf (iB b) = sfp (mB b) (eB b) := by have := E.p0; unfold powOf iB; omega
  have hl : lpOf (iB b) = sfp (mB b) (eB b) * 108853 / 32768 := by
    unfold lpOf; rw [hp]; exact Int.shiftRight_eq_div_pow _ _
  have he : -eB b = sB b + lpOf (iB b) + 3 := by
    rw [hl]
    have := E.s0.1
    have es : ((sB b : Nat) : Int) = sfs (mB b) (eB b) := by unfold sB; omega
    rw [es]; unfold sfs; omega
  obtain ⟨a1, a2⟩ := row_le (k := k) he (min_mid H)
  obtain ⟨c1, c2⟩ := row_le (k := k) he (max_mid H)
  rw [dmin_iff H, dmax_iff H]
  unfold Rd
  rw [Int.neg_neg, ← hp]
  have hQ : QB b = denOf (iB b) * (2 ^ sB b * 340282366920938463463374607431768211456) := rfl
  have hP : PB b = numOf (iB b) := rfl
  rw [← hQ, ← hP] at a1 a2 c1 c2
  rcases Nat.mod_two_eq_zero_or_one b with e | e
  · rw [e, if_pos rfl, if_pos rfl, if_pos rfl, a2, c1]
  · rw [e, if_neg (by decide), if_neg (by decide), if_neg (by decide)]
    rw [← Nat.not_le, ← Nat.not_le, ← Nat.not_le, ← Nat.not_le, a1, c2]
/-- one unit wide: at the exponent -11 -/
theorem at11 {b : Nat} (H : Parts b) (hs : sfskew (mB b) (eB b) = false) (he : eB b = -11) : sfdmin (mB b) (eB b) = mantB b ∧ sfdmax (mB b) (eB b) = mantB b := by
  have hz : zB b = 11 := by
    have := H.e1; obtain ⟨_, _, z1, z2⟩ := mB_bounds H
    rcases Nat.lt_or_ge b 4503599627370496 with h | h
    · obtain ⟨_, q2, q3⟩ := H.sub h
      unfold eB at he; omega
    · obtain ⟨_, q2⟩ := H.nrm h
      unfold zB; omega
  have hsz : sfz (eB b) = 11 := by rw [sfz_eB H, hz]
  have hp : sfp (mB b) (eB b) = 0 := by unfold sfp; rw [hs, hsz, he]; rfl
  have hi : iB b = 348 := by unfold iB; rw [hp]; rfl
  have hss : sB b = 8 := by unfold sB sfs; rw [hp, he]; rfl
  have hP : PB b = 170141183460469231731687303715884105728 := by unfold PB; rw [hi]; decide +kernel
  have hQ : QB b = 87112285931760246646623899502532662132736 := by unfold QB; rw [hi, hss]; decide +kernel
  have hmin := sfmin_eq H hs
  have hmax := sfmax_eq H
  rw [hz, show (2 : Nat) ^ (11 - 1) = 1024 by decide] at hmin hmax
  have m1 := H.m1
  have d1 := fun k => dmin_iff H k
  have d2 := fun k => dmax_iff H k
  rw [hmin, hP, hQ] at d1
  rw [hmax, hP, hQ] at d2
  generalize sfdmin (mB b) (eB b) = dm at *
  generalize sfdmax (mB b) (eB b) = dx at *
  have a1 := d1 (mantB b); have a2 := d1 (mantB b - 1)
  have c1 := d2 (mantB b); have c2 := d2 (mantB b + 1)
  generalize mantB b = m at *
  by_cases hb : b % 2 = 0
  · rw [if_pos hb] at a1 a2 c1 c2
    omega
  · rw [if_neg hb] at a1 a2 c1 c2
    omega
end Go.Proofs.YtiijgghholhcnaaGreatDoor.Re.Usc

/- What shortFloat tells reads back as the float it was told of, and has at most 17 digits. Plain arithmetic. -/
namespace Go.Proofs.YtiijgghholhcnaaGreatDoor.Re.Usc

theorem sfd_is (m : Nat) (e : Int) : sfd m e = if sfdmax m e / 10 * 10 ≥ sfdmin m e then sfdmax m e / 10
  else if sfdmin m e < sfdmax m e then (sfu m e m + 1 + sfu m e m / 4 % 2) / 4 else sfdmin m e := by rw [sfd.eq_1]
theorem sfq_is (m : Nat) (e : Int) : sfq m e = if sfdmax m e / 10 * 10 ≥ sfdmin m e then -(sfp m e - 1) else -(sfp m e) := by rw [sfq.eq_1]
theorem dmin_pos {b : Nat} (H : Parts b) : 1 ≤ sfdmin (mB b) (eB b) := by
  have h := dmin_iff H 0
  have hp : 0 < sfmin (mB b) (eB b) * PB b := Nat.mul_pos (sfmin_pos H) (PB_pos b)
  rw [Nat.mul_zero, Nat.zero_mul] at h
  generalize sfmin (mB b) (eB b) * PB b = x at *
  generalize sfdmin (mB b) (eB b) = d at *
  rcases Nat.eq_zero_or_pos d with e | e
  · exfalso
    have h1 := h.1 (by omega)
    split at h1 <;> omega
  · exact e
theorem dmax_lt {b : Nat} (H : Parts b) : sfdmax (mB b) (eB b) < 100000000000000000 := by
  have h := (dmax_iff H (sfdmax (mB b) (eB b))).1 (Nat.le_refl _)
  have hb := (nrm b H).bound
  have hQ := QB_pos b
  generalize sfmax (mB b) (eB b) * PB b = x at *
  generalize sfdmax (mB b) (eB b) = d at *
  generalize QB b = q at *
  have h2 : 4 * d * q ≤ x := by split at h <;> omega
  have h3 : 4 * d * q < (4 * 100000000000000000) * q := by omega
  have := Nat.lt_of_mul_lt_mul_right h3
  omega
/-- an interval wider than one unit -/
theorem wide_core {Q P mn mx m h dm dx : Nat} {even : Prop} [Decidable even] (e1 : mx = m + h) (e2 : mn + h = m) (hw : 4 * Q < 2 * h * P)
    (d1 : ∀ k, dm ≤ k ↔ if even then mn * P ≤ 4 * k * Q else mn * P < 4 * k * Q) (d2 : ∀ k, k ≤ dx ↔ if even then 4 * k * Q ≤ mx * P else 4 * k * Q < mx * P) :
    dm ≤ dx ∧ ∀ r, 4 * r * Q ≤ m * P + 2 * Q → m * P ≤ 4 * r * Q + 2 * Q → dm ≤ r ∧ r ≤ dx := by
  have f1 : mx * P = m * P + h * P := by rw [e1, Nat.add_mul]
  have f2 : mn * P + h * P = m * P := by rw [← e2, Nat.add_mul]
  have f3 : 2 * h * P = h * P + h * P := by rw [Nat.mul_assoc, Nat.two_mul]
  constructor
  · have a := d1 dx
    have c := d2 (dx + 1)
    have f4 : 4 * (dx + 1) * Q = 4 * dx * Q + 4 * Q := by rw [Nat.mul_add, Nat.add_mul]
    rw [f4] at c
    generalize 4 * dx * Q = y at *
    generalize mx * P = X at *
    generalize mn * P = N at *
    generalize h * P = K at *
    by_cases hb : even
    · rw [if_pos hb] at a c; omega
    · rw [if_neg hb] at a c; omega
  · intro r r1 r2
    have a := d1 r
    have c := d2 r
    generalize 4 * r * Q = y at *
    generalize mx * P = X at *
    generalize mn * P = N at *
    generalize h * P = K at *
    by_cases hb : even
    · rw [if_pos hb] at a c; omega
    · rw [if_neg hb] at a c; omega
theorem max_is {b : Nat} (H : Parts b) : sfmax (mB b) (eB b) = mB b + 2 ^ (zB b - 1) := by rw [sfmax.eq_1, sfz_eB H]
theorem min_is {b : Nat} (H : Parts b) (hs : sfskew (mB b) (eB b) = false) : sfmin (mB b) (eB b) + 2 ^ (zB b - 1) = mB b := by
  obtain ⟨b1, b2, z1, z2⟩ := mB_bounds H
  have hz := half2 H
  have h : 2 ^ (zB b - 1) ≤ 2 ^ 62 := Nat.pow_le_pow_right (by decide) (by omega)
  rw [show (2 : Nat) ^ 62 = 4611686018427387904 by decide] at h
  rw [sfmin.eq_1, sfz_eB H, hs, if_neg (by decide)]
  omega
/-- the rounded middle -/
def mdl (b : Nat) : Nat := (unr (mB b * PB b) (QB b) + 1 + unr (mB b * PB b) (QB b) / 4 % 2) / 4
theorem mdl_near (b : Nat) : 4 * mdl b * QB b ≤ mB b * PB b + 2 * QB b ∧ mB b * PB b ≤ 4 * mdl b * QB b + 2 * QB b := by
  obtain ⟨h1, h2, _, _⟩ := round0 (mB b * PB b) (QB b) (QB_pos b) (mdl b) rfl
  exact ⟨h1, h2⟩
theorem sfd_mdl {b : Nat} (H : Parts b) : sfd (mB b) (eB b) = if sfdmax (mB b) (eB b) / 10 * 10 ≥ sfdmin (mB b) (eB b) then sfdmax (mB b) (eB b) / 10
  else if sfdmin (mB b) (eB b) < sfdmax (mB b) (eB b) then mdl b else sfdmin (mB b) (eB b) := by
  rw [sfd_is, (nrm b H).xm, ← mdl.eq_1]
/-- where it is not the shorter one, it lies between both ends -/
theorem between {b : Nat} (H : Parts b) (hn : ¬ sfdmax (mB b) (eB b) / 10 * 10 ≥ sfdmin (mB b) (eB b)) : sfdmin (mB b) (eB b) ≤ sfd (mB b) (eB b) ∧ sfd (mB b) (eB b) ≤ sfdmax (mB b) (eB b) := by
  cases hs : sfskew (mB b) (eB b) with
  | true =>
    rw [skew_eq H] at hs
    have hs' := of_decide_eq_true hs
    have h2 : exB b ≤ 2046 := H.e2
    have ex : exB b = b / 4503599627370496 := by unfold exB; rw [if_neg (by omega)]
    have h := List.all_eq_true.1 skew_all (b / 4503599627370496 - 1) (List.mem_range.2 (by omega))
    rw [show (b / 4503599627370496 - 1 + 1) * 4503599627370496 = b by omega, midOk.eq_1] at h
    simp only [if_neg hn, Bool.and_eq_true, decide_eq_true_eq] at h
    exact h
  | false =>
    have A := plain_of H hs
    rw [sfd_mdl H, if_neg hn]
    rcases A.one with e | e
    · obtain ⟨q1, q2⟩ := at11 H hs e
      rw [q1, q2, if_neg (by omega)]
      exact ⟨Nat.le_refl _, Nat.le_refl _⟩
    · have hw := wide_core (max_is H) (min_is H hs) (by rw [half2 H] at e; exact e) (dmin_iff H) (dmax_iff H)
      split
      · exact hw.2 _ (mdl_near b).1 (mdl_near b).2
      · exact ⟨Nat.le_refl _, hw.1⟩
theorem short {b : Nat} (H : Parts b) : 1 ≤ sfd (mB b) (eB b) ∧ sfd (mB b) (eB b) < 100000000000000000 ∧ Rd b (sfd (mB b) (eB b)) (sfq (mB b) (eB b)) := by
  have h1 := dmin_pos H
  have h2 := dmax_lt H
  by_cases hn : sfdmax (mB b) (eB b) / 10 * 10 ≥ sfdmin (mB b) (eB b)
  · have hd : sfd (mB b) (eB b) = sfdmax (mB b) (eB b) / 10 := by rw [sfd_is, if_pos hn]
    have hq : sfq (mB b) (eB b) = -sfp (mB b) (eB b) + 1 := by rw [sfq_is, if_pos hn]; omega
    rw [hd, hq, ← Rd.ten, rd_iff H]
    generalize sfdmax (mB b) (eB b) = dx at *
    generalize sfdmin (mB b) (eB b) = dm at *
    omega
  · have hb := between H hn
    have hq : sfq (mB b) (eB b) = -sfp (mB b) (eB b) := by rw [sfq_is, if_neg hn]
    rw [hq, rd_iff H]
    generalize sfdmax (mB b) (eB b) = dx at *
    generalize sfdmin (mB b) (eB b) = dm at *
    omega
end Go.Proofs.YtiijgghholhcnaaGreatDoor.Re.Usc

/- Digits: how many, with noughts behind; what is printed of a float above 0. Plain. -/
namespace Go.Proofs.YtiijgghholhcnaaGreatDoor.Re.Usc
open Go.Lib

theorem pow_le_nDigits (u : Nat) (h : 1 ≤ u) : 10 ^ (nDigits u - 1) ≤ u := by
  induction u using Nat.strongRecOn with
  | _ u ih =>
    by_cases h10 : u < 10
    · rw [nDigits_small h10]; simpa using h
    · rw [nDigits_big h10]
      have h1 := ih (u / 10) (by omega) (by omega)
      have h2 := nDigits_pos (u / 10)
      have h3 : 10 ^ (nDigits (u / 10) + 1 - 1) = 10 ^ (nDigits (u / 10) - 1) * 10 := by rw [← Nat.pow_succ]; congr 1; omega
      rw [h3]
      generalize 10 ^ (nDigits (u / 10) - 1) = P at *
      omega
theorem nDig_le {D : Nat} (h1 : 1 ≤ D) (h2 : D < 100000000000000000) : nDigits D ≤ 17 := by
  rcases Nat.lt_or_ge 17 (nDigits D) with g | g
  · have h3 := pow_le_nDigits D h1
    have h4 : (10 : Nat) ^ 17 ≤ 10 ^ (nDigits D - 1) := Nat.pow_le_pow_right (by decide) (by omega)
    rw [show (10 : Nat) ^ 17 = 100000000000000000 by decide] at h4
    omega
  · exact g
theorem nDigits_pow (k c : Nat) (h : 1 ≤ c) : nDigits (10 ^ k * c) = nDigits c + k := by
  induction k with
  | zero => simp
  | succ k ih =>
    have hp : 0 < 10 ^ k := Nat.pow_pos (by decide)
    have h1 : 0 < 10 ^ k * c := Nat.mul_pos hp h
    have e : 10 ^ (k + 1) * c = 10 * (10 ^ k * c) := by rw [Nat.pow_succ, Nat.mul_comm (10 ^ k) 10, Nat.mul_assoc]
    rw [e, nDigits_big (by omega), Nat.mul_div_cancel_left _ (by decide), ih]; rfl
theorem dg_pow (k c j : Nat) : dg (10 ^ k * c) (j + k) = dg c j := by
  unfold dg
  rw [Nat.pow_add, Nat.mul_comm (10 ^ j), ← Nat.div_div_eq_div_mul, Nat.mul_div_cancel_left _ (Nat.pow_pos (by decide))]
/-- the places of the digits, as they lie ahead of the noughts -/
theorem dg_at (k c t : Nat) (hc : 1 ≤ c) (ht : t < nDigits c) : (decDigits c)[t]? = some (dg (10 ^ k * c) (nDigits (10 ^ k * c) - 1 - t)) := by
  rw [decDigits_eq, nDigits_pow k c hc, List.getElem?_map, List.getElem?_range ht, show nDigits c + k - 1 - t = (nDigits c - 1 - t) + k by omega, dg_pow]
  rfl
/-- c 10^s is what is printed of the float b: no nought last -/
def Sh (b c : Nat) (s : Int) : Prop := ∃ k : Nat, 10 ^ k * c = sfd (mB b) (eB b) ∧ s = sfq (mB b) (eB b) + k ∧ c % 10 ≠ 0
theorem pow10_split {k k' c c' : Nat} (h : 10 ^ k * c = 10 ^ k' * c') (hc : c % 10 ≠ 0) (hc' : c' % 10 ≠ 0) : k = k' ∧ c = c' := by
  rcases Nat.lt_trichotomy k k' with g | g | g
  · exfalso
    rw [show k' = k + (k' - k - 1) + 1 by omega, Nat.pow_succ, Nat.pow_add, Nat.mul_assoc, Nat.mul_assoc] at h
    have := Nat.eq_of_mul_eq_mul_left (Nat.pow_pos (by decide)) h
    rw [this, Nat.mul_left_comm, Nat.mul_mod_right] at hc
    exact hc rfl
  · subst g
    exact ⟨rfl, Nat.eq_of_mul_eq_mul_left (Nat.pow_pos (by decide)) h⟩
  · exfalso
    rw [show k = k' + (k - k' - 1) + 1 by omega, Nat.pow_succ, Nat.pow_add, Nat.mul_assoc, Nat.mul_assoc] at h
    have := Nat.eq_of_mul_eq_mul_left (Nat.pow_pos (by decide)) h.symm
    rw [this, Nat.mul_left_comm, Nat.mul_mod_right] at hc'
    exact hc' rfl
theorem Sh.unique {b c c' : Nat} {s s' : Int} (h : Sh b c s) (h' : Sh b c' s') : c = c' ∧ s = s' := by
  obtain ⟨k, e1, e2, e3⟩ := h
  obtain ⟨k', f1, f2, f3⟩ := h'
  obtain ⟨rfl, rfl⟩ := pow10_split (e1.trans f1.symm) e3 f3
  exact ⟨rfl, e2.trans f2.symm⟩
theorem Sh.rd {b c : Nat} {s : Int} (H : Parts b) (h : Sh b c s) : Rd b c s := by
  obtain ⟨k, e1, e2, e3⟩ := h
  have := (short H).2.2
  rw [← e1, Rd.tens] at this
  rw [e2]; exact this
theorem sfq_bound {b : Nat} (H : Parts b) : -400 ≤ sfq (mB b) (eB b) ∧ sfq (mB b) (eB b) ≤ 400 := by
  have h := (nrm b H).p0
  rw [sfq_is]
  split <;> omega
structure Shb (c : Nat) (s : Int) : Prop where
  c0 : 1 ≤ c
  c1 : c < 100000000000000000
  n0 : 1 ≤ nDigits c
  n1 : nDigits c ≤ 17
  s0 : -400 ≤ s
  s1 : s ≤ 417
theorem Sh.bounds {b c : Nat} {s : Int} (H : Parts b) (h : Sh b c s) : Shb c s := by
  obtain ⟨k, e1, e2, e3⟩ := h
  obtain ⟨g1, g2, _⟩ := short H
  have g3 := sfq_bound H
  rw [← e1] at g1 g2
  have hp : 1 ≤ 10 ^ k := Nat.pow_pos (by decide)
  have hc0 : 1 ≤ c := by omega
  have hc1 : c ≤ 10 ^ k * c := Nat.le_mul_of_pos_left _ hp
  have hn := nDig_le g1 g2
  rw [nDigits_pow k c hc0] at hn
  have hn0 := nDigits_pos c
  exact ⟨hc0, by omega, hn0, by omega, by omega, by omega⟩
end Go.Proofs.YtiijgghholhcnaaGreatDoor.Re.Usc
