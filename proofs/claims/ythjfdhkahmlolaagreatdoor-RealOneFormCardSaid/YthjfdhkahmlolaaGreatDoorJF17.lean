/- Digits: how many, with noughts behind; what is printed of a float above 0. Plain. -/
import Derived.Test.YthjfdhkahmlolaaGreatDoorJF16
import Derived.Lib.ItoaNum
namespace Go.Proofs.YthjfdhkahmlolaaGreatDoor.Usc
open Go.Lib

theorem pow_le_nDigits (u : Nat) (h : 1 ≤ u) : 10 ^ (nDigits u - 1) ≤ u := by
  induction u using Nat.strongRecOn with
  | _ u ih =>
    by_cases h10 : u < 10
    · rw [nDigits_small h10]; simpa using h
    · rw [nDigits_big h10]
      have h1 := ih (u / 10) (by omega) (by omega)
      have h2 := nDigits_pos (u / 10)
      have h3 : 10 ^ (nDigits (u / 10) + 1 - 1) = 10 ^ (nDigits (u / 10) - 1) * 10 := by rw [← Nat.pow_succ]; congr 1; omega
      rw [h3]
      generalize 10 ^ (nDigits (u / 10) - 1) = P at *
      omega
theorem nDig_le {D : Nat} (h1 : 1 ≤ D) (h2 : D < 100000000000000000) : nDigits D ≤ 17 := by
  rcases Nat.lt_or_ge 17 (nDigits D) with g | g
  · have h3 := pow_le_nDigits D h1
    have h4 : (10 : Nat) ^ 17 ≤ 10 ^ (nDigits D - 1) := Nat.pow_le_pow_right (by decide) (by omega)
    rw [show (10 : Nat) ^ 17 = 100000000000000000 by decide] at h4
    omega
  · exact g
theorem nDigits_pow (k c : Nat) (h : 1 ≤ c) : nDigits (10 ^ k * c) = nDigits c + k := by
  induction k with
  | zero => simp
  | succ k ih =>
    have hp : 0 < 10 ^ k := Nat.pow_pos (by decide)
    have h1 : 0 < 10 ^ k * c := Nat.mul_pos hp h
    have e : 10 ^ (k + 1) * c = 10 * (10 ^ k * c) := by rw [Nat.pow_succ, Nat.mul_comm (10 ^ k) 10, Nat.mul_assoc]
    rw [e, nDigits_big (by omega), Nat.mul_div_cancel_left _ (by decide), ih]; rfl
theorem dg_pow (k c j : Nat) : dg (10 ^ k * c) (j + k) = dg c j := by
  unfold dg
  rw [Nat.pow_add, Nat.mul_comm (10 ^ j), ← Nat.div_div_eq_div_mul, Nat.mul_div_cancel_left _ (Nat.pow_pos (by decide))]
/-- the places of the digits, as they lie ahead of the noughts -/
theorem dg_at (k c t : Nat) (hc : 1 ≤ c) (ht : t < nDigits c) : (decDigits c)[t]? = some (dg (10 ^ k * c) (nDigits (10 ^ k * c) - 1 - t)) := by
  rw [decDigits_eq, nDigits_pow k c hc, List.getElem?_map, List.getElem?_range ht, show nDigits c + k - 1 - t = (nDigits c - 1 - t) + k by omega, dg_pow]
  rfl
/-- c 10^s is what is printed of the float b: no nought last -/
def Sh (b c : Nat) (s : Int) : Prop := ∃ k : Nat, 10 ^ k * c = sfd (mB b) (eB b) ∧ s = sfq (mB b) (eB b) + k ∧ c % 10 ≠ 0
theorem pow10_split {k k' c c' : Nat} (h : 10 ^ k * c = 10 ^ k' * c') (hc : c % 10 ≠ 0) (hc' : c' % 10 ≠ 0) : k = k' ∧ c = c' := by
  rcases Nat.lt_trichotomy k k' with g | g | g
  · exfalso
    rw [show k' = k + (k' - k - 1) + 1 by omega, Nat.pow_succ, Nat.pow_add, Nat.mul_assoc, Nat.mul_assoc] at h
    have := Nat.eq_of_mul_eq_mul_left (Nat.pow_pos (by decide)) h
    rw [this, Nat.mul_left_comm, Nat.mul_mod_right] at hc
    exact hc rfl
  · subst g
    exact ⟨rfl, Nat.eq_of_mul_eq_mul_left (Nat.pow_pos (by decide)) h⟩
  · exfalso
    rw [show k = k' + (k - k' - 1) + 1 by omega, Nat.pow_succ, Nat.pow_add, Nat.mul_assoc, Nat.mul_assoc] at h
    have := Nat.eq_of_mul_eq_mul_left (Nat.pow_pos (by decide)) h.symm
    rw [this, Nat.mul_left_comm, Nat.mul_mod_right] at hc'
    exact hc' rfl
theorem Sh.unique {b c c' : Nat} {s s' : Int} (h : Sh b c s) (h' : Sh b c' s') : c = c' ∧ s = s' := by
  obtain ⟨k, e1, e2, e3⟩ := h
  obtain ⟨k', f1, f2, f3⟩ := h'
  obtain ⟨rfl, rfl⟩ := pow10_split (e1.trans f1.symm) e3 f3
  exact ⟨rfl, e2.trans f2.symm⟩
theorem Sh.rd {b c : Nat} {s : Int} (H : Parts b) (h : Sh b c s) : Rd b c s := by
  obtain ⟨k, e1, e2, e3⟩ := h
  have := (short H).2.2
  rw [← e1, Rd.tens] at this
  rw [e2]; exact this
theorem sfq_bound {b : Nat} (H : Parts b) : -400 ≤ sfq (mB b) (eB b) ∧ sfq (mB b) (eB b) ≤ 400 := by
  have h := (nrm b H).p0
  rw [sfq_is]
  split <;> omega
structure Shb (c : Nat) (s : Int) : Prop where
  c0 : 1 ≤ c
  c1 : c < 100000000000000000
  n0 : 1 ≤ nDigits c
  n1 : nDigits c ≤ 17
  s0 : -400 ≤ s
  s1 : s ≤ 417
theorem Sh.bounds {b c : Nat} {s : Int} (H : Parts b) (h : Sh b c s) : Shb c s := by
  obtain ⟨k, e1, e2, e3⟩ := h
  obtain ⟨g1, g2, _⟩ := short H
  have g3 := sfq_bound H
  rw [← e1] at g1 g2
  have hp : 1 ≤ 10 ^ k := Nat.pow_pos (by decide)
  have hc0 : 1 ≤ c := by omega
  have hc1 : c ≤ 10 ^ k * c := Nat.le_mul_of_pos_left _ hp
  have hn := nDig_le g1 g2
  rw [nDigits_pow k c hc0] at hn
  have hn0 := nDigits_pos c
  exact ⟨hc0, by omega, hn0, by omega, by omega, by omega⟩
end Go.Proofs.YthjfdhkahmlolaaGreatDoor.Usc

/- A number that is rounded to the nearest float reads back as it. Plain. -/
namespace Go.Proofs.YthjfdhkahmlolaaGreatDoor.Usc
/-- N/D, in units of 2^-1075, lies nearest to the float b -/
def Near (b N D : Nat) : Prop := if b % 2 = 0 then mid (b - 1) * D ≤ N ∧ N ≤ mid b * D else mid (b - 1) * D < N ∧ N < mid b * D
theorem rd_near (b c : Nat) (s : Int) : Rd b c s ↔ Near b (c * 10 ^ s.toNat * big) (10 ^ (-s).toNat) := Iff.rfl
theorem near_scale {b N D k : Nat} (hk : 0 < k) : Near b (N * k) (D * k) ↔ Near b N D := by
  unfold Near
  rw [← Nat.mul_assoc, ← Nat.mul_assoc]
  have h1 : ∀ x y : Nat, x * k ≤ y * k ↔ x ≤ y := fun x y => Nat.mul_le_mul_right_iff hk
  have h2 : ∀ x y : Nat, x * k < y * k ↔ x < y := fun x y => Nat.mul_lt_mul_right hk
  rw [h1, h1, h2, h2]
theorem near_cross {b N D N' D' : Nat} (hD : 0 < D) (hD' : 0 < D') (h : N * D' = N' * D) : Near b N D ↔ Near b N' D' := by
  rw [← near_scale (b := b) (N := N) (D := D) hD', ← near_scale (b := b) (N := N') (D := D') hD, h, Nat.mul_comm D D']
theorem mid_at {K t : Nat} (ht : t < 9007199254740992) (hK : 4503599627370496 ≤ t ∨ K = 0) : mid (K * 4503599627370496 + t) = (2 * t + 1) * 2 ^ K := by
  unfold mid mantB exB
  rcases Nat.lt_or_ge t 4503599627370496 with h | h
  · have hk : K = 0 := by omega
    subst hk
    rw [if_pos (by omega), if_pos (by omega)]
    congr 2; omega
  · rw [if_neg (by omega), if_neg (by omega)]
    have e1 : (K * 4503599627370496 + t) / 4503599627370496 = K + 1 := by omega
    have e2 : (K * 4503599627370496 + t) % 4503599627370496 + 4503599627370496 = t := by omega
    rw [e1, e2]; rfl
/-- rounded to t units of 2^(K-1074) -/
theorem near_of_round {K t N D : Nat} (ht1 : 1 ≤ t) (ht2 : t ≤ 9007199254740992) (hK : 4503599627370496 ≤ t ∨ K = 0)
    (h1 : (2 * t - 1) * 2 ^ K * D ≤ N) (h2 : N ≤ (2 * t + 1) * 2 ^ K * D) (h3 : (2 * t - 1) * 2 ^ K * D = N → t % 2 = 0) (h4 : N = (2 * t + 1) * 2 ^ K * D → t % 2 = 0)
    (h5 : t = 4503599627370496 → 0 < K → (4 * t - 1) * 2 ^ (K - 1) * D ≤ N) : Near (K * 4503599627370496 + t) N D := by
  have hU : (2 * t + 1) * 2 ^ K ≤ mid (K * 4503599627370496 + t) := by
    rcases Nat.lt_or_ge t 9007199254740992 with h | h
    · rw [mid_at h hK]; exact Nat.le_refl _
    · have e : t = 9007199254740992 := by omega
      subst e
      have : K * 4503599627370496 + 9007199254740992 = (K + 1) * 4503599627370496 + 4503599627370496 := by omega
      rw [this, mid_at (by decide) (.inl (by decide)), Nat.pow_succ]
      generalize 2 ^ K = P
      omega
  have hL : mid (K * 4503599627370496 + t - 1) * D ≤ N ∧ (mid (K * 4503599627370496 + t - 1) * D = N → t % 2 = 0) := by
    by_cases hc : t = 4503599627370496 ∧ 0 < K
    · obtain ⟨e, hp⟩ := hc
      have h6 := h5 e hp
      subst e
      have : K * 4503599627370496 + 4503599627370496 - 1 = (K - 1) * 4503599627370496 + 9007199254740991 := by omega
      rw [this, mid_at (by decide) (.inl (by decide))]
      exact ⟨h6, fun _ => by decide⟩
    · have e : mid (K * 4503599627370496 + t - 1) = (2 * t - 1) * 2 ^ K := by
        have : K * 4503599627370496 + t - 1 = K * 4503599627370496 + (t - 1) := by omega
        rw [this, mid_at (by omega) (by omega)]
        congr 1; omega
      rw [e]; exact ⟨h1, h3⟩
  have hU2 : (2 * t + 1) * 2 ^ K * D ≤ mid (K * 4503599627370496 + t) * D := Nat.mul_le_mul_right _ hU
  have hpar : (K * 4503599627370496 + t) % 2 = t % 2 := by omega
  unfold Near
  rw [hpar]
  by_cases hp : t % 2 = 0
  · rw [if_pos hp]; exact ⟨hL.1, by omega⟩
  · rw [if_neg hp]
    refine ⟨Nat.lt_of_le_of_ne hL.1 (fun e => hp (hL.2 e)), ?_⟩
    have : N ≠ (2 * t + 1) * 2 ^ K * D := fun e => hp (h4 e)
    omega
/-- what reads back as two floats: they are one -/
theorem Near.uniq_lt {b b' N D : Nat} (hD : 0 < D) (hlt : b < b') (h : Near b N D) (h' : Near b' N D) : False := by
  have le : ∀ {b}, Near b N D → mid (b - 1) * D ≤ N ∧ N ≤ mid b * D := fun h => by
    unfold Near at h
    split at h
    · exact h
    · exact ⟨Nat.le_of_lt h.1, Nat.le_of_lt h.2⟩
  have h1 := (le h).2
  have h2 := (le h').1
  rcases Nat.lt_or_ge (b + 1) b' with q | q
  · have h3 := mid_lt (show b < b' - 1 by omega)
    have h4 := Nat.mul_lt_mul_of_pos_right h3 hD
    omega
  · have e : b' = b + 1 := by omega
    subst e
    rw [Nat.add_sub_cancel] at h2
    unfold Near at h h'
    rw [Nat.add_sub_cancel] at h'
    by_cases hp : b % 2 = 0
    · rw [if_neg (by omega)] at h'
      have := h'.1
      omega
    · rw [if_neg hp] at h
      have := h.2
      omega
theorem Near.uniq {b b' N D : Nat} (hD : 0 < D) (h : Near b N D) (h' : Near b' N D) : b = b' := by
  rcases Nat.lt_trichotomy b b' with q | q | q
  · exact (Near.uniq_lt hD q h h').elim
  · exact q
  · exact (Near.uniq_lt hD q h' h).elim
end Go.Proofs.YthjfdhkahmlolaaGreatDoor.Usc
