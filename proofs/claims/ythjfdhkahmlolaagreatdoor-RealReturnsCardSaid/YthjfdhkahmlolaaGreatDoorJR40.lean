/- A number that is rounded to the nearest float reads back as it. Plain. -/
import Derived.Test.YthjfdhkahmlolaaGreatDoorJR20
import Derived.Test.YthjfdhkahmlolaaGreatDoorJR35
namespace Go.Proofs.YthjfdhkahmlolaaGreatDoor.Usc
/-- N/D, in units of 2^-1075, lies nearest to the float b -/
def Near (b N D : Nat) : Prop := if b % 2 = 0 then mid (b - 1) * D ≤ N ∧ N ≤ mid b * D else mid (b - 1) * D < N ∧ N < mid b * D
theorem rd_near (b c : Nat) (s : Int) : Rd b c s ↔ Near b (c * 10 ^ s.toNat * big) (10 ^ (-s).toNat) := Iff.rfl
theorem near_scale {b N D k : Nat} (hk : 0 < k) : Near b (N * k) (D * k) ↔ Near b N D := by
  unfold Near
  rw [← Nat.mul_assoc, ← Nat.mul_assoc]
  have h1 : ∀ x y : Nat, x * k ≤ y * k ↔ x ≤ y := fun x y => Nat.mul_le_mul_right_iff hk
  have h2 : ∀ x y : Nat, x * k < y * k ↔ x < y := fun x y => Nat.mul_lt_mul_right hk
  rw [h1, h1, h2, h2]
theorem near_cross {b N D N' D' : Nat} (hD : 0 < D) (hD' : 0 < D') (h : N * D' = N' * D) : Near b N D ↔ Near b N' D' := by
  rw [← near_scale (b := b) (N := N) (D := D) hD', ← near_scale (b := b) (N := N') (D := D') hD, h, Nat.mul_comm D D']
theorem mid_at {K t : Nat} (ht : t < 9007199254740992) (hK : 4503599627370496 ≤ t ∨ K = 0) : mid (K * 4503599627370496 + t) = (2 * t + 1) * 2 ^ K := by
  unfold mid mantB exB
  rcases Nat.lt_or_ge t 4503599627370496 with h | h
  · have hk : K = 0 := by omega
    subst hk
    rw [if_pos (by omega), if_pos (by omega)]
    congr 2; omega
  · rw [if_neg (by omega), if_neg (by omega)]
    have e1 : (K * 4503599627370496 + t) / 4503599627370496 = K + 1 := by omega
    have e2 : (K * 4503599627370496 + t) % 4503599627370496 + 4503599627370496 = t := by omega
    rw [e1, e2]; rfl
/-- rounded to t units of 2^(K-1074) -/
theorem near_of_round {K t N D : Nat} (ht1 : 1 ≤ t) (ht2 : t ≤ 9007199254740992) (hK : 4503599627370496 ≤ t ∨ K = 0)
    (h1 : (2 * t - 1) * 2 ^ K * D ≤ N) (h2 : N ≤ (2 * t + 1) * 2 ^ K * D) (h3 : (2 * t - 1) * 2 ^ K * D = N → t % 2 = 0) (h4 : N = (2 * t + 1) * 2 ^ K * D → t % 2 = 0)
    (h5 : t = 4503599627370496 → 0 < K → (4 * t - 1) * 2 ^ (K - 1) * D ≤ N) : Near (K * 4503599627370496 + t) N D := by
  have hU : (2 * t + 1) * 2 ^ K ≤ mid (K * 4503599627370496 + t) := by
    rcases Nat.lt_or_ge t 9007199254740992 with h | h
    · rw [mid_at h hK]; exact Nat.le_refl _
    · have e : t = 9007199254740992 := by omega
      subst e
      have : K * 4503599627370496 + 9007199254740992 = (K + 1) * 4503599627370496 + 4503599627370496 := by omega
      rw [this, mid_at (by decide) (.inl (by decide)), Nat.pow_succ]
      generalize 2 ^ K = P
      omega
  have hL : mid (K * 4503599627370496 + t - 1) * D ≤ N ∧ (mid (K * 4503599627370496 + t - 1) * D = N → t % 2 = 0) := by
    by_cases hc : t = 4503599627370496 ∧ 0 < K
    · obtain ⟨e, hp⟩ := hc
      have h6 := h5 e hp
      subst e
      have : K * 4503599627370496 + 4503599627370496 - 1 = (K - 1) * 4503599627370496 + 9007199254740991 := by omega
      rw [this, mid_at (by decide) (.inl (by decide))]
      exact ⟨h6, fun _ => by decide⟩
    · have e : mid (K * 4503599627370496 + t - 1) = (2 * t - 1) * 2 ^ K := by
        have : K * 4503599627370496 + t - 1 = K * 4503599627370496 + (t - 1) := by omega
        rw [this, mid_at (by omega) (by omega)]
        congr 1; omega
      rw [e]; exact ⟨h1, h3⟩
  have hU2 : (2 * t + 1) * 2 ^ K * D ≤ mid (K * 4503599627370496 + t) * D := Nat.mul_le_mul_right _ hU
  have hpar : (K * 4503599627370496 + t) % 2 = t % 2 := by omega
  unfold Near
  rw [hpar]
  by_cases hp : t % 2 = 0
  · rw [if_pos hp]; exact ⟨hL.1, by omega⟩
  · rw [if_neg hp]
    refine ⟨Nat.lt_of_le_of_ne hL.1 (fun e => hp (hL.2 e)), ?_⟩
    have : N ≠ (2 * t + 1) * 2 ^ K * D := fun e => hp (h4 e)
    omega
/-- what reads back as two floats: they are one -/
theorem Near.uniq_lt {b b' N D : Nat} (hD : 0 < D) (hlt : b < b') (h : Near b N D) (h' : Near b' N D) : False := by
  have le : ∀ {b}, Near b N D → mid (b - 1) * D ≤ N ∧ N ≤ mid b * D := fun h => by
    unfold Near at h
    split at h
    · exact h
    · exact ⟨Nat.le_of_lt h.1, Nat.le_of_lt h.2⟩
  have h1 := (le h).2
  have h2 := (le h').1
  rcases Nat.lt_or_ge (b + 1) b' with q | q
  · have h3 := mid_lt (show b < b' - 1 by omega)
    have h4 := Nat.mul_lt_mul_of_pos_right h3 hD
    omega
  · have e : b' = b + 1 := by omega
    subst e
    rw [Nat.add_sub_cancel] at h2
    unfold Near at h h'
    rw [Nat.add_sub_cancel] at h'
    by_cases hp : b % 2 = 0
    · rw [if_neg (by omega)] at h'
      have := h'.1
      omega
    · rw [if_neg hp] at h
      have := h.2
      omega
theorem Near.uniq {b b' N D : Nat} (hD : 0 < D) (h : Near b N D) (h' : Near b' N D) : b = b' := by
  rcases Nat.lt_trichotomy b b' with q | q | q
  · exact (Near.uniq_lt hD q h h').elim
  · exact q
  · exact (Near.uniq_lt hD q h' h).elim
end Go.Proofs.YthjfdhkahmlolaaGreatDoor.Usc

/- The model's rounding of a whole number times a power of two: what it tells reads back. Plain. -/
namespace Go.Proofs.YthjfdhkahmlolaaGreatDoor.Usc
open Pq.Flt
theorem rne_bounds (n d : Nat) : 2 * rne n d * 2 ^ d ≤ 2 * n + 2 ^ d ∧ 2 * n ≤ 2 * rne n d * 2 ^ d + 2 ^ d ∧ (2 * rne n d * 2 ^ d = 2 * n + 2 ^ d → rne n d % 2 = 0) ∧ (2 * n = 2 * rne n d * 2 ^ d + 2 ^ d → rne n d % 2 = 0) ∧ n / 2 ^ d ≤ rne n d ∧ rne n d ≤ n / 2 ^ d + 1 := by
  unfold rne
  have hp := Nat.two_pow_pos d
  generalize 2 ^ d = P at *
  have h := Nat.div_add_mod n P
  have hl := Nat.mod_lt n hp
  rw [Nat.mul_comm] at h
  generalize n / P = A at *
  generalize n % P = R at *
  have e0 : 2 * A * P = 2 * (A * P) := Nat.mul_assoc ..
  have e1 : 2 * (A + 1) * P = 2 * (A * P) + 2 * P := by rw [Nat.mul_assoc, Nat.add_mul, Nat.one_mul, Nat.mul_add]
  split
  · rw [e1]
    generalize A * P = X at *
    omega
  · rw [Nat.add_zero, e0]
    generalize A * P = X at *
    omega
theorem rung_near (M : Nat) (q : Int) (hM : 0 < M) (hr : 1 ≤ rung M q) (hi : rung M q < 9218868437227405312) : Near (rung M q) (M * 2 ^ (q + 1075).toNat) (2 ^ (-(q + 1075)).toNat) := by
  have h0 : M ≠ 0 := by omega
  have g1 := Nat.log2_self_le h0
  have g2 := @Nat.lt_log2_self M
  unfold rung at hr hi ⊢
  rw [if_neg h0] at hr hi ⊢
  simp only at hr hi ⊢
  generalize hl : max (q + (M.log2 : Int) - 52) (-1074) = last at *
  rw [Nat.min_def] at hr hi ⊢
  split at hi
  case isFalse => omega
  next hle =>
  rw [if_pos hle] at hr ⊢
  clear hle
  obtain ⟨b1, b2, b3, b4, b5, b6⟩ := rne_bounds (M * 2 ^ (q - last).toNat) (last - q).toNat
  generalize ht : rne (M * 2 ^ (q - last).toNat) (last - q).toNat = t at *
  generalize hK : (last + 1074).toNat = K at *
  have hP := Nat.two_pow_pos (last - q).toNat
  -- the bounds of the whole part
  have u1 : M * 2 ^ (q - last).toNat < 9007199254740992 * 2 ^ (last - q).toNat := by
    have : M * 2 ^ (q - last).toNat < 2 ^ (M.log2 + 1) * 2 ^ (q - last).toNat := Nat.mul_lt_mul_of_pos_right g2 (Nat.two_pow_pos _)
    rw [← Nat.pow_add] at this
    have h2 : 2 ^ (M.log2 + 1 + (q - last).toNat) ≤ 2 ^ (53 + (last - q).toNat) := Nat.pow_le_pow_right (by decide) (by omega)
    rw [Nat.pow_add 2 53, show (2 : Nat) ^ 53 = 9007199254740992 by decide] at h2
    omega
  have u2 : K = 0 ∨ 4503599627370496 * 2 ^ (last - q).toNat ≤ M * 2 ^ (q - last).toNat := by
    rcases Nat.eq_zero_or_pos K with e | e
    · exact .inl e
    · right
      have : 2 ^ M.log2 * 2 ^ (q - last).toNat ≤ M * 2 ^ (q - last).toNat := Nat.mul_le_mul_right _ g1
      rw [← Nat.pow_add] at this
      have h2 : 2 ^ (52 + (last - q).toNat) ≤ 2 ^ (M.log2 + (q - last).toNat) := Nat.pow_le_pow_right (by decide) (by omega)
      rw [Nat.pow_add, show (2 : Nat) ^ 52 = 4503599627370496 by decide] at h2
      omega
  have u3 : t ≤ 9007199254740992 := by
    have : M * 2 ^ (q - last).toNat / 2 ^ (last - q).toNat < 9007199254740992 := (Nat.div_lt_iff_lt_mul hP).2 u1
    omega
  have u4 : 4503599627370496 ≤ t ∨ K = 0 := by
    rcases u2 with e | e
    · exact .inr e
    · left
      have := (Nat.le_div_iff_mul_le hP).2 e
      omega
  -- both sides at one scale
  have hs : M * 2 ^ (q + 1075).toNat * 2 ^ (last - q).toNat = M * 2 ^ (q - last).toNat * 2 ^ (K + 1) * 2 ^ (-(q + 1075)).toNat := by
    rw [Nat.mul_assoc M, Nat.mul_assoc M, Nat.mul_assoc M, ← Nat.pow_add, ← Nat.pow_add, ← Nat.pow_add]
    congr 2
    omega
  generalize M * 2 ^ (q - last).toNat = n at *
  generalize M * 2 ^ (q + 1075).toNat = N at *
  have hD : 0 < 2 ^ (-(q + 1075)).toNat := Nat.two_pow_pos _
  generalize 2 ^ (-(q + 1075)).toNat = D at *
  rw [Nat.pow_succ] at hs
  have hpK := Nat.two_pow_pos K
  have cv : ∀ X : Nat, X * 2 ^ K * D * 2 ^ (last - q).toNat = X * 2 ^ (last - q).toNat * (2 ^ K * D) := fun X => by
    generalize 2 ^ K = A
    generalize 2 ^ (last - q).toNat = B
    grind
  have hs2 : N * 2 ^ (last - q).toNat = 2 * n * (2 ^ K * D) := by
    rw [hs]
    generalize 2 ^ K = A
    grind
  have e1 : ∀ X : Nat, X * 2 ^ (last - q).toNat ≤ 2 * n → X * 2 ^ K * D ≤ N := fun X h => by
    have := Nat.mul_le_mul_right (2 ^ K * D) h
    rw [← cv, ← hs2] at this
    exact Nat.le_of_mul_le_mul_right this hP
  have e2 : ∀ X : Nat, 2 * n ≤ X * 2 ^ (last - q).toNat → N ≤ X * 2 ^ K * D := fun X h => by
    have := Nat.mul_le_mul_right (2 ^ K * D) h
    rw [← cv, ← hs2] at this
    exact Nat.le_of_mul_le_mul_right this hP
  have e3 : ∀ X : Nat, X * 2 ^ K * D = N → X * 2 ^ (last - q).toNat = 2 * n := fun X h => by
    have : X * 2 ^ (last - q).toNat * (2 ^ K * D) = 2 * n * (2 ^ K * D) := by rw [← cv, ← hs2, h]
    exact Nat.eq_of_mul_eq_mul_right (Nat.mul_pos hpK hD) this
  have x1 : (2 * t - 1) * 2 ^ (last - q).toNat ≤ 2 * n := by rw [Nat.sub_mul]; omega
  have x2 : 2 * n ≤ (2 * t + 1) * 2 ^ (last - q).toNat := by rw [Nat.add_mul]; omega
  have ht1 : 1 ≤ t := by omega
  refine near_of_round ht1 u3 u4 (e1 _ x1) (e2 _ x2) (fun h => b3 ?_) (fun h => b4 ?_) (fun h hk => ?_)
  · have := e3 _ h
    rw [Nat.sub_mul] at this
    have hx : 1 * 2 ^ (last - q).toNat ≤ 2 * t * 2 ^ (last - q).toNat := Nat.mul_le_mul_right _ (by omega)
    omega
  · have := e3 _ h.symm
    rw [Nat.add_mul] at this
    omega
  · rcases u2 with e | e
    · omega
    · have h6 := e1 (2 * t) (by rw [h, Nat.mul_assoc]; exact Nat.mul_le_mul_left 2 e)
      have h7 : 2 ^ K = 2 * 2 ^ (K - 1) := by rw [Nat.mul_comm, ← Nat.pow_succ]; congr 1; omega
      rw [h7, ← Nat.mul_assoc, show 2 * t * 2 = 4 * t by omega] at h6
      refine Nat.le_trans (Nat.mul_le_mul_right _ (Nat.mul_le_mul_right _ (by omega))) h6
end Go.Proofs.YthjfdhkahmlolaaGreatDoor.Usc
