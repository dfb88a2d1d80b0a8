/- What parseFloat64 tells reads back. Plain. -/
import Derived.Test.YthjfdhkahmlolaaGreatDoorJF20
import Derived.Test.YthjfdhkahmlolaaGreatDoorJF21
namespace Go.Proofs.YthjfdhkahmlolaaGreatDoor.Usc
theorem unr_half (n d : Nat) (hd : 0 < d) : (unr n d / 2) ||| (unr n d % 2) = unr n (2 * d) := by
  have h := Nat.div_add_mod n d
  have hl := Nat.mod_lt n hd
  have e1 : n / (2 * d) = n / d / 2 := by rw [Nat.mul_comm, Nat.div_div_eq_div_mul]
  have e2 : n % (2 * d) = d * (n / d % 2) + n % d := by rw [Nat.mul_comm 2 d, Nat.mod_mul, Nat.add_comm]
  have e3 : n % (2 * d) = 0 ↔ n / d % 2 = 0 ∧ n % d = 0 := by
    rw [e2]
    constructor
    · intro h
      have h1 : d * (n / d % 2) = 0 := by omega
      rcases Nat.mul_eq_zero.1 h1 with q | q
      · omega
      · exact ⟨q, by omega⟩
    · rintro ⟨a, b⟩
      rw [a, b]; rfl
  have orb : ∀ a b : Nat, b < 2 → a ||| b = if b = 0 then a else 2 * (a / 2) + 1 := fun a b hb => by
    rcases (by omega : b = 0 ∨ b = 1) with q | q
    · subst q; simp
    · subst q; rw [if_neg (by decide)]; exact or_one_eq a
  rw [orb _ _ (Nat.mod_lt _ (by decide)), unr_eq, unr_eq, e1]
  by_cases hr : n % d = 0
  · rw [if_pos hr]
    by_cases h2 : n / d % 2 = 0
    · rw [if_pos h2, if_pos (e3.2 ⟨h2, hr⟩)]
    · rw [if_neg h2, if_neg (fun q => h2 (e3.1 q).1)]
  · rw [if_neg hr, if_neg (fun q => hr (e3.1 q).2)]
    have : (2 * (n / d / 2) + 1) % 2 = 1 := by omega
    rw [this, if_neg (by decide)]
    have : (2 * (n / d / 2) + 1) / 2 = n / d / 2 := by omega
    rw [this]
theorem unr_ge_even {n d h : Nat} (hd : 0 < d) (he : h % 2 = 0) (hu : h ≤ unr n d) : h * d ≤ n := by
  rw [← Nat.le_div_iff_mul_le hd]
  rw [unr_eq] at hu
  split at hu <;> omega
theorem le_unr {n d h : Nat} (hd : 0 < d) (hn : h * d ≤ n) : h ≤ unr n d := by
  rw [← Nat.le_div_iff_mul_le hd] at hn
  rw [unr_eq]
  split <;> omega
theorem unr_lt {n d h : Nat} (hd : 0 < d) (he : h % 2 = 0) (hn : n < h * d) : unr n d < h := by
  rw [← Nat.div_lt_iff_lt_mul hd] at hn
  rw [unr_eq]
  split <;> omega
/-- every row lies between one half and one, and not too near to one -/
def rowTop (i : Nat) : Bool := decide (denOf i * 170141183460469231731687303715884105728 ≤ numOf i) && decide (numOf i ≤ denOf i * 339950059921992234495148655666698125312)
theorem top_all : (List.range 696).all rowTop = true := by kernel_rfl
theorem row_top {i : Nat} (h : i < 696) : denOf i * 170141183460469231731687303715884105728 ≤ numOf i ∧ numOf i ≤ denOf i * 339950059921992234495148655666698125312 := by
  have := List.all_eq_true.1 top_all i (List.mem_range.2 h)
  unfold rowTop at this
  simpa using this
/-- the rounding of n/Q quarters at K units -/
def rndm (u : Nat) : Nat := (u + 1 + u / 4 % 2) / 4
/-- no shift -/
theorem near_plain {n Q K : Nat} (hQ : 0 < Q) (h52 : K = 0 ∨ 18014398509481984 * Q ≤ n) (hlt : unr n Q < 36028797018963966) (h1 : 1 ≤ rndm (unr n Q)) : Near (K * 4503599627370496 + rndm (unr n Q)) (n * 2 ^ K) (2 * Q) ∧ rndm (unr n Q) < 9007199254740992 ∧ (K = 0 ∨ 4503599627370496 ≤ rndm (unr n Q)) := by
  obtain ⟨b1, b2, b3, b4⟩ := round0 n Q hQ (rndm (unr n Q)) rfl
  have hm : rndm (unr n Q) < 9007199254740992 := by unfold rndm; omega
  have hK : K = 0 ∨ 4503599627370496 ≤ rndm (unr n Q) := by
    rcases h52 with e | e
    · exact .inl e
    · have := le_unr hQ e
      right; unfold rndm; omega
  generalize rndm (unr n Q) = t at *
  have hP := Nat.two_pow_pos K
  have cv : ∀ X : Nat, X * 2 ^ K * (2 * Q) = X * (2 * Q) * 2 ^ K := fun X => Nat.mul_right_comm ..
  refine ⟨near_of_round h1 (by omega) (by omega) ?_ ?_ (fun h => b3 ?_) (fun h => b4 ?_) (fun h hk => ?_), hm, hK⟩
  · rw [cv]
    refine Nat.mul_le_mul_right _ ?_
    rw [Nat.sub_mul]
    have : 2 * t * (2 * Q) = 4 * t * Q := by rw [← Nat.mul_assoc]; congr 1; omega
    omega
  · rw [cv]
    refine Nat.mul_le_mul_right _ ?_
    rw [Nat.add_mul]
    have : 2 * t * (2 * Q) = 4 * t * Q := by rw [← Nat.mul_assoc]; congr 1; omega
    omega
  · rw [cv] at h
    have h2 := Nat.eq_of_mul_eq_mul_right hP h
    rw [Nat.sub_mul] at h2
    have : 2 * t * (2 * Q) = 4 * t * Q := by rw [← Nat.mul_assoc]; congr 1; omega
    have h3 : 1 * (2 * Q) ≤ 2 * t * (2 * Q) := Nat.mul_le_mul_right _ (by omega)
    omega
  · rw [cv] at h
    have h2 := Nat.eq_of_mul_eq_mul_right hP h
    rw [Nat.add_mul] at h2
    have : 2 * t * (2 * Q) = 4 * t * Q := by rw [← Nat.mul_assoc]; congr 1; omega
    omega
  · rcases h52 with e | e
    · omega
    · have e2 : 2 ^ K = 2 * 2 ^ (K - 1) := by rw [Nat.mul_comm, ← Nat.pow_succ]; congr 1; omega
      subst h
      rw [e2]
      have : (4 * 4503599627370496 - 1) * 2 ^ (K - 1) * (2 * Q) = ((4 * 4503599627370496 - 1) * Q) * (2 * 2 ^ (K - 1)) := by
        generalize 2 ^ (K - 1) = A; grind
      rw [this]
      exact Nat.mul_le_mul_right _ (Nat.le_trans (Nat.mul_le_mul_right _ (by decide)) e)
/-- shifted by one -/
theorem near_shift {n Q K : Nat} (hQ : 0 < Q) (hge : 36028797018963966 ≤ unr n Q) (hlt : n < 72057594037927936 * Q - 70368744177664 * Q) :
    Near ((K + 1) * 4503599627370496 + rndm ((unr n Q / 2) ||| (unr n Q % 2))) (n * 2 ^ K) (2 * Q) ∧ rndm ((unr n Q / 2) ||| (unr n Q % 2)) < 9007199254740992 ∧ 4503599627370496 ≤ rndm ((unr n Q / 2) ||| (unr n Q % 2)) := by
  have hn := unr_ge_even hQ (by decide) hge
  rw [unr_half n Q hQ]
  have hQ2 : 0 < 2 * Q := by omega
  obtain ⟨b1, b2, b3, b4⟩ := round0 n (2 * Q) hQ2 (rndm (unr n (2 * Q))) rfl
  have hu1 : unr n (2 * Q) < 35993612646875136 := unr_lt hQ2 (by decide) (by rw [← Nat.mul_assoc]; omega)
  have hu2 : 18014398509481983 ≤ unr n (2 * Q) := le_unr hQ2 (by rw [← Nat.mul_assoc]; omega)
  have hm : rndm (unr n (2 * Q)) < 9007199254740992 := by unfold rndm; omega
  have hm2 : 4503599627370496 ≤ rndm (unr n (2 * Q)) := by unfold rndm; omega
  generalize rndm (unr n (2 * Q)) = t at *
  have hP := Nat.two_pow_pos (K + 1)
  have cv : ∀ X : Nat, X * 2 ^ (K + 1) * (2 * (2 * Q)) = X * (2 * (2 * Q)) * 2 ^ (K + 1) := fun X => Nat.mul_right_comm ..
  have key : Near ((K + 1) * 4503599627370496 + t) (n * 2 ^ (K + 1)) (2 * (2 * Q)) := by
    refine near_of_round (by omega) (by omega) (by omega) ?_ ?_ (fun h => b3 ?_) (fun h => b4 ?_) (fun h hk => ?_)
    · rw [cv]
      refine Nat.mul_le_mul_right _ ?_
      rw [Nat.sub_mul]
      have : 2 * t * (2 * (2 * Q)) = 4 * t * (2 * Q) := by rw [← Nat.mul_assoc]; congr 1; omega
      omega
    · rw [cv]
      refine Nat.mul_le_mul_right _ ?_
      rw [Nat.add_mul]
      have : 2 * t * (2 * (2 * Q)) = 4 * t * (2 * Q) := by rw [← Nat.mul_assoc]; congr 1; omega
      omega
    · rw [cv] at h
      have h2 := Nat.eq_of_mul_eq_mul_right hP h
      rw [Nat.sub_mul] at h2
      have : 2 * t * (2 * (2 * Q)) = 4 * t * (2 * Q) := by rw [← Nat.mul_assoc]; congr 1; omega
      have h3 : 1 * (2 * (2 * Q)) ≤ 2 * t * (2 * (2 * Q)) := Nat.mul_le_mul_right _ (by omega)
      omega
    · rw [cv] at h
      have h2 := Nat.eq_of_mul_eq_mul_right hP h
      rw [Nat.add_mul] at h2
      have : 2 * t * (2 * (2 * Q)) = 4 * t * (2 * Q) := by rw [← Nat.mul_assoc]; congr 1; omega
      omega
    · subst h
      rw [Nat.add_sub_cancel]
      have : (4 * 4503599627370496 - 1) * 2 ^ K * (2 * (2 * Q)) = (36028797018963966 * Q) * 2 ^ (K + 1) := by
        rw [Nat.pow_succ]
        generalize 2 ^ K = A
        have : (4 * 4503599627370496 - 1 : Nat) = 18014398509481983 := by decide
        rw [this]; grind
      rw [this]
      exact Nat.mul_le_mul_right _ hn
  refine ⟨?_, hm, hm2⟩
  have e : n * 2 ^ (K + 1) = n * 2 ^ K * 2 := by rw [Nat.pow_succ, Nat.mul_assoc]
  rw [e, Nat.mul_comm 2 (2 * Q)] at key
  exact (near_scale (by decide)).1 key
end Go.Proofs.YthjfdhkahmlolaaGreatDoor.Usc
