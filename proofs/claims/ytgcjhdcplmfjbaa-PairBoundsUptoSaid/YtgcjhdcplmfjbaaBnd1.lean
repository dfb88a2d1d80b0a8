/- Rounding to 53 bits, by what floats stand for: how far, when not at all; what a sum has lost is had exactly. Plainly. -/
import Derived.Test.YtgcjhdcplmfjbaaFlw
namespace Go.Proofs.Ytgcjhdcplmfjbaa.Flt
open Ieee

/-- the exponent of the last place that n keeps -/
def le' (n : Nat) : Nat := n.log2 - 52
/-- n, rounded -/
def rnd (n : Nat) : Nat := rne n (le' n) * 2 ^ le' n
theorem rne_near (n d : Nat) : 2 * (rne n d * 2 ^ d) ≤ 2 * n + 2 ^ d ∧ 2 * n ≤ 2 * (rne n d * 2 ^ d) + 2 ^ d := by
  unfold rne
  have hp := Nat.two_pow_pos d
  generalize 2 ^ d = p at *
  have h1 := Nat.div_add_mod n p
  have h2 := Nat.mod_lt n hp
  rw [Nat.mul_comm] at h1
  generalize n / p = q at *
  generalize n % p = r at *
  split
  · rename_i h
    rw [Nat.add_mul, Nat.one_mul]
    constructor
    · rcases h with h | h <;> omega
    · omega
  · rename_i h
    rw [Nat.add_zero]
    constructor
    · omega
    · have : ¬ p < 2 * r := fun e => h (.inl e)
      omega
theorem rne_dvd (q d : Nat) : rne (q * 2 ^ d) d = q := by
  have := rne_mul q d 0
  rw [Nat.zero_add] at this
  rw [this, rne_zero]
theorem log2_spec {n : Nat} (h : n ≠ 0) : 2 ^ n.log2 ≤ n ∧ n < 2 ^ (n.log2 + 1) := ⟨Nat.log2_self_le h, Nat.lt_log2_self⟩
theorem le_le {n : Nat} (h : 0 < le' n) : 2 ^ 52 * 2 ^ le' n ≤ n ∧ n < 2 ^ 53 * 2 ^ le' n := by
  unfold le' at *
  have h0 : n ≠ 0 := by rintro rfl; simp at h
  obtain ⟨a, b⟩ := log2_spec h0
  rw [← Nat.pow_add, ← Nat.pow_add]
  have e1 : 52 + (n.log2 - 52) = n.log2 := by omega
  have e2 : 53 + (n.log2 - 52) = n.log2 + 1 := by omega
  rw [e1, e2]; exact ⟨a, b⟩
theorem le_zero {n : Nat} (h : le' n = 0) : n < 2 ^ 53 := by
  by_cases h0 : n = 0
  · subst h0; decide
  · unfold le' at h
    have := (log2_spec h0).2
    exact Nat.lt_of_lt_of_le this (Nat.pow_le_pow_right (by omega) (by omega))
theorem rnd_zero {n : Nat} (h : le' n = 0) : rnd n = n := by unfold rnd; rw [h, rne_zero, Nat.pow_zero, Nat.mul_one]
/-- how far -/
theorem rnd_near (n : Nat) : 2 ^ 53 * rnd n ≤ 2 ^ 53 * n + n ∧ 2 ^ 53 * n ≤ 2 ^ 53 * rnd n + n := by
  by_cases h : le' n = 0
  · rw [rnd_zero h]; omega
  · obtain ⟨a, _⟩ := le_le (Nat.pos_of_ne_zero h)
    obtain ⟨b, c⟩ := rne_near n (le' n)
    unfold rnd
    generalize rne n (le' n) * 2 ^ le' n = r at *
    generalize 2 ^ le' n = p at *
    omega
/-- what may be kept -/
def Rp (n : Nat) : Prop := ∃ m k, n = m * 2 ^ k ∧ m < 2 ^ 53
theorem le_of_lt {n k : Nat} (h : n < 2 ^ 53 * 2 ^ k) : le' n ≤ k := by
  by_cases h0 : n = 0
  · subst h0; unfold le'; simp
  · unfold le'
    have := (Nat.log2_lt h0).2 (show n < 2 ^ (53 + k) by rw [Nat.pow_add]; exact h)
    omega
theorem rnd_grid {m k : Nat} (h : m * 2 ^ k < 2 ^ 53 * 2 ^ k ∨ m * 2 ^ k = 2 ^ 53 * 2 ^ k) : rnd (m * 2 ^ k) = m * 2 ^ k := by
  have key : ∀ j, le' (m * 2 ^ k) ≤ j → (∃ q, m * 2 ^ k = q * 2 ^ j) → rnd (m * 2 ^ k) = m * 2 ^ k := by
    rintro j hj ⟨q, hq⟩
    unfold rnd
    have e : m * 2 ^ k = (q * 2 ^ (j - le' (m * 2 ^ k))) * 2 ^ le' (m * 2 ^ k) := by
      rw [Nat.mul_assoc, ← Nat.pow_add, show j - le' (m * 2 ^ k) + le' (m * 2 ^ k) = j by omega]; exact hq
    generalize le' (m * 2 ^ k) = d at *
    generalize q * 2 ^ (j - d) = z at *
    rw [e, rne_dvd]
  rcases h with h | h
  · exact key k (le_of_lt h) ⟨m, rfl⟩
  · refine key (k + 1) (le_of_lt ?_) ⟨2 ^ 52, ?_⟩
    · rw [h, Nat.pow_succ 2 k, ← Nat.mul_assoc]
      have : 0 < 2 ^ 53 * 2 ^ k := Nat.mul_pos (by decide) (Nat.two_pow_pos k)
      omega
    · rw [h, Nat.pow_succ 2 k, Nat.mul_comm (2 ^ k) 2, ← Nat.mul_assoc]
theorem rnd_rp {n : Nat} (h : Rp n) : rnd n = n := by
  obtain ⟨m, k, rfl, hm⟩ := h
  exact rnd_grid (.inl ((Nat.mul_lt_mul_right (Nat.two_pow_pos k)).2 hm))

def be : Nat := 2090
/-- what is not too great, by far -/
def BG : Nat := 2 ^ be
/-- the rung of a sum, where nothing is too great -/
theorem rung_rnd (n : Nat) (h : n < BG) : rung n (-1074) < 9218868437227405312 ∧ V (rung n (-1074)) = rnd n := by
  by_cases h0 : n = 0
  · subst h0
    have e : rung 0 (-1074) = 0 := by unfold rung; simp
    rw [e, V_zero]
    exact ⟨by omega, by decide⟩
  · have hlog : n.log2 < be := (Nat.log2_lt h0).2 h
    have hbe : be = 2090 := rfl
    have hrung : rung n (-1074) = min (le' n * 4503599627370496 + rne n (le' n)) 9218868437227405312 := by
      unfold rung le'
      rw [if_neg h0]
      have e1 : (max (-1074 + (n.log2 : Int) - 52) (-1074) + 1074).toNat = n.log2 - 52 := by omega
      have e2 : ((-1074 : Int) - max (-1074 + (n.log2 : Int) - 52) (-1074)).toNat = 0 := by omega
      have e3 : (max (-1074 + (n.log2 : Int) - 52) (-1074) - (-1074)).toNat = n.log2 - 52 := by omega
      dsimp only
      rw [e1, e2, e3, Nat.pow_zero, Nat.mul_one]
    have hd : le' n ≤ 2037 := by unfold le'; omega
    by_cases hz : le' n = 0
    · have hn := le_zero hz
      rw [hrung, hz, rnd_zero hz, rne_zero, Nat.zero_mul, Nat.zero_add]
      have hn' : n < 9007199254740992 := hn
      rw [Nat.min_eq_left (by omega)]
      refine ⟨by omega, ?_⟩
      unfold V sig ex
      by_cases h1 : n < 4503599627370496
      · rw [if_pos h1, if_pos h1]; simp
      · rw [if_neg h1, if_neg h1]
        have e1 : n / 4503599627370496 = 1 := by omega
        rw [e1]
        have e2 : ((-1074 : Int) + ((1 - 1 : Nat) : Int) + 1074).toNat = 0 := by omega
        rw [e2, Nat.pow_zero]; omega
    · obtain ⟨a, b⟩ := le_le (Nat.pos_of_ne_zero hz)
      obtain ⟨c, d⟩ := rne_near n (le' n)
      have hp := Nat.two_pow_pos (le' n)
      have q1 : 4503599627370496 ≤ rne n (le' n) := by
        apply Nat.le_of_not_lt; intro hlt
        have : (rne n (le' n) + 1) * 2 ^ le' n ≤ 4503599627370496 * 2 ^ le' n := Nat.mul_le_mul_right _ hlt
        rw [Nat.add_mul, Nat.one_mul] at this
        have a' : 4503599627370496 * 2 ^ le' n ≤ n := a
        generalize rne n (le' n) * 2 ^ le' n = r at *
        generalize 2 ^ le' n = p at *
        omega
      have q2 : rne n (le' n) ≤ 9007199254740992 := by
        apply Nat.le_of_not_lt; intro hlt
        have : (9007199254740992 + 1) * 2 ^ le' n ≤ rne n (le' n) * 2 ^ le' n := Nat.mul_le_mul_right _ hlt
        rw [Nat.add_mul, Nat.one_mul] at this
        have b' : n < 9007199254740992 * 2 ^ le' n := b
        generalize rne n (le' n) * 2 ^ le' n = r at *
        generalize 2 ^ le' n = p at *
        omega
      rw [hrung, Nat.min_eq_left (by omega)]
      refine ⟨by omega, ?_⟩
      unfold rnd
      generalize le' n = e at *
      generalize rne n e = q at *
      unfold V sig ex
      by_cases h53 : q = 9007199254740992
      · subst h53
        have e1 : (e * 4503599627370496 + 9007199254740992) / 4503599627370496 = e + 2 := by omega
        have e2 : (e * 4503599627370496 + 9007199254740992) % 4503599627370496 = 0 := by omega
        rw [if_neg (by omega), if_neg (by omega), e1, e2]
        have e3 : ((-1074 : Int) + ((e + 2 - 1 : Nat) : Int) + 1074).toNat = e + 1 := by omega
        rw [e3, Nat.pow_succ, Nat.add_zero]
        omega
      · have e1 : (e * 4503599627370496 + q) / 4503599627370496 = e + 1 := by omega
        have e2 : (e * 4503599627370496 + q) % 4503599627370496 = q - 4503599627370496 := by omega
        rw [if_neg (by omega), if_neg (by omega), e1, e2]
        have e3 : ((-1074 : Int) + ((e + 1 - 1 : Nat) : Int) + 1074).toNat = e := by omega
        rw [e3, show 4503599627370496 + (q - 4503599627370496) = q by omega]
end Go.Proofs.Ytgcjhdcplmfjbaa.Flt
