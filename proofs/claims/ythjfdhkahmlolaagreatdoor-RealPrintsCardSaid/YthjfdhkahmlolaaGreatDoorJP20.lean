/- A float above 0 by its bits: the middles between floats; which decimals read back as it. Plain arithmetic. -/
import Derived.Test.YthjfdhkahmlolaaGreatDoorJP19
namespace Go.Proofs.YthjfdhkahmlolaaGreatDoor.Usc

def mantB (b : Nat) : Nat := if b / 4503599627370496 = 0 then b % 4503599627370496 else b % 4503599627370496 + 4503599627370496
def exB (b : Nat) : Nat := if b / 4503599627370496 = 0 then 1 else b / 4503599627370496
/-- the middle between a float and the next one, in units of 2^-1075 -/
def mid (b : Nat) : Nat := (2 * mantB b + 1) * 2 ^ (exB b - 1)
theorem mid_next (b : Nat) (h : b % 4503599627370496 + 1 < 4503599627370496) : mantB (b + 1) = mantB b + 1 ∧ exB (b + 1) = exB b := by
  have e1 : (b + 1) / 4503599627370496 = b / 4503599627370496 := by omega
  have e2 : (b + 1) % 4503599627370496 = b % 4503599627370496 + 1 := by omega
  unfold mantB exB
  rw [e1, e2]
  constructor
  · split <;> omega
  · rfl
theorem mid_step (b : Nat) : mid b < mid (b + 1) := by
  rcases Nat.lt_or_ge (b % 4503599627370496 + 1) 4503599627370496 with h | h
  · obtain ⟨e1, e2⟩ := mid_next b h
    unfold mid
    rw [e1, e2]
    exact Nat.mul_lt_mul_of_pos_right (by omega) (Nat.two_pow_pos _)
  · have e1 : (b + 1) / 4503599627370496 = b / 4503599627370496 + 1 := by omega
    have e2 : (b + 1) % 4503599627370496 = 0 := by omega
    have e3 : b % 4503599627370496 = 4503599627370495 := by omega
    unfold mid mantB exB
    rw [e1, e2, e3]
    by_cases hE : b / 4503599627370496 = 0
    · rw [hE]; decide
    · rw [if_neg hE, if_neg hE, if_neg (by omega), if_neg (by omega)]
      generalize b / 4503599627370496 = E at *
      have : 2 ^ (E + 1 - 1) = 2 ^ (E - 1) * 2 := by rw [← Nat.pow_succ]; congr 1; omega
      rw [this]
      have hp : 0 < 2 ^ (E - 1) := Nat.two_pow_pos _
      generalize 2 ^ (E - 1) = P at *
      omega
theorem mid_lt {a b : Nat} (h : a < b) : mid a < mid b := by
  induction b with
  | zero => omega
  | succ b ih =>
    rcases Nat.lt_or_ge a b with h1 | h1
    · exact Nat.lt_trans (ih h1) (mid_step b)
    · have : a = b := by omega
      rw [this]; exact mid_step b
def kbig : Nat := 1075
def big : Nat := 2 ^ kbig
theorem big_pos : 0 < big := Nat.two_pow_pos _
/-- c 10^s reads back as the float b -/
def Rd (b c : Nat) (s : Int) : Prop :=
  if b % 2 = 0 then mid (b - 1) * 10 ^ (-s).toNat ≤ c * 10 ^ s.toNat * big ∧ c * 10 ^ s.toNat * big ≤ mid b * 10 ^ (-s).toNat
  else mid (b - 1) * 10 ^ (-s).toNat < c * 10 ^ s.toNat * big ∧ c * 10 ^ s.toNat * big < mid b * 10 ^ (-s).toNat
instance (b c : Nat) (s : Int) : Decidable (Rd b c s) := by unfold Rd; infer_instance
theorem Rd.le {b c : Nat} {s : Int} (h : Rd b c s) : mid (b - 1) * 10 ^ (-s).toNat ≤ c * 10 ^ s.toNat * big ∧ c * 10 ^ s.toNat * big ≤ mid b * 10 ^ (-s).toNat := by
  unfold Rd at h
  split at h
  · exact h
  · exact ⟨Nat.le_of_lt h.1, Nat.le_of_lt h.2⟩
theorem Rd.uniq_lt {b b' c : Nat} {s : Int} (hlt : b < b') (h : Rd b c s) (h' : Rd b' c s) : False := by
  have h1 := h.le.2
  have h2 := h'.le.1
  have hT : 0 < 10 ^ (-s).toNat := Nat.pow_pos (by decide)
  rcases Nat.lt_or_ge (b + 1) b' with q | q
  · have h3 := mid_lt (show b < b' - 1 by omega)
    have h4 := Nat.mul_lt_mul_of_pos_right h3 hT
    omega
  · have e : b' = b + 1 := by omega
    subst e
    rw [Nat.add_sub_cancel] at h2
    unfold Rd at h h'
    rw [Nat.add_sub_cancel] at h'
    by_cases hp : b % 2 = 0
    · rw [if_neg (by omega)] at h'
      have := h'.1
      omega
    · rw [if_neg hp] at h
      have := h.2
      omega
theorem Rd.uniq {b b' c : Nat} {s : Int} (h : Rd b c s) (h' : Rd b' c s) : b = b' := by
  rcases Nat.lt_trichotomy b b' with q | q | q
  · exact (Rd.uniq_lt q h h').elim
  · exact q
  · exact (Rd.uniq_lt q h' h).elim
theorem Rd.ten (b c : Nat) (s : Int) : Rd b (10 * c) s ↔ Rd b c (s + 1) := by
  unfold Rd
  by_cases h : s < 0
  · have e1 : (-s).toNat = (-(s + 1)).toNat + 1 := by omega
    have e2 : s.toNat = 0 := by omega
    have e3 : (s + 1).toNat = 0 := by omega
    rw [e1, e2, e3, Nat.pow_succ, Nat.pow_zero]
    generalize 10 ^ (-(s + 1)).toNat = T
    have k1 : mid (b - 1) * (T * 10) = 10 * (mid (b - 1) * T) := by rw [← Nat.mul_assoc, Nat.mul_comm]
    have k2 : mid b * (T * 10) = 10 * (mid b * T) := by rw [← Nat.mul_assoc, Nat.mul_comm]
    have k3 : 10 * c * 1 * big = 10 * (c * 1 * big) := by rw [Nat.mul_one, Nat.mul_one, Nat.mul_assoc]
    rw [k1, k2, k3]
    generalize mid (b - 1) * T = A
    generalize mid b * T = B
    generalize c * 1 * big = C
    split <;> omega
  · have e1 : (-s).toNat = 0 := by omega
    have e2 : (-(s + 1)).toNat = 0 := by omega
    have e3 : (s + 1).toNat = s.toNat + 1 := by omega
    rw [e1, e2, e3, Nat.pow_succ]
    have k3 : 10 * c * 10 ^ s.toNat * big = c * (10 ^ s.toNat * 10) * big := by
      congr 1
      rw [Nat.mul_comm 10 c, Nat.mul_assoc, Nat.mul_comm 10]
    rw [k3]
theorem Rd.tens (b : Nat) : ∀ (k c : Nat) (s : Int), Rd b (10 ^ k * c) s ↔ Rd b c (s + k)
  | 0, c, s => by simp
  | k + 1, c, s => by
    rw [Nat.pow_succ, Nat.mul_assoc, Rd.tens b k (10 * c) s, Rd.ten, show s + (k : Int) + 1 = s + ((k + 1 : Nat) : Int) by omega]

theorem scale_le {A B A' B' p q : Nat} (hp : 0 < p) (hq : 0 < q) (h1 : A * p = A' * q) (h2 : B * p = B' * q) : A ≤ B ↔ A' ≤ B' := by
  constructor
  · intro h
    have := Nat.mul_le_mul_right p h
    rw [h1, h2] at this
    exact Nat.le_of_mul_le_mul_right this hq
  · intro h
    have := Nat.mul_le_mul_right q h
    rw [← h1, ← h2] at this
    exact Nat.le_of_mul_le_mul_right this hp
/-- what a row's number stands for: k against x, scaled, is k 10^s against H in units of 2^-1075 -/
theorem row_scale {i s x H k : Nat} {e : Int} (he : -e = s + lpOf i + 3) (hH : x * 2 ^ (e + 1075).toNat = H * 2 ^ (-(e + 1075)).toNat) :
    ∃ p q : Nat, 0 < p ∧ 0 < q ∧ 4 * k * (denOf i * (2 ^ s * 340282366920938463463374607431768211456)) * p = k * 10 ^ (-powOf i).toNat * big * q ∧ x * numOf i * p = H * 10 ^ (powOf i).toNat * q := by
  refine ⟨2 ^ (e + 1075).toNat, 2 ^ ((127 - lpOf i).toNat + (-(e + 1075)).toNat), Nat.two_pow_pos _, Nat.two_pow_pos _, ?_, ?_⟩
  · unfold denOf big
    have e128 : (340282366920938463463374607431768211456 : Nat) = 2 ^ 128 := by decide
    rw [e128]
    have : 4 * k * (10 ^ (-powOf i).toNat * 2 ^ (-(127 - lpOf i)).toNat * (2 ^ s * 2 ^ 128)) * 2 ^ (e + 1075).toNat = k * 10 ^ (-powOf i).toNat * (2 ^ 2 * 2 ^ (-(127 - lpOf i)).toNat * 2 ^ s * 2 ^ 128 * 2 ^ (e + 1075).toNat) := by
      generalize 10 ^ (-powOf i).toNat = T
      generalize 2 ^ (-(127 - lpOf i)).toNat = a
      generalize 2 ^ (e + 1075).toNat = c
      generalize 2 ^ s = d
      generalize 2 ^ 128 = f
      grind
    rw [this]
    rw [Nat.mul_assoc (k * _), ← Nat.pow_add, ← Nat.pow_add, ← Nat.pow_add, ← Nat.pow_add, ← Nat.pow_add]
    have hk : kbig = 1075 := rfl
    congr 2
    omega
  · unfold numOf
    have : x * (10 ^ (powOf i).toNat * 2 ^ (127 - lpOf i).toNat) * 2 ^ (e + 1075).toNat = (x * 2 ^ (e + 1075).toNat) * 10 ^ (powOf i).toNat * 2 ^ (127 - lpOf i).toNat := by
      generalize 10 ^ (powOf i).toNat = T
      generalize 2 ^ (127 - lpOf i).toNat = a
      generalize 2 ^ (e + 1075).toNat = c
      grind
    rw [this, hH, Nat.pow_add]
    generalize 10 ^ (powOf i).toNat = T
    generalize 2 ^ (127 - lpOf i).toNat = a
    generalize 2 ^ (-(e + 1075)).toNat = c
    grind
theorem row_le {i s x H k : Nat} {e : Int} (he : -e = s + lpOf i + 3) (hH : x * 2 ^ (e + 1075).toNat = H * 2 ^ (-(e + 1075)).toNat) :
    (4 * k * (denOf i * (2 ^ s * 340282366920938463463374607431768211456)) ≤ x * numOf i ↔ k * 10 ^ (-powOf i).toNat * big ≤ H * 10 ^ (powOf i).toNat) ∧
    (x * numOf i ≤ 4 * k * (denOf i * (2 ^ s * 340282366920938463463374607431768211456)) ↔ H * 10 ^ (powOf i).toNat ≤ k * 10 ^ (-powOf i).toNat * big) := by
  obtain ⟨p, q, hp, hq, h1, h2⟩ := row_scale (k := k) he hH
  exact ⟨scale_le hp hq h1 h2, scale_le hp hq h2 h1⟩
end Go.Proofs.YthjfdhkahmlolaaGreatDoor.Usc
