/- A float above 0 by its bits: the middles between floats; which decimals read back as it. Plain arithmetic. -/
import Derived.Test.YtiijgghholhcnaaGreatDoorJL24
namespace Go.Proofs.YtiijgghholhcnaaGreatDoor.Re.Usc

def mantB (b : Nat) : Nat := if b / 4503599627370496 = 0 then b % 4503599627370496 else b % 4503599627370496 + 4503599627370496
def exB (b : Nat) : Nat := if b / 4503599627370496 = 0 then 1 else b / 4503599627370496
/-- the middle between a float and the next one, in units of 2^-1075 -/
def mid (b : Nat) : Nat := (2 * mantB b + 1) * 2 ^ (exB b - 1)
theorem mid_next (b : Nat) (h : b % 4503599627370496 + 1 < 4503599627370496) : mantB (b + 1) = mantB b + 1 ∧ exB (b + 1) = exB b := by
  have e1 : (b + 1) / 4503599627370496 = b / 4503599627370496 := by omega
  have e2 : (b + 1) % 4503599627370496 = b % 4503599627370496 + 1 := by omega
  unfold mantB exB
  rw [e1, e2]
  constructor
  · split <;> omega
  · rfl
theorem mid_step (b : Nat) : mid b < mid (b + 1) := by
  rcases Nat.lt_or_ge (b % 4503599627370496 + 1) 4503599627370496 with h | h
  · obtain ⟨e1, e2⟩ := mid_next b h
    unfold mid
    rw [e1, e2]
    exact Nat.mul_lt_mul_of_pos_right (by omega) (Nat.two_pow_pos _)
  · have e1 : (b + 1) / 4503599627370496 = b / 4503599627370496 + 1 := by omega
    have e2 : (b + 1) % 4503599627370496 = 0 := by omega
    have e3 : b % 4503599627370496 = 4503599627370495 := by omega
    unfold mid mantB exB
    rw [e1, e2, e3]
    by_cases hE : b / 4503599627370496 = 0
    · rw [hE]; decide
    · rw [if_neg hE, if_neg hE, if_neg (by omega), if_neg (by omega)]
      generalize b / 4503599627370496 = E at *
      have : 2 ^ (E + 1 - 1) = 2 ^ (E - 1) * 2 := by rw [← Nat.pow_succ]; congr 1; omega
      rw [this]
      have hp : 0 < 2 ^ (E - 1) := Nat.two_pow_pos _
      generalize 2 ^ (E - 1) = P at *
      omega
theorem mid_lt {a b : Nat} (h : a < b) : mid a < mid b := by
  induction b with
  | zero => omega
  | succ b ih =>
    rcases Nat.lt_or_ge a b with h1 | h1
    · exact Nat.lt_trans (ih h1) (mid_step b)
    · have : a = b := by omega
      rw [this]; exact mid_step b
def kbig : Nat := 1075
def big : Nat := 2 ^ kbig
theorem big_pos : 0 < big := Nat.two_pow_pos _
/-- c 10^s reads back as the float b -/
def Rd (b c : Nat) (s : Int) : Prop :=
  if b % 2 = 0 then mid (b - 1) * 10 ^ (-s).toNat ≤ c * 10 ^ s.toNat * big ∧ c * 10 ^ s.toNat * big ≤ mid b * 10 ^ (-s).toNat
  else mid (b - 1) * 10 ^ (-s).toNat < c * 10 ^ s.toNat * big ∧ c * 10 ^ s.toNat * big < mid b * 10 ^ (-s).toNat
instance (b c : Nat) (s : Int) : Decidable (Rd b c s) := by unfold Rd; infer_instance
theorem Rd.le {b c : Nat} {s : Int} (h : Rd b c s) : mid (b - 1) * 10 ^ (-s).toNat ≤ c * 10 ^ s.toNat * big ∧ c * 10 ^ s.toNat * big ≤ mid b * 10 ^ (-s).toNat := by
  unfold Rd at h
  split at h
  · exact h
  · exact ⟨Nat.le_of_lt h.1, Nat.le_of_lt h.2⟩
theorem Rd.uniq_lt {b b' c : Nat} {s : Int} (hlt : b < b') (h : Rd b c s) (h' : Rd b' c s) : False := by
  have h1 := h.le.2
  have h2 := h'.le.1
  have hT : 0 < 10 ^ (-s).toNat := Nat.pow_pos (by decide)
  rcases Nat.lt_or_ge (b + 1) b' with q | q
  · have h3 := mid_lt (show b < b' - 1 by omega)
    have h4 := Nat.mul_lt_mul_of_pos_right h3 hT
    omega
  · have e : b' = b + 1 := by omega
    subst e
    rw [Nat.add_sub_cancel] at h2
    unfold Rd at h h'
    rw [Nat.add_sub_cancel] at h'
    by_cases hp : b % 2 = 0
    · rw [if_neg (by omega)] at h'
      have := h'.1
      omega
    · rw [if_neg hp] at h
      have := h.2
      omega
theorem Rd.uniq {b b' c : Nat} {s : Int} (h : Rd b c s) (h' : Rd b' c s) : b = b' := by
  rcases Nat.lt_trichotomy b b' with q | q | q
  · exact (Rd.uniq_lt q h h').elim
  · exact q
  · exact (Rd.uniq_lt q h' h).elim
theorem Rd.ten (b c : Nat) (s : Int) : Rd b (10 * c) s ↔ Rd b c (s + 1) := by
  unfold Rd
  by_cases h : s < 0
  · have e1 : (-s).toNat = (-(s + 1)).toNat + 1 := by omega
    have e2 : s.toNat = 0 := by omega
    have e3 : (s + 1).toNat = 0 := by omega
    rw [e1, e2, e3, Nat.pow_succ, Nat.pow_zero]
    generalize 10 ^ (-(s + 1)).toNat = T
    have k1 : mid (b - 1) * (T * 10) = 10 * (mid (b - 1) * T) := by rw [← Nat.mul_assoc, Nat.mul_comm]
    have k2 : mid b * (T * 10) = 10 * (mid b * T) := by rw [← Nat.mul_assoc, Nat.mul_comm]
    have k3 : 10 * c * 1 * big = 10 * (c * 1 * big) := by rw [Nat.mul_one, Nat.mul_one, Nat.mul_assoc]
    rw [k1, k2, k3]
    generalize mid (b - 1) * T = A
    generalize mid b * T = B
    generalize c * 1 * big = C
    split <;> omega
  · have e1 : (-s).toNat = 0 := by omega
    have e2 : (-(s + 1)).toNat = 0 := by omega
    have e3 : (s + 1).toNat = s.toNat + 1 := by omega
    rw [e1, e2, e3, Nat.pow_succ]
    have k3 : 10 * c * 10 ^ s.toNat * big = c * (10 ^ s.toNat * 10) * big := by
      congr 1
      rw [Nat.mul_comm 10 c, Nat.mul_assoc, Nat.mul_comm 10]
    rw [k3]
theorem Rd.tens (b : Nat) : ∀ (k c : Nat) (s : Int), Rd b (10 ^ k * c) s ↔ Rd b c (s + k)
  | 0, c, s => by simp
  | k + 1, c, s => by
    rw [Nat.pow_succ, Nat.mul_assoc, Rd.tens b k (10 * c) s, Rd.ten, show s + (k : Int) + 1 = s + ((k + 1 : Nat) : Int) by omega]

theorem scale_le {A B A' B' p q : Nat} (hp : 0 < p) (hq : 0 < q) (h1 : A * p = A' * q) (h2 : B * p = B' * q) : A ≤ B ↔ A' ≤ B' := by
  constructor
  · intro h
    have := Nat.mul_le_mul_right p h
    rw [h1, h2] at this
    exact Nat.le_of_mul_le_mul_right this hq
  · intro h
    have := Nat.mul_le_mul_right q h
    rw [← h1, ← h2] at this
    exact Nat.le_of_mul_le_mul_right this hp
/-- what a row's number stands for: k against x, scaled, is k 10^s against H in units of 2^-1075 -/
theorem row_scale {i s x H k : Nat} {e : Int} (he : -e = s + lpOf i + 3) (hH : x * 2 ^ (e + 1075).toNat = H * 2 ^ (-(e + 1075)).toNat) :
    ∃ p q : Nat, 0 < p ∧ 0 < q ∧ 4 * k * (denOf i * (2 ^ s * 340282366920938463463374607431768211456)) * p = k * 10 ^ (-powOf i).toNat * big * q ∧ x * numOf i * p = H * 10 ^ (powOf i).toNat * q := by
  refine ⟨2 ^ (e + 1075).toNat, 2 ^ ((127 - lpOf i).toNat + (-(e + 1075)).toNat), Nat.two_pow_pos _, Nat.two_pow_pos _, ?_, ?_⟩
  · unfold denOf big
    have e128 : (340282366920938463463374607431768211456 : Nat) = 2 ^ 128 := by decide
    rw [e128]
    have : 4 * k * (10 ^ (-powOf i).toNat * 2 ^ (-(127 - lpOf i)).toNat * (2 ^ s * 2 ^ 128)) * 2 ^ (e + 1075).toNat = k * 10 ^ (-powOf i).toNat * (2 ^ 2 * 2 ^ (-(127 - lpOf i)).toNat * 2 ^ s * 2 ^ 128 * 2 ^ (e + 1075).toNat) := by
      generalize 10 ^ (-powOf i).toNat = T
      generalize 2 ^ (-(127 - lpOf i)).toNat = a
      generalize 2 ^ (e + 1075).toNat = c
      generalize 2 ^ s = d
      generalize 2 ^ 128 = f
      grind
    rw [this]
    rw [Nat.mul_assoc (k * _), ← Nat.pow_add, ← Nat.pow_add, ← Nat.pow_add, ← Nat.pow_add, ← Nat.pow_add]
    have hk : kbig = 1075 := rfl
    congr 2
    omega
  · unfold numOf
    have : x * (10 ^ (powOf i).toNat * 2 ^ (127 - lpOf i).toNat) * 2 ^ (e + 1075).toNat = (x * 2 ^ (e + 1075).toNat) * 10 ^ (powOf i).toNat * 2 ^ (127 - lpOf i).toNat := by
      generalize 10 ^ (powOf i).toNat = T
      generalize 2 ^ (127 - lpOf i).toNat = a
      generalize 2 ^ (e + 1075).toNat = c
      grind
    rw [this, hH, Nat.pow_add]
    generalize 10 ^ (powOf i).toNat = T
    generalize 2 ^ (127 - lpOf i).toNat = a
    generalize 2 ^ (-(e + 1075)).toNat = c
    grind
theorem row_le {i s x H k : Nat} {e : Int} (he : -e = s + lpOf i + 3) (hH : x * 2 ^ (e + 1075).toNat = H * 2 ^ (-(e + 1075)).toNat) :
    (4 * k * (denOf i * (2 ^ s * 340282366920938463463374607431768211456)) ≤ x * numOf i ↔ k * 10 ^ (-powOf i).toNat * big ≤ H * 10 ^ (powOf i).toNat) ∧
    (x * numOf i ≤ 4 * k * (denOf i * (2 ^ s * 340282366920938463463374607431768211456)) ↔ H * 10 ^ (powOf i).toNat ≤ k * 10 ^ (-powOf i).toNat * big) := by
  obtain ⟨p, q, hp, hq, h1, h2⟩ := row_scale (k := k) he hH
  exact ⟨scale_le hp hq h1 h2, scale_le hp hq h2 h1⟩
end Go.Proofs.YtiijgghholhcnaaGreatDoor.Re.Usc

/- A float above 0 as the program scales it: its 64 bits, its row of the table, its shift; what is scaled is exact. Plain arithmetic. -/
namespace Go.Proofs.YtiijgghholhcnaaGreatDoor.Re.Usc

def zB (b : Nat) : Nat := 64 - Lib.bitLen (mantB b)
def mB (b : Nat) : Nat := mantB b * 2 ^ zB b
def eB (b : Nat) : Int := (exB b : Int) - 1075 - zB b
def iB (b : Nat) : Nat := (sfp (mB b) (eB b) + 348).toNat
def sB (b : Nat) : Nat := (sfs (mB b) (eB b)).toNat
def PB (b : Nat) : Nat := numOf (iB b)
def QB (b : Nat) : Nat := denOf (iB b) * (2 ^ sB b * 340282366920938463463374607431768211456)
theorem QB_pos (b : Nat) : 0 < QB b := Nat.mul_pos (denOf_pos _) (Nat.mul_pos (Nat.two_pow_pos _) (by decide))
theorem PB_pos (b : Nat) : 0 < PB b := Nat.mul_pos (Nat.pow_pos (by decide)) (Nat.two_pow_pos _)

/-- the parts of a finite float above 0 -/
structure Parts (b : Nat) : Prop where
  m1 : 1 ≤ mantB b
  m2 : mantB b < 9007199254740992
  e1 : 1 ≤ exB b
  e2 : exB b ≤ 2046
  l1 : 2 ^ (Lib.bitLen (mantB b) - 1) ≤ mantB b
  l2 : mantB b < 2 ^ Lib.bitLen (mantB b)
  l3 : 1 ≤ Lib.bitLen (mantB b)
  l4 : Lib.bitLen (mantB b) ≤ 53
  nrm : 4503599627370496 ≤ b → 4503599627370496 ≤ mantB b ∧ Lib.bitLen (mantB b) = 53
  sub : b < 4503599627370496 → mantB b = b ∧ exB b = 1 ∧ Lib.bitLen (mantB b) ≤ 52
theorem bitLen_bounds (x : Nat) (h0 : 1 ≤ x) (h1 : x < 18446744073709551616) : 1 ≤ Lib.bitLen x ∧ 2 ^ (Lib.bitLen x - 1) ≤ x ∧ x < 2 ^ Lib.bitLen x :=
  Lib.bitLenAux_bounds 64 x (by rw [show (2 : Nat) ^ 64 = 18446744073709551616 by decide]; exact h1) (by omega)
theorem parts (b : Nat) (h0 : 1 ≤ b) (h1 : b < 9218868437227405312) : Parts b := by
  have hm : 1 ≤ mantB b ∧ mantB b < 9007199254740992 := by unfold mantB; split <;> omega
  have he : 1 ≤ exB b ∧ exB b ≤ 2046 := by unfold exB; split <;> omega
  have hn : 4503599627370496 ≤ b → 4503599627370496 ≤ mantB b := fun h => by unfold mantB; rw [if_neg (by omega)]; omega
  have hs : b < 4503599627370496 → mantB b = b ∧ exB b = 1 := fun h => by unfold mantB exB; rw [if_pos (by omega), if_pos (by omega)]; omega
  obtain ⟨l3, l1, l2⟩ := bitLen_bounds (mantB b) hm.1 (by omega)
  have l4 : Lib.bitLen (mantB b) ≤ 53 := Lib.bitLen_le _ 53 (by decide) (by rw [show (2 : Nat) ^ 53 = 9007199254740992 by decide]; exact hm.2)
  refine ⟨hm.1, hm.2, he.1, he.2, l1, l2, l3, l4, fun h => ⟨hn h, ?_⟩, fun h => ⟨(hs h).1, (hs h).2, ?_⟩⟩
  · have q := hn h
    rcases Nat.lt_or_ge (Lib.bitLen (mantB b)) 53 with g | g
    · have : 2 ^ Lib.bitLen (mantB b) ≤ 2 ^ 52 := Nat.pow_le_pow_right (by decide) (by omega)
      rw [show (2 : Nat) ^ 52 = 4503599627370496 by decide] at this
      omega
    · omega
  · exact Lib.bitLen_le _ 52 (by decide) (by rw [(hs h).1, show (2 : Nat) ^ 52 = 4503599627370496 by decide]; exact h)

theorem mB_bounds {b : Nat} (H : Parts b) : 9223372036854775808 ≤ mB b ∧ mB b + 2 ^ zB b ≤ 18446744073709551616 ∧ 11 ≤ zB b ∧ zB b ≤ 63 := by
  have h3 := H.l3; have h4 := H.l4
  have e64 : 2 ^ Lib.bitLen (mantB b) * 2 ^ zB b = 18446744073709551616 := by
    rw [← Nat.pow_add]; unfold zB; rw [show Lib.bitLen (mantB b) + (64 - Lib.bitLen (mantB b)) = 64 by omega]
  have e63 : 2 ^ (Lib.bitLen (mantB b) - 1) * 2 ^ zB b = 9223372036854775808 := by
    rw [← Nat.pow_add]; unfold zB; rw [show Lib.bitLen (mantB b) - 1 + (64 - Lib.bitLen (mantB b)) = 63 by omega]
  have a1 := Nat.mul_le_mul_right (2 ^ zB b) H.l1
  have a2 := Nat.mul_le_mul_right (2 ^ zB b) (show mantB b + 1 ≤ 2 ^ Lib.bitLen (mantB b) from H.l2)
  rw [Nat.succ_mul] at a2
  unfold mB
  refine ⟨by omega, by omega, ?_, ?_⟩ <;> unfold zB <;> omega
theorem sfz_eB {b : Nat} (H : Parts b) : sfz (eB b) = zB b := by
  obtain ⟨_, _, z1, z2⟩ := mB_bounds H
  have h1 := H.e1; have h2 := H.e2
  unfold sfz
  rcases Nat.lt_or_ge b 4503599627370496 with h | h
  · obtain ⟨_, q2, q3⟩ := H.sub h
    have z3 : 12 ≤ zB b := by unfold zB; omega
    rw [if_neg (by unfold eB; omega)]
    unfold eB; omega
  · obtain ⟨_, q2⟩ := H.nrm h
    have z3 : zB b = 11 := by unfold zB; omega
    rw [if_pos (by unfold eB; omega)]
    omega
theorem half2 {b : Nat} (H : Parts b) : 2 ^ zB b = 2 * 2 ^ (zB b - 1) := by
  obtain ⟨_, _, z1, _⟩ := mB_bounds H
  rw [Nat.mul_comm, ← Nat.pow_succ]; congr 1; omega
theorem skew_eq {b : Nat} (H : Parts b) : sfskew (mB b) (eB b) = decide (b % 4503599627370496 = 0 ∧ 4503599627370496 < b) := by
  have h1 := H.e1; have h2 := H.e2
  unfold sfskew
  rcases Nat.lt_or_ge b 4503599627370496 with h | h
  · obtain ⟨_, q2, q3⟩ := H.sub h
    have z3 : 12 ≤ zB b := by unfold zB; omega
    rw [decide_eq_false (p := eB b > -1085) (by unfold eB; omega), decide_eq_false (p := b % 4503599627370496 = 0 ∧ 4503599627370496 < b) (by omega)]
    simp
  · obtain ⟨q1, q2⟩ := H.nrm h
    have z3 : zB b = 11 := by unfold zB; omega
    have em : mB b = mantB b * 2048 := by unfold mB; rw [z3]
    have ee : mantB b = b % 4503599627370496 + 4503599627370496 := by unfold mantB; rw [if_neg (by omega)]
    have ex : exB b = b / 4503599627370496 := by unfold exB; rw [if_neg (by omega)]
    rw [em, ee, ← Bool.decide_and]
    apply decide_eq_decide.2
    unfold eB; rw [ex, z3]
    omega
theorem sfmax_eq {b : Nat} (H : Parts b) : sfmax (mB b) (eB b) = (2 * mantB b + 1) * 2 ^ (zB b - 1) := by
  unfold sfmax
  rw [sfz_eB H]
  unfold mB
  rw [half2 H, Nat.add_mul, Nat.one_mul]
  congr 1
  rw [← Nat.mul_assoc, Nat.mul_comm (mantB b) 2]
theorem sfmin_eq {b : Nat} (H : Parts b) (hs : sfskew (mB b) (eB b) = false) : sfmin (mB b) (eB b) = (2 * mantB b - 1) * 2 ^ (zB b - 1) := by
  unfold sfmin
  rw [hs, sfz_eB H]
  unfold mB
  have := H.m1
  simp only [Bool.false_eq_true, if_false]
  rw [half2 H, Nat.sub_mul, Nat.one_mul]
  congr 1
  rw [← Nat.mul_assoc, Nat.mul_comm (mantB b) 2]
theorem sfodd_eq {b : Nat} (H : Parts b) : sfodd (mB b) (eB b) = b % 2 := by
  unfold sfodd
  rw [sfz_eB H]
  unfold mB
  rw [Nat.mul_div_cancel _ (Nat.two_pow_pos _)]
  unfold mantB
  split <;> omega
/-- the scale's ends are the middles -/
theorem max_mid {b : Nat} (H : Parts b) : sfmax (mB b) (eB b) * 2 ^ (eB b + 1075).toNat = mid b * 2 ^ (-(eB b + 1075)).toNat := by
  obtain ⟨_, _, z1, _⟩ := mB_bounds H
  have := H.e1
  rw [sfmax_eq H]
  unfold mid
  rw [Nat.mul_assoc, Nat.mul_assoc, ← Nat.pow_add, ← Nat.pow_add]
  congr 2
  unfold eB; omega
theorem min_mid {b : Nat} (H : Parts b) : sfmin (mB b) (eB b) * 2 ^ (eB b + 1075).toNat = mid (b - 1) * 2 ^ (-(eB b + 1075)).toNat := by
  obtain ⟨_, _, z1, _⟩ := mB_bounds H
  have h1 := H.e1; have h2 := H.m1
  have h0 : 1 ≤ b := by
    rcases Nat.eq_zero_or_pos b with e | e
    · subst e; exact absurd h2 (by decide)
    · exact e
  by_cases hs : b % 4503599627370496 = 0 ∧ 4503599627370496 < b
  · have hk : sfskew (mB b) (eB b) = true := by rw [skew_eq H]; exact decide_eq_true hs
    obtain ⟨q1, q2⟩ := H.nrm (by omega)
    have z3 : zB b = 11 := by unfold zB; omega
    have ee : mantB b = 4503599627370496 := by unfold mantB; rw [if_neg (by omega)]; omega
    have ex : exB b = b / 4503599627370496 := by unfold exB; rw [if_neg (by omega)]
    have em : mid (b - 1) = 18014398509481983 * 2 ^ (exB b - 2) := by
      unfold mid mantB exB
      rw [if_neg (by omega), if_neg (by omega), if_neg (by omega)]
      rw [show (b - 1) % 4503599627370496 = 4503599627370495 by omega, show (b - 1) / 4503599627370496 = b / 4503599627370496 - 1 by omega]
      rfl
    have e2 : 2 ≤ exB b := by omega
    have en : sfmin (mB b) (eB b) = 18014398509481983 * 2 ^ 9 := by
      unfold sfmin
      rw [hk, if_pos rfl]
      unfold mB
      rw [ee, z3]
    rw [em, en, Nat.mul_assoc, Nat.mul_assoc, ← Nat.pow_add, ← Nat.pow_add]
    congr 2
    unfold eB; rw [z3]; omega
  · have hk : sfskew (mB b) (eB b) = false := by rw [skew_eq H]; exact decide_eq_false hs
    have em : mid (b - 1) = (2 * mantB b - 1) * 2 ^ (exB b - 1) := by
      rcases Nat.eq_zero_or_pos (b % 4503599627370496) with e | e
      · have eb : b = 4503599627370496 := by omega
        subst eb; decide
      · obtain ⟨g1, g2⟩ := mid_next (b - 1) (by omega)
        rw [Nat.sub_add_cancel h0] at g1 g2
        unfold mid
        rw [g2, g1]
        congr 1
    rw [sfmin_eq H hk, em, Nat.mul_assoc, Nat.mul_assoc, ← Nat.pow_add, ← Nat.pow_add]
    congr 2
    unfold eB; omega
end Go.Proofs.YtiijgghholhcnaaGreatDoor.Re.Usc
