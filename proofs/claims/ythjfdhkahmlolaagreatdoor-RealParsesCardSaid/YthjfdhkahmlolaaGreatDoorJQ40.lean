/- Plain: how the reference's numbers stand against what reads back. -/
import Derived.Test.YthjfdhkahmlolaaGreatDoorJQ38
import Derived.Test.YthjfdhkahmlolaaGreatDoorJQ39
import Derived.Test.YthjfdhkahmlolaaGreatDoorJQ11
namespace Go.Proofs.YthjfdhkahmlolaaGreatDoor
open Usc
/-- a float in units of 2^-1075 -/
def vv (b : Nat) : Nat := mantB b * 2 ^ exB b
def Zs (b : Nat) (s : Int) : Nat := vv b * 10 ^ (-s).toNat
def Gs (s : Int) : Nat := 10 ^ s.toNat * big
theorem Gs_pos (s : Int) : 0 < Gs s := Nat.mul_pos (Nat.pow_pos (by decide)) big_pos
theorem yV_pos (b : Nat) (s : Int) : 0 < yV b s := Nat.mul_pos (Nat.two_pow_pos _) (Nat.pow_pos (by decide))
theorem xy_zg (b : Nat) (s : Int) : xV b s * Gs s = Zs b s * yV b s := by
  unfold xV yV Gs Zs vv big
  have e : 2 ^ ((exB b : Int) - 1075).toNat * 2 ^ kbig = 2 ^ exB b * 2 ^ (1075 - (exB b : Int)).toNat := by
    have hk : kbig = 1075 := rfl
    rw [← Nat.pow_add, ← Nat.pow_add]; congr 1; omega
  generalize 2 ^ kbig = B at *
  generalize 2 ^ ((exB b : Int) - 1075).toNat = P at *
  generalize 2 ^ exB b = F at *
  generalize 2 ^ (1075 - (exB b : Int)).toNat = R at *
  generalize 10 ^ s.toNat = T
  generalize 10 ^ (-s).toNat = U
  generalize mantB b = m
  calc m * P * U * (T * B) = (P * B) * (m * U * T) := by grind
    _ = (F * R) * (m * U * T) := by rw [e]
    _ = m * F * U * (R * T) := by grind
/-- two scales -/
theorem zg_scale (b : Nat) (s : Int) (j : Nat) : Zs b (s + j) * (10 ^ j * Gs s) = Zs b s * Gs (s + j) := by
  unfold Zs Gs
  have e : 10 ^ (-(s + (j : Int))).toNat * 10 ^ j * 10 ^ s.toNat = 10 ^ (-s).toNat * 10 ^ (s + (j : Int)).toNat := by
    rw [← Nat.pow_add, ← Nat.pow_add, ← Nat.pow_add]; congr 1; omega
  generalize 10 ^ (-(s + (j : Int))).toNat = A at *
  generalize 10 ^ (s + (j : Int)).toNat = C at *
  generalize 10 ^ s.toNat = T at *
  generalize 10 ^ (-s).toNat = U at *
  generalize 10 ^ j = J at *
  generalize big = B
  generalize vv b = V
  calc V * A * (J * (T * B)) = (A * J * T) * (V * B) := by grind
    _ = (U * C) * (V * B) := by rw [e]
    _ = V * U * (C * B) := by grind
theorem zg_le (b : Nat) (s : Int) (j a : Nat) : 10 ^ a * Gs (s + j) ≤ Zs b (s + j) ↔ 10 ^ (a + j) * Gs s ≤ Zs b s := by
  refine scale_le (p := 10 ^ j * Gs s) (q := Gs (s + j)) (Nat.mul_pos (Nat.pow_pos (by decide)) (Gs_pos _)) (Gs_pos _) ?_ (zg_scale b s j)
  rw [Nat.pow_add]
  generalize 10 ^ a = A; generalize 10 ^ j = J; generalize Gs s = g; generalize Gs (s + j) = h
  grind
theorem frac_eq {x y Z G : Nat} (hy : 0 < y) (hG : 0 < G) (h : x * G = Z * y) : x / y = Z / G ∧ cmp3 (x % y * 2) y = cmp3 (Z % G * 2) G := by
  have hq : x / y = Z / G := by
    rw [← Nat.mul_div_mul_right x y hG, h, Nat.mul_comm y G, Nat.mul_div_mul_right Z G hy]
  have hr : (x % y) * G = (Z % G) * y := by
    rw [← Nat.mul_mod_mul_right, ← Nat.mul_mod_mul_right, h, Nat.mul_comm y G]
  have e1 : x % y * 2 * G = Z % G * 2 * y := by
    rw [Nat.mul_right_comm, hr, Nat.mul_right_comm]
  have e2 : y * G = G * y := Nat.mul_comm _ _
  have s1 := scale_le hG hy e1 e2
  have s2 := scale_le hG hy e2 e1
  refine ⟨hq, ?_⟩
  generalize x % y * 2 = A at *
  generalize Z % G * 2 = C at *
  have k1 : A < y ↔ C < G := by omega
  have k2 : A = y ↔ C = G := by omega
  unfold cmp3
  simp only [k1, k2]
theorem cmp3_neg {a b : Nat} : cmp3 a b < 0 ↔ a < b := by
  unfold cmp3; split
  · simp; assumption
  · split <;> simp <;> omega
theorem cmp3_zero {a b : Nat} : cmp3 a b = 0 ↔ a = b := by
  unfold cmp3; split
  · simp; omega
  · split <;> simp <;> omega
theorem cmp3_pos {a b : Nat} : 0 < cmp3 a b ↔ b < a := by
  unfold cmp3; split
  · simp; omega
  · split <;> simp <;> omega
/-- the lower end of Side -/
theorem low_mid {b : Nat} (H : Parts b) (hb : b < 9218868437227405312) : lowB b * 2 ^ (exB b - 1) = 2 * mid (b - 1) := by
  have h1 := H.e1; have h2 := H.m1
  have h0 : 1 ≤ b := by
    rcases Nat.eq_zero_or_pos b with e | e
    · subst e; exact absurd h2 (by decide)
    · exact e
  by_cases hs : b % 4503599627370496 = 0 ∧ 4503599627370496 < b
  · obtain ⟨q1, q2⟩ := H.nrm (by omega)
    have ee : mantB b = 4503599627370496 := by unfold mantB; rw [if_neg (by omega)]; omega
    have ex : exB b = b / 4503599627370496 := by unfold exB; rw [if_neg (by omega)]
    have em : mid (b - 1) = 18014398509481983 * 2 ^ (exB b - 2) := by
      unfold mid mantB exB
      rw [if_neg (by omega), if_neg (by omega), if_neg (by omega)]
      rw [show (b - 1) % 4503599627370496 = 4503599627370495 by omega, show (b - 1) / 4503599627370496 = b / 4503599627370496 - 1 by omega]
      rfl
    have el : lowB b = 18014398509481983 := by unfold lowB; rw [if_pos ⟨ee, by omega⟩, ee]
    have e2 : 2 ^ (exB b - 1) = 2 ^ (exB b - 2) * 2 := by rw [← Nat.pow_succ]; congr 1; omega
    rw [em, el, e2]
    generalize 2 ^ (exB b - 2) = P
    omega
  · have em : mid (b - 1) = (2 * mantB b - 1) * 2 ^ (exB b - 1) := by
      rcases Nat.eq_zero_or_pos (b % 4503599627370496) with e | e
      · have eb : b = 4503599627370496 := by omega
        subst eb; decide
      · obtain ⟨g1, g2⟩ := mid_next (b - 1) (by omega)
        rw [Nat.sub_add_cancel h0] at g1 g2
        unfold mid
        rw [g2, g1]
        congr 1
    have el : lowB b = 2 * (2 * mantB b - 1) := by
      unfold lowB
      rw [if_neg, Nat.mul_sub]
      · omega
      · rintro ⟨c1, c2⟩
        unfold mantB at c1
        rw [if_neg (by omega)] at c1
        omega
    rw [em, el, Nat.mul_assoc]
theorem high_mid (b : Nat) : (4 * mantB b + 2) * 2 ^ (exB b - 1) = 2 * mid b := by
  unfold mid
  rw [show 4 * mantB b + 2 = 2 * (2 * mantB b + 1) by omega, Nat.mul_assoc]
theorem v_mid {b : Nat} (H : Parts b) (hb : b < 9218868437227405312) : mid (b - 1) < vv b ∧ vv b < mid b := by
  have h1 := low_mid H hb
  have h2 := high_mid b
  have h3 : 4 * mantB b * 2 ^ (exB b - 1) = 2 * vv b := by
    unfold vv
    have : 2 ^ exB b = 2 * 2 ^ (exB b - 1) := by rw [Nat.mul_comm, ← Nat.pow_succ]; congr 1; have := H.e1; omega
    rw [this]
    generalize 2 ^ (exB b - 1) = P
    grind
  have hp : 0 < 2 ^ (exB b - 1) := Nat.two_pow_pos _
  have l1 : lowB b * 2 ^ (exB b - 1) < 4 * mantB b * 2 ^ (exB b - 1) := Nat.mul_lt_mul_of_pos_right (by have := H.m1; unfold lowB; split <;> omega) hp
  have l2 : 4 * mantB b * 2 ^ (exB b - 1) < (4 * mantB b + 2) * 2 ^ (exB b - 1) := Nat.mul_lt_mul_of_pos_right (by omega) hp
  omega
theorem ag_mid {b c l M : Nat} (s : Int) (h1 : 1 ≤ exB b) (hl : l * 2 ^ (exB b - 1) = 2 * M) :
    (agV c l s ((exB b : Int) - 1077) < 0 ↔ c * Gs s < M * 10 ^ (-s).toNat) ∧ (agV c l s ((exB b : Int) - 1077) = 0 ↔ c * Gs s = M * 10 ^ (-s).toNat) ∧
    (0 < agV c l s ((exB b : Int) - 1077) ↔ M * 10 ^ (-s).toNat < c * Gs s) := by
  unfold agV
  rw [cmp3_neg, cmp3_zero, cmp3_pos]
  have hk : kbig = 1075 := rfl
  have e1 : 2 ^ (-((exB b : Int) - 1077)).toNat * 2 ^ (exB b - 1 - ((exB b : Int) - 1077).toNat) = big * 2 := by
    unfold big
    rw [← Nat.pow_add, ← Nat.pow_succ]; congr 1; omega
  have e2 : 2 ^ ((exB b : Int) - 1077).toNat * 2 ^ (exB b - 1 - ((exB b : Int) - 1077).toNat) = 2 ^ (exB b - 1) := by
    rw [← Nat.pow_add]; congr 1; omega
  have hp : 0 < 2 ^ (exB b - 1 - ((exB b : Int) - 1077).toNat) := Nat.two_pow_pos _
  have A : c * 10 ^ s.toNat * 2 ^ (-((exB b : Int) - 1077)).toNat * 2 ^ (exB b - 1 - ((exB b : Int) - 1077).toNat) = c * Gs s * 2 := by
    unfold Gs
    rw [Nat.mul_assoc, e1, ← Nat.mul_assoc, Nat.mul_assoc c]
  have C : l * 10 ^ (-s).toNat * 2 ^ ((exB b : Int) - 1077).toNat * 2 ^ (exB b - 1 - ((exB b : Int) - 1077).toNat) = M * 10 ^ (-s).toNat * 2 := by
    rw [Nat.mul_assoc, e2, Nat.mul_right_comm, hl]
    grind
  have s1 := scale_le hp (by decide) A C
  have s2 := scale_le hp (by decide) C A
  generalize c * 10 ^ s.toNat * 2 ^ (-((exB b : Int) - 1077)).toNat = a at *
  generalize l * 10 ^ (-s).toNat * 2 ^ ((exB b : Int) - 1077).toNat = d at *
  omega
theorem mant_even (b : Nat) : mantB b % 2 = b % 2 := by unfold mantB; split <;> omega
theorem Rd_zg (b c : Nat) (s : Int) : Rd b c s ↔ if b % 2 = 0 then mid (b - 1) * 10 ^ (-s).toNat ≤ c * Gs s ∧ c * Gs s ≤ mid b * 10 ^ (-s).toNat
    else mid (b - 1) * 10 ^ (-s).toNat < c * Gs s ∧ c * Gs s < mid b * 10 ^ (-s).toNat := by
  unfold Rd Gs
  rw [← Nat.mul_assoc]
/-- Side tells where c 10^s lies -/
theorem side_iff {b : Nat} (H : Parts b) (hb : b < 9218868437227405312) (c : Nat) (s : Int) :
    (sideV b c s = 0 ↔ Rd b c s) ∧
    (sideV b c s = -1 ↔ if b % 2 = 0 then c * Gs s < mid (b - 1) * 10 ^ (-s).toNat else c * Gs s ≤ mid (b - 1) * 10 ^ (-s).toNat) ∧
    (sideV b c s = -1 ∨ sideV b c s = 0 ∨ sideV b c s = 1) := by
  obtain ⟨a1, a2, a3⟩ := ag_mid (c := c) s H.e1 (low_mid H hb)
  obtain ⟨d1, d2, d3⟩ := ag_mid (c := c) s H.e1 (high_mid b)
  have hv := v_mid H hb
  have hU : 0 < 10 ^ (-s).toNat := Nat.pow_pos (by decide)
  have hlt : mid (b - 1) * 10 ^ (-s).toNat < mid b * 10 ^ (-s).toNat := Nat.mul_lt_mul_of_pos_right (by omega) hU
  rw [Rd_zg]
  unfold sideV sideS
  rw [mant_even]
  generalize agV c (lowB b) s ((exB b : Int) - 1077) = x at *
  generalize agV c (4 * mantB b + 2) s ((exB b : Int) - 1077) = y at *
  generalize mid (b - 1) * 10 ^ (-s).toNat = L at *
  generalize mid b * 10 ^ (-s).toNat = M at *
  generalize c * Gs s = C at *
  by_cases he : b % 2 = 0
  · rw [if_pos he, if_pos he, decide_eq_true he]
    simp only [Bool.true_eq_false, and_false, or_false]
    by_cases hx : x < 0
    · rw [if_pos hx]; simp; omega
    · rw [if_neg hx]
      by_cases hy : 0 < y
      · rw [if_pos hy]; simp; omega
      · rw [if_neg hy]; simp; omega
  · rw [if_neg he, if_neg he, decide_eq_false he]
    simp only [and_true]
    by_cases hx : x < 0 ∨ x = 0
    · rw [if_pos hx]; simp; omega
    · rw [if_neg hx]
      by_cases hy : 0 < y ∨ y = 0
      · rw [if_pos hy]; simp; omega
      · rw [if_neg hy]; simp; omega
end Go.Proofs.YthjfdhkahmlolaaGreatDoor
