/- Floats of 64 bits as the model has them (Ieee.double), plainly: rounding, scale, sticky bits; no program in sight. -/
import Ieee.Arith
import Derived.Laws.FloatBits
namespace Go.Proofs.YthjfdhkahmlolaaGreatDoor.Pq.Flt
open Ieee

abbrev D : Format := Ieee.double
theorem lp : D.leastPlace = -1074 := by decide
theorem bin : D.binade = 4503599627370496 := by decide
theorem ir : D.infRung = 9218868437227405312 := by decide
theorem sw : D.signWeight = 9223372036854775808 := by decide
theorem fb : D.fractionBits = 52 := rfl

/-- n / 2^d to the nearest, of two as near the even one. -/
def rne (n d : Nat) : Nat := n / 2 ^ d + if 2 ^ d < 2 * (n % 2 ^ d) ∨ (2 ^ d = 2 * (n % 2 ^ d) ∧ n / 2 ^ d % 2 = 1) then 1 else 0

theorem cut_eq (neg : Bool) (n d : Nat) : Toward.even.cut neg n d = rne n d := by
  unfold Toward.cut rne
  simp only [Nat.shiftLeft_eq, Nat.one_mul]
  by_cases h : d ≤ n.log2 + 2
  · rw [Nat.min_eq_left h]
    generalize 2 ^ d = p
    by_cases h1 : p < 2 * (n % p)
    · simp [h1]
    · by_cases h2 : p = 2 * (n % p) ∧ n / p % 2 = 1
      · obtain ⟨h3, h4⟩ := h2
        have : (p == 2 * (n % p)) = true := by simpa using h3
        simp [← h3, h4]
      · have h5 : ((p == 2 * (n % p)) && (n / p % 2 == 1)) = false := by
          simp only [Bool.and_eq_false_imp, beq_iff_eq, beq_eq_false_iff_ne]
          exact fun a b => h2 ⟨a, b⟩
        simp [h1, h2, h5]
  · have hn : n < 2 ^ (n.log2 + 1) := Nat.lt_log2_self
    have e1 : 2 ^ (n.log2 + 2) = 2 * 2 ^ (n.log2 + 1) := by rw [Nat.pow_succ, Nat.mul_comm]
    have e2 : 2 ^ (n.log2 + 2) ≤ 2 ^ d := Nat.pow_le_pow_right (by omega) (by omega)
    rw [Nat.min_eq_right (by omega)]
    generalize 2 ^ (n.log2 + 2) = q at *
    generalize 2 ^ d = p at *
    generalize 2 ^ (n.log2 + 1) = r at *
    rw [Nat.div_eq_of_lt (show n < q by omega), Nat.mod_eq_of_lt (show n < q by omega), Nat.div_eq_of_lt (show n < p by omega), Nat.mod_eq_of_lt (show n < p by omega)]
    have h1 : ¬ q < 2 * n := by omega
    have h2 : (q == 2 * n) = false := by simp; omega
    have h3 : ¬ p < 2 * n := by omega
    have h4 : ¬ p = 2 * n := by omega
    simp [h1, h2, h3, h4]

theorem rne_zero (n : Nat) : rne n 0 = n := by
  unfold rne
  have : n % 2 ^ 0 = 0 := by simp [Nat.mod_one]
  rw [this]; simp

theorem rne_mul (n k d : Nat) : rne (n * 2 ^ k) (d + k) = rne n d := by
  unfold rne
  have hp : 0 < 2 ^ k := Nat.two_pow_pos k
  rw [Nat.pow_add, Nat.mul_div_mul_right _ _ hp, Nat.mul_mod_mul_right]
  generalize 2 ^ k = q at *
  generalize 2 ^ d = p
  generalize n % p = r
  have a : (p * q < 2 * (r * q)) ↔ (p < 2 * r) := by
    rw [← Nat.mul_assoc]; exact Nat.mul_lt_mul_right hp
  have b : (p * q = 2 * (r * q)) ↔ (p = 2 * r) := by
    rw [← Nat.mul_assoc]; exact Nat.mul_right_cancel_iff hp
  simp only [a, b]

/-- n shifted down by d; the last bit stands for all that is below it, too -/
def stk (n d : Nat) : Nat := if n % 2 ^ d = 0 then n / 2 ^ d else n / 2 ^ d / 2 * 2 + 1

theorem stk_zero (n : Nat) : stk n 0 = n := by simp [stk, Nat.mod_one]

theorem rne_stk (n k j : Nat) (hj : 2 ≤ j) : rne (stk n k) j = rne n (k + j) := by
  unfold rne
  have hk : 0 < 2 ^ k := Nat.two_pow_pos k
  obtain ⟨i, rfl⟩ : ∃ i, j = i + 2 := ⟨j - 2, by omega⟩
  have hi : 0 < 2 ^ i := Nat.two_pow_pos i
  have e1 : 2 ^ (i + 2) = 4 * 2 ^ i := by rw [Nat.pow_add]; omega
  have e2 : 2 ^ (k + (i + 2)) = 2 ^ k * (4 * 2 ^ i) := by rw [Nat.pow_add, e1]
  rw [e1, e2]
  generalize 2 ^ i = h at *
  -- n = q 2^k + r, q = a (4h) + b
  have hn := Nat.div_add_mod n (2 ^ k)
  have hr := Nat.mod_lt n hk
  have hq := Nat.div_add_mod (n / 2 ^ k) (4 * h)
  have hb := Nat.mod_lt (n / 2 ^ k) (show 0 < 4 * h by omega)
  have d1 : n / (2 ^ k * (4 * h)) = n / 2 ^ k / (4 * h) := by rw [Nat.div_div_eq_div_mul]
  have m1 : n % (2 ^ k * (4 * h)) = (n / 2 ^ k) % (4 * h) * 2 ^ k + n % 2 ^ k := by
    rw [Nat.mod_mul, Nat.add_comm, Nat.mul_comm (2 ^ k)]
  rw [d1, m1]
  by_cases h0 : n % 2 ^ k = 0
  · unfold stk
    rw [if_pos h0, h0]
    generalize n / 2 ^ k = q at *
    generalize hbb : q % (4 * h) = b at *
    generalize 2 ^ k = p at *
    have a : (p * (4 * h) < 2 * (b * p + 0)) ↔ (4 * h < 2 * b) := by
      rw [Nat.add_zero, Nat.mul_comm p, ← Nat.mul_assoc]; exact Nat.mul_lt_mul_right hk
    have b' : (p * (4 * h) = 2 * (b * p + 0)) ↔ (4 * h = 2 * b) := by
      rw [Nat.add_zero, Nat.mul_comm p, ← Nat.mul_assoc]; exact Nat.mul_right_cancel_iff hk
    simp only [a, b']
  · unfold stk
    rw [if_neg h0]
    generalize hqq : n / 2 ^ k = q at *
    generalize hrr : n % 2 ^ k = r at *
    generalize hbb : q % (4 * h) = b at *
    generalize haa : q / (4 * h) = a at *
    generalize 2 ^ k = p at *
    -- s = q / 2 * 2 + 1
    have hs : q / 2 * 2 + 1 = 4 * h * a + (b / 2 * 2 + 1) := by
      have h3 : q = 4 * h * a + b := hq.symm
      have h4 : 4 * h * a = 2 * (2 * h * a) := by rw [show 4 * h = 2 * (2 * h) by omega, Nat.mul_assoc]
      omega
    have hb2 : b / 2 * 2 + 1 < 4 * h := by omega
    have s1 : (q / 2 * 2 + 1) / (4 * h) = a := by
      rw [hs, Nat.mul_add_div (by omega), Nat.div_eq_of_lt hb2]; omega
    have s2 : (q / 2 * 2 + 1) % (4 * h) = b / 2 * 2 + 1 := by
      rw [hs, Nat.mul_add_mod, Nat.mod_eq_of_lt hb2]
    rw [s1, s2]
    have c1 : (4 * h < 2 * (b / 2 * 2 + 1)) ↔ (p * (4 * h) < 2 * (b * p + r)) := by
      constructor
      · intro hh
        have : 2 * h ≤ b := by omega
        have h5 : 2 * h * p ≤ b * p := Nat.mul_le_mul_right _ this
        have h6 : p * (4 * h) = 2 * (2 * h * p) := by rw [Nat.mul_comm p, show 4 * h = 2 * (2 * h) by omega, Nat.mul_assoc]
        omega
      · intro hh
        have h6 : p * (4 * h) = 2 * (2 * h * p) := by rw [Nat.mul_comm p, show 4 * h = 2 * (2 * h) by omega, Nat.mul_assoc]
        rcases Nat.lt_or_ge b (2 * h) with q1 | q1
        · have h5 : (b + 1) * p ≤ 2 * h * p := Nat.mul_le_mul_right _ q1
          rw [Nat.add_mul, Nat.one_mul] at h5
          omega
        · omega
    have c2 : ¬ (4 * h = 2 * (b / 2 * 2 + 1)) := by omega
    have c3 : ¬ (p * (4 * h) = 2 * (b * p + r)) := by
      intro hh
      have h6 : p * (4 * h) = 2 * (2 * h * p) := by rw [Nat.mul_comm p, show 4 * h = 2 * (2 * h) by omega, Nat.mul_assoc]
      have h7 : 2 * h * p = b * p + r := by omega
      rcases Nat.lt_or_ge b (2 * h) with q1 | q1
      · have h5 : (b + 1) * p ≤ 2 * h * p := Nat.mul_le_mul_right _ q1
        rw [Nat.add_mul, Nat.one_mul] at h5
        omega
      · have h5 : 2 * h * p ≤ b * p := Nat.mul_le_mul_right _ q1
        omega
    simp only [c1, c2, c3, false_and, or_false]

theorem stk_stk (n k : Nat) : stk (stk n k) 1 = stk n (k + 1) := by
  unfold stk
  have hk : 0 < 2 ^ k := Nat.two_pow_pos k
  have m1 : n % 2 ^ (k + 1) = n / 2 ^ k % 2 * 2 ^ k + n % 2 ^ k := by
    rw [Nat.pow_succ, Nat.mod_mul, Nat.add_comm, Nat.mul_comm (2 ^ k)]
  have d1 : n / 2 ^ (k + 1) = n / 2 ^ k / 2 := by rw [Nat.pow_succ, Nat.div_div_eq_div_mul]
  rw [m1, d1]
  generalize n / 2 ^ k = q
  generalize n % 2 ^ k = r
  generalize 2 ^ k = p at *
  by_cases h0 : r = 0
  · subst h0
    by_cases h2 : q % 2 = 0
    · simp [h2]
    · have h3 : q % 2 = 1 := by omega
      have : ¬ (1 * p = 0) := by omega
      simp [h3, Nat.pow_one]; omega
  · have h1 : ¬ (q % 2 * p + r = 0) := by omega
    rw [if_neg h0, if_neg h1]
    have : (q / 2 * 2 + 1) % 2 ^ 1 = 1 := by omega
    rw [if_neg (by omega)]
    omega

/-- the rung nearest to mag times 2^place -/
def rung (mag : Nat) (place : Int) : Nat :=
  if mag = 0 then 0 else
  let last := max (place + mag.log2 - 52) (-1074)
  min ((last + 1074).toNat * 4503599627370496 + rne (mag * 2 ^ (place - last).toNat) (last - place).toNat) 9218868437227405312

theorem nearest_eq (neg : Bool) (mag : Nat) (place : Int) : D.nearest neg mag place = D.word neg (rung mag place) := by
  unfold Format.nearest rung
  by_cases h : mag = 0
  · simp [h]
  · simp only [h, if_false, lp, bin, ir, fb, cut_eq, Nat.shiftLeft_eq, Int.sub_neg]
    rfl

theorem log2_mul_pow (m k : Nat) (h : m ≠ 0) : (m * 2 ^ k).log2 = m.log2 + k := by
  have hp := Nat.two_pow_pos k
  have h1 := Nat.log2_self_le h
  have h2 := @Nat.lt_log2_self m
  have h0 : m * 2 ^ k ≠ 0 := by
    have := Nat.mul_pos (Nat.pos_of_ne_zero h) hp; omega
  apply Nat.le_antisymm
  · have : (m * 2 ^ k).log2 < m.log2 + 1 + k := (Nat.log2_lt h0).2 (by rw [Nat.pow_add]; exact (Nat.mul_lt_mul_right hp).2 h2)
    omega
  · exact (Nat.le_log2 h0).2 (by rw [Nat.pow_add]; exact Nat.mul_le_mul_right _ h1)

theorem rung_scale (m k : Nat) (p : Int) : rung (m * 2 ^ k) p = rung m (p + k) := by
  unfold rung
  by_cases h : m = 0
  · simp [h]
  · have h0 : m * 2 ^ k ≠ 0 := by
      have := Nat.mul_pos (Nat.pos_of_ne_zero h) (Nat.two_pow_pos k); omega
    rw [if_neg h, if_neg h0, log2_mul_pow m k h]
    have e : p + ((m.log2 + k : Nat) : Int) - 52 = p + k + m.log2 - 52 := by omega
    rw [e]
    generalize max (p + (k : Int) + m.log2 - 52) (-1074) = last
    dsimp only
    congr 2
    rcases Int.le_total (p + k) last with q | q
    · have a : (p - last).toNat = 0 := by omega
      have b : (p + k - last).toNat = 0 := by omega
      have c : (last - p).toNat = (last - (p + k)).toNat + k := by omega
      rw [a, b, c, Nat.pow_zero, Nat.mul_one, Nat.mul_one, rne_mul]
    · rcases Int.le_total last p with q2 | q2
      · have a : (last - p).toNat = 0 := by omega
        have b : (last - (p + k)).toNat = 0 := by omega
        have c : (p + k - last).toNat = k + (p - last).toNat := by omega
        rw [a, b, c, rne_zero, rne_zero, Nat.pow_add, Nat.mul_assoc]
      · have a : (p - last).toNat = 0 := by omega
        have b : (last - (p + k)).toNat = 0 := by omega
        have c : k = (p + k - last).toNat + (last - p).toNat := by omega
        rw [a, b, rne_zero, Nat.pow_zero, Nat.mul_one]
        generalize hx : (p + k - last).toNat = x at *
        generalize hy : (last - p).toNat = y at *
        rw [c, Nat.pow_add, ← Nat.mul_assoc]
        have := rne_mul (m * 2 ^ x) y 0
        rw [Nat.zero_add] at this
        rw [this, rne_zero]

theorem stk_log2 (n k : Nat) (h : 2 ≤ n / 2 ^ k) : (stk n k).log2 = (n / 2 ^ k).log2 := by
  have key : ∀ q, 2 ≤ q → (q / 2 * 2 + 1).log2 = q.log2 := by
    intro q hq
    have h1 : (q / 2 * 2 + 1) / 2 = q / 2 := by omega
    rw [Nat.log2_def (q / 2 * 2 + 1), Nat.log2_def q, if_pos (by omega), if_pos hq, h1]
  unfold stk
  split
  · rfl
  · exact key _ h

theorem log2_div (n k : Nat) (h : 1 ≤ n / 2 ^ k) : (n / 2 ^ k).log2 + k = n.log2 := by
  have hp := Nat.two_pow_pos k
  have hn : n ≠ 0 := by rintro rfl; simp at h
  have h1 := Nat.log2_self_le (show n / 2 ^ k ≠ 0 by omega)
  have h2 := @Nat.lt_log2_self (n / 2 ^ k)
  apply Nat.le_antisymm
  · exact (Nat.le_log2 hn).2 (by rw [Nat.pow_add]; exact (Nat.le_div_iff_mul_le hp).1 h1)
  · have : n.log2 < (n / 2 ^ k).log2 + 1 + k := (Nat.log2_lt hn).2 (by rw [Nat.pow_add]; exact (Nat.div_lt_iff_lt_mul hp).1 h2)
    omega

/-- WHAT A STICKY BIT IS FOR: with 54 digits and more left, the nearest rung is the same. -/
theorem rung_stk (n k : Nat) (p : Int) (h : 2 ^ 54 ≤ n / 2 ^ k) : rung (stk n k) p = rung n (p - k) := by
  have h2 : 2 ≤ n / 2 ^ k := by omega
  have hl := stk_log2 n k h2
  have hd := log2_div n k (by omega)
  have h54 : 54 ≤ (n / 2 ^ k).log2 := (Nat.le_log2 (by omega)).2 h
  have hs0 : stk n k ≠ 0 := by
    unfold stk; split <;> omega
  have hn0 : n ≠ 0 := by rintro rfl; simp at h
  unfold rung
  rw [if_neg hs0, if_neg hn0, hl]
  have e : p - (k : Int) + n.log2 - 52 = p + (n / 2 ^ k).log2 - 52 := by omega
  rw [e]
  generalize hlast : max (p + ((n / 2 ^ k).log2 : Int) - 52) (-1074) = last
  dsimp only
  have hge : p + 2 ≤ last := by omega
  have a : (p - last).toNat = 0 := by omega
  have b : (p - (k : Int) - last).toNat = 0 := by omega
  have c : (last - (p - (k : Int))).toNat = k + (last - p).toNat := by omega
  rw [a, b, c, Nat.pow_zero, Nat.mul_one, Nat.mul_one, rne_stk _ _ _ (by omega)]

end Go.Proofs.YthjfdhkahmlolaaGreatDoor.Pq.Flt
