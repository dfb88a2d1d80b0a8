/- Floats of 64 bits as the model has them (Ieee.double), plainly: rounding, scale, sticky bits; no program in sight. -/
import Ieee.Arith
import Derived.Laws.FloatBits
namespace Go.Proofs.YtiijgghholhcnaaGreatDoor.Re.Pq.Flt
open Ieee

abbrev D : Format := Ieee.double
theorem lp : D.leastPlace = -1074 := by decide
theorem bin : D.binade = 4503599627370496 := by decide
theorem ir : D.infRung = 9218868437227405312 := by decide
theorem sw : D.signWeight = 9223372036854775808 := by decide
theorem fb : D.fractionBits = 52 := rfl

/-- n / 2^d to the nearest, of two as near the even one. -/
def rne (n d : Nat) : Nat := n / 2 ^ d + if 2 ^ d < 2 * (n % 2 ^ d) ∨ (2 ^ d = 2 * (n % 2 ^ d) ∧ n / 2 ^ d % 2 = 1) then 1 else 0

theorem cut_eq (neg : Bool) (n d : Nat) : Toward.even.cut neg n d = rne n d := by
  unfold Toward.cut rne
  simp only [Nat.shiftLeft_eq, Nat.one_mul]
  by_cases h : d ≤ n.log2 + 2
  · rw [Nat.min_eq_left h]
    generalize 2 ^ d = p
    by_cases h1 : p < 2 * (n % p)
    · simp [h1]
    · by_cases h2 : p = 2 * (n % p) ∧ n / p % 2 = 1
      · obtain ⟨h3, h4⟩ := h2
        have : (p == 2 * (n % p)) = true := by simpa using h3
        simp [← h3, h4]
      · have h5 : ((p == 2 * (n % p)) && (n / p % 2 == 1)) = false := by
          simp only [Bool.and_eq_false_imp, beq_iff_eq, beq_eq_false_iff_ne]
          exact fun a b => h2 ⟨a, b⟩
        simp [h1, h2, h5]
  · have hn : n < 2 ^ (n.log2 + 1) := Nat.lt_log2_self
    have e1 : 2 ^ (n.log2 + 2) = 2 * 2 ^ (n.log2 + 1) := by rw [Nat.pow_succ, Nat.mul_comm]
    have e2 : 2 ^ (n.log2 + 2) ≤ 2 ^ d := Nat.pow_le_pow_right (by omega) (by omega)
    rw [Nat.min_eq_right (by omega)]
    generalize 2 ^ (n.log2 + 2) = q at *
    generalize 2 ^ d = p at *
    generalize 2 ^ (n.log2 + 1) = r at *
    rw [Nat.div_eq_of_lt (show n < q by omega), Nat.mod_eq_of_lt (show n < q by omega), Nat.div_eq_of_lt (show n < p by omega), Nat.mod_eq_of_lt (show n < p by omega)]
    have h1 : ¬ q < 2 * n := by omega
    have h2 : (q == 2 * n) = false := by simp; omega
    have h3 : ¬ p < 2 * n := by omega
    have h4 : ¬ p = 2 * n := by omega
    simp [h1, h2, h3, h4]

theorem rne_zero (n : Nat) : rne n 0 = n := by
  unfold rne
  have : n % 2 ^ 0 = 0 := by simp [Nat.mod_one]
  rw [this]; simp

theorem rne_mul (n k d : Nat) : rne (n * 2 ^ k) (d + k) = rne n d := by
  unfold rne
  have hp : 0 < 2 ^ k := Nat.two_pow_pos k
  rw [Nat.pow_add, Nat.mul_div_mul_right _ _ hp, Nat.mul_mod_mul_right]
  generalize 2 ^ k = q at *
  generalize 2 ^ d = p
  generalize n % p = r
  have a : (p * q < 2 * (r * q)) ↔ (p < 2 * r) := by
    rw [← Nat.mul_assoc]; exact Nat.mul_lt_mul_right hp
  have b : (p * q = 2 * (r * q)) ↔ (p = 2 * r) := by
    rw [← Nat.mul_assoc]; exact Nat.mul_right_cancel_iff hp
  simp only [a, b]

/-- n shifted down by d; the last bit stands for all that is below it, too -/
def stk (n d : Nat) : Nat := if n % 2 ^ d = 0 then n / 2 ^ d else n / 2 ^ d / 2 * 2 + 1

theorem stk_zero (n : Nat) : stk n 0 = n := by simp [stk, Nat.mod_one]

theorem rne_stk (n k j : Nat) (hj : 2 ≤ j) : rne (stk n k) j = rne n (k + j) := by
  unfold rne
  have hk : 0 < 2 ^ k := Nat.two_pow_pos k
  obtain ⟨i, rfl⟩ : ∃ i, j = i + 2 := ⟨j - 2, by omega⟩
  have hi : 0 < 2 ^ i := Nat.two_pow_pos i
  have e1 : 2 ^ (i + 2) = 4 * 2 ^ i := by rw [Nat.pow_add]; omega
  have e2 : 2 ^ (k + (i + 2)) = 2 ^ k * (4 * 2 ^ i) := by rw [Nat.pow_add, e1]
  rw [e1, e2]
  generalize 2 ^ i = h at *
  -- n = q 2^k + r, q = a (4h) + b
  have hn := Nat.div_add_mod n (2 ^ k)
  have hr := Nat.mod_lt n hk
  have hq := Nat.div_add_mod (n / 2 ^ k) (4 * h)
  have hb := Nat.mod_lt (n / 2 ^ k) (show 0 < 4 * h by omega)
  have d1 : n / (2 ^ k * (4 * h)) = n / 2 ^ k / (4 * h) := by rw [Nat.div_div_eq_div_mul]
  have m1 : n % (2 ^ k * (4 * h)) = (n / 2 ^ k) % (4 * h) * 2 ^ k + n % 2 ^ k := by
    rw [Nat.mod_mul, Nat.add_comm, Nat.mul_comm (2 ^ k)]
  rw [d1, m1]
  by_cases h0 : n % 2 ^ k = 0
  · unfold stk
    rw [if_pos h0, h0]
    generalize n / 2 ^ k = q at *
    generalize hbb : q % (4 * h) = b at *
    generalize 2 ^ k = p at *
    have a : (p * (4 * h) < 2 * (b * p + 0)) ↔ (4 * h < 2 * b) := by
      rw [Nat.add_zero, Nat.mul_comm p, ← Nat.mul_assoc]; exact Nat.mul_lt_mul_right hk
    have b' : (p * (4 * h) = 2 * (b * p + 0)) ↔ (4 * h = 2 * b) := by
      rw [Nat.add_zero, Nat.mul_comm p, ← Nat.mul_assoc]; exact Nat.mul_right_cancel_iff hk
    simp only [a, b']
  · unfold stk
    rw [if_neg h0]
    generalize hqq : n / 2 ^ k = q at *
    generalize hrr : n % 2 ^ k = r at *
    generalize hbb : q % (4 * h) = b at *
    generalize haa : q / (4 * h) = a at *
    generalize 2 ^ k = p at *
    -- s = q / 2 * 2 + 1
    have hs : q / 2 * 2 + 1 = 4 * h * a + (b / 2 * 2 + 1) := by
      have h3 : q = 4 * h * a + b := hq.symm
      have h4 : 4 * h * a = 2 * (2 * h * a) := by rw [show 4 * h = 2 * (2 * h) by omega, Nat.mul_assoc]
      omega
    have hb2 : b / 2 * 2 + 1 < 4 * h := by omega
    have s1 : (q / 2 * 2 + 1) / (4 * h) = a := by
      rw [hs, Nat.mul_add_div (by omega), Nat.div_eq_of_lt hb2]; omega
    have s2 : (q / 2 * 2 + 1) % (4 * h) = b / 2 * 2 + 1 := by
      rw [hs, Nat.mul_add_mod, Nat.mod_eq_of_lt hb2]
    rw [s1, s2]
    have c1 : (4 * h < 2 * (b / 2 * 2 + 1)) ↔ (p * (4 * h) < 2 * (b * p + r)) := by
      constructor
      · intro hh
        have : 2 * h ≤ b := by omega
        have h5 : 2 * h * p ≤ b * p := Nat.mul_le_mul_right _ this
        have h6 : p * (4 * h) = 2 * (2 * h * p) := by rw [Nat.mul_comm p, show 4 * h = 2 * (2 * h) by omega, Nat.mul_assoc]
        omega
      · intro hh
        have h6 : p * (4 * h) = 2 * (2 * h * p) := by rw [Nat.mul_comm p, show 4 * h = 2 * (2 * h) by omega, Nat.mul_assoc]
        rcases Nat.lt_or_ge b (2 * h) with q1 | q1
        · have h5 : (b + 1) * p ≤ 2 * h * p := Nat.mul_le_mul_right _ q1
          rw [Nat.add_mul, Nat.one_mul] at h5
          omega
        · omega
    have c2 : ¬ (4 * h = 2 * (b / 2 * 2 + 1)) := by omega
    have c3 : ¬ (p * (4 * h) = 2 * (b * p + r)) := by
      intro hh
      have h6 : p * (4 * h) = 2 * (2 * h * p) := by rw [Nat.mul_comm p, show 4 * h = 2 * (2 * h) by omega, Nat.mul_assoc]
      have h7 : 2 * h * p = b * p + r := by omega
      rcases Nat.lt_or_ge b (2 * h) with q1 | q1
      · have h5 : (b + 1) * p ≤ 2 * h * p := Nat.mul_le_mul_right _ q1
        rw [Nat.add_mul, Nat.one_mul] at h5
        omega
      · have h5 : 2 * h * p ≤ b * p := Nat.mul_le_mul_right _ q1
        omega
    simp only [c1, c2, c3, false_and, or_false]

theorem stk_stk (n k : Nat) : stk (stk n k) 1 = stk n (k + 1) := by
  unfold stk
  have hk : 0 < 2 ^ k := Nat.two_pow_pos k
  have m1 : n % 2 ^ (k + 1) = n / 2 ^ k % 2 * 2 ^ k + n % 2 ^ k := by
    rw [Nat.pow_succ, Nat.mod_mul, Nat.add_comm, Nat.mul_comm (2 ^ k)]
  have d1 : n / 2 ^ (k + 1) = n / 2 ^ k / 2 := by rw [Nat.pow_succ, Nat.div_div_eq_div_mul]
  rw [m1, d1]
  generalize n / 2 ^ k = q
  generalize n % 2 ^ k = r
  generalize 2 ^ k = p at *
  by_cases h0 : r = 0
  · subst h0
    by_cases h2 : q % 2 = 0
    · simp [h2]
    · have h3 : q % 2 = 1 := by omega
      have : ¬ (1 * p = 0) := by omega
      simp [h3, Nat.pow_one]; omega
  · have h1 : ¬ (q % 2 * p + r = 0) := by omega
    rw [if_neg h0, if_neg h1]
    have : (q / 2 * 2 + 1) % 2 ^ 1 = 1 := by omega
    rw [if_neg (by omega)]
    omega

/-- the rung nearest to mag times 2^place -/
def rung (mag : Nat) (place : Int) : Nat :=
  if mag = 0 then 0 else
  let last := max (place + mag.log2 - 52) (-1074)
  min ((last + 1074).toNat * 4503599627370496 + rne (mag * 2 ^ (place - last).toNat) (last - place).toNat) 9218868437227405312

theorem nearest_eq (neg : Bool) (mag : Nat) (place : Int) : D.nearest neg mag place = D.word neg (rung mag place) := by
  unfold Format.nearest rung
  by_cases h : mag = 0
  · simp [h]
  · simp only [h, if_false, lp, bin, ir, fb, cut_eq, Nat.shiftLeft_eq, Int.sub_neg]
    rfl

theorem log2_mul_pow (m k : Nat) (h : m ≠ 0) : (m * 2 ^ k).log2 = m.log2 + k := by
  have hp := Nat.two_pow_pos k
  have h1 := Nat.log2_self_le h
  have h2 := @Nat.lt_log2_self m
  have h0 : m * 2 ^ k ≠ 0 := by
    have := Nat.mul_pos (Nat.pos_of_ne_zero h) hp; omega
  apply Nat.le_antisymm
  · have : (m * 2 ^ k).log2 < m.log2 + 1 + k := (Nat.log2_lt h0).2 (by rw [Nat.pow_add]; exact (Nat.mul_lt_mul_right hp).2 h2)
    omega
  · exact (Nat.le_log2 h0).2 (by rw [Nat.pow_add]; exact Nat.mul_le_mul_right _ h1)

theorem rung_scale (m k : Nat) (p : Int) : rung (m * 2 ^ k) p = rung m (p + k) := by
  unfold rung
  by_cases h : m = 0
  · simp [h]
  · have h0 : m * 2 ^ k ≠ 0 := by
      have := Nat.mul_pos (Nat.pos_of_ne_zero h) (Nat.two_pow_pos k); omega
    rw [if_neg h, if_neg h0, log2_mul_pow m k h]
    have e : p + ((m.log2 + k : Nat) : Int) - 52 = p + k + m.log2 - 52 := by omega
    rw [e]
    generalize max (p + (k : Int) + m.log2 - 52) (-1074) = last
    dsimp only
    congr 2
    rcases Int.le_total (p + k) last with q | q
    · have a : (p - last).toNat = 0 := by omega
      have b : (p + k - last).toNat = 0 := by omega
      have c : (last - p).toNat = (last - (p + k)).toNat + k := by omega
      rw [a, b, c, Nat.pow_zero, Nat.mul_one, Nat.mul_one, rne_mul]
    · rcases Int.le_total last p with q2 | q2
      · have a : (last - p).toNat = 0 := by omega
        have b : (last - (p + k)).toNat = 0 := by omega
        have c : (p + k - last).toNat = k + (p - last).toNat := by omega
        rw [a, b, c, rne_zero, rne_zero, Nat.pow_add, Nat.mul_assoc]
      · have a : (p - last).toNat = 0 := by omega
        have b : (last - (p + k)).toNat = 0 := by omega
        have c : k = (p + k - last).toNat + (last - p).toNat := by omega
        rw [a, b, rne_zero, Nat.pow_zero, Nat.mul_one]
        generalize hx : (p + k - last).toNat = x at *
        generalize hy : (last - p).toNat = y at *
        rw [c, Nat.pow_add, ← Nat.mul_assoc]
        have := rne_mul (m * 2 ^ x) y 0
        rw [Nat.zero_add] at this
        rw [this, rne_zero]

theorem stk_log2 (n k : Nat) (h : 2 ≤ n / 2 ^ k) : (stk n k).log2 = (n / 2 ^ k).log2 := by
  have key : ∀ q, 2 ≤ q → (q / 2 * 2 + 1).log2 = q.log2 := by
    intro q hq
    have h1 : (q / 2 * 2 + 1) / 2 = q / 2 := by omega
    rw [Nat.log2_def (q / 2 * 2 + 1), Nat.log2_def q, if_pos (by omega), if_pos hq, h1]
  unfold stk
  split
  · rfl
  · exact key _ h

theorem log2_div (n k : Nat) (h : 1 ≤ n / 2 ^ k) : (n / 2 ^ k).log2 + k = n.log2 := by
  have hp := Nat.two_pow_pos k
  have hn : n ≠ 0 := by rintro rfl; simp at h
  have h1 := Nat.log2_self_le (show n / 2 ^ k ≠ 0 by omega)
  have h2 := @Nat.lt_log2_self (n / 2 ^ k)
  apply Nat.le_antisymm
  · exact (Nat.le_log2 hn).2 (by rw [Nat.pow_add]; exact (Nat.le_div_iff_mul_le hp).1 h1)
  · have : n.log2 < (n / 2 ^ k).log2 + 1 + k := (Nat.log2_lt hn).2 (by rw [Nat.pow_add]; exact (Nat.div_lt_iff_lt_mul hp).1 h2)
    omega

/-- WHAT A STICKY BIT IS FOR: with 54 digits and more left, the nearest rung is the same. -/
theorem rung_stk (n k : Nat) (p : Int) (h : 2 ^ 54 ≤ n / 2 ^ k) : rung (stk n k) p = rung n (p - k) := by
  have h2 : 2 ≤ n / 2 ^ k := by omega
  have hl := stk_log2 n k h2
  have hd := log2_div n k (by omega)
  have h54 : 54 ≤ (n / 2 ^ k).log2 := (Nat.le_log2 (by omega)).2 h
  have hs0 : stk n k ≠ 0 := by
    unfold stk; split <;> omega
  have hn0 : n ≠ 0 := by rintro rfl; simp at h
  unfold rung
  rw [if_neg hs0, if_neg hn0, hl]
  have e : p - (k : Int) + n.log2 - 52 = p + (n / 2 ^ k).log2 - 52 := by omega
  rw [e]
  generalize hlast : max (p + ((n / 2 ^ k).log2 : Int) - 52) (-1074) = last
  dsimp only
  have hge : p + 2 ≤ last := by omega
  have a : (p - last).toNat = 0 := by omega
  have b : (p - (k : Int) - last).toNat = 0 := by omega
  have c : (last - (p - (k : Int))).toNat = k + (last - p).toNat := by omega
  rw [a, b, c, Nat.pow_zero, Nat.mul_one, Nat.mul_one, rne_stk _ _ _ (by omega)]

end Go.Proofs.YtiijgghholhcnaaGreatDoor.Re.Pq.Flt

/- Sums of floats of 64 bits, plainly: what the reference's way (three more digits, the last one sticky) comes to. -/
namespace Go.Proofs.YtiijgghholhcnaaGreatDoor.Re.Pq.Flt
open Ieee

def S : Nat := 9223372036854775808
def INF : Nat := 9218868437227405312
def NANW : Nat := 9221120237041090560
def B : Nat := 4503599627370496
def neg (a : Nat) : Bool := a / 9223372036854775808 % 2 == 1
def mag (a : Nat) : Nat := a % 9223372036854775808
def nan (a : Nat) : Bool := decide (9218868437227405312 < mag a)
/-- the significand and the exponent of a magnitude below infinity -/
def sig (g : Nat) : Nat := if g < 4503599627370496 then g else 4503599627370496 + g % 4503599627370496
def ex (g : Nat) : Int := if g < 4503599627370496 then -1074 else -1074 + ((g / 4503599627370496 - 1 : Nat) : Int)

theorem read_fin (a : Nat) (h : mag a < 9218868437227405312) : D.read a = .number (neg a) (sig (mag a)) (ex (mag a)) := by
  unfold Format.read
  simp only [lp, bin, ir, sw]
  unfold mag at *
  by_cases h1 : a % 9223372036854775808 < 4503599627370496
  · simp [h1, sig, ex, neg]
  · simp [h1, h, sig, ex, neg]
theorem read_inf (a : Nat) (h : mag a = 9218868437227405312) : D.read a = .infinity (neg a) := by
  unfold Format.read
  simp only [lp, bin, ir, sw]
  unfold mag at *
  simp [h, neg]
theorem read_nan (a : Nat) (h : nan a = true) : ∃ s t, D.read a = .nan s t := by
  unfold nan mag at h
  unfold Format.read
  simp only [lp, bin, ir, sw]
  have h' : 9218868437227405312 < a % 9223372036854775808 := by simpa using h
  have h1 : ¬ a % 9223372036854775808 < 4503599627370496 := by omega
  have h2 : ¬ a % 9223372036854775808 < 9218868437227405312 := by omega
  have h3 : ¬ a % 9223372036854775808 = 9218868437227405312 := by omega
  simp [h1, h2, h3]

/-- the sum, all NaNs as one -/
def radd (a b : Nat) : Nat := (D.add a b).getD 9221120237041090560
theorem sum_comm (x y : Datum) : x.sum y = y.sum x := by
  cases x <;> cases y <;> simp only [Datum.sum]
  · rename_i s m i t n j
    rw [Int.min_comm j i, Int.add_comm, Bool.and_comm]
  · rename_i s t
    by_cases h : s = t
    · subst h; rfl
    · rw [if_neg h, if_neg (fun e => h e.symm)]
theorem add_comm (a b : Nat) : D.add a b = D.add b a := by unfold Format.add; rw [sum_comm]
theorem radd_comm (a b : Nat) : radd a b = radd b a := by unfold radd; rw [add_comm]

theorem add_nan (a b : Nat) (h : nan a = true ∨ nan b = true) : D.add a b = none := by
  unfold Format.add
  rcases h with h | h
  · obtain ⟨s, t, e⟩ := read_nan a h
    rw [e]; rfl
  · obtain ⟨s, t, e⟩ := read_nan b h
    rw [e, sum_comm]; rfl
theorem radd_nan (a b : Nat) (h : nan a = true ∨ nan b = true) : radd a b = 9221120237041090560 := by unfold radd; rw [add_nan a b h]; rfl

theorem word_eq (s : Bool) (r : Nat) : D.word s r = (if s then 9223372036854775808 else 0) + r := by
  unfold Format.word; rw [sw]; cases s <;> simp

theorem add_inf (a b : Nat) (ha : mag a = 9218868437227405312) (hb : mag b < 9218868437227405312) : D.add a b = some (D.word (neg a) 9218868437227405312) := by
  unfold Format.add
  rw [read_inf a ha, read_fin b hb]
  simp [Datum.sum, Format.write, ir]
theorem add_inf_inf (a b : Nat) (ha : mag a = 9218868437227405312) (hb : mag b = 9218868437227405312) : D.add a b = if neg a = neg b then some (D.word (neg a) 9218868437227405312) else none := by
  unfold Format.add
  rw [read_inf a ha, read_inf b hb]
  simp only [Datum.sum]
  split <;> simp [Format.write, ir]

theorem word_of (a : Nat) (h : a < 18446744073709551616) : a = D.word (neg a) (mag a) := by
  rw [word_eq]; unfold neg mag
  by_cases h1 : a / 9223372036854775808 % 2 = 1
  · simp [h1]; omega
  · simp [h1]; omega

def flip (a : Nat) : Nat := if a < 9223372036854775808 then a + 9223372036854775808 else a - 9223372036854775808
theorem mag_flip (a : Nat) (h : a < 18446744073709551616) : mag (flip a) = mag a := by unfold flip mag; split <;> omega
theorem neg_flip (a : Nat) (h : a < 18446744073709551616) : neg (flip a) = !neg a := by
  unfold flip neg
  split
  · have e1 : (a + 9223372036854775808) / 9223372036854775808 % 2 = 1 := by omega
    have e2 : a / 9223372036854775808 % 2 = 0 := by omega
    rw [e1, e2]; rfl
  · have e1 : (a - 9223372036854775808) / 9223372036854775808 % 2 = 0 := by omega
    have e2 : a / 9223372036854775808 % 2 = 1 := by omega
    rw [e1, e2]; rfl

theorem radd_inf (a b : Nat) (ha : a < 18446744073709551616) (hb : b < 18446744073709551616) (h : mag a = 9218868437227405312) (hn : nan b = false) :
    radd a b = if b = flip a then 9221120237041090560 else a := by
  have hle : mag b ≤ 9218868437227405312 := by unfold nan at hn; simpa using hn
  have hwa := word_of a ha
  rw [h] at hwa
  by_cases hb' : mag b = 9218868437227405312
  · unfold radd
    rw [add_inf_inf a b h hb']
    have hwb := word_of b hb
    rw [hb'] at hwb
    by_cases hs : neg a = neg b
    · have : b ≠ flip a := by
        rintro rfl
        rw [neg_flip a ha] at hs
        cases hx : neg a <;> simp [hx] at hs
      rw [if_pos hs, if_neg this]
      exact hwa.symm
    · have : b = flip a := by
        have e : neg b = !neg a := by cases hx : neg a <;> cases hy : neg b <;> simp [hx, hy] at hs ⊢
        have hfl : flip a < 18446744073709551616 := by unfold flip; split <;> omega
        have hwf := word_of (flip a) hfl
        rw [mag_flip a ha, h, neg_flip a ha] at hwf
        rw [hwb, hwf, e]
      rw [if_neg hs, if_pos this]; rfl
  · unfold radd
    rw [add_inf a b h (by omega)]
    have : b ≠ flip a := by
      rintro rfl
      rw [mag_flip a ha] at hb'; exact hb' h
    rw [if_neg this]; exact hwa.symm

theorem ex_ge (g : Nat) : -1074 ≤ ex g := by unfold ex; split <;> omega
theorem ex_le (g : Nat) (h : g < 9218868437227405312) : ex g ≤ 971 := by unfold ex; split <;> omega
theorem sig_lt (g : Nat) : sig g < 9007199254740992 := by unfold sig; split <;> omega
theorem ex_mono {g h : Nat} (hgh : h ≤ g) : ex h ≤ ex g := by unfold ex; split <;> split <;> omega
theorem sig_ge {g : Nat} (h : -1074 < ex g) : 4503599627370496 ≤ sig g := by
  unfold ex at h; unfold sig
  split at h
  · omega
  · rename_i h1; rw [if_neg h1]; omega
theorem sig_mono {g h : Nat} (hgh : h ≤ g) (he : ex h = ex g) : sig h ≤ sig g := by
  unfold ex at he; unfold sig
  split at he <;> split at he <;> rename_i a b <;> simp only [a, b, if_true, if_false] <;> omega

theorem add_fin (a b : Nat) (ha : mag a < 9218868437227405312) (hb : mag b < 9218868437227405312) (hge : mag b ≤ mag a) :
    let d := (ex (mag a) - ex (mag b)).toNat
    let X := sig (mag a) * 2 ^ d
    D.add a b = some (if neg a = neg b then D.word (neg a) (rung (X + sig (mag b)) (ex (mag b)))
      else if X = sig (mag b) then 0 else D.word (neg a) (rung (X - sig (mag b)) (ex (mag b)))) := by
  have hm := ex_mono hge
  unfold Format.add
  rw [read_fin a ha, read_fin b hb]
  dsimp only [Datum.sum]
  rw [Int.min_eq_right hm, Int.sub_self]
  generalize hd : (ex (mag a) - ex (mag b)).toNat = d
  have hX : sig (mag b) ≤ sig (mag a) * 2 ^ d := by
    by_cases e : ex (mag a) = ex (mag b)
    · have : d = 0 := by omega
      subst this
      have := sig_mono hge e.symm
      omega
    · have h1 := sig_ge (g := mag a) (by have := ex_ge (mag b); omega)
      have h2 := sig_lt (mag b)
      have h3 : 2 ^ 1 ≤ 2 ^ d := Nat.pow_le_pow_right (by omega) (by omega)
      have h4 : 4503599627370496 * 2 ^ 1 ≤ sig (mag a) * 2 ^ d := Nat.mul_le_mul h1 h3
      omega
  have hsz : signed (neg b) (sig (mag b)) (0 : Int).toNat = if neg b then -(sig (mag b) : Int) else (sig (mag b) : Int) := by
    unfold signed; simp
  have hsa : signed (neg a) (sig (mag a)) d = if neg a then -((sig (mag a) * 2 ^ d : Nat) : Int) else ((sig (mag a) * 2 ^ d : Nat) : Int) := by
    unfold signed; simp only [Nat.shiftLeft_eq]
  rw [hsz, hsa]
  generalize sig (mag a) * 2 ^ d = X at *
  generalize sig (mag b) = n at *
  simp only [Option.map_some, Format.write, nearest_eq, Option.some.injEq]
  by_cases hs : neg a = neg b
  · rw [if_pos hs, ← hs]
    cases hna : neg a
    · simp only [if_false, Bool.false_eq_true]
      by_cases h0 : (X : Int) + (n : Int) = 0
      · have e1 : X + n = 0 := by omega
        have e2 : ((X : Int) + (n : Int)).natAbs = 0 := by omega
        simp [h0, e1]
      · have e2 : ((X : Int) + (n : Int)).natAbs = X + n := by omega
        have e3 : decide ((X : Int) + (n : Int) < 0) = false := by simp; omega
        rw [if_neg h0, e2, e3]
    · simp only [if_true]
      by_cases h0 : -(X : Int) + -(n : Int) = 0
      · have e1 : X + n = 0 := by omega
        simp [h0, e1]
      · have e2 : (-(X : Int) + -(n : Int)).natAbs = X + n := by omega
        have e3 : decide (-(X : Int) + -(n : Int) < 0) = true := by simp; omega
        rw [if_neg h0, e2, e3]
  · rw [if_neg hs]
    cases hna : neg a
    · have hnb : neg b = true := by cases h : neg b <;> simp_all
      simp only [hnb, if_true, if_false, Bool.false_eq_true]
      by_cases h0 : X = n
      · have e1 : (X : Int) + -(n : Int) = 0 := by omega
        rw [if_pos h0, e1]; simp [rung, word_eq]
      · have e1 : ¬ ((X : Int) + -(n : Int) = 0) := by omega
        have e2 : ((X : Int) + -(n : Int)).natAbs = X - n := by omega
        have e3 : decide ((X : Int) + -(n : Int) < 0) = false := by simp; omega
        rw [if_neg h0, if_neg e1, e2, e3]
    · have hnb : neg b = false := by cases h : neg b <;> simp_all
      simp only [hnb, if_true, if_false, Bool.false_eq_true]
      by_cases h0 : X = n
      · have e1 : -(X : Int) + (n : Int) = 0 := by omega
        rw [if_pos h0, e1]; simp [rung, word_eq]
      · have e1 : ¬ (-(X : Int) + (n : Int) = 0) := by omega
        have e2 : (-(X : Int) + (n : Int)).natAbs = X - n := by omega
        have e3 : decide (-(X : Int) + (n : Int) < 0) = true := by simp; omega
        rw [if_neg h0, if_neg e1, e2, e3]

theorem stk_add (m n d : Nat) : stk (m * 2 ^ d + n) d = if m % 2 = 0 then m + stk n d else stk (m * 2 ^ d + n) d := by
  by_cases h : m % 2 = 0
  · rw [if_pos h]
    unfold stk
    have hp := Nat.two_pow_pos d
    have e1 : (m * 2 ^ d + n) % 2 ^ d = n % 2 ^ d := by rw [Nat.add_comm, Nat.add_mul_mod_self_right]
    have e2 : (m * 2 ^ d + n) / 2 ^ d = m + n / 2 ^ d := by rw [Nat.add_comm, Nat.add_mul_div_right _ _ hp, Nat.add_comm]
    rw [e1, e2]
    split <;> omega
  · rw [if_neg h]
theorem stk_sub (m n d : Nat) (hm : m % 2 = 0) (h : n ≤ m * 2 ^ d) : stk (m * 2 ^ d - n) d = m - stk n d := by
  unfold stk
  have hp := Nat.two_pow_pos d
  have hn := Nat.div_add_mod n (2 ^ d)
  have hr := Nat.mod_lt n hp
  generalize hq : n / 2 ^ d = q at *
  generalize hrr : n % 2 ^ d = r at *
  generalize 2 ^ d = p at *
  by_cases h0 : r = 0
  · subst h0
    have hqm : q ≤ m := by
      have : p * q ≤ p * m := by rw [Nat.mul_comm p m]; omega
      exact Nat.le_of_mul_le_mul_left this hp
    have e : m * p - n = p * (m - q) := by rw [Nat.mul_sub, Nat.mul_comm p m]; omega
    rw [e, Nat.mul_mod_right, Nat.mul_div_cancel_left _ hp]
    simp
  · have hqm : q < m := by
      rcases Nat.lt_or_ge q m with h1 | h1
      · exact h1
      · have : p * m ≤ p * q := Nat.mul_le_mul_left _ h1
        rw [Nat.mul_comm p m] at this; omega
    have e : m * p - n = p * (m - q - 1) + (p - r) := by
      have h1 : p * (m - q) = p * m - p * q := Nat.mul_sub _ _ _
      have h2 : p * (m - q - 1) = p * (m - q) - p := by rw [Nat.mul_sub, Nat.mul_one]
      have h3 : p * 1 ≤ p * (m - q) := Nat.mul_le_mul_left _ (by omega)
      rw [Nat.mul_comm m p]; omega
    have e1 : (m * p - n) % p = p - r := by rw [e, Nat.mul_add_mod, Nat.mod_eq_of_lt (by omega)]
    have e2 : (m * p - n) / p = m - q - 1 := by rw [e, Nat.mul_add_div hp, Nat.div_eq_of_lt (by omega)]; omega
    rw [e1, e2, if_neg (by omega), if_neg h0]
    omega

theorem stk_le (n d : Nat) (hd : 1 ≤ d) : stk n d ≤ n / 2 + 1 := by
  unfold stk
  have h1 : 2 ^ 1 ≤ 2 ^ d := Nat.pow_le_pow_right (by omega) hd
  have h2 : n / 2 ^ d ≤ n / 2 := Nat.div_le_div_left h1 (by omega)
  split <;> omega

/-- OF FLOATS OF ONE SIGN, the way of the reference. -/
theorem radd_same (a b : Nat) (ha : mag a < 9218868437227405312) (hge : mag b ≤ mag a) (hs : neg a = neg b) :
    radd a b = D.word (neg a) (rung (8 * sig (mag a) + stk (8 * sig (mag b)) (ex (mag a) - ex (mag b)).toNat) (ex (mag a) - 3)) := by
  unfold radd
  rw [add_fin a b ha (by omega) hge, Option.getD_some, if_pos hs]
  have hm := ex_mono hge
  generalize hd : (ex (mag a) - ex (mag b)).toNat = d
  congr 1
  have hst := stk_add (8 * sig (mag a)) (8 * sig (mag b)) d
  rw [if_pos (by omega)] at hst
  rw [← hst]
  have e8 : 8 * sig (mag a) * 2 ^ d + 8 * sig (mag b) = (sig (mag a) * 2 ^ d + sig (mag b)) * 2 ^ 3 := by
    rw [Nat.mul_assoc]; omega
  by_cases h0 : d = 0
  · subst h0
    rw [stk_zero, e8, rung_scale]
    congr 1; omega
  · have h1 := sig_ge (g := mag a) (by have := ex_ge (mag b); omega)
    have hbig : 2 ^ 54 ≤ (8 * sig (mag a) * 2 ^ d + 8 * sig (mag b)) / 2 ^ d := by
      rw [Nat.le_div_iff_mul_le (Nat.two_pow_pos d)]
      have : 2 ^ 54 * 2 ^ d ≤ 8 * sig (mag a) * 2 ^ d := Nat.mul_le_mul_right _ (by omega)
      omega
    rw [rung_stk _ _ _ hbig, e8, rung_scale]
    congr 1; omega

theorem radd_diff (a b : Nat) (ha : mag a < 9218868437227405312) (hge : mag b ≤ mag a) (hs : neg a ≠ neg b) :
    radd a b = if 8 * sig (mag a) = stk (8 * sig (mag b)) (ex (mag a) - ex (mag b)).toNat then 0
      else D.word (neg a) (rung (8 * sig (mag a) - stk (8 * sig (mag b)) (ex (mag a) - ex (mag b)).toNat) (ex (mag a) - 3)) := by
  unfold radd
  rw [add_fin a b ha (by omega) hge, Option.getD_some, if_neg hs]
  have hm := ex_mono hge
  generalize hd : (ex (mag a) - ex (mag b)).toNat = d
  have e8 : ∀ X n : Nat, 8 * X - 8 * n = (X - n) * 2 ^ 3 := by intro X n; omega
  by_cases h0 : d = 0
  · subst h0
    rw [stk_zero, Nat.pow_zero, Nat.mul_one]
    by_cases h1 : sig (mag a) = sig (mag b)
    · rw [if_pos h1, if_pos (by omega)]
    · rw [if_neg h1, if_neg (by omega)]
      congr 1
      rw [e8, rung_scale]
      congr 1; omega
  · have h1 := sig_ge (g := mag a) (by have := ex_ge (mag b); omega)
    have h2 := sig_lt (mag b)
    have h3 := stk_le (8 * sig (mag b)) d (by omega)
    have hp : 2 ^ 1 ≤ 2 ^ d := Nat.pow_le_pow_right (by omega) (by omega)
    have h4 : sig (mag a) * 2 ^ 1 ≤ sig (mag a) * 2 ^ d := Nat.mul_le_mul_left _ hp
    have hne : ¬ 8 * sig (mag a) = stk (8 * sig (mag b)) d := by omega
    have hne2 : ¬ sig (mag a) * 2 ^ d = sig (mag b) := by omega
    rw [if_neg hne, if_neg hne2]
    congr 1
    have hst := stk_sub (8 * sig (mag a)) (8 * sig (mag b)) d (by omega) (by rw [Nat.mul_assoc]; omega)
    rw [← hst]
    by_cases h3d : d ≤ 3
    · have ex8 : ∃ Y, 8 * sig (mag a) * 2 ^ d - 8 * sig (mag b) = Y * 2 ^ d := by
        refine ⟨8 * sig (mag a) - sig (mag b) * 2 ^ (3 - d), ?_⟩
        rw [Nat.sub_mul]
        congr 1
        rw [Nat.mul_assoc, ← Nat.pow_add, show 3 - d + d = 3 by omega]; omega
      obtain ⟨Y, hY⟩ := ex8
      have hex : stk (Y * 2 ^ d) d = Y := by
        unfold stk
        rw [Nat.mul_mod_left, if_pos rfl, Nat.mul_div_cancel _ (Nat.two_pow_pos d)]
      rw [hY, hex]
      have e9 : (sig (mag a) * 2 ^ d - sig (mag b)) * 2 ^ 3 = Y * 2 ^ d := by rw [← hY, ← e8]; congr 1; rw [Nat.mul_assoc]
      have r1 := rung_scale (sig (mag a) * 2 ^ d - sig (mag b)) 3 (ex (mag b) - 3)
      have r2 := rung_scale Y d (ex (mag b) - 3)
      rw [e9, r2] at r1
      have e10 : ex (mag b) - 3 + ((3 : Nat) : Int) = ex (mag b) := by omega
      rw [e10] at r1
      rw [← r1]
      congr 1; omega
    have hbig : 2 ^ 54 ≤ (8 * sig (mag a) * 2 ^ d - 8 * sig (mag b)) / 2 ^ d := by
      rw [Nat.le_div_iff_mul_le (Nat.two_pow_pos d)]
      have hp2 : 2 ^ 4 ≤ 2 ^ d := Nat.pow_le_pow_right (by omega) (by omega)
      have e2 : 2 ^ 54 * 2 ^ d + 2 ^ 54 * 2 ^ d = 2 ^ 55 * 2 ^ d := by rw [← Nat.add_mul]
      have e3 : 2 ^ 55 * 2 ^ d ≤ 8 * sig (mag a) * 2 ^ d := Nat.mul_le_mul_right _ (by omega)
      have e4 : 2 ^ 54 * 2 ^ 4 ≤ 2 ^ 54 * 2 ^ d := Nat.mul_le_mul_left _ hp2
      omega
    rw [rung_stk _ _ _ hbig, Nat.mul_assoc, e8, rung_scale]
    congr 1; omega

end Go.Proofs.YtiijgghholhcnaaGreatDoor.Re.Pq.Flt
