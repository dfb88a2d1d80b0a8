/- Sums of floats of 64 bits, plainly: what the reference's way (three more digits, the last one sticky) comes to. -/
import Derived.Test.YthjfdhkahmlolaaGreatDoorJQ11
namespace Go.Proofs.YthjfdhkahmlolaaGreatDoor.Pq.Flt
open Ieee

def S : Nat := 9223372036854775808
def INF : Nat := 9218868437227405312
def NANW : Nat := 9221120237041090560
def B : Nat := 4503599627370496
def neg (a : Nat) : Bool := a / 9223372036854775808 % 2 == 1
def mag (a : Nat) : Nat := a % 9223372036854775808
def nan (a : Nat) : Bool := decide (9218868437227405312 < mag a)
/-- the significand and the exponent of a magnitude below infinity -/
def sig (g : Nat) : Nat := if g < 4503599627370496 then g else 4503599627370496 + g % 4503599627370496
def ex (g : Nat) : Int := if g < 4503599627370496 then -1074 else -1074 + ((g / 4503599627370496 - 1 : Nat) : Int)

theorem read_fin (a : Nat) (h : mag a < 9218868437227405312) : D.read a = .number (neg a) (sig (mag a)) (ex (mag a)) := by
  unfold Format.read
  simp only [lp, bin, ir, sw]
  unfold mag at *
  by_cases h1 : a % 9223372036854775808 < 4503599627370496
  · simp [h1, sig, ex, neg]
  · simp [h1, h, sig, ex, neg]
theorem read_inf (a : Nat) (h : mag a = 9218868437227405312) : D.read a = .infinity (neg a) := by
  unfold Format.read
  simp only [lp, bin, ir, sw]
  unfold mag at *
  simp [h, neg]
theorem read_nan (a : Nat) (h : nan a = true) : ∃ s t, D.read a = .nan s t := by
  unfold nan mag at h
  unfold Format.read
  simp only [lp, bin, ir, sw]
  have h' : 9218868437227405312 < a % 9223372036854775808 := by simpa using h
  have h1 : ¬ a % 9223372036854775808 < 4503599627370496 := by omega
  have h2 : ¬ a % 9223372036854775808 < 9218868437227405312 := by omega
  have h3 : ¬ a % 9223372036854775808 = 9218868437227405312 := by omega
  simp [h1, h2, h3]

/-- the sum, all NaNs as one -/
def radd (a b : Nat) : Nat := (D.add a b).getD 9221120237041090560
theorem sum_comm (x y : Datum) : x.sum y = y.sum x := by
  cases x <;> cases y <;> simp only [Datum.sum]
  · rename_i s m i t n j
    rw [Int.min_comm j i, Int.add_comm, Bool.and_comm]
  · rename_i s t
    by_cases h : s = t
    · subst h; rfl
    · rw [if_neg h, if_neg (fun e => h e.symm)]
theorem add_comm (a b : Nat) : D.add a b = D.add b a := by unfold Format.add; rw [sum_comm]
theorem radd_comm (a b : Nat) : radd a b = radd b a := by unfold radd; rw [add_comm]

theorem add_nan (a b : Nat) (h : nan a = true ∨ nan b = true) : D.add a b = none := by
  unfold Format.add
  rcases h with h | h
  · obtain ⟨s, t, e⟩ := read_nan a h
    rw [e]; rfl
  · obtain ⟨s, t, e⟩ := read_nan b h
    rw [e, sum_comm]; rfl
theorem radd_nan (a b : Nat) (h : nan a = true ∨ nan b = true) : radd a b = 9221120237041090560 := by unfold radd; rw [add_nan a b h]; rfl

theorem word_eq (s : Bool) (r : Nat) : D.word s r = (if s then 9223372036854775808 else 0) + r := by
  unfold Format.word; rw [sw]; cases s <;> simp

theorem add_inf (a b : Nat) (ha : mag a = 9218868437227405312) (hb : mag b < 9218868437227405312) : D.add a b = some (D.word (neg a) 9218868437227405312) := by
  unfold Format.add
  rw [read_inf a ha, read_fin b hb]
  simp [Datum.sum, Format.write, ir]
theorem add_inf_inf (a b : Nat) (ha : mag a = 9218868437227405312) (hb : mag b = 9218868437227405312) : D.add a b = if neg a = neg b then some (D.word (neg a) 9218868437227405312) else none := by
  unfold Format.add
  rw [read_inf a ha, read_inf b hb]
  simp only [Datum.sum]
  split <;> simp [Format.write, ir]

theorem word_of (a : Nat) (h : a < 18446744073709551616) : a = D.word (neg a) (mag a) := by
  rw [word_eq]; unfold neg mag
  by_cases h1 : a / 9223372036854775808 % 2 = 1
  · simp [h1]; omega
  · simp [h1]; omega

def flip (a : Nat) : Nat := if a < 9223372036854775808 then a + 9223372036854775808 else a - 9223372036854775808
theorem mag_flip (a : Nat) (h : a < 18446744073709551616) : mag (flip a) = mag a := by unfold flip mag; split <;> omega
theorem neg_flip (a : Nat) (h : a < 18446744073709551616) : neg (flip a) = !neg a := by
  unfold flip neg
  split
  · have e1 : (a + 9223372036854775808) / 9223372036854775808 % 2 = 1 := by omega
    have e2 : a / 9223372036854775808 % 2 = 0 := by omega
    rw [e1, e2]; rfl
  · have e1 : (a - 9223372036854775808) / 9223372036854775808 % 2 = 0 := by omega
    have e2 : a / 9223372036854775808 % 2 = 1 := by omega
    rw [e1, e2]; rfl

theorem radd_inf (a b : Nat) (ha : a < 18446744073709551616) (hb : b < 18446744073709551616) (h : mag a = 9218868437227405312) (hn : nan b = false) :
    radd a b = if b = flip a then 9221120237041090560 else a := by
  have hle : mag b ≤ 9218868437227405312 := by unfold nan at hn; simpa using hn
  have hwa := word_of a ha
  rw [h] at hwa
  by_cases hb' : mag b = 9218868437227405312
  · unfold radd
    rw [add_inf_inf a b h hb']
    have hwb := word_of b hb
    rw [hb'] at hwb
    by_cases hs : neg a = neg b
    · have : b ≠ flip a := by
        rintro rfl
        rw [neg_flip a ha] at hs
        cases hx : neg a <;> simp [hx] at hs
      rw [if_pos hs, if_neg this]
      exact hwa.symm
    · have : b = flip a := by
        have e : neg b = !neg a := by cases hx : neg a <;> cases hy : neg b <;> simp [hx, hy] at hs ⊢
        have hfl : flip a < 18446744073709551616 := by unfold flip; split <;> omega
        have hwf := word_of (flip a) hfl
        rw [mag_flip a ha, h, neg_flip a ha] at hwf
        rw [hwb, hwf, e]
      rw [if_neg hs, if_pos this]; rfl
  · unfold radd
    rw [add_inf a b h (by omega)]
    have : b ≠ flip a := by
      rintro rfl
      rw [mag_flip a ha] at hb'; exact hb' h
    rw [if_neg this]; exact hwa.symm

theorem ex_ge (g : Nat) : -1074 ≤ ex g := by unfold ex; split <;> omega
theorem ex_le (g : Nat) (h : g < 9218868437227405312) : ex g ≤ 971 := by unfold ex; split <;> omega
theorem sig_lt (g : Nat) : sig g < 9007199254740992 := by unfold sig; split <;> omega
theorem ex_mono {g h : Nat} (hgh : h ≤ g) : ex h ≤ ex g := by unfold ex; split <;> split <;> omega
theorem sig_ge {g : Nat} (h : -1074 < ex g) : 4503599627370496 ≤ sig g := by
  unfold ex at h; unfold sig
  split at h
  · omega
  · rename_i h1; rw [if_neg h1]; omega
theorem sig_mono {g h : Nat} (hgh : h ≤ g) (he : ex h = ex g) : sig h ≤ sig g := by
  unfold ex at he; unfold sig
  split at he <;> split at he <;> rename_i a b <;> simp only [a, b, if_true, if_false] <;> omega

theorem add_fin (a b : Nat) (ha : mag a < 9218868437227405312) (hb : mag b < 9218868437227405312) (hge : mag b ≤ mag a) :
    let d := (ex (mag a) - ex (mag b)).toNat
    let X := sig (mag a) * 2 ^ d
    D.add a b = some (if neg a = neg b then D.word (neg a) (rung (X + sig (mag b)) (ex (mag b)))
      else if X = sig (mag b) then 0 else D.word (neg a) (rung (X - sig (mag b)) (ex (mag b)))) := by
  have hm := ex_mono hge
  unfold Format.add
  rw [read_fin a ha, read_fin b hb]
  dsimp only [Datum.sum]
  rw [Int.min_eq_right hm, Int.sub_self]
  generalize hd : (ex (mag a) - ex (mag b)).toNat = d
  have hX : sig (mag b) ≤ sig (mag a) * 2 ^ d := by
    by_cases e : ex (mag a) = ex (mag b)
    · have : d = 0 := by omega
      subst this
      have := sig_mono hge e.symm
      omega
    · have h1 := sig_ge (g := mag a) (by have := ex_ge (mag b); omega)
      have h2 := sig_lt (mag b)
      have h3 : 2 ^ 1 ≤ 2 ^ d := Nat.pow_le_pow_right (by omega) (by omega)
      have h4 : 4503599627370496 * 2 ^ 1 ≤ sig (mag a) * 2 ^ d := Nat.mul_le_mul h1 h3
      omega
  have hsz : signed (neg b) (sig (mag b)) (0 : Int).toNat = if neg b then -(sig (mag b) : Int) else (sig (mag b) : Int) := by
    unfold signed; simp
  have hsa : signed (neg a) (sig (mag a)) d = if neg a then -((sig (mag a) * 2 ^ d : Nat) : Int) else ((sig (mag a) * 2 ^ d : Nat) : Int) := by
    unfold signed; simp only [Nat.shiftLeft_eq]
  rw [hsz, hsa]
  generalize sig (mag a) * 2 ^ d = X at *
  generalize sig (mag b) = n at *
  simp only [Option.map_some, Format.write, nearest_eq, Option.some.injEq]
  by_cases hs : neg a = neg b
  · rw [if_pos hs, ← hs]
    cases hna : neg a
    · simp only [if_false, Bool.false_eq_true]
      by_cases h0 : (X : Int) + (n : Int) = 0
      · have e1 : X + n = 0 := by omega
        have e2 : ((X : Int) + (n : Int)).natAbs = 0 := by omega
        simp [h0, e1]
      · have e2 : ((X : Int) + (n : Int)).natAbs = X + n := by omega
        have e3 : decide ((X : Int) + (n : Int) < 0) = false := by simp; omega
        rw [if_neg h0, e2, e3]
    · simp only [if_true]
      by_cases h0 : -(X : Int) + -(n : Int) = 0
      · have e1 : X + n = 0 := by omega
        simp [h0, e1]
      · have e2 : (-(X : Int) + -(n : Int)).natAbs = X + n := by omega
        have e3 : decide (-(X : Int) + -(n : Int) < 0) = true := by simp; omega
        rw [if_neg h0, e2, e3]
  · rw [if_neg hs]
    cases hna : neg a
    · have hnb : neg b = true := by cases h : neg b <;> simp_all
      simp only [hnb, if_true, if_false, Bool.false_eq_true]
      by_cases h0 : X = n
      · have e1 : (X : Int) + -(n : Int) = 0 := by omega
        rw [if_pos h0, e1]; simp [rung, word_eq]
      · have e1 : ¬ ((X : Int) + -(n : Int) = 0) := by omega
        have e2 : ((X : Int) + -(n : Int)).natAbs = X - n := by omega
        have e3 : decide ((X : Int) + -(n : Int) < 0) = false := by simp; omega
        rw [if_neg h0, if_neg e1, e2, e3]
    · have hnb : neg b = false := by cases h : neg b <;> simp_all
      simp only [hnb, if_true, if_false, Bool.false_eq_true]
      by_cases h0 : X = n
      · have e1 : -(X : Int) + (n : Int) = 0 := by omega
        rw [if_pos h0, e1]; simp [rung, word_eq]
      · have e1 : ¬ (-(X : Int) + (n : Int) = 0) := by omega
        have e2 : (-(X : Int) + (n : Int)).natAbs = X - n := by omega
        have e3 : decide (-(X : Int) + (n : Int) < 0) = true := by simp; omega
        rw [if_neg h0, if_neg e1, e2, e3]

theorem stk_add (m n d : Nat) : stk (m * 2 ^ d + n) d = if m % 2 = 0 then m + stk n d else stk (m * 2 ^ d + n) d := by
  by_cases h : m % 2 = 0
  · rw [if_pos h]
    unfold stk
    have hp := Nat.two_pow_pos d
    have e1 : (m * 2 ^ d + n) % 2 ^ d = n % 2 ^ d := by rw [Nat.add_comm, Nat.add_mul_mod_self_right]
    have e2 : (m * 2 ^ d + n) / 2 ^ d = m + n / 2 ^ d := by rw [Nat.add_comm, Nat.add_mul_div_right _ _ hp, Nat.add_comm]
    rw [e1, e2]
    split <;> omega
  · rw [if_neg h]
theorem stk_sub (m n d : Nat) (hm : m % 2 = 0) (h : n ≤ m * 2 ^ d) : stk (m * 2 ^ d - n) d = m - stk n d := by
  unfold stk
  have hp := Nat.two_pow_pos d
  have hn := Nat.div_add_mod n (2 ^ d)
  have hr := Nat.mod_lt n hp
  generalize hq : n / 2 ^ d = q at *
  generalize hrr : n % 2 ^ d = r at *
  generalize 2 ^ d = p at *
  by_cases h0 : r = 0
  · subst h0
    have hqm : q ≤ m := by
      have : p * q ≤ p * m := by rw [Nat.mul_comm p m]; omega
      exact Nat.le_of_mul_le_mul_left this hp
    have e : m * p - n = p * (m - q) := by rw [Nat.mul_sub, Nat.mul_comm p m]; omega
    rw [e, Nat.mul_mod_right, Nat.mul_div_cancel_left _ hp]
    simp
  · have hqm : q < m := by
      rcases Nat.lt_or_ge q m with h1 | h1
      · exact h1
      · have : p * m ≤ p * q := Nat.mul_le_mul_left _ h1
        rw [Nat.mul_comm p m] at this; omega
    have e : m * p - n = p * (m - q - 1) + (p - r) := by
      have h1 : p * (m - q) = p * m - p * q := Nat.mul_sub _ _ _
      have h2 : p * (m - q - 1) = p * (m - q) - p := by rw [Nat.mul_sub, Nat.mul_one]
      have h3 : p * 1 ≤ p * (m - q) := Nat.mul_le_mul_left _ (by omega)
      rw [Nat.mul_comm m p]; omega
    have e1 : (m * p - n) % p = p - r := by rw [e, Nat.mul_add_mod, Nat.mod_eq_of_lt (by omega)]
    have e2 : (m * p - n) / p = m - q - 1 := by rw [e, Nat.mul_add_div hp, Nat.div_eq_of_lt (by omega)]; omega
    rw [e1, e2, if_neg (by omega), if_neg h0]
    omega

theorem stk_le (n d : Nat) (hd : 1 ≤ d) : stk n d ≤ n / 2 + 1 := by
  unfold stk
  have h1 : 2 ^ 1 ≤ 2 ^ d := Nat.pow_le_pow_right (by omega) hd
  have h2 : n / 2 ^ d ≤ n / 2 := Nat.div_le_div_left h1 (by omega)
  split <;> omega

/-- OF FLOATS OF ONE SIGN, the way of the reference. -/
theorem radd_same (a b : Nat) (ha : mag a < 9218868437227405312) (hge : mag b ≤ mag a) (hs : neg a = neg b) :
    radd a b = D.word (neg a) (rung (8 * sig (mag a) + stk (8 * sig (mag b)) (ex (mag a) - ex (mag b)).toNat) (ex (mag a) - 3)) := by
  unfold radd
  rw [add_fin a b ha (by omega) hge, Option.getD_some, if_pos hs]
  have hm := ex_mono hge
  generalize hd : (ex (mag a) - ex (mag b)).toNat = d
  congr 1
  have hst := stk_add (8 * sig (mag a)) (8 * sig (mag b)) d
  rw [if_pos (by omega)] at hst
  rw [← hst]
  have e8 : 8 * sig (mag a) * 2 ^ d + 8 * sig (mag b) = (sig (mag a) * 2 ^ d + sig (mag b)) * 2 ^ 3 := by
    rw [Nat.mul_assoc]; omega
  by_cases h0 : d = 0
  · subst h0
    rw [stk_zero, e8, rung_scale]
    congr 1; omega
  · have h1 := sig_ge (g := mag a) (by have := ex_ge (mag b); omega)
    have hbig : 2 ^ 54 ≤ (8 * sig (mag a) * 2 ^ d + 8 * sig (mag b)) / 2 ^ d := by
      rw [Nat.le_div_iff_mul_le (Nat.two_pow_pos d)]
      have : 2 ^ 54 * 2 ^ d ≤ 8 * sig (mag a) * 2 ^ d := Nat.mul_le_mul_right _ (by omega)
      omega
    rw [rung_stk _ _ _ hbig, e8, rung_scale]
    congr 1; omega

theorem radd_diff (a b : Nat) (ha : mag a < 9218868437227405312) (hge : mag b ≤ mag a) (hs : neg a ≠ neg b) :
    radd a b = if 8 * sig (mag a) = stk (8 * sig (mag b)) (ex (mag a) - ex (mag b)).toNat then 0
      else D.word (neg a) (rung (8 * sig (mag a) - stk (8 * sig (mag b)) (ex (mag a) - ex (mag b)).toNat) (ex (mag a) - 3)) := by
  unfold radd
  rw [add_fin a b ha (by omega) hge, Option.getD_some, if_neg hs]
  have hm := ex_mono hge
  generalize hd : (ex (mag a) - ex (mag b)).toNat = d
  have e8 : ∀ X n : Nat, 8 * X - 8 * n = (X - n) * 2 ^ 3 := by intro X n; omega
  by_cases h0 : d = 0
  · subst h0
    rw [stk_zero, Nat.pow_zero, Nat.mul_one]
    by_cases h1 : sig (mag a) = sig (mag b)
    · rw [if_pos h1, if_pos (by omega)]
    · rw [if_neg h1, if_neg (by omega)]
      congr 1
      rw [e8, rung_scale]
      congr 1; omega
  · have h1 := sig_ge (g := mag a) (by have := ex_ge (mag b); omega)
    have h2 := sig_lt (mag b)
    have h3 := stk_le (8 * sig (mag b)) d (by omega)
    have hp : 2 ^ 1 ≤ 2 ^ d := Nat.pow_le_pow_right (by omega) (by omega)
    have h4 : sig (mag a) * 2 ^ 1 ≤ sig (mag a) * 2 ^ d := Nat.mul_le_mul_left _ hp
    have hne : ¬ 8 * sig (mag a) = stk (8 * sig (mag b)) d := by omega
    have hne2 : ¬ sig (mag a) * 2 ^ d = sig (mag b) := by omega
    rw [if_neg hne, if_neg hne2]
    congr 1
    have hst := stk_sub (8 * sig (mag a)) (8 * sig (mag b)) d (by omega) (by rw [Nat.mul_assoc]; omega)
    rw [← hst]
    by_cases h3d : d ≤ 3
    · have ex8 : ∃ Y, 8 * sig (mag a) * 2 ^ d - 8 * sig (mag b) = Y * 2 ^ d := by
        refine ⟨8 * sig (mag a) - sig (mag b) * 2 ^ (3 - d), ?_⟩
        rw [Nat.sub_mul]
        congr 1
        rw [Nat.mul_assoc, ← Nat.pow_add, show 3 - d + d = 3 by omega]; omega
      obtain ⟨Y, hY⟩ := ex8
      have hex : stk (Y * 2 ^ d) d = Y := by
        unfold stk
        rw [Nat.mul_mod_left, if_pos rfl, Nat.mul_div_cancel _ (Nat.two_pow_pos d)]
      rw [hY, hex]
      have e9 : (sig (mag a) * 2 ^ d - sig (mag b)) * 2 ^ 3 = Y * 2 ^ d := by rw [← hY, ← e8]; congr 1; rw [Nat.mul_assoc]
      have r1 := rung_scale (sig (mag a) * 2 ^ d - sig (mag b)) 3 (ex (mag b) - 3)
      have r2 := rung_scale Y d (ex (mag b) - 3)
      rw [e9, r2] at r1
      have e10 : ex (mag b) - 3 + ((3 : Nat) : Int) = ex (mag b) := by omega
      rw [e10] at r1
      rw [← r1]
      congr 1; omega
    have hbig : 2 ^ 54 ≤ (8 * sig (mag a) * 2 ^ d - 8 * sig (mag b)) / 2 ^ d := by
      rw [Nat.le_div_iff_mul_le (Nat.two_pow_pos d)]
      have hp2 : 2 ^ 4 ≤ 2 ^ d := Nat.pow_le_pow_right (by omega) (by omega)
      have e2 : 2 ^ 54 * 2 ^ d + 2 ^ 54 * 2 ^ d = 2 ^ 55 * 2 ^ d := by rw [← Nat.add_mul]
      have e3 : 2 ^ 55 * 2 ^ d ≤ 8 * sig (mag a) * 2 ^ d := Nat.mul_le_mul_right _ (by omega)
      have e4 : 2 ^ 54 * 2 ^ 4 ≤ 2 ^ 54 * 2 ^ d := Nat.mul_le_mul_left _ hp2
      omega
    rw [rung_stk _ _ _ hbig, Nat.mul_assoc, e8, rung_scale]
    congr 1; omega

end Go.Proofs.YthjfdhkahmlolaaGreatDoor.Pq.Flt

/- The order of floats of 64 bits, plainly; the reference's last step of a sum. -/
namespace Go.Proofs.YthjfdhkahmlolaaGreatDoor.Pq.Flt
open Ieee

/-- what a magnitude stands for, in units of 2^-1074 -/
def V (g : Nat) : Nat := sig g * 2 ^ (ex g + 1074).toNat
theorem V_lt {g h : Nat} (hgh : g < h) : V g < V h := by
  unfold V sig ex
  by_cases h1 : h < 4503599627370496
  · rw [if_pos h1, if_pos h1, if_pos (by omega), if_pos (by omega)]
    simp; omega
  · rw [if_neg h1, if_neg h1]
    have e2 : (-1074 + ((h / 4503599627370496 - 1 : Nat) : Int) + 1074).toNat = h / 4503599627370496 - 1 := by omega
    rw [e2]
    have hp := Nat.two_pow_pos (h / 4503599627370496 - 1)
    by_cases h2 : g < 4503599627370496
    · rw [if_pos h2, if_pos h2]
      have e1 : ((-1074 : Int) + 1074).toNat = 0 := by omega
      rw [e1, Nat.pow_zero, Nat.mul_one]
      have : 4503599627370496 * 1 ≤ (4503599627370496 + h % 4503599627370496) * 2 ^ (h / 4503599627370496 - 1) := Nat.mul_le_mul (by omega) hp
      omega
    · rw [if_neg h2, if_neg h2]
      have e1 : (-1074 + ((g / 4503599627370496 - 1 : Nat) : Int) + 1074).toNat = g / 4503599627370496 - 1 := by omega
      rw [e1]
      by_cases h3 : g / 4503599627370496 = h / 4503599627370496
      · rw [h3]
        exact (Nat.mul_lt_mul_right hp).2 (by omega)
      · have hk : g / 4503599627370496 - 1 + 1 ≤ h / 4503599627370496 - 1 := by omega
        have h4 : 2 ^ (g / 4503599627370496 - 1 + 1) ≤ 2 ^ (h / 4503599627370496 - 1) := Nat.pow_le_pow_right (by omega) hk
        rw [Nat.pow_succ] at h4
        have hq := Nat.two_pow_pos (g / 4503599627370496 - 1)
        generalize 2 ^ (g / 4503599627370496 - 1) = p at *
        generalize 2 ^ (h / 4503599627370496 - 1) = q at *
        have h5 : (4503599627370496 + g % 4503599627370496) * p < 9007199254740992 * p := (Nat.mul_lt_mul_right hq).2 (by omega)
        have h6 : 4503599627370496 * (p * 2) ≤ 4503599627370496 * q := Nat.mul_le_mul_left _ h4
        have h7 : 4503599627370496 * q ≤ (4503599627370496 + h % 4503599627370496) * q := Nat.mul_le_mul_right _ (by omega)
        omega

/-- a float's place in the order; both zeros at one -/
def key (a : Nat) : Int := if neg a then -(mag a : Int) else (mag a : Int)

theorem signed_eq (s : Bool) (m k : Nat) : signed s m k = if s then -((m * 2 ^ k : Nat) : Int) else ((m * 2 ^ k : Nat) : Int) := by
  unfold signed; simp only [Nat.shiftLeft_eq]

theorem cmp_of (x y x' y' : Int) (h1 : x < y ↔ x' < y') (h2 : x = y ↔ x' = y') : compare x y = compare x' y' := by
  simp only [compare, compareOfLessAndEq, h1, h2]

theorem V_inj {g h : Nat} : V g < V h ↔ g < h := by
  constructor
  · intro q
    rcases Nat.lt_trichotomy g h with a | a | a
    · exact a
    · subst a; omega
    · have := V_lt a; omega
  · exact V_lt

theorem scaled (g : Nat) (base : Int) (h1 : -1074 ≤ base) (h2 : base ≤ ex g) : sig g * 2 ^ (ex g - base).toNat * 2 ^ (base + 1074).toNat = V g := by
  unfold V
  rw [Nat.mul_assoc, ← Nat.pow_add]
  congr 2
  omega

theorem order_fin (a b : Nat) (ha : mag a < 9218868437227405312) (hb : mag b < 9218868437227405312) : D.order a b = some (compare (key a) (key b)) := by
  unfold Format.order
  rw [read_fin a ha, read_fin b hb]
  simp only [Datum.order, Option.some.injEq, signed_eq]
  have e1 := ex_ge (mag a)
  have e2 := ex_ge (mag b)
  have s1 := scaled (mag a) (min (ex (mag a)) (ex (mag b))) (by omega) (by omega)
  have s2 := scaled (mag b) (min (ex (mag a)) (ex (mag b))) (by omega) (by omega)
  have hp := Nat.two_pow_pos (min (ex (mag a)) (ex (mag b)) + 1074).toNat
  generalize sig (mag a) * 2 ^ (ex (mag a) - min (ex (mag a)) (ex (mag b))).toNat = x at *
  generalize sig (mag b) * 2 ^ (ex (mag b) - min (ex (mag a)) (ex (mag b))).toNat = y at *
  generalize 2 ^ (min (ex (mag a)) (ex (mag b)) + 1074).toNat = p at *
  have v1 := @V_inj (mag a) (mag b)
  have v2 := @V_inj (mag b) (mag a)
  rw [← s1, ← s2] at v1 v2
  have v1' : x < y ↔ mag a < mag b := by rw [← v1]; exact (Nat.mul_lt_mul_right hp).symm
  have v2' : y < x ↔ mag b < mag a := by rw [← v2]; exact (Nat.mul_lt_mul_right hp).symm
  have z1 : x = 0 ↔ mag a = 0 := by
    have v0 := @V_inj 0 (mag a)
    have : V 0 = 0 := by decide
    rw [this, ← s1] at v0
    constructor
    · rintro rfl; simp at v0; omega
    · intro h; rw [h] at v0
      rcases Nat.eq_zero_or_pos x with q | q
      · exact q
      · have := v0.1 (Nat.mul_pos q hp); omega
  have z2 : y = 0 ↔ mag b = 0 := by
    have v0 := @V_inj 0 (mag b)
    have : V 0 = 0 := by decide
    rw [this, ← s2] at v0
    constructor
    · rintro rfl; simp at v0; omega
    · intro h; rw [h] at v0
      rcases Nat.eq_zero_or_pos y with q | q
      · exact q
      · have := v0.1 (Nat.mul_pos q hp); omega
  unfold key
  generalize mag a = g at *
  generalize mag b = h at *
  cases neg a <;> cases neg b <;> simp only [if_true, if_false, Bool.false_eq_true] <;> exact cmp_of _ _ _ _ (by omega) (by omega)

theorem order_nan (a b : Nat) (h : nan a = true ∨ nan b = true) : D.order a b = none := by
  unfold Format.order
  rcases h with h | h
  · obtain ⟨s, t, e⟩ := read_nan a h
    rw [e]; rfl
  · obtain ⟨s, t, e⟩ := read_nan b h
    rw [e]; cases D.read a <;> rfl

theorem order_eq (a b : Nat) (ha : nan a = false) (hb : nan b = false) : D.order a b = some (compare (key a) (key b)) := by
  have ga : mag a ≤ 9218868437227405312 := by unfold nan at ha; simpa using ha
  have gb : mag b ≤ 9218868437227405312 := by unfold nan at hb; simpa using hb
  by_cases h1 : mag a < 9218868437227405312
  · by_cases h2 : mag b < 9218868437227405312
    · exact order_fin a b h1 h2
    · have h2' : mag b = 9218868437227405312 := by omega
      unfold Format.order
      rw [read_fin a h1, read_inf b h2']
      unfold key
      rw [h2']
      simp only [Datum.order]
      congr 1
      cases hb' : neg b <;> cases ha' : neg a <;> simp [compare, compareOfLessAndEq] <;> first | omega | (split <;> first | rfl | omega | (split <;> first | rfl | omega))
  · have h1' : mag a = 9218868437227405312 := by omega
    by_cases h2 : mag b < 9218868437227405312
    · unfold Format.order
      rw [read_inf a h1', read_fin b h2]
      unfold key
      rw [h1']
      simp only [Datum.order]
      congr 1
      cases hb' : neg b <;> cases ha' : neg a <;> simp [compare, compareOfLessAndEq] <;> first | omega | (split <;> first | rfl | omega | (split <;> first | rfl | omega))
    · have h2' : mag b = 9218868437227405312 := by omega
      unfold Format.order
      rw [read_inf a h1', read_inf b h2']
      unfold key
      rw [h1', h2']
      cases hb' : neg b <;> cases ha' : neg a <;> rfl

/-- THE LAST STEP of the reference's sum: three digits go, to the nearest. -/
def pack1 (m : Nat) : Nat := m / 8 + if 4 < m % 8 ∨ (m % 8 = 4 ∧ m / 8 % 2 = 1) then 1 else 0
theorem pack1_eq (m : Nat) : pack1 m = rne m 3 := by
  unfold pack1 rne
  have e : (2 : Nat) ^ 3 = 8 := by decide
  rw [e]
  have h1 : (8 < 2 * (m % 8) ∨ (8 = 2 * (m % 8) ∧ m / 8 % 2 = 1)) ↔ (4 < m % 8 ∨ (m % 8 = 4 ∧ m / 8 % 2 = 1)) := by omega
  simp only [h1]
/-- what comes out of the rounded significand k at exponent e -/
def pack2 (k : Nat) (e : Int) : Nat :=
  let m := if k = 9007199254740992 then 4503599627370496 else k
  let e := if k = 9007199254740992 then e + 1 else e
  if e + 1075 ≥ 2047 then 9218868437227405312 else
  if 4503599627370496 ≤ m then (e + 1075).toNat * 4503599627370496 + m % 4503599627370496 else m
theorem pack_final (m : Nat) (e : Int) (h1 : m < 72057594037927936) (h2 : 36028797018963968 ≤ m ∨ e = -1074) (he : -1074 ≤ e) : pack2 (pack1 m) e = rung m (e - 3) := by
  rw [pack1_eq]
  by_cases hz : m = 0
  · subst hz
    have he' : e = -1074 := by omega
    subst he'; decide
  · have hk : rne m 3 ≤ 9007199254740992 ∧ (36028797018963968 ≤ m → 4503599627370496 ≤ rne m 3) ∧ (m < 36028797018963968 → rne m 3 ≤ 4503599627370496) := by
      rw [← pack1_eq]; unfold pack1
      split <;> omega
    obtain ⟨k1, k2, k3⟩ := hk
    have hlast : max (e - 3 + (m.log2 : Int) - 52) (-1074) = e := by
      have l1 : m.log2 < 56 := (Nat.log2_lt hz).2 (by omega)
      rcases h2 with h2 | h2
      · have l2 : 55 ≤ m.log2 := (Nat.le_log2 hz).2 (by omega)
        omega
      · by_cases h3 : 36028797018963968 ≤ m
        · have l2 : 55 ≤ m.log2 := (Nat.le_log2 hz).2 (by omega)
          omega
        · have l3 : m.log2 < 55 := (Nat.log2_lt hz).2 (by omega)
          omega
    unfold rung
    rw [if_neg hz, hlast]
    have a : (e - 3 - e).toNat = 0 := by omega
    have b : (e - (e - 3)).toNat = 3 := by omega
    dsimp only
    rw [a, b, Nat.pow_zero, Nat.mul_one]
    generalize rne m 3 = k at *
    unfold pack2
    dsimp only
    by_cases hkm : k = 9007199254740992
    · rw [if_pos hkm, if_pos hkm]
      split
      · omega
      · rw [if_pos (Nat.le_refl _)]; omega
    · rw [if_neg hkm, if_neg hkm]
      split
      · rcases h2 with h2 | h2
        · have := k2 h2; omega
        · omega
      · split
        · omega
        · rcases h2 with h2 | h2
          · have := k2 h2; omega
          · subst h2; omega
end Go.Proofs.YthjfdhkahmlolaaGreatDoor.Pq.Flt

/- The model's rounding of a whole number times a power of two: what it tells reads back. Plain. -/
namespace Go.Proofs.YthjfdhkahmlolaaGreatDoor.Usc
open Pq.Flt
theorem rne_bounds (n d : Nat) : 2 * rne n d * 2 ^ d ≤ 2 * n + 2 ^ d ∧ 2 * n ≤ 2 * rne n d * 2 ^ d + 2 ^ d ∧ (2 * rne n d * 2 ^ d = 2 * n + 2 ^ d → rne n d % 2 = 0) ∧ (2 * n = 2 * rne n d * 2 ^ d + 2 ^ d → rne n d % 2 = 0) ∧ n / 2 ^ d ≤ rne n d ∧ rne n d ≤ n / 2 ^ d + 1 := by
  unfold rne
  have hp := Nat.two_pow_pos d
  generalize 2 ^ d = P at *
  have h := Nat.div_add_mod n P
  have hl := Nat.mod_lt n hp
  rw [Nat.mul_comm] at h
  generalize n / P = A at *
  generalize n % P = R at *
  have e0 : 2 * A * P = 2 * (A * P) := Nat.mul_assoc ..
  have e1 : 2 * (A + 1) * P = 2 * (A * P) + 2 * P := by rw [Nat.mul_assoc, Nat.add_mul, Nat.one_mul, Nat.mul_add]
  split
  · rw [e1]
    generalize A * P = X at *
    omega
  · rw [Nat.add_zero, e0]
    generalize A * P = X at *
    omega
theorem rung_near (M : Nat) (q : Int) (hM : 0 < M) (hr : 1 ≤ rung M q) (hi : rung M q < 9218868437227405312) : Near (rung M q) (M * 2 ^ (q + 1075).toNat) (2 ^ (-(q + 1075)).toNat) := by
  have h0 : M ≠ 0 := by omega
  have g1 := Nat.log2_self_le h0
  have g2 := @Nat.lt_log2_self M
  unfold rung at hr hi ⊢
  rw [if_neg h0] at hr hi ⊢
  simp only at hr hi ⊢
  generalize hl : max (q + (M.log2 : Int) - 52) (-1074) = last at *
  rw [Nat.min_def] at hr hi ⊢
  split at hi
  case isFalse => omega
  next hle =>
  rw [if_pos hle] at hr ⊢
  clear hle
  obtain ⟨b1, b2, b3, b4, b5, b6⟩ := rne_bounds (M * 2 ^ (q - last).toNat) (last - q).toNat
  generalize ht : rne (M * 2 ^ (q - last).toNat) (last - q).toNat = t at *
  generalize hK : (last + 1074).toNat = K at *
  have hP := Nat.two_pow_pos (last - q).toNat
  -- the bounds of the whole part
  have u1 : M * 2 ^ (q - last).toNat < 9007199254740992 * 2 ^ (last - q).toNat := by
    have : M * 2 ^ (q - last).toNat < 2 ^ (M.log2 + 1) * 2 ^ (q - last).toNat := Nat.mul_lt_mul_of_pos_right g2 (Nat.two_pow_pos _)
    rw [← Nat.pow_add] at this
    have h2 : 2 ^ (M.log2 + 1 + (q - last).toNat) ≤ 2 ^ (53 + (last - q).toNat) := Nat.pow_le_pow_right (by decide) (by omega)
    rw [Nat.pow_add 2 53, show (2 : Nat) ^ 53 = 9007199254740992 by decide] at h2
    omega
  have u2 : K = 0 ∨ 4503599627370496 * 2 ^ (last - q).toNat ≤ M * 2 ^ (q - last).toNat := by
    rcases Nat.eq_zero_or_pos K with e | e
    · exact .inl e
    · right
      have : 2 ^ M.log2 * 2 ^ (q - last).toNat ≤ M * 2 ^ (q - last).toNat := Nat.mul_le_mul_right _ g1
      rw [← Nat.pow_add] at this
      have h2 : 2 ^ (52 + (last - q).toNat) ≤ 2 ^ (M.log2 + (q - last).toNat) := Nat.pow_le_pow_right (by decide) (by omega)
      rw [Nat.pow_add, show (2 : Nat) ^ 52 = 4503599627370496 by decide] at h2
      omega
  have u3 : t ≤ 9007199254740992 := by
    have : M * 2 ^ (q - last).toNat / 2 ^ (last - q).toNat < 9007199254740992 := (Nat.div_lt_iff_lt_mul hP).2 u1
    omega
  have u4 : 4503599627370496 ≤ t ∨ K = 0 := by
    rcases u2 with e | e
    · exact .inr e
    · left
      have := (Nat.le_div_iff_mul_le hP).2 e
      omega
  -- both sides at one scale
  have hs : M * 2 ^ (q + 1075).toNat * 2 ^ (last - q).toNat = M * 2 ^ (q - last).toNat * 2 ^ (K + 1) * 2 ^ (-(q + 1075)).toNat := by
    rw [Nat.mul_assoc M, Nat.mul_assoc M, Nat.mul_assoc M, ← Nat.pow_add, ← Nat.pow_add, ← Nat.pow_add]
    congr 2
    omega
  generalize M * 2 ^ (q - last).toNat = n at *
  generalize M * 2 ^ (q + 1075).toNat = N at *
  have hD : 0 < 2 ^ (-(q + 1075)).toNat := Nat.two_pow_pos _
  generalize 2 ^ (-(q + 1075)).toNat = D at *
  rw [Nat.pow_succ] at hs
  have hpK := Nat.two_pow_pos K
  have cv : ∀ X : Nat, X * 2 ^ K * D * 2 ^ (last - q).toNat = X * 2 ^ (last - q).toNat * (2 ^ K * D) := fun X => by
    generalize 2 ^ K = A
    generalize 2 ^ (last - q).toNat = B
    grind
  have hs2 : N * 2 ^ (last - q).toNat = 2 * n * (2 ^ K * D) := by
    rw [hs]
    generalize 2 ^ K = A
    grind
  have e1 : ∀ X : Nat, X * 2 ^ (last - q).toNat ≤ 2 * n → X * 2 ^ K * D ≤ N := fun X h => by
    have := Nat.mul_le_mul_right (2 ^ K * D) h
    rw [← cv, ← hs2] at this
    exact Nat.le_of_mul_le_mul_right this hP
  have e2 : ∀ X : Nat, 2 * n ≤ X * 2 ^ (last - q).toNat → N ≤ X * 2 ^ K * D := fun X h => by
    have := Nat.mul_le_mul_right (2 ^ K * D) h
    rw [← cv, ← hs2] at this
    exact Nat.le_of_mul_le_mul_right this hP
  have e3 : ∀ X : Nat, X * 2 ^ K * D = N → X * 2 ^ (last - q).toNat = 2 * n := fun X h => by
    have : X * 2 ^ (last - q).toNat * (2 ^ K * D) = 2 * n * (2 ^ K * D) := by rw [← cv, ← hs2, h]
    exact Nat.eq_of_mul_eq_mul_right (Nat.mul_pos hpK hD) this
  have x1 : (2 * t - 1) * 2 ^ (last - q).toNat ≤ 2 * n := by rw [Nat.sub_mul]; omega
  have x2 : 2 * n ≤ (2 * t + 1) * 2 ^ (last - q).toNat := by rw [Nat.add_mul]; omega
  have ht1 : 1 ≤ t := by omega
  refine near_of_round ht1 u3 u4 (e1 _ x1) (e2 _ x2) (fun h => b3 ?_) (fun h => b4 ?_) (fun h hk => ?_)
  · have := e3 _ h
    rw [Nat.sub_mul] at this
    have hx : 1 * 2 ^ (last - q).toNat ≤ 2 * t * 2 ^ (last - q).toNat := Nat.mul_le_mul_right _ (by omega)
    omega
  · have := e3 _ h.symm
    rw [Nat.add_mul] at this
    omega
  · rcases u2 with e | e
    · omega
    · have h6 := e1 (2 * t) (by rw [h, Nat.mul_assoc]; exact Nat.mul_le_mul_left 2 e)
      have h7 : 2 ^ K = 2 * 2 ^ (K - 1) := by rw [Nat.mul_comm, ← Nat.pow_succ]; congr 1; omega
      rw [h7, ← Nat.mul_assoc, show 2 * t * 2 = 4 * t by omega] at h6
      refine Nat.le_trans (Nat.mul_le_mul_right _ (Nat.mul_le_mul_right _ (by omega))) h6
end Go.Proofs.YthjfdhkahmlolaaGreatDoor.Usc
