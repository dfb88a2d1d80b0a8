/- Sums of floats of 64 bits, plainly: what the reference's way (three more digits, the last one sticky) comes to. -/
import Derived.Test.YtimiojckinpfdaaRows
import Derived.Deep.QuietTactic
import Derived.BigQuiet
import Derived.Deep.DeepCutAuto
import Derived.StillTailTactics
import Derived.Deep.RegionWith
import Derived.Test.YtimiojckinpfdaaJnMergesd
namespace Go.Proofs.Ytimiojckinpfdaa.Pq.Flt
open Ieee

def S : Nat := 9223372036854775808
def INF : Nat := 9218868437227405312
def NANW : Nat := 9221120237041090560
def B : Nat := 4503599627370496
def neg (a : Nat) : Bool := a / 9223372036854775808 % 2 == 1
def mag (a : Nat) : Nat := a % 9223372036854775808
def nan (a : Nat) : Bool := decide (9218868437227405312 < mag a)
/-- the significand and the exponent of a magnitude below infinity -/
def sig (g : Nat) : Nat := if g < 4503599627370496 then g else 4503599627370496 + g % 4503599627370496
def ex (g : Nat) : Int := if g < 4503599627370496 then -1074 else -1074 + ((g / 4503599627370496 - 1 : Nat) : Int)

theorem read_fin (a : Nat) (h : mag a < 9218868437227405312) : D.read a = .number (neg a) (sig (mag a)) (ex (mag a)) := by
  unfold Format.read
  simp only [lp, bin, ir, sw]
  unfold mag at *
  by_cases h1 : a % 9223372036854775808 < 4503599627370496
  · simp [h1, sig, ex, neg]
  · simp [h1, h, sig, ex, neg]
theorem read_inf (a : Nat) (h : mag a = 9218868437227405312) : D.read a = .infinity (neg a) := by
  unfold Format.read
  simp only [lp, bin, ir, sw]
  unfold mag at *
  simp [h, neg]
theorem read_nan (a : Nat) (h : nan a = true) : ∃ s t, D.read a = .nan s t := by
  unfold nan mag at h
  unfold Format.read
  simp only [lp, bin, ir, sw]
  have h' : 9218868437227405312 < a % 9223372036854775808 := by simpa using h
  have h1 : ¬ a % 9223372036854775808 < 4503599627370496 := by omega
  have h2 : ¬ a % 9223372036854775808 < 9218868437227405312 := by omega
  have h3 : ¬ a % 9223372036854775808 = 9218868437227405312 := by omega
  simp [h1, h2, h3]

/-- the sum, all NaNs as one -/
def radd (a b : Nat) : Nat := (D.add a b).getD 9221120237041090560
theorem sum_comm (x y : Datum) : x.sum y = y.sum x := by
  cases x <;> cases y <;> simp only [Datum.sum]
  · rename_i s m i t n j
    rw [Int.min_comm j i, Int.add_comm, Bool.and_comm]
  · rename_i s t
    by_cases h : s = t
    · subst h; rfl
    · rw [if_neg h, if_neg (fun e => h e.symm)]
theorem add_comm (a b : Nat) : D.add a b = D.add b a := by unfold Format.add; rw [sum_comm]
theorem radd_comm (a b : Nat) : radd a b = radd b a := by unfold radd; rw [add_comm]

theorem add_nan (a b : Nat) (h : nan a = true ∨ nan b = true) : D.add a b = none := by
  unfold Format.add
  rcases h with h | h
  · obtain ⟨s, t, e⟩ := read_nan a h
    rw [e]; rfl
  · obtain ⟨s, t, e⟩ := read_nan b h
    rw [e, sum_comm]; rfl
theorem radd_nan (a b : Nat) (h : nan a = true ∨ nan b = true) : radd a b = 9221120237041090560 := by unfold radd; rw [add_nan a b h]; rfl

theorem word_eq (s : Bool) (r : Nat) : D.word s r = (if s then 9223372036854775808 else 0) + r := by
  unfold Format.word; rw [sw]; cases s <;> simp

theorem add_inf (a b : Nat) (ha : mag a = 9218868437227405312) (hb : mag b < 9218868437227405312) : D.add a b = some (D.word (neg a) 9218868437227405312) := by
  unfold Format.add
  rw [read_inf a ha, read_fin b hb]
  simp [Datum.sum, Format.write, ir]
theorem add_inf_inf (a b : Nat) (ha : mag a = 9218868437227405312) (hb : mag b = 9218868437227405312) : D.add a b = if neg a = neg b then some (D.word (neg a) 9218868437227405312) else none := by
  unfold Format.add
  rw [read_inf a ha, read_inf b hb]
  simp only [Datum.sum]
  split <;> simp [Format.write, ir]

theorem word_of (a : Nat) (h : a < 18446744073709551616) : a = D.word (neg a) (mag a) := by
  rw [word_eq]; unfold neg mag
  by_cases h1 : a / 9223372036854775808 % 2 = 1
  · simp [h1]; omega
  · simp [h1]; omega

def flip (a : Nat) : Nat := if a < 9223372036854775808 then a + 9223372036854775808 else a - 9223372036854775808
theorem mag_flip (a : Nat) (h : a < 18446744073709551616) : mag (flip a) = mag a := by unfold flip mag; split <;> omega
theorem neg_flip (a : Nat) (h : a < 18446744073709551616) : neg (flip a) = !neg a := by
  unfold flip neg
  split
  · have e1 : (a + 9223372036854775808) / 9223372036854775808 % 2 = 1 := by omega
    have e2 : a / 9223372036854775808 % 2 = 0 := by omega
    rw [e1, e2]; rfl
  · have e1 : (a - 9223372036854775808) / 9223372036854775808 % 2 = 0 := by omega
    have e2 : a / 9223372036854775808 % 2 = 1 := by omega
    rw [e1, e2]; rfl

theorem radd_inf (a b : Nat) (ha : a < 18446744073709551616) (hb : b < 18446744073709551616) (h : mag a = 9218868437227405312) (hn : nan b = false) :
    radd a b = if b = flip a then 9221120237041090560 else a := by
  have hle : mag b ≤ 9218868437227405312 := by unfold nan at hn; simpa using hn
  have hwa := word_of a ha
  rw [h] at hwa
  by_cases hb' : mag b = 9218868437227405312
  · unfold radd
    rw [add_inf_inf a b h hb']
    have hwb := word_of b hb
    rw [hb'] at hwb
    by_cases hs : neg a = neg b
    · have : b ≠ flip a := by
        rintro rfl
        rw [neg_flip a ha] at hs
        cases hx : neg a <;> simp [hx] at hs
      rw [if_pos hs, if_neg this]
      exact hwa.symm
    · have : b = flip a := by
        have e : neg b = !neg a := by cases hx : neg a <;> cases hy : neg b <;> simp [hx, hy] at hs ⊢
        have hfl : flip a < 18446744073709551616 := by unfold flip; split <;> omega
        have hwf := word_of (flip a) hfl
        rw [mag_flip a ha, h, neg_flip a ha] at hwf
        rw [hwb, hwf, e]
      rw [if_neg hs, if_pos this]; rfl
  · unfold radd
    rw [add_inf a b h (by omega)]
    have : b ≠ flip a := by
      rintro rfl
      rw [mag_flip a ha] at hb'; exact hb' h
    rw [if_neg this]; exact hwa.symm

theorem ex_ge (g : Nat) : -1074 ≤ ex g := by unfold ex; split <;> omega
theorem ex_le (g : Nat) (h : g < 9218868437227405312) : ex g ≤ 971 := by unfold ex; split <;> omega
theorem sig_lt (g : Nat) : sig g < 9007199254740992 := by unfold sig; split <;> omega
theorem ex_mono {g h : Nat} (hgh : h ≤ g) : ex h ≤ ex g := by unfold ex; split <;> split <;> omega
theorem sig_ge {g : Nat} (h : -1074 < ex g) : 4503599627370496 ≤ sig g := by
  unfold ex at h; unfold sig
  split at h
  · omega
  · rename_i h1; rw [if_neg h1]; omega
theorem sig_mono {g h : Nat} (hgh : h ≤ g) (he : ex h = ex g) : sig h ≤ sig g := by
  unfold ex at he; unfold sig
  split at he <;> split at he <;> rename_i a b <;> simp only [a, b, if_true, if_false] <;> omega

theorem add_fin (a b : Nat) (ha : mag a < 9218868437227405312) (hb : mag b < 9218868437227405312) (hge : mag b ≤ mag a) :
    let d := (ex (mag a) - ex (mag b)).toNat
    let X := sig (mag a) * 2 ^ d
    D.add a b = some (if neg a = neg b then D.word (neg a) (rung (X + sig (mag b)) (ex (mag b)))
      else if X = sig (mag b) then 0 else D.word (neg a) (rung (X - sig (mag b)) (ex (mag b)))) := by
  have hm := ex_mono hge
  unfold Format.add
  rw [read_fin a ha, read_fin b hb]
  dsimp only [Datum.sum]
  rw [Int.min_eq_right hm, Int.sub_self]
  generalize hd : (ex (mag a) - ex (mag b)).toNat = d
  have hX : sig (mag b) ≤ sig (mag a) * 2 ^ d := by
    by_cases e : ex (mag a) = ex (mag b)
    · have : d = 0 := by omega
      subst this
      have := sig_mono hge e.symm
      omega
    · have h1 := sig_ge (g := mag a) (by have := ex_ge (mag b); omega)
      have h2 := sig_lt (mag b)
      have h3 : 2 ^ 1 ≤ 2 ^ d := Nat.pow_le_pow_right (by omega) (by omega)
      have h4 : 4503599627370496 * 2 ^ 1 ≤ sig (mag a) * 2 ^ d := Nat.mul_le_mul h1 h3
      omega
  have hsz : signed (neg b) (sig (mag b)) (0 : Int).toNat = if neg b then -(sig (mag b) : Int) else (sig (mag b) : Int) := by
    unfold signed; simp
  have hsa : signed (neg a) (sig (mag a)) d = if neg a then -((sig (mag a) * 2 ^ d : Nat) : Int) else ((sig (mag a) * 2 ^ d : Nat) : Int) := by
    unfold signed; simp only [Nat.shiftLeft_eq]
  rw [hsz, hsa]
  generalize sig (mag a) * 2 ^ d = X at *
  generalize sig (mag b) = n at *
  simp only [Option.map_some, Format.write, nearest_eq, Option.some.injEq]
  by_cases hs : neg a = neg b
  · rw [if_pos hs, ← hs]
    cases hna : neg a
    · simp only [if_false, Bool.false_eq_true]
      by_cases h0 : (X : Int) + (n : Int) = 0
      · have e1 : X + n = 0 := by omega
        have e2 : ((X : Int) + (n : Int)).natAbs = 0 := by omega
        simp [h0, e1]
      · have e2 : ((X : Int) + (n : Int)).natAbs = X + n := by omega
        have e3 : decide ((X : Int) + (n : Int) < 0) = false := by simp; omega
        rw [if_neg h0, e2, e3]
    · simp only [if_true]
      by_cases h0 : -(X : Int) + -(n : Int) = 0
      · have e1 : X + n = 0 := by omega
        simp [h0, e1]
      · have e2 : (-(X : Int) + -(n : Int)).natAbs = X + n := by omega
        have e3 : decide (-(X : Int) + -(n : Int) < 0) = true := by simp; omega
        rw [if_neg h0, e2, e3]
  · rw [if_neg hs]
    cases hna : neg a
    · have hnb : neg b = true := by cases h : neg b <;> simp_all
      simp only [hnb, if_true, if_false, Bool.false_eq_true]
      by_cases h0 : X = n
      · have e1 : (X : Int) + -(n : Int) = 0 := by omega
        rw [if_pos h0, e1]; simp [rung, word_eq]
      · have e1 : ¬ ((X : Int) + -(n : Int) = 0) := by omega
        have e2 : ((X : Int) + -(n : Int)).natAbs = X - n := by omega
        have e3 : decide ((X : Int) + -(n : Int) < 0) = false := by simp; omega
        rw [if_neg h0, if_neg e1, e2, e3]
    · have hnb : neg b = false := by cases h : neg b <;> simp_all
      simp only [hnb, if_true, if_false, Bool.false_eq_true]
      by_cases h0 : X = n
      · have e1 : -(X : Int) + (n : Int) = 0 := by omega
        rw [if_pos h0, e1]; simp [rung, word_eq]
      · have e1 : ¬ (-(X : Int) + (n : Int) = 0) := by omega
        have e2 : (-(X : Int) + (n : Int)).natAbs = X - n := by omega
        have e3 : decide (-(X : Int) + (n : Int) < 0) = true := by simp; omega
        rw [if_neg h0, if_neg e1, e2, e3]

theorem stk_add (m n d : Nat) : stk (m * 2 ^ d + n) d = if m % 2 = 0 then m + stk n d else stk (m * 2 ^ d + n) d := by
  by_cases h : m % 2 = 0
  · rw [if_pos h]
    unfold stk
    have hp := Nat.two_pow_pos d
    have e1 : (m * 2 ^ d + n) % 2 ^ d = n % 2 ^ d := by rw [Nat.add_comm, Nat.add_mul_mod_self_right]
    have e2 : (m * 2 ^ d + n) / 2 ^ d = m + n / 2 ^ d := by rw [Nat.add_comm, Nat.add_mul_div_right _ _ hp, Nat.add_comm]
    rw [e1, e2]
    split <;> omega
  · rw [if_neg h]
theorem stk_sub (m n d : Nat) (hm : m % 2 = 0) (h : n ≤ m * 2 ^ d) : stk (m * 2 ^ d - n) d = m - stk n d := by
  unfold stk
  have hp := Nat.two_pow_pos d
  have hn := Nat.div_add_mod n (2 ^ d)
  have hr := Nat.mod_lt n hp
  generalize hq : n / 2 ^ d = q at *
  generalize hrr : n % 2 ^ d = r at *
  generalize 2 ^ d = p at *
  by_cases h0 : r = 0
  · subst h0
    have hqm : q ≤ m := by
      have : p * q ≤ p * m := by rw [Nat.mul_comm p m]; omega
      exact Nat.le_of_mul_le_mul_left this hp
    have e : m * p - n = p * (m - q) := by rw [Nat.mul_sub, Nat.mul_comm p m]; omega
    rw [e, Nat.mul_mod_right, Nat.mul_div_cancel_left _ hp]
    simp
  · have hqm : q < m := by
      rcases Nat.lt_or_ge q m with h1 | h1
      · exact h1
      · have : p * m ≤ p * q := Nat.mul_le_mul_left _ h1
        rw [Nat.mul_comm p m] at this; omega
    have e : m * p - n = p * (m - q - 1) + (p - r) := by
      have h1 : p * (m - q) = p * m - p * q := Nat.mul_sub _ _ _
      have h2 : p * (m - q - 1) = p * (m - q) - p := by rw [Nat.mul_sub, Nat.mul_one]
      have h3 : p * 1 ≤ p * (m - q) := Nat.mul_le_mul_left _ (by omega)
      rw [Nat.mul_comm m p]; omega
    have e1 : (m * p - n) % p = p - r := by rw [e, Nat.mul_add_mod, Nat.mod_eq_of_lt (by omega)]
    have e2 : (m * p - n) / p = m - q - 1 := by rw [e, Nat.mul_add_div hp, Nat.div_eq_of_lt (by omega)]; omega
    rw [e1, e2, if_neg (by omega), if_neg h0]
    omega

theorem stk_le (n d : Nat) (hd : 1 ≤ d) : stk n d ≤ n / 2 + 1 := by
  unfold stk
  have h1 : 2 ^ 1 ≤ 2 ^ d := Nat.pow_le_pow_right (by omega) hd
  have h2 : n / 2 ^ d ≤ n / 2 := Nat.div_le_div_left h1 (by omega)
  split <;> omega

/-- OF FLOATS OF ONE SIGN, the way of the reference. -/
theorem radd_same (a b : Nat) (ha : mag a < 9218868437227405312) (hge : mag b ≤ mag a) (hs : neg a = neg b) :
    radd a b = D.word (neg a) (rung (8 * sig (mag a) + stk (8 * sig (mag b)) (ex (mag a) - ex (mag b)).toNat) (ex (mag a) - 3)) := by
  unfold radd
  rw [add_fin a b ha (by omega) hge, Option.getD_some, if_pos hs]
  have hm := ex_mono hge
  generalize hd : (ex (mag a) - ex (mag b)).toNat = d
  congr 1
  have hst := stk_add (8 * sig (mag a)) (8 * sig (mag b)) d
  rw [if_pos (by omega)] at hst
  rw [← hst]
  have e8 : 8 * sig (mag a) * 2 ^ d + 8 * sig (mag b) = (sig (mag a) * 2 ^ d + sig (mag b)) * 2 ^ 3 := by
    rw [Nat.mul_assoc]; omega
  by_cases h0 : d = 0
  · subst h0
    rw [stk_zero, e8, rung_scale]
    congr 1; omega
  · have h1 := sig_ge (g := mag a) (by have := ex_ge (mag b); omega)
    have hbig : 2 ^ 54 ≤ (8 * sig (mag a) * 2 ^ d + 8 * sig (mag b)) / 2 ^ d := by
      rw [Nat.le_div_iff_mul_le (Nat.two_pow_pos d)]
      have : 2 ^ 54 * 2 ^ d ≤ 8 * sig (mag a) * 2 ^ d := Nat.mul_le_mul_right _ (by omega)
      omega
    rw [rung_stk _ _ _ hbig, e8, rung_scale]
    congr 1; omega

theorem radd_diff (a b : Nat) (ha : mag a < 9218868437227405312) (hge : mag b ≤ mag a) (hs : neg a ≠ neg b) :
    radd a b = if 8 * sig (mag a) = stk (8 * sig (mag b)) (ex (mag a) - ex (mag b)).toNat then 0
      else D.word (neg a) (rung (8 * sig (mag a) - stk (8 * sig (mag b)) (ex (mag a) - ex (mag b)).toNat) (ex (mag a) - 3)) := by
  unfold radd
  rw [add_fin a b ha (by omega) hge, Option.getD_some, if_neg hs]
  have hm := ex_mono hge
  generalize hd : (ex (mag a) - ex (mag b)).toNat = d
  have e8 : ∀ X n : Nat, 8 * X - 8 * n = (X - n) * 2 ^ 3 := by intro X n; omega
  by_cases h0 : d = 0
  · subst h0
    rw [stk_zero, Nat.pow_zero, Nat.mul_one]
    by_cases h1 : sig (mag a) = sig (mag b)
    · rw [if_pos h1, if_pos (by omega)]
    · rw [if_neg h1, if_neg (by omega)]
      congr 1
      rw [e8, rung_scale]
      congr 1; omega
  · have h1 := sig_ge (g := mag a) (by have := ex_ge (mag b); omega)
    have h2 := sig_lt (mag b)
    have h3 := stk_le (8 * sig (mag b)) d (by omega)
    have hp : 2 ^ 1 ≤ 2 ^ d := Nat.pow_le_pow_right (by omega) (by omega)
    have h4 : sig (mag a) * 2 ^ 1 ≤ sig (mag a) * 2 ^ d := Nat.mul_le_mul_left _ hp
    have hne : ¬ 8 * sig (mag a) = stk (8 * sig (mag b)) d := by omega
    have hne2 : ¬ sig (mag a) * 2 ^ d = sig (mag b) := by omega
    rw [if_neg hne, if_neg hne2]
    congr 1
    have hst := stk_sub (8 * sig (mag a)) (8 * sig (mag b)) d (by omega) (by rw [Nat.mul_assoc]; omega)
    rw [← hst]
    by_cases h3d : d ≤ 3
    · have ex8 : ∃ Y, 8 * sig (mag a) * 2 ^ d - 8 * sig (mag b) = Y * 2 ^ d := by
        refine ⟨8 * sig (mag a) - sig (mag b) * 2 ^ (3 - d), ?_⟩
        rw [Nat.sub_mul]
        congr 1
        rw [Nat.mul_assoc, ← Nat.pow_add, show 3 - d + d = 3 by omega]; omega
      obtain ⟨Y, hY⟩ := ex8
      have hex : stk (Y * 2 ^ d) d = Y := by
        unfold stk
        rw [Nat.mul_mod_left, if_pos rfl, Nat.mul_div_cancel _ (Nat.two_pow_pos d)]
      rw [hY, hex]
      have e9 : (sig (mag a) * 2 ^ d - sig (mag b)) * 2 ^ 3 = Y * 2 ^ d := by rw [← hY, ← e8]; congr 1; rw [Nat.mul_assoc]
      have r1 := rung_scale (sig (mag a) * 2 ^ d - sig (mag b)) 3 (ex (mag b) - 3)
      have r2 := rung_scale Y d (ex (mag b) - 3)
      rw [e9, r2] at r1
      have e10 : ex (mag b) - 3 + ((3 : Nat) : Int) = ex (mag b) := by omega
      rw [e10] at r1
      rw [← r1]
      congr 1; omega
    have hbig : 2 ^ 54 ≤ (8 * sig (mag a) * 2 ^ d - 8 * sig (mag b)) / 2 ^ d := by
      rw [Nat.le_div_iff_mul_le (Nat.two_pow_pos d)]
      have hp2 : 2 ^ 4 ≤ 2 ^ d := Nat.pow_le_pow_right (by omega) (by omega)
      have e2 : 2 ^ 54 * 2 ^ d + 2 ^ 54 * 2 ^ d = 2 ^ 55 * 2 ^ d := by rw [← Nat.add_mul]
      have e3 : 2 ^ 55 * 2 ^ d ≤ 8 * sig (mag a) * 2 ^ d := Nat.mul_le_mul_right _ (by omega)
      have e4 : 2 ^ 54 * 2 ^ 4 ≤ 2 ^ 54 * 2 ^ d := Nat.mul_le_mul_left _ hp2
      omega
    rw [rung_stk _ _ _ hbig, Nat.mul_assoc, e8, rung_scale]
    congr 1; omega

end Go.Proofs.Ytimiojckinpfdaa.Pq.Flt

/- The order of floats of 64 bits, plainly; the reference's last step of a sum. -/
namespace Go.Proofs.Ytimiojckinpfdaa.Pq.Flt
open Ieee

/-- what a magnitude stands for, in units of 2^-1074 -/
def V (g : Nat) : Nat := sig g * 2 ^ (ex g + 1074).toNat
theorem V_lt {g h : Nat} (hgh : g < h) : V g < V h := by
  unfold V sig ex
  by_cases h1 : h < 4503599627370496
  · rw [if_pos h1, if_pos h1, if_pos (by omega), if_pos (by omega)]
    simp; omega
  · rw [if_neg h1, if_neg h1]
    have e2 : (-1074 + ((h / 4503599627370496 - 1 : Nat) : Int) + 1074).toNat = h / 4503599627370496 - 1 := by omega
    rw [e2]
    have hp := Nat.two_pow_pos (h / 4503599627370496 - 1)
    by_cases h2 : g < 4503599627370496
    · rw [if_pos h2, if_pos h2]
      have e1 : ((-1074 : Int) + 1074).toNat = 0 := by omega
      rw [e1, Nat.pow_zero, Nat.mul_one]
      have : 4503599627370496 * 1 ≤ (4503599627370496 + h % 4503599627370496) * 2 ^ (h / 4503599627370496 - 1) := Nat.mul_le_mul (by omega) hp
      omega
    · rw [if_neg h2, if_neg h2]
      have e1 : (-1074 + ((g / 4503599627370496 - 1 : Nat) : Int) + 1074).toNat = g / 4503599627370496 - 1 := by omega
      rw [e1]
      by_cases h3 : g / 4503599627370496 = h / 4503599627370496
      · rw [h3]
        exact (Nat.mul_lt_mul_right hp).2 (by omega)
      · have hk : g / 4503599627370496 - 1 + 1 ≤ h / 4503599627370496 - 1 := by omega
        have h4 : 2 ^ (g / 4503599627370496 - 1 + 1) ≤ 2 ^ (h / 4503599627370496 - 1) := Nat.pow_le_pow_right (by omega) hk
        rw [Nat.pow_succ] at h4
        have hq := Nat.two_pow_pos (g / 4503599627370496 - 1)
        generalize 2 ^ (g / 4503599627370496 - 1) = p at *
        generalize 2 ^ (h / 4503599627370496 - 1) = q at *
        have h5 : (4503599627370496 + g % 4503599627370496) * p < 9007199254740992 * p := (Nat.mul_lt_mul_right hq).2 (by omega)
        have h6 : 4503599627370496 * (p * 2) ≤ 4503599627370496 * q := Nat.mul_le_mul_left _ h4
        have h7 : 4503599627370496 * q ≤ (4503599627370496 + h % 4503599627370496) * q := Nat.mul_le_mul_right _ (by omega)
        omega

/-- a float's place in the order; both zeros at one -/
def key (a : Nat) : Int := if neg a then -(mag a : Int) else (mag a : Int)

theorem signed_eq (s : Bool) (m k : Nat) : signed s m k = if s then -((m * 2 ^ k : Nat) : Int) else ((m * 2 ^ k : Nat) : Int) := by
  unfold signed; simp only [Nat.shiftLeft_eq]

theorem cmp_of (x y x' y' : Int) (h1 : x < y ↔ x' < y') (h2 : x = y ↔ x' = y') : compare x y = compare x' y' := by
  simp only [compare, compareOfLessAndEq, h1, h2]

theorem V_inj {g h : Nat} : V g < V h ↔ g < h := by
  constructor
  · intro q
    rcases Nat.lt_trichotomy g h with a | a | a
    · exact a
    · subst a; omega
    · have := V_lt a; omega
  · exact V_lt

theorem scaled (g : Nat) (base : Int) (h1 : -1074 ≤ base) (h2 : base ≤ ex g) : sig g * 2 ^ (ex g - base).toNat * 2 ^ (base + 1074).toNat = V g := by
  unfold V
  rw [Nat.mul_assoc, ← Nat.pow_add]
  congr 2
  omega

theorem order_fin (a b : Nat) (ha : mag a < 9218868437227405312) (hb : mag b < 9218868437227405312) : D.order a b = some (compare (key a) (key b)) := by
  unfold Format.order
  rw [read_fin a ha, read_fin b hb]
  simp only [Datum.order, Option.some.injEq, signed_eq]
  have e1 := ex_ge (mag a)
  have e2 := ex_ge (mag b)
  have s1 := scaled (mag a) (min (ex (mag a)) (ex (mag b))) (by omega) (by omega)
  have s2 := scaled (mag b) (min (ex (mag a)) (ex (mag b))) (by omega) (by omega)
  have hp := Nat.two_pow_pos (min (ex (mag a)) (ex (mag b)) + 1074).toNat
  generalize sig (mag a) * 2 ^ (ex (mag a) - min (ex (mag a)) (ex (mag b))).toNat = x at *
  generalize sig (mag b) * 2 ^ (ex (mag b) - min (ex (mag a)) (ex (mag b))).toNat = y at *
  generalize 2 ^ (min (ex (mag a)) (ex (mag b)) + 1074).toNat = p at *
  have v1 := @V_inj (mag a) (mag b)
  have v2 := @V_inj (mag b) (mag a)
  rw [← s1, ← s2] at v1 v2
  have v1' : x < y ↔ mag a < mag b := by rw [← v1]; exact (Nat.mul_lt_mul_right hp).symm
  have v2' : y < x ↔ mag b < mag a := by rw [← v2]; exact (Nat.mul_lt_mul_right hp).symm
  have z1 : x = 0 ↔ mag a = 0 := by
    have v0 := @V_inj 0 (mag a)
    have : V 0 = 0 := by decide
    rw [this, ← s1] at v0
    constructor
    · rintro rfl; simp at v0; omega
    · intro h; rw [h] at v0
      rcases Nat.eq_zero_or_pos x with q | q
      · exact q
      · have := v0.1 (Nat.mul_pos q hp); omega
  have z2 : y = 0 ↔ mag b = 0 := by
    have v0 := @V_inj 0 (mag b)
    have : V 0 = 0 := by decide
    rw [this, ← s2] at v0
    constructor
    · rintro rfl; simp at v0; omega
    · intro h; rw [h] at v0
      rcases Nat.eq_zero_or_pos y with q | q
      · exact q
      · have := v0.1 (Nat.mul_pos q hp); omega
  unfold key
  generalize mag a = g at *
  generalize mag b = h at *
  cases neg a <;> cases neg b <;> simp only [if_true, if_false, Bool.false_eq_true] <;> exact cmp_of _ _ _ _ (by omega) (by omega)

theorem order_nan (a b : Nat) (h : nan a = true ∨ nan b = true) : D.order a b = none := by
  unfold Format.order
  rcases h with h | h
  · obtain ⟨s, t, e⟩ := read_nan a h
    rw [e]; rfl
  · obtain ⟨s, t, e⟩ := read_nan b h
    rw [e]; cases D.read a <;> rfl

theorem order_eq (a b : Nat) (ha : nan a = false) (hb : nan b = false) : D.order a b = some (compare (key a) (key b)) := by
  have ga : mag a ≤ 9218868437227405312 := by unfold nan at ha; simpa using ha
  have gb : mag b ≤ 9218868437227405312 := by unfold nan at hb; simpa using hb
  by_cases h1 : mag a < 9218868437227405312
  · by_cases h2 : mag b < 9218868437227405312
    · exact order_fin a b h1 h2
    · have h2' : mag b = 9218868437227405312 := by omega
      unfold Format.order
      rw [read_fin a h1, read_inf b h2']
      unfold key
      rw [h2']
      simp only [Datum.order]
      congr 1
      cases hb' : neg b <;> cases ha' : neg a <;> simp [compare, compareOfLessAndEq] <;> first | omega | (split <;> first | rfl | omega | (split <;> first | rfl | omega))
  · have h1' : mag a = 9218868437227405312 := by omega
    by_cases h2 : mag b < 9218868437227405312
    · unfold Format.order
      rw [read_inf a h1', read_fin b h2]
      unfold key
      rw [h1']
      simp only [Datum.order]
      congr 1
      cases hb' : neg b <;> cases ha' : neg a <;> simp [compare, compareOfLessAndEq] <;> first | omega | (split <;> first | rfl | omega | (split <;> first | rfl | omega))
    · have h2' : mag b = 9218868437227405312 := by omega
      unfold Format.order
      rw [read_inf a h1', read_inf b h2']
      unfold key
      rw [h1', h2']
      cases hb' : neg b <;> cases ha' : neg a <;> rfl

/-- THE LAST STEP of the reference's sum: three digits go, to the nearest. -/
def pack1 (m : Nat) : Nat := m / 8 + if 4 < m % 8 ∨ (m % 8 = 4 ∧ m / 8 % 2 = 1) then 1 else 0
theorem pack1_eq (m : Nat) : pack1 m = rne m 3 := by
  unfold pack1 rne
  have e : (2 : Nat) ^ 3 = 8 := by decide
  rw [e]
  have h1 : (8 < 2 * (m % 8) ∨ (8 = 2 * (m % 8) ∧ m / 8 % 2 = 1)) ↔ (4 < m % 8 ∨ (m % 8 = 4 ∧ m / 8 % 2 = 1)) := by omega
  simp only [h1]
/-- what comes out of the rounded significand k at exponent e -/
def pack2 (k : Nat) (e : Int) : Nat :=
  let m := if k = 9007199254740992 then 4503599627370496 else k
  let e := if k = 9007199254740992 then e + 1 else e
  if e + 1075 ≥ 2047 then 9218868437227405312 else
  if 4503599627370496 ≤ m then (e + 1075).toNat * 4503599627370496 + m % 4503599627370496 else m
theorem pack_final (m : Nat) (e : Int) (h1 : m < 72057594037927936) (h2 : 36028797018963968 ≤ m ∨ e = -1074) (he : -1074 ≤ e) : pack2 (pack1 m) e = rung m (e - 3) := by
  rw [pack1_eq]
  by_cases hz : m = 0
  · subst hz
    have he' : e = -1074 := by omega
    subst he'; decide
  · have hk : rne m 3 ≤ 9007199254740992 ∧ (36028797018963968 ≤ m → 4503599627370496 ≤ rne m 3) ∧ (m < 36028797018963968 → rne m 3 ≤ 4503599627370496) := by
      rw [← pack1_eq]; unfold pack1
      split <;> omega
    obtain ⟨k1, k2, k3⟩ := hk
    have hlast : max (e - 3 + (m.log2 : Int) - 52) (-1074) = e := by
      have l1 : m.log2 < 56 := (Nat.log2_lt hz).2 (by omega)
      rcases h2 with h2 | h2
      · have l2 : 55 ≤ m.log2 := (Nat.le_log2 hz).2 (by omega)
        omega
      · by_cases h3 : 36028797018963968 ≤ m
        · have l2 : 55 ≤ m.log2 := (Nat.le_log2 hz).2 (by omega)
          omega
        · have l3 : m.log2 < 55 := (Nat.log2_lt hz).2 (by omega)
          omega
    unfold rung
    rw [if_neg hz, hlast]
    have a : (e - 3 - e).toNat = 0 := by omega
    have b : (e - (e - 3)).toNat = 3 := by omega
    dsimp only
    rw [a, b, Nat.pow_zero, Nat.mul_one]
    generalize rne m 3 = k at *
    unfold pack2
    dsimp only
    by_cases hkm : k = 9007199254740992
    · rw [if_pos hkm, if_pos hkm]
      split
      · omega
      · rw [if_pos (Nat.le_refl _)]; omega
    · rw [if_neg hkm, if_neg hkm]
      split
      · rcases h2 with h2 | h2
        · have := k2 h2; omega
        · omega
      · split
        · omega
        · rcases h2 with h2 | h2
          · have := k2 h2; omega
          · subst h2; omega
end Go.Proofs.Ytimiojckinpfdaa.Pq.Flt

/- The walks of the reference's floats. -/
namespace Go.Proofs.Ytimiojckinpfdaa.Pq
open Go.RowKit Flt

theorem nat_mag (a : Nat) (_h : a < 18446744073709551616) : a &&& (18446744073709551615 - 9223372036854775808) = mag a := by
  have := Nat.and_two_pow_sub_one_eq_mod a 63
  simpa [mag] using this
theorem mag_bits (a : Nat) (h : a < 18446744073709551616) : bits BinOp.andNot IntKind.u64 (a : Int) 9223372036854775808 = ((mag a : Nat) : Int) := by
  have := u64_andNot_nat a 9223372036854775808 h (by omega)
  rw [nat_mag a h] at this
  exact this

set_option maxHeartbeats 400000 in
theorem isnan_any (a : Nat) (w : World) (ha : a < 18446744073709551616) :
    Calls Try.prog 95 #[.int .u64 a] w fun e w' => e = .returned (.bool (nan a)) ∧ w = w' := by
  have hm := mag_bits a ha
  go_enter Try.func95, Try.ntmps95
  go_wp2
  go_ret
  exact ⟨ret_eq (by unfold nan; exact congrArg Value.bool (decide_eq_decide.2 Int.ofNat_lt)), rfl⟩

def lowbit (m : Nat) : Nat := m % 2
def low3 (m : Nat) : Nat := m % 8
theorem and1 (m : Nat) (h : m < 18446744073709551616) : bits BinOp.and IntKind.u64 (m : Int) 1 = ((lowbit m : Nat) : Int) := by
  have := u64_and_nat m 1 h (by omega)
  rw [nat_mask1] at this; exact this
theorem and7 (m : Nat) (h : m < 18446744073709551616) : bits BinOp.and IntKind.u64 (m : Int) 7 = ((low3 m : Nat) : Int) := by
  have := u64_and_nat m 7 h (by omega)
  rw [nat_mask3] at this; exact this
theorem or_stk (m : Nat) (h : m < 18446744073709551616) : bits BinOp.or IntKind.u64 ((m : Int) / 2) ((lowbit m : Nat) : Int) = ((stk m 1 : Nat) : Int) := by
  have := u64_or_nat (m / 2) (lowbit m) (by omega) (by unfold lowbit; omega)
  rw [show ((m : Int) / 2) = ((m / 2 : Nat) : Int) by omega, this]
  congr 1
  unfold stk lowbit
  have h1 : m % 2 = 0 ∨ m % 2 = 1 := by omega
  rw [show (2 : Nat) ^ 1 = 2 from rfl]
  rcases h1 with h1 | h1
  · rw [h1]; simp
  · rw [h1, if_neg (by omega)]
    have h2 := nat_mask1 (m / 2)
    have hor : m / 2 ||| 1 = m / 2 / 2 * 2 + 1 := by
      have e : m / 2 = m / 2 / 2 * 2 + m / 2 % 2 := by omega
      have j := nat_join 1 (m / 2 / 2 * 2) 1 (by simp) (by decide)
      rcases (show m / 2 % 2 = 0 ∨ m / 2 % 2 = 1 by omega) with q | q
      · rw [q] at e
        rw [Nat.add_zero] at e
        rw [← j]; congr 1
      · have e2 : m / 2 = m / 2 / 2 * 2 ||| 1 := by rw [j]; omega
        have : m / 2 ||| 1 = (m / 2 / 2 * 2 ||| 1) ||| 1 := by rw [← e2]
        rw [this, Nat.or_assoc, Nat.or_self, j]
    exact hor

structure PK (m : Nat) (e : Int) (m' : Nat) (e' : Int) : Prop where
  same : rung m' (e' - 3) = rung m (e - 3)
  lo : -1074 ≤ e'
  hi : e' ≤ 972
theorem stk1_le (m : Nat) : stk m 1 ≤ m / 2 / 2 * 2 + 1 := by unfold stk; rw [show (2 : Nat) ^ 1 = 2 from rfl]; split <;> omega
theorem stk1_ge (m : Nat) : m / 2 ≤ stk m 1 := by unfold stk; rw [show (2 : Nat) ^ 1 = 2 from rfl]; split <;> omega

def lowfrac (k : Nat) : Nat := k % 4503599627370496
theorem and_frac (k : Nat) (h : k < 18446744073709551616) : bits BinOp.and IntKind.u64 (k : Int) 4503599627370495 = ((lowfrac k : Nat) : Int) := by
  have h1 := u64_and_nat k 4503599627370495 h (by omega)
  have h2 := Nat.and_two_pow_sub_one_eq_mod k 52
  rw [show (2 ^ 52 - 1 : Nat) = 4503599627370495 from rfl] at h2
  rw [h2] at h1; exact h1
theorem or_exp (E : Int) (y : Nat) (h0 : 0 ≤ E) (h1 : E ≤ 2048) (hy : y < 4503599627370496) : bits BinOp.or IntKind.u64 (E * 4503599627370496) (y : Int) = ((E.toNat * 4503599627370496 + y : Nat) : Int) := by
  obtain ⟨n, rfl⟩ := Int.eq_ofNat_of_zero_le h0
  have h2 := u64_or_nat (n * 4503599627370496) y (by omega) (by omega)
  have h3 := nat_join 52 (n * 4503599627370496) y (by rw [show (2 ^ 52 : Nat) = 4503599627370496 from rfl]; exact Nat.mul_mod_left _ _) (by rw [show (2 ^ 52 : Nat) = 4503599627370496 from rfl]; exact hy)
  rw [h3] at h2
  rw [Int.toNat_natCast, ← h2]
  congr 1
theorem or_sign (P : Nat) (h : P < 9223372036854775808) : bits BinOp.or IntKind.u64 (P : Int) 9223372036854775808 = ((9223372036854775808 + P : Nat) : Int) := by
  have h2 := u64_or_nat P 9223372036854775808 (by omega) (by omega)
  have h3 := nat_join 63 9223372036854775808 P (by decide) (by rw [show (2 ^ 63 : Nat) = 9223372036854775808 from rfl]; exact h)
  rw [Nat.or_comm, h3] at h2
  exact h2
theorem rung_le (m : Nat) (p : Int) : rung m p ≤ 9218868437227405312 := by
  unfold rung; split
  · omega
  · exact Nat.min_le_right _ _
theorem pack2_a (f : Int) (h : 2047 ≤ f + 1 + 1075) : pack2 9007199254740992 f = 9218868437227405312 := by
  unfold pack2; dsimp only; rw [if_pos rfl, if_pos rfl, if_pos (by omega)]
theorem pack2_b (f : Int) (h : ¬ 2047 ≤ f + 1 + 1075) : pack2 9007199254740992 f = (f + 1 + 1075).toNat * 4503599627370496 + 0 := by
  unfold pack2; dsimp only; rw [if_pos rfl, if_pos rfl, if_neg (by omega), if_pos (by omega)]
theorem pack2_c (k : Nat) (f : Int) (hk : ¬ k = 9007199254740992) (h : 2047 ≤ f + 1075) : pack2 k f = 9218868437227405312 := by
  unfold pack2; dsimp only; rw [if_neg hk, if_neg hk, if_pos (by omega)]
theorem pack2_d (k : Nat) (f : Int) (hk : ¬ k = 9007199254740992) (h2 : 4503599627370496 ≤ k) (h : ¬ 2047 ≤ f + 1075) : pack2 k f = (f + 1075).toNat * 4503599627370496 + lowfrac k := by
  unfold pack2 lowfrac; dsimp only; rw [if_neg hk, if_neg hk, if_neg (by omega), if_pos h2]
theorem pack2_e (k : Nat) (f : Int) (hk : ¬ k = 9007199254740992) (h2 : ¬ 4503599627370496 ≤ k) (h : ¬ 2047 ≤ f + 1075) : pack2 k f = k := by
  unfold pack2; dsimp only; rw [if_neg hk, if_neg hk, if_neg (by omega), if_neg h2]

def up3 (m : Nat) : Bool := decide (4 < m % 8) || (m % 8 == 4 && m / 8 % 2 == 1)
theorem pack1_up (m : Nat) : pack1 m = if up3 m then m / 8 + 1 else m / 8 := by
  unfold pack1 up3
  by_cases h1 : 4 < m % 8
  · simp [h1]
  · by_cases h2 : m % 8 = 4 ∧ m / 8 % 2 = 1
    · simp [h2.1, h2.2]
    · have : (m % 8 == 4 && m / 8 % 2 == 1) = false := by
        rw [Bool.and_eq_false_imp]; intro a; rw [beq_eq_false_iff_ne]; exact fun b => h2 ⟨by simpa using a, b⟩
      simp [h1, h2, this]
theorem up_a (n : Nat) (h : 4 < n % 8) : up3 n = true := by unfold up3; simp [h]
theorem up_b (n : Nat) (h : n % 8 = 4) (k : n / 8 % 2 = 1) : up3 n = true := by unfold up3; simp [h, k]
theorem up_c (n : Nat) (h : n % 8 = 4) (k : ¬ n / 8 % 2 = 1) : up3 n = false := by unfold up3; simp [h, k]
theorem up_d (n : Nat) (h : ¬ 4 < n % 8) (k : ¬ n % 8 = 4) : up3 n = false := by unfold up3; simp [h, k]

set_option maxRecDepth 100000 in
set_option maxHeartbeats 1000000 in
theorem packed_any (s : Bool) (m : Nat) (e : Int) (w : World) (hm : m < 144115188075855872) (h1 : -1074 ≤ e) (h2 : e ≤ 971) :
    Calls Try.prog 99 #[.bool s, .int .u64 m, .int .i64 e] w fun e1 w' => e1 = .returned (.int .u64 (D.word s (rung m (e - 3)) : Nat)) ∧ w = w' := by
  go_enter Try.func99, Try.ntmps99
  go_wp2
  go_loop [1, 2] (fun a b => ∃ (m' : Nat) (e' : Int), a = .int .u64 m' ∧ b = .int .i64 e' ∧ PK m e m' e' ∧ m' < 144115188075855872 ∧ (72057594037927936 ≤ m' → m' = m ∧ e' = e)) (fun a _ => (intOf a).toNat)
  case atStart => exact ⟨m, e, rfl, rfl, ⟨rfl, h1, by omega⟩, hm, fun _ => ⟨rfl, rfl⟩⟩
  case round =>
    obtain ⟨m', e', rfl, rfl, hpk, hm', hback⟩ := hrel
    by_cases hge : 72057594037927936 ≤ m'
    · obtain ⟨rfl, rfl⟩ := hback hge
      have r1 := and1 m' (by omega)
      have r2 := or_stk m' (by omega)
      have hpk2 : Hid (PK m' e' (stk m' 1) (e' + 1)) := by
        refine ⟨?_, by omega, by omega⟩
        rw [rung_stk _ _ _ (by rw [show (2 : Nat) ^ 1 = 2 from rfl]; omega)]
        congr 1; omega
      have l1 := Lib.hid (stk1_le m')
      have ht : decide ((72057594037927936 : Int) ≤ (m' : Int)) = true := by rw [decide_eq_true_iff]; omega
      have hm'' := Lib.hid hm'
      have hge' := Lib.hid hge
      have hm0 := Lib.hid hm
      clear hpk hback hm' hge hm
      go_wp2
      go_round
      case rel => exact ⟨stk m' 1, e' + 1, rfl, rfl, hpk2.out, by have := l1.out; have := hm''.out; omega, by have := l1.out; have := hm''.out; omega⟩
      case measure => have := l1.out; have := hge'.out; simp [intOf]; omega
    · have ht : decide ((72057594037927936 : Int) ≤ (m' : Int)) = false := by rw [decide_eq_false_iff_not]; omega
      have hge' := Lib.hid hge
      have hm0 := Lib.hid hm
      clear hback hm' hge hm
      go_wp2
      clear ht
      go_loop [1, 2] (fun a b => ∃ (n : Nat) (f : Int), a = .int .u64 n ∧ b = .int .i64 f ∧ PK m e n f ∧ n < 72057594037927936) (fun _ b => (intOf b + 1074).toNat)
      case atStart => exact ⟨m', e', rfl, rfl, hpk, by have := hge'.out; omega⟩
      case round =>
        obtain ⟨n, f, rfl, rfl, hpn, hn⟩ := hrel
        have hlo := hpn.lo
        have hhi := hpn.hi
        by_cases hsm : n < 36028797018963968 ∧ -1074 < f
        · obtain ⟨q1, q2⟩ := hsm
          have hpk2 : Hid (PK m e (n * 2 ^ 1) (f - 1)) := by
            refine ⟨?_, by omega, by omega⟩
            rw [rung_scale, ← hpn.same]
            congr 1; omega
          have t1 : decide ((n : Int) < 36028797018963968) = true := by rw [decide_eq_true_iff]; omega
          have hwr : Hid (IntKind.u64.wrap ((n : Int) * 2) = ((n * 2 ^ 1 : Nat) : Int)) := by show _ = _; rw [IntKind.wrap_u64]; omega
          have hsz : Hid (n * 2 ^ 1 < 72057594037927936) := by show _ < _; omega
          have q1' := Lib.hid q1
          clear hpn hpk hn q1
          go_wp2
          go_round
          case rel => exact ⟨n * 2 ^ 1, f - 1, by rw [hwr.out], rfl, hpk2.out, hsz.out⟩
          case measure => simp [intOf]; omega
        · have hfin := pack_final n f hn (by omega) hlo
          rw [hpn.same] at hfin
          have hfin' := Lib.hid hfin
          have hn' := Lib.hid hn
          have r3 := and7 n (by omega)
          have hq : (n : Int) / 8 = ((n / 8 : Nat) : Int) := by omega
          have hq8 : Hid (n / 8 < 9007199254740992) := by show _ < _; omega
          have r4 := and1 (n / 8) (by omega)
          have hl3 : Hid (low3 n = n % 8) := rfl
          have hlb : Hid (lowbit (n / 8) = (n / 8) % 2) := rfl
          have hlt8 : low3 n < 8 := by unfold low3; omega
          have hlt2 : lowbit (n / 8) < 2 := by unfold lowbit; omega
          have htest : Hid (n < 36028797018963968 → f = -1074) := by intro h; omega
          clear hfin hpn hpk hn hsm
          have hlow : ∃ t : Bool, decide ((n : Int) < 36028797018963968) = t ∧ (t = true → decide (-1074 < f) = false) := ⟨_, rfl, fun h => by have := htest.out (by rw [decide_eq_true_iff] at h; omega); rw [decide_eq_false_iff_not]; omega⟩
          obtain ⟨t, ht1, ht2⟩ := hlow
          generalize hqq0 : n / 8 = q at *
          have hqq := Lib.hid hqq0; clear hqq0
          cases t
          all_goals (try have ht3 := ht2 rfl)
          all_goals clear ht2
          all_goals go_upto_region 9 with fail
          all_goals clear ht1
          all_goals (try clear ht3)
          all_goals go_cut [42] (fun a wx => w = wx ∧ a = .bool (up3 n))
          case first =>
            by_cases c1 : 4 < low3 n
            · have g1 : decide ((4 : Int) < (low3 n : Int)) = true := by rw [decide_eq_true_iff]; omega
              go_wp2_with fail
              go_meet
              exact ⟨rfl, by rw [up_a n (by rw [← hl3.out]; exact c1)]⟩
            · have g1 : decide ((4 : Int) < (low3 n : Int)) = false := by rw [decide_eq_false_iff_not]; omega
              by_cases c2 : low3 n = 4
              · have g2 : ((low3 n : Int) == 4) = true := by rw [beq_iff_eq]; omega
                by_cases c3 : lowbit q = 1
                · have g3 : ((lowbit q : Int) == 1) = true := by rw [beq_iff_eq]; omega
                  have hend : Hid (up3 n = true) := up_b n (by rw [← hl3.out]; exact c2) (by rw [hqq.out, ← hlb.out]; exact c3)
                  clear c1 c2 c3
                  go_wp2_with fail
                  go_meet
                  exact ⟨rfl, by rw [hend.out]⟩
                · have g3 : ((lowbit q : Int) == 1) = false := by rw [beq_eq_false_iff_ne]; omega
                  have hend : Hid (up3 n = false) := up_c n (by rw [← hl3.out]; exact c2) (by rw [hqq.out, ← hlb.out]; exact c3)
                  clear c1 c2 c3
                  go_wp2_with fail
                  go_meet
                  exact ⟨rfl, by rw [hend.out]⟩
              · have g2 : ((low3 n : Int) == 4) = false := by rw [beq_eq_false_iff_ne]; omega
                have hend : Hid (up3 n = false) := up_d n (by rw [← hl3.out]; exact c1) (by rw [← hl3.out]; exact c2)
                clear c1 c2
                go_wp2_with fail
                go_meet
                exact ⟨rfl, by rw [hend.out]⟩
          case rest =>
            obtain ⟨rfl, rfl⟩ := hcut
            clear r3 r4 hlt8 hlt2
            have hfk : Hid (pack1 n = if up3 n then q + 1 else q) := by show _ = _; rw [pack1_up, hqq.out]
            have hwq : IntKind.u64.wrap ((q : Int) + 1) = ((q + 1 : Nat) : Int) := by have := hq8.out; rw [IntKind.wrap_u64]; omega
            go_upto_if 42 with fail
            go_cut [1] (fun a wx => w = wx ∧ a = .int .u64 (pack1 n : Nat))
            case first =>
              cases hup : up3 n
              · go_wp2_with fail
                go_meet
                exact ⟨rfl, by rw [hfk.out, hup]; rfl⟩
              · go_wp2_with fail
                go_meet
                exact ⟨rfl, by rw [hfk.out, hup]; rfl⟩
            case rest =>
              obtain ⟨rfl, rfl⟩ := hcut
              clear hwq hq
              have hk0 : Hid (pack1 n ≤ 9007199254740992) := by show _ ≤ _; rw [hfk.out]; have := hq8.out; split <;> omega
              clear hfk
              generalize pack1 n = k at *
              by_cases hk : k = 9007199254740992
              · subst hk
                have rA : bits BinOp.and IntKind.u64 4503599627370496 4503599627370495 = 0 := by decide
                have rO : bits BinOp.or IntKind.u64 ((f + 1 + 1075) * 4503599627370496) 0 = (((f + 1 + 1075).toNat * 4503599627370496 + 0 : Nat) : Int) := or_exp (f + 1 + 1075) 0 (by omega) (by omega) (by omega)
                by_cases hinf : 2047 ≤ f + 1 + 1075
                · have hp2 : Hid (pack2 9007199254740992 f = 9218868437227405312) := pack2_a f hinf
                  go_upto_if 63 with fail
                  go_cut [8] (fun a wx => w = wx ∧ a = .int .u64 (pack2 9007199254740992 f : Nat))
                  case first =>
                    clear rA rO
                    go_wp2_with fail
                    go_meet
                    exact ⟨rfl, by rw [hp2.out]; rfl⟩
                  case rest =>
                    obtain ⟨rfl, rfl⟩ := hcut
                    have hP : Hid (pack2 9007199254740992 f = rung m (e - 3)) := hfin'.out
                    have hPl : pack2 9007199254740992 f < 9223372036854775808 := by rw [hP.out]; exact Nat.lt_of_le_of_lt (rung_le _ _) (by omega)
                    generalize pack2 9007199254740992 f = P at *
                    have hor : bits BinOp.or IntKind.u64 (P : Int) 9223372036854775808 = ((9223372036854775808 + P : Nat) : Int) := or_sign P hPl
                    have hPl' := Lib.hid hPl
                    clear hPl hk0
                    cases s
                    · go_wp2_with fail
                      go_ret
                      exact ⟨by rw [← hP.out, word_eq]; simp, rfl⟩
                    · go_wp2_with fail
                      go_ret
                      exact ⟨by rw [← hP.out, word_eq]; rfl, rfl⟩
                · have hp2 : Hid (pack2 9007199254740992 f = (f + 1 + 1075).toNat * 4503599627370496 + 0) := pack2_b f (by omega)
                  go_upto_if 63 with fail
                  go_cut [8] (fun a wx => w = wx ∧ a = .int .u64 (pack2 9007199254740992 f : Nat))
                  case first =>
                    clear rA rO
                    go_wp2_with fail
                    go_meet
                    exact ⟨rfl, by rw [hp2.out]; congr 1; omega⟩
                  case rest =>
                    obtain ⟨rfl, rfl⟩ := hcut
                    have hP : Hid (pack2 9007199254740992 f = rung m (e - 3)) := hfin'.out
                    have hPl : pack2 9007199254740992 f < 9223372036854775808 := by rw [hP.out]; exact Nat.lt_of_le_of_lt (rung_le _ _) (by omega)
                    generalize pack2 9007199254740992 f = P at *
                    have hor : bits BinOp.or IntKind.u64 (P : Int) 9223372036854775808 = ((9223372036854775808 + P : Nat) : Int) := or_sign P hPl
                    have hPl' := Lib.hid hPl
                    clear hPl hk0
                    cases s
                    · go_wp2_with fail
                      go_ret
                      exact ⟨by rw [← hP.out, word_eq]; simp, rfl⟩
                    · go_wp2_with fail
                      go_ret
                      exact ⟨by rw [← hP.out, word_eq]; rfl, rfl⟩
              · have g1 : ((k : Int) == 9007199254740992) = false := by rw [beq_eq_false_iff_ne]; omega
                by_cases hk2 : 4503599627370496 ≤ k
                · have g2 : decide ((4503599627370496 : Int) ≤ (k : Int)) = true := by rw [decide_eq_true_iff]; omega
                  have rA : bits BinOp.and IntKind.u64 (k : Int) 4503599627370495 = ((lowfrac k : Nat) : Int) := and_frac k (by have := hk0.out; omega)
                  have rO : bits BinOp.or IntKind.u64 ((f + 1075) * 4503599627370496) ((lowfrac k : Nat) : Int) = (((f + 1075).toNat * 4503599627370496 + lowfrac k : Nat) : Int) := or_exp (f + 1075) (lowfrac k) (by omega) (by omega) (by unfold lowfrac; omega)
                  by_cases hinf : 2047 ≤ f + 1075
                  · have hp2 : Hid (pack2 k f = 9218868437227405312) := pack2_c k f hk hinf
                    clear hk hk2
                    go_upto_if 63 with fail
                    go_cut [8] (fun a wx => w = wx ∧ a = .int .u64 (pack2 k f : Nat))
                    case first =>
                      clear rA rO
                      go_wp2_with fail
                      go_meet
                      exact ⟨rfl, by rw [hp2.out]; rfl⟩
                    case rest =>
                      obtain ⟨rfl, rfl⟩ := hcut
                      have hP : Hid (pack2 k f = rung m (e - 3)) := hfin'.out
                      have hPl : pack2 k f < 9223372036854775808 := by rw [hP.out]; exact Nat.lt_of_le_of_lt (rung_le _ _) (by omega)
                      generalize pack2 k f = P at *
                      have hor : bits BinOp.or IntKind.u64 (P : Int) 9223372036854775808 = ((9223372036854775808 + P : Nat) : Int) := or_sign P hPl
                      have hPl' := Lib.hid hPl
                      clear hPl hk0
                      cases s
                      · go_wp2_with fail
                        go_ret
                        exact ⟨by rw [← hP.out, word_eq]; simp, rfl⟩
                      · go_wp2_with fail
                        go_ret
                        exact ⟨by rw [← hP.out, word_eq]; rfl, rfl⟩
                  · have hp2 : Hid (pack2 k f = (f + 1075).toNat * 4503599627370496 + lowfrac k) := pack2_d k f hk hk2 hinf
                    clear hk hk2
                    go_upto_if 63 with fail
                    go_cut [8] (fun a wx => w = wx ∧ a = .int .u64 (pack2 k f : Nat))
                    case first =>
                      clear rA rO
                      go_wp2_with fail
                      go_meet
                      exact ⟨rfl, by rw [hp2.out]; congr 1; omega⟩
                    case rest =>
                      obtain ⟨rfl, rfl⟩ := hcut
                      have hP : Hid (pack2 k f = rung m (e - 3)) := hfin'.out
                      have hPl : pack2 k f < 9223372036854775808 := by rw [hP.out]; exact Nat.lt_of_le_of_lt (rung_le _ _) (by omega)
                      generalize pack2 k f = P at *
                      have hor : bits BinOp.or IntKind.u64 (P : Int) 9223372036854775808 = ((9223372036854775808 + P : Nat) : Int) := or_sign P hPl
                      have hPl' := Lib.hid hPl
                      clear hPl hk0
                      cases s
                      · go_wp2_with fail
                        go_ret
                        exact ⟨by rw [← hP.out, word_eq]; simp, rfl⟩
                      · go_wp2_with fail
                        go_ret
                        exact ⟨by rw [← hP.out, word_eq]; rfl, rfl⟩
                · have g2 : decide ((4503599627370496 : Int) ≤ (k : Int)) = false := by rw [decide_eq_false_iff_not]; omega
                  by_cases hinf : 2047 ≤ f + 1075
                  · have hp2 : Hid (pack2 k f = 9218868437227405312) := pack2_c k f hk hinf
                    clear hk hk2
                    go_upto_if 63 with fail
                    go_cut [8] (fun a wx => w = wx ∧ a = .int .u64 (pack2 k f : Nat))
                    case first =>
                      go_wp2_with fail
                      go_meet
                      exact ⟨rfl, by rw [hp2.out]; rfl⟩
                    case rest =>
                      obtain ⟨rfl, rfl⟩ := hcut
                      have hP : Hid (pack2 k f = rung m (e - 3)) := hfin'.out
                      have hPl : pack2 k f < 9223372036854775808 := by rw [hP.out]; exact Nat.lt_of_le_of_lt (rung_le _ _) (by omega)
                      generalize pack2 k f = P at *
                      have hor : bits BinOp.or IntKind.u64 (P : Int) 9223372036854775808 = ((9223372036854775808 + P : Nat) : Int) := or_sign P hPl
                      have hPl' := Lib.hid hPl
                      clear hPl hk0
                      cases s
                      · go_wp2_with fail
                        go_ret
                        exact ⟨by rw [← hP.out, word_eq]; simp, rfl⟩
                      · go_wp2_with fail
                        go_ret
                        exact ⟨by rw [← hP.out, word_eq]; rfl, rfl⟩
                  · have hp2 : Hid (pack2 k f = k) := pack2_e k f hk hk2 hinf
                    clear hk hk2
                    go_upto_if 63 with fail
                    go_cut [8] (fun a wx => w = wx ∧ a = .int .u64 (pack2 k f : Nat))
                    case first =>
                      go_wp2_with fail
                      go_meet
                      exact ⟨rfl, by rw [hp2.out]⟩
                    case rest =>
                      obtain ⟨rfl, rfl⟩ := hcut
                      have hP : Hid (pack2 k f = rung m (e - 3)) := hfin'.out
                      have hPl : pack2 k f < 9223372036854775808 := by rw [hP.out]; exact Nat.lt_of_le_of_lt (rung_le _ _) (by omega)
                      generalize pack2 k f = P at *
                      have hor : bits BinOp.or IntKind.u64 (P : Int) 9223372036854775808 = ((9223372036854775808 + P : Nat) : Int) := or_sign P hPl
                      have hPl' := Lib.hid hPl
                      clear hPl hk0
                      cases s
                      · go_wp2_with fail
                        go_ret
                        exact ⟨by rw [← hP.out, word_eq]; simp, rfl⟩
                      · go_wp2_with fail
                        go_ret
                        exact ⟨by rw [← hP.out, word_eq]; rfl, rfl⟩
          case first =>
            by_cases c1 : 4 < low3 n
            · have g1 : decide ((4 : Int) < (low3 n : Int)) = true := by rw [decide_eq_true_iff]; omega
              go_wp2_with fail
              go_meet
              exact ⟨rfl, by rw [up_a n (by rw [← hl3.out]; exact c1)]⟩
            · have g1 : decide ((4 : Int) < (low3 n : Int)) = false := by rw [decide_eq_false_iff_not]; omega
              by_cases c2 : low3 n = 4
              · have g2 : ((low3 n : Int) == 4) = true := by rw [beq_iff_eq]; omega
                by_cases c3 : lowbit q = 1
                · have g3 : ((lowbit q : Int) == 1) = true := by rw [beq_iff_eq]; omega
                  have hend : Hid (up3 n = true) := up_b n (by rw [← hl3.out]; exact c2) (by rw [hqq.out, ← hlb.out]; exact c3)
                  clear c1 c2 c3
                  go_wp2_with fail
                  go_meet
                  exact ⟨rfl, by rw [hend.out]⟩
                · have g3 : ((lowbit q : Int) == 1) = false := by rw [beq_eq_false_iff_ne]; omega
                  have hend : Hid (up3 n = false) := up_c n (by rw [← hl3.out]; exact c2) (by rw [hqq.out, ← hlb.out]; exact c3)
                  clear c1 c2 c3
                  go_wp2_with fail
                  go_meet
                  exact ⟨rfl, by rw [hend.out]⟩
              · have g2 : ((low3 n : Int) == 4) = false := by rw [beq_eq_false_iff_ne]; omega
                have hend : Hid (up3 n = false) := up_d n (by rw [← hl3.out]; exact c1) (by rw [← hl3.out]; exact c2)
                clear c1 c2
                go_wp2_with fail
                go_meet
                exact ⟨rfl, by rw [hend.out]⟩
          case rest =>
            obtain ⟨rfl, rfl⟩ := hcut
            clear r3 r4 hlt8 hlt2
            have hfk : Hid (pack1 n = if up3 n then q + 1 else q) := by show _ = _; rw [pack1_up, hqq.out]
            have hwq : IntKind.u64.wrap ((q : Int) + 1) = ((q + 1 : Nat) : Int) := by have := hq8.out; rw [IntKind.wrap_u64]; omega
            go_upto_if 42 with fail
            go_cut [1] (fun a wx => w = wx ∧ a = .int .u64 (pack1 n : Nat))
            case first =>
              cases hup : up3 n
              · go_wp2_with fail
                go_meet
                exact ⟨rfl, by rw [hfk.out, hup]; rfl⟩
              · go_wp2_with fail
                go_meet
                exact ⟨rfl, by rw [hfk.out, hup]; rfl⟩
            case rest =>
              obtain ⟨rfl, rfl⟩ := hcut
              clear hwq hq
              have hk0 : Hid (pack1 n ≤ 9007199254740992) := by show _ ≤ _; rw [hfk.out]; have := hq8.out; split <;> omega
              clear hfk
              generalize pack1 n = k at *
              by_cases hk : k = 9007199254740992
              · subst hk
                have rA : bits BinOp.and IntKind.u64 4503599627370496 4503599627370495 = 0 := by decide
                have rO : bits BinOp.or IntKind.u64 ((f + 1 + 1075) * 4503599627370496) 0 = (((f + 1 + 1075).toNat * 4503599627370496 + 0 : Nat) : Int) := or_exp (f + 1 + 1075) 0 (by omega) (by omega) (by omega)
                by_cases hinf : 2047 ≤ f + 1 + 1075
                · have hp2 : Hid (pack2 9007199254740992 f = 9218868437227405312) := pack2_a f hinf
                  go_upto_if 63 with fail
                  go_cut [8] (fun a wx => w = wx ∧ a = .int .u64 (pack2 9007199254740992 f : Nat))
                  case first =>
                    clear rA rO
                    go_wp2_with fail
                    go_meet
                    exact ⟨rfl, by rw [hp2.out]; rfl⟩
                  case rest =>
                    obtain ⟨rfl, rfl⟩ := hcut
                    have hP : Hid (pack2 9007199254740992 f = rung m (e - 3)) := hfin'.out
                    have hPl : pack2 9007199254740992 f < 9223372036854775808 := by rw [hP.out]; exact Nat.lt_of_le_of_lt (rung_le _ _) (by omega)
                    generalize pack2 9007199254740992 f = P at *
                    have hor : bits BinOp.or IntKind.u64 (P : Int) 9223372036854775808 = ((9223372036854775808 + P : Nat) : Int) := or_sign P hPl
                    have hPl' := Lib.hid hPl
                    clear hPl hk0
                    cases s
                    · go_wp2_with fail
                      go_ret
                      exact ⟨by rw [← hP.out, word_eq]; simp, rfl⟩
                    · go_wp2_with fail
                      go_ret
                      exact ⟨by rw [← hP.out, word_eq]; rfl, rfl⟩
                · have hp2 : Hid (pack2 9007199254740992 f = (f + 1 + 1075).toNat * 4503599627370496 + 0) := pack2_b f (by omega)
                  go_upto_if 63 with fail
                  go_cut [8] (fun a wx => w = wx ∧ a = .int .u64 (pack2 9007199254740992 f : Nat))
                  case first =>
                    clear rA rO
                    go_wp2_with fail
                    go_meet
                    exact ⟨rfl, by rw [hp2.out]; congr 1; omega⟩
                  case rest =>
                    obtain ⟨rfl, rfl⟩ := hcut
                    have hP : Hid (pack2 9007199254740992 f = rung m (e - 3)) := hfin'.out
                    have hPl : pack2 9007199254740992 f < 9223372036854775808 := by rw [hP.out]; exact Nat.lt_of_le_of_lt (rung_le _ _) (by omega)
                    generalize pack2 9007199254740992 f = P at *
                    have hor : bits BinOp.or IntKind.u64 (P : Int) 9223372036854775808 = ((9223372036854775808 + P : Nat) : Int) := or_sign P hPl
                    have hPl' := Lib.hid hPl
                    clear hPl hk0
                    cases s
                    · go_wp2_with fail
                      go_ret
                      exact ⟨by rw [← hP.out, word_eq]; simp, rfl⟩
                    · go_wp2_with fail
                      go_ret
                      exact ⟨by rw [← hP.out, word_eq]; rfl, rfl⟩
              · have g1 : ((k : Int) == 9007199254740992) = false := by rw [beq_eq_false_iff_ne]; omega
                by_cases hk2 : 4503599627370496 ≤ k
                · have g2 : decide ((4503599627370496 : Int) ≤ (k : Int)) = true := by rw [decide_eq_true_iff]; omega
                  have rA : bits BinOp.and IntKind.u64 (k : Int) 4503599627370495 = ((lowfrac k : Nat) : Int) := and_frac k (by have := hk0.out; omega)
                  have rO : bits BinOp.or IntKind.u64 ((f + 1075) * 4503599627370496) ((lowfrac k : Nat) : Int) = (((f + 1075).toNat * 4503599627370496 + lowfrac k : Nat) : Int) := or_exp (f + 1075) (lowfrac k) (by omega) (by omega) (by unfold lowfrac; omega)
                  by_cases hinf : 2047 ≤ f + 1075
                  · have hp2 : Hid (pack2 k f = 9218868437227405312) := pack2_c k f hk hinf
                    clear hk hk2
                    go_upto_if 63 with fail
                    go_cut [8] (fun a wx => w = wx ∧ a = .int .u64 (pack2 k f : Nat))
                    case first =>
                      clear rA rO
                      go_wp2_with fail
                      go_meet
                      exact ⟨rfl, by rw [hp2.out]; rfl⟩
                    case rest =>
                      obtain ⟨rfl, rfl⟩ := hcut
                      have hP : Hid (pack2 k f = rung m (e - 3)) := hfin'.out
                      have hPl : pack2 k f < 9223372036854775808 := by rw [hP.out]; exact Nat.lt_of_le_of_lt (rung_le _ _) (by omega)
                      generalize pack2 k f = P at *
                      have hor : bits BinOp.or IntKind.u64 (P : Int) 9223372036854775808 = ((9223372036854775808 + P : Nat) : Int) := or_sign P hPl
                      have hPl' := Lib.hid hPl
                      clear hPl hk0
                      cases s
                      · go_wp2_with fail
                        go_ret
                        exact ⟨by rw [← hP.out, word_eq]; simp, rfl⟩
                      · go_wp2_with fail
                        go_ret
                        exact ⟨by rw [← hP.out, word_eq]; rfl, rfl⟩
                  · have hp2 : Hid (pack2 k f = (f + 1075).toNat * 4503599627370496 + lowfrac k) := pack2_d k f hk hk2 hinf
                    clear hk hk2
                    go_upto_if 63 with fail
                    go_cut [8] (fun a wx => w = wx ∧ a = .int .u64 (pack2 k f : Nat))
                    case first =>
                      clear rA rO
                      go_wp2_with fail
                      go_meet
                      exact ⟨rfl, by rw [hp2.out]; congr 1; omega⟩
                    case rest =>
                      obtain ⟨rfl, rfl⟩ := hcut
                      have hP : Hid (pack2 k f = rung m (e - 3)) := hfin'.out
                      have hPl : pack2 k f < 9223372036854775808 := by rw [hP.out]; exact Nat.lt_of_le_of_lt (rung_le _ _) (by omega)
                      generalize pack2 k f = P at *
                      have hor : bits BinOp.or IntKind.u64 (P : Int) 9223372036854775808 = ((9223372036854775808 + P : Nat) : Int) := or_sign P hPl
                      have hPl' := Lib.hid hPl
                      clear hPl hk0
                      cases s
                      · go_wp2_with fail
                        go_ret
                        exact ⟨by rw [← hP.out, word_eq]; simp, rfl⟩
                      · go_wp2_with fail
                        go_ret
                        exact ⟨by rw [← hP.out, word_eq]; rfl, rfl⟩
                · have g2 : decide ((4503599627370496 : Int) ≤ (k : Int)) = false := by rw [decide_eq_false_iff_not]; omega
                  by_cases hinf : 2047 ≤ f + 1075
                  · have hp2 : Hid (pack2 k f = 9218868437227405312) := pack2_c k f hk hinf
                    clear hk hk2
                    go_upto_if 63 with fail
                    go_cut [8] (fun a wx => w = wx ∧ a = .int .u64 (pack2 k f : Nat))
                    case first =>
                      go_wp2_with fail
                      go_meet
                      exact ⟨rfl, by rw [hp2.out]; rfl⟩
                    case rest =>
                      obtain ⟨rfl, rfl⟩ := hcut
                      have hP : Hid (pack2 k f = rung m (e - 3)) := hfin'.out
                      have hPl : pack2 k f < 9223372036854775808 := by rw [hP.out]; exact Nat.lt_of_le_of_lt (rung_le _ _) (by omega)
                      generalize pack2 k f = P at *
                      have hor : bits BinOp.or IntKind.u64 (P : Int) 9223372036854775808 = ((9223372036854775808 + P : Nat) : Int) := or_sign P hPl
                      have hPl' := Lib.hid hPl
                      clear hPl hk0
                      cases s
                      · go_wp2_with fail
                        go_ret
                        exact ⟨by rw [← hP.out, word_eq]; simp, rfl⟩
                      · go_wp2_with fail
                        go_ret
                        exact ⟨by rw [← hP.out, word_eq]; rfl, rfl⟩
                  · have hp2 : Hid (pack2 k f = k) := pack2_e k f hk hk2 hinf
                    clear hk hk2
                    go_upto_if 63 with fail
                    go_cut [8] (fun a wx => w = wx ∧ a = .int .u64 (pack2 k f : Nat))
                    case first =>
                      go_wp2_with fail
                      go_meet
                      exact ⟨rfl, by rw [hp2.out]⟩
                    case rest =>
                      obtain ⟨rfl, rfl⟩ := hcut
                      have hP : Hid (pack2 k f = rung m (e - 3)) := hfin'.out
                      have hPl : pack2 k f < 9223372036854775808 := by rw [hP.out]; exact Nat.lt_of_le_of_lt (rung_le _ _) (by omega)
                      generalize pack2 k f = P at *
                      have hor : bits BinOp.or IntKind.u64 (P : Int) 9223372036854775808 = ((9223372036854775808 + P : Nat) : Int) := or_sign P hPl
                      have hPl' := Lib.hid hPl
                      clear hPl hk0
                      cases s
                      · go_wp2_with fail
                        go_ret
                        exact ⟨by rw [← hP.out, word_eq]; simp, rfl⟩
                      · go_wp2_with fail
                        go_ret
                        exact ⟨by rw [← hP.out, word_eq]; rfl, rfl⟩
end Go.Proofs.Ytimiojckinpfdaa.Pq

/- The walks of the reference's sum of two floats. -/
namespace Go.Proofs.Ytimiojckinpfdaa.Pq
open Go.RowKit Flt

theorem xor_flip (a : Nat) (h : a < 18446744073709551616) : a ^^^ 9223372036854775808 = flip a := by
  have key : ∀ b, b < 9223372036854775808 → b ^^^ 9223372036854775808 = b + 9223372036854775808 := by
    intro b hb
    have h1 := nat_join 63 9223372036854775808 b (by decide) (by rw [show (2 ^ 63 : Nat) = 9223372036854775808 from rfl]; exact hb)
    have h2 : b ^^^ 9223372036854775808 = 9223372036854775808 ||| b := by
      apply Nat.eq_of_testBit_eq
      intro i
      rw [Nat.testBit_xor, Nat.testBit_or, show (9223372036854775808 : Nat) = 2 ^ 63 from rfl, Nat.testBit_two_pow]
      by_cases e : 63 = i
      · subst e
        have : b.testBit 63 = false := Nat.testBit_lt_two_pow (by rw [show (2 ^ 63 : Nat) = 9223372036854775808 from rfl]; exact hb)
        simp [this]
      · simp [e]
    rw [h2, h1]; omega
  unfold Flt.flip
  by_cases hs : a < 9223372036854775808
  · rw [if_pos hs, key a hs]
  · rw [if_neg hs]
    have h1 := key (a - 9223372036854775808) (by omega)
    have h2 : a - 9223372036854775808 + 9223372036854775808 = a := by omega
    rw [h2] at h1
    have h3 : a ^^^ 9223372036854775808 = (a - 9223372036854775808 ^^^ 9223372036854775808) ^^^ 9223372036854775808 := by rw [h1]
    rw [h3, Nat.xor_assoc, Nat.xor_self, Nat.xor_zero]
theorem flip_lt (a : Nat) (h : a < 18446744073709551616) : flip a < 18446744073709551616 := by unfold Flt.flip; split <;> omega

set_option maxHeartbeats 400000 in
theorem negative_any (a : Nat) (w : World) (ha : a < 18446744073709551616) :
    Calls Try.prog 97 #[.int .u64 a] w fun e w' => e = .returned (.int .u64 (flip a : Nat)) ∧ w = w' := by
  have hm : bits BinOp.xor IntKind.u64 (a : Int) 9223372036854775808 = ((flip a : Nat) : Int) := by
    have := u64_xor_nat a 9223372036854775808 ha (by omega)
    rw [xor_flip a ha] at this; exact this
  have ha' := Lib.hid ha
  clear ha
  go_enter Try.func97, Try.ntmps97
  go_wp2
  go_ret
  exact ⟨rfl, rfl⟩

def ebits (a : Nat) : Nat := a / 4503599627370496 % 2048
theorem ebits_mag (a : Nat) : ebits a = mag a / 4503599627370496 := by unfold ebits mag; omega
theorem frac_mag (a : Nat) : lowfrac a = mag a % 4503599627370496 := by unfold lowfrac mag; omega
theorem sig_of (a : Nat) : sig (mag a) = if ebits a = 0 then lowfrac a else 4503599627370496 + lowfrac a := by
  rw [ebits_mag, frac_mag]; unfold sig
  by_cases h : mag a < 4503599627370496
  · rw [if_pos h, if_pos (by omega)]; omega
  · rw [if_neg h, if_neg (by omega)]
theorem ex_of (a : Nat) : ex (mag a) = if ebits a = 0 then -1074 else (ebits a : Int) - 1075 := by
  rw [ebits_mag]; unfold ex
  by_cases h : mag a < 4503599627370496
  · rw [if_pos h, if_pos (by omega)]
  · rw [if_neg h, if_neg (by omega)]; omega

set_option maxHeartbeats 400000 in
theorem parts_any (a : Nat) (w : World) (ha : a < 18446744073709551616) :
    Calls Try.prog 98 #[.int .u64 a] w fun e w' => e = .returned (.tuple #[.int .u64 (sig (mag a) : Nat), .int .i64 (ex (mag a))]) ∧ w = w' := by
  have r1 : (a : Int) / 4503599627370496 = ((a / 4503599627370496 : Nat) : Int) := by omega
  have r2 : bits BinOp.and IntKind.u64 ((a / 4503599627370496 : Nat) : Int) 2047 = ((ebits a : Nat) : Int) := by
    have h1 := u64_and_nat (a / 4503599627370496) 2047 (by omega) (by omega)
    have h2 := Nat.and_two_pow_sub_one_eq_mod (a / 4503599627370496) 11
    rw [show (2 ^ 11 - 1 : Nat) = 2047 from rfl] at h2
    rw [h2] at h1; exact h1
  have r3 := and_frac a ha
  have hl : lowfrac a < 4503599627370496 := by unfold lowfrac; omega
  have he : ebits a < 2048 := by unfold ebits; omega
  have r4 : bits BinOp.or IntKind.u64 ((lowfrac a : Nat) : Int) 4503599627370496 = ((4503599627370496 + lowfrac a : Nat) : Int) := by
    have h2 := u64_or_nat (lowfrac a) 4503599627370496 (by omega) (by omega)
    have h3 := nat_join 52 4503599627370496 (lowfrac a) (by decide) (by rw [show (2 ^ 52 : Nat) = 4503599627370496 from rfl]; exact hl)
    rw [Nat.or_comm, h3] at h2
    exact h2
  have hs := Lib.hid (sig_of a)
  have hx := Lib.hid (ex_of a)
  have ha' := Lib.hid ha
  have hl' := Lib.hid hl
  clear ha hl
  generalize hq : a / 4503599627370496 = q at *
  clear hq
  generalize hE : ebits a = E at *
  have hE' := Lib.hid hE; clear hE
  by_cases h0 : E = 0
  · subst h0
    go_enter Try.func98, Try.ntmps98
    go_wp2
    go_ret2
    exact ⟨by rw [hs.out, hx.out]; rfl, rfl⟩
  · have g1 : ((E : Int) == 0) = false := by rw [beq_eq_false_iff_ne]; omega
    have h0' := Lib.hid h0
    clear h0
    go_enter Try.func98, Try.ntmps98
    go_wp2
    go_ret2
    exact ⟨by rw [hs.out, hx.out, if_neg h0'.out, if_neg h0'.out]; rfl, rfl⟩

def sgn (a : Nat) : Nat := if neg a then 9223372036854775808 else 0
theorem and_sign (a : Nat) (h : a < 18446744073709551616) : bits BinOp.and IntKind.u64 (a : Int) 9223372036854775808 = ((sgn a : Nat) : Int) := by
  have h1 := u64_and_nat a 9223372036854775808 h (by omega)
  have h2 := nat_bit 63 a
  rw [show (2 ^ 63 : Nat) = 9223372036854775808 from rfl] at h2
  rw [h2] at h1
  have h3 : a / 9223372036854775808 % 2 * 9223372036854775808 = sgn a := by
    unfold sgn neg
    rcases (show a / 9223372036854775808 % 2 = 0 ∨ a / 9223372036854775808 % 2 = 1 by omega) with q | q <;> rw [q] <;> rfl
  rw [h3] at h1; exact h1
theorem stk_small (n k j : Nat) (h : stk n k ≤ 1) : stk n (k + j) = stk n k := by
  induction j with
  | zero => rfl
  | succ j ih =>
    rw [← Nat.add_assoc, ← stk_stk, ih]
    rcases (show stk n k = 0 ∨ stk n k = 1 by omega) with q | q <;> rw [q] <;> decide

/-- both numbers, the greater magnitude ahead -/
structure Big (a b x y : Nat) : Prop where
  xl : x < 18446744073709551616
  yl : y < 18446744073709551616
  ge : mag y ≤ mag x
  nx : nan x = false
  ny : nan y = false
  sum : radd a b = radd x y

theorem Big.fin {a b x y : Nat} (h : Big a b x y) (hx : ¬ mag x = 9218868437227405312) : mag x < 9218868437227405312 := by
  have := h.nx; unfold nan at this; have h2 : mag x ≤ 9218868437227405312 := by simpa using this
  omega

def TT (t : Bool) (P : Prop) : Prop := t = true ↔ P
theorem TT.no {P : Prop} (h : TT false P) : ¬ P := fun p => by have := h.2 p; cases this
theorem TT.yes {P : Prop} (h : TT true P) : P := h.1 rfl
def RL (N : Nat) (E F : Int) (p q : Value) : Prop := ∃ k : Nat, q = .int .i64 (F + k) ∧ p = .int .u64 (stk N k : Nat) ∧ F + k ≤ E
theorem stk_lt (N k : Nat) (h : N < 72057594037927936) : stk N k < 72057594037927936 := by
  have h1 : N / 2 ^ k ≤ N := Nat.div_le_self _ _
  unfold stk
  split
  · omega
  · by_cases hk : k = 0
    · subst hk; rename_i h2; simp [Nat.mod_one] at h2
    · have h2 : 2 ^ 1 ≤ 2 ^ k := Nat.pow_le_pow_right (by omega) (by omega)
      have h3 : N / 2 ^ k ≤ N / 2 := Nat.div_le_div_left h2 (by omega)
      omega
theorem stk_le_sig {g h : Nat} (hgh : h ≤ g) : stk (8 * sig h) (ex g - ex h).toNat ≤ 8 * sig g := by
  have hm := ex_mono hgh
  by_cases e : ex h = ex g
  · have : (ex g - ex h).toNat = 0 := by omega
    rw [this, stk_zero]
    have := sig_mono hgh e; omega
  · have h1 := sig_ge (g := g) (by have := ex_ge h; omega)
    have h2 := sig_lt h
    have h3 := stk_le (8 * sig h) (ex g - ex h).toNat (by omega)
    omega
def SW (a b : Nat) (p q : Value) : Prop := ∃ x y : Nat, p = .int .u64 x ∧ q = .int .u64 y ∧ Big a b x y

set_option maxRecDepth 100000 in
set_option maxHeartbeats 2000000 in
theorem add_any (a b : Nat) (w : World) (ha : a < 18446744073709551616) (hb : b < 18446744073709551616) :
    Calls Try.prog 71 #[.int .u64 a, .int .u64 b] w fun e w' => e = .returned (.int .u64 (radd a b : Nat)) ∧ w = w' := by
  cases hna : nan a
  · cases hnb : nan b
    · have hA := Lib.hid ha
      have hB := Lib.hid hb
      have m1 := mag_bits a ha
      have m2 := mag_bits b hb
      clear ha hb
      have hna' := Lib.hid hna
      have hnb' := Lib.hid hnb
      have hsw : ∃ t : Bool, decide (mag a < mag b) = t ∧ TT t (mag a < mag b) := ⟨_, rfl, by show _ ↔ _; rw [decide_eq_true_iff]⟩
      obtain ⟨t, ht, htt⟩ := hsw
      go_enter Try.func71, Try.ntmps71
      go_wp2_with fail
      refine (isnan_any a _ hA.out).mono ?_
      rintro e w1 ⟨rfl, rfl⟩
      go_wp2_with fail
      refine (isnan_any b _ hB.out).mono ?_
      rintro e w2 ⟨rfl, rfl⟩
      go_upto_if 24 with fail
      go_cut [0, 1] (fun p q wx => w = wx ∧ SW a b p q)
      case first =>
        cases t
        · go_wp2_with fail
          go_meet
          exact ⟨rfl, a, b, rfl, rfl, hA.out, hB.out, by have := htt.no; omega, hna'.out, hnb'.out, rfl⟩
        · go_wp2_with fail
          go_meet
          exact ⟨rfl, b, a, rfl, rfl, hB.out, hA.out, by have := htt.yes; omega, hnb'.out, hna'.out, radd_comm a b⟩
      case rest =>
        obtain ⟨rfl, x, y, rfl, rfl, hBig⟩ := hcut
        clear ht m1 m2 hna hnb
        have hBig' := Lib.hid hBig
        have m1 := mag_bits x hBig.xl
        clear hBig
        by_cases hinf : mag x = 9218868437227405312
        · have g1 : ((mag x : Int) == 9218868437227405312) = true := by rw [beq_iff_eq]; omega
          have hinf' := Lib.hid hinf
          clear hinf
          have hr := Lib.hid (radd_inf x y hBig'.out.xl hBig'.out.yl hinf'.out hBig'.out.ny)
          go_wp2_with fail
          refine (negative_any x _ hBig'.out.xl).mono ?_
          rintro e w1 ⟨rfl, rfl⟩
          by_cases hfl : y = Flt.flip x
          · have g2 : ((y : Int) == (Flt.flip x : Int)) = true := by rw [beq_iff_eq]; omega
            have g3 : (y == Flt.flip x) = true := by rw [beq_iff_eq]; exact hfl
            have hfl' := Lib.hid hfl
            clear hfl
            go_wp2_with fail
            go_ret
            exact ⟨by rw [hBig'.out.sum, hr.out, if_pos hfl'.out]; rfl, rfl⟩
          · have g2 : ((y : Int) == (Flt.flip x : Int)) = false := by rw [beq_eq_false_iff_ne]; omega
            have g3 : (y == Flt.flip x) = false := by rw [beq_eq_false_iff_ne]; exact hfl
            have hfl' := Lib.hid hfl
            clear hfl
            go_wp2_with fail
            go_ret
            exact ⟨by rw [hBig'.out.sum, hr.out, if_neg hfl'.out]; rfl, rfl⟩
        · have g1 : ((mag x : Int) == 9218868437227405312) = false := by rw [beq_eq_false_iff_ne]; omega
          have hfin := Lib.hid (hBig'.out.fin hinf)
          clear hinf
          have hsx : Hid (sig (mag x) < 9007199254740992) := sig_lt _
          have hsy : Hid (sig (mag y) < 9007199254740992) := sig_lt _
          have hxl := ex_ge (mag y)
          have hxm : ex (mag y) ≤ ex (mag x) := ex_mono hBig'.out.ge
          have hxh : ex (mag x) ≤ 971 := ex_le _ hfin.out
          have w8x : IntKind.u64.wrap ((sig (mag x) : Int) * 8) = ((8 * sig (mag x) : Nat) : Int) := by have := hsx.out; rw [IntKind.wrap_u64]; omega
          have w8y : IntKind.u64.wrap ((sig (mag y) : Int) * 8) = ((8 * sig (mag y) : Nat) : Int) := by have := hsy.out; rw [IntKind.wrap_u64]; omega
          have hm8 : Hid (8 * sig (mag x) < 72057594037927936) := by show _ < _; have := hsx.out; omega
          have hn8 : Hid (8 * sig (mag y) < 72057594037927936) := by show _ < _; have := hsy.out; omega
          go_wp2_with fail
          refine (parts_any x _ hBig'.out.xl).mono ?_
          rintro e w1 ⟨rfl, rfl⟩
          go_wp2_with fail
          refine (parts_any y _ hBig'.out.yl).mono ?_
          rintro e w1 ⟨rfl, rfl⟩
          have hle : Hid (stk (8 * sig (mag y)) (ex (mag x) - ex (mag y)).toNat ≤ 8 * sig (mag x)) := stk_le_sig hBig'.out.ge
          have hsame := fun h => Lib.hid (radd_same x y hfin.out hBig'.out.ge h)
          have hdiff := fun h => Lib.hid (radd_diff x y hfin.out hBig'.out.ge h)
          generalize hex : ex (mag x) = E at *
          generalize hey : ex (mag y) = F at *
          generalize hm80 : 8 * sig (mag x) = M at *
          generalize hn80 : 8 * sig (mag y) = N at *
          have hex' := Lib.hid hex
          have hey' := Lib.hid hey
          clear hex hey hm80 hn80
          go_wp2_with fail
          clear w8x w8y
          go_loop [9, 11] (fun p q => RL N E F p q) (fun _ q => (E - intOf q).toNat)
          case atStart => exact ⟨0, by simp, by rw [stk_zero], by omega⟩
          case round =>
            obtain ⟨k, rfl, rfl, hkd⟩ := hrel
            have hNl : Hid (stk N k < 72057594037927936) := stk_lt N k hn8.out
            by_cases hboth : F + (k : Int) < E ∧ 1 < stk N k
            · obtain ⟨q1, q2⟩ := hboth
              have r1 := and1 (stk N k) (by have := hNl.out; omega)
              have r2 := or_stk (stk N k) (by have := hNl.out; omega)
              rw [stk_stk] at r2
              generalize stk N k = n at *
              go_wp2_with fail
              go_round
              case rel => exact ⟨k + 1, by congr 1; omega, rfl, by omega⟩
              case measure => simp [intOf]; omega
            · have hd : Hid (stk N (E - F).toNat = stk N k) := by
                show _ = _
                by_cases h1 : F + (k : Int) < E
                · have h2 : stk N k ≤ 1 := by omega
                  have := stk_small N k ((E - F).toNat - k) h2
                  rw [← this]; congr 1; omega
                · congr 1; omega
              have htst : Hid (F + (k : Int) < E → stk N k ≤ 1) := by intro h; omega
              generalize stk N k = n at *
              by_cases h1 : F + (k : Int) < E
              · have h2 : n ≤ 1 := htst.out h1
                clear hboth
                have sx := and_sign x hBig'.out.xl
                have sy := and_sign y hBig'.out.yl
                have wadd : IntKind.u64.wrap ((M : Int) + (n : Int)) = ((M + n : Nat) : Int) := by have := hm8.out; have := hNl.out; rw [IntKind.wrap_u64]; omega
                have wsub : n ≤ M → IntKind.u64.wrap ((M : Int) - (n : Int)) = ((M - n : Nat) : Int) := by intro h; have := hm8.out; rw [IntKind.wrap_u64]; omega
                have hnM : Hid (n ≤ M) := by show _ ≤ _; rw [← hd.out]; exact hle.out
                have wsub' := wsub hnM.out
                clear wsub m1
                have hE1 := ex_ge (mag x)
                have hE2 := ex_le _ hfin.out
                rw [hex'.out] at hE1 hE2
                cases hnx : neg x
                · cases hny : neg y
                  · have e1 : sgn x = 0 := by unfold sgn; rw [hnx]; rfl
                    have e2 : sgn y = 0 := by unfold sgn; rw [hny]; rfl
                    rw [e1] at sx
                    rw [e2] at sy
                    have hres := hsame (by rw [hnx, hny])
                    clear hsame hdiff e1 e2
                    rw [hnx] at hres
                    clear hnx hny
                    go_wp2_with fail
                    refine (packed_any false (M + n) E _ (by have := hm8.out; have := hNl.out; omega) (by omega) (by omega)).mono ?_
                    rintro e w1 ⟨rfl, rfl⟩
                    go_wp2_with fail
                    go_ret
                    exact ⟨by rw [hBig'.out.sum, hres.out, hd.out]; rfl, rfl⟩
                  · have e1 : sgn x = 0 := by unfold sgn; rw [hnx]; rfl
                    have e2 : sgn y = 9223372036854775808 := by unfold sgn; rw [hny]; rfl
                    rw [e1] at sx
                    rw [e2] at sy
                    have hres := hdiff (by rw [hnx, hny]; simp)
                    clear hsame hdiff e1 e2
                    rw [hnx] at hres
                    clear hnx hny
                    by_cases heq : M = n
                    · have g2 : (M == n) = true := by rw [beq_iff_eq]; exact heq
                      have g3 : ((M : Int) == (n : Int)) = true := by rw [beq_iff_eq]; omega
                      have heq' := Lib.hid heq
                      clear heq
                      go_wp2_with fail
                      go_ret
                      exact ⟨by rw [hBig'.out.sum, hres.out, hd.out, if_pos heq'.out]; rfl, rfl⟩
                    · have g2 : (M == n) = false := by rw [beq_eq_false_iff_ne]; exact heq
                      have g3 : ((M : Int) == (n : Int)) = false := by rw [beq_eq_false_iff_ne]; omega
                      have heq' := Lib.hid heq
                      clear heq
                      go_wp2_with fail
                      refine (packed_any false (M - n) E _ (by have := hm8.out; omega) (by omega) (by omega)).mono ?_
                      rintro e w1 ⟨rfl, rfl⟩
                      go_wp2_with fail
                      go_ret
                      exact ⟨by rw [hBig'.out.sum, hres.out, hd.out, if_neg heq'.out]; rfl, rfl⟩
                · cases hny : neg y
                  · have e1 : sgn x = 9223372036854775808 := by unfold sgn; rw [hnx]; rfl
                    have e2 : sgn y = 0 := by unfold sgn; rw [hny]; rfl
                    rw [e1] at sx
                    rw [e2] at sy
                    have hres := hdiff (by rw [hnx, hny]; simp)
                    clear hsame hdiff e1 e2
                    rw [hnx] at hres
                    clear hnx hny
                    by_cases heq : M = n
                    · have g2 : (M == n) = true := by rw [beq_iff_eq]; exact heq
                      have g3 : ((M : Int) == (n : Int)) = true := by rw [beq_iff_eq]; omega
                      have heq' := Lib.hid heq
                      clear heq
                      go_wp2_with fail
                      go_ret
                      exact ⟨by rw [hBig'.out.sum, hres.out, hd.out, if_pos heq'.out]; rfl, rfl⟩
                    · have g2 : (M == n) = false := by rw [beq_eq_false_iff_ne]; exact heq
                      have g3 : ((M : Int) == (n : Int)) = false := by rw [beq_eq_false_iff_ne]; omega
                      have heq' := Lib.hid heq
                      clear heq
                      go_wp2_with fail
                      refine (packed_any true (M - n) E _ (by have := hm8.out; omega) (by omega) (by omega)).mono ?_
                      rintro e w1 ⟨rfl, rfl⟩
                      go_wp2_with fail
                      go_ret
                      exact ⟨by rw [hBig'.out.sum, hres.out, hd.out, if_neg heq'.out]; rfl, rfl⟩
                  · have e1 : sgn x = 9223372036854775808 := by unfold sgn; rw [hnx]; rfl
                    have e2 : sgn y = 9223372036854775808 := by unfold sgn; rw [hny]; rfl
                    rw [e1] at sx
                    rw [e2] at sy
                    have hres := hsame (by rw [hnx, hny])
                    clear hsame hdiff e1 e2
                    rw [hnx] at hres
                    clear hnx hny
                    go_wp2_with fail
                    refine (packed_any true (M + n) E _ (by have := hm8.out; have := hNl.out; omega) (by omega) (by omega)).mono ?_
                    rintro e w1 ⟨rfl, rfl⟩
                    go_wp2_with fail
                    go_ret
                    exact ⟨by rw [hBig'.out.sum, hres.out, hd.out]; rfl, rfl⟩
              · clear hboth
                have sx := and_sign x hBig'.out.xl
                have sy := and_sign y hBig'.out.yl
                have wadd : IntKind.u64.wrap ((M : Int) + (n : Int)) = ((M + n : Nat) : Int) := by have := hm8.out; have := hNl.out; rw [IntKind.wrap_u64]; omega
                have wsub : n ≤ M → IntKind.u64.wrap ((M : Int) - (n : Int)) = ((M - n : Nat) : Int) := by intro h; have := hm8.out; rw [IntKind.wrap_u64]; omega
                have hnM : Hid (n ≤ M) := by show _ ≤ _; rw [← hd.out]; exact hle.out
                have wsub' := wsub hnM.out
                clear wsub m1
                have hE1 := ex_ge (mag x)
                have hE2 := ex_le _ hfin.out
                rw [hex'.out] at hE1 hE2
                cases hnx : neg x
                · cases hny : neg y
                  · have e1 : sgn x = 0 := by unfold sgn; rw [hnx]; rfl
                    have e2 : sgn y = 0 := by unfold sgn; rw [hny]; rfl
                    rw [e1] at sx
                    rw [e2] at sy
                    have hres := hsame (by rw [hnx, hny])
                    clear hsame hdiff e1 e2
                    rw [hnx] at hres
                    clear hnx hny
                    go_wp2_with fail
                    refine (packed_any false (M + n) E _ (by have := hm8.out; have := hNl.out; omega) (by omega) (by omega)).mono ?_
                    rintro e w1 ⟨rfl, rfl⟩
                    go_wp2_with fail
                    go_ret
                    exact ⟨by rw [hBig'.out.sum, hres.out, hd.out]; rfl, rfl⟩
                  · have e1 : sgn x = 0 := by unfold sgn; rw [hnx]; rfl
                    have e2 : sgn y = 9223372036854775808 := by unfold sgn; rw [hny]; rfl
                    rw [e1] at sx
                    rw [e2] at sy
                    have hres := hdiff (by rw [hnx, hny]; simp)
                    clear hsame hdiff e1 e2
                    rw [hnx] at hres
                    clear hnx hny
                    by_cases heq : M = n
                    · have g2 : (M == n) = true := by rw [beq_iff_eq]; exact heq
                      have g3 : ((M : Int) == (n : Int)) = true := by rw [beq_iff_eq]; omega
                      have heq' := Lib.hid heq
                      clear heq
                      go_wp2_with fail
                      go_ret
                      exact ⟨by rw [hBig'.out.sum, hres.out, hd.out, if_pos heq'.out]; rfl, rfl⟩
                    · have g2 : (M == n) = false := by rw [beq_eq_false_iff_ne]; exact heq
                      have g3 : ((M : Int) == (n : Int)) = false := by rw [beq_eq_false_iff_ne]; omega
                      have heq' := Lib.hid heq
                      clear heq
                      go_wp2_with fail
                      refine (packed_any false (M - n) E _ (by have := hm8.out; omega) (by omega) (by omega)).mono ?_
                      rintro e w1 ⟨rfl, rfl⟩
                      go_wp2_with fail
                      go_ret
                      exact ⟨by rw [hBig'.out.sum, hres.out, hd.out, if_neg heq'.out]; rfl, rfl⟩
                · cases hny : neg y
                  · have e1 : sgn x = 9223372036854775808 := by unfold sgn; rw [hnx]; rfl
                    have e2 : sgn y = 0 := by unfold sgn; rw [hny]; rfl
                    rw [e1] at sx
                    rw [e2] at sy
                    have hres := hdiff (by rw [hnx, hny]; simp)
                    clear hsame hdiff e1 e2
                    rw [hnx] at hres
                    clear hnx hny
                    by_cases heq : M = n
                    · have g2 : (M == n) = true := by rw [beq_iff_eq]; exact heq
                      have g3 : ((M : Int) == (n : Int)) = true := by rw [beq_iff_eq]; omega
                      have heq' := Lib.hid heq
                      clear heq
                      go_wp2_with fail
                      go_ret
                      exact ⟨by rw [hBig'.out.sum, hres.out, hd.out, if_pos heq'.out]; rfl, rfl⟩
                    · have g2 : (M == n) = false := by rw [beq_eq_false_iff_ne]; exact heq
                      have g3 : ((M : Int) == (n : Int)) = false := by rw [beq_eq_false_iff_ne]; omega
                      have heq' := Lib.hid heq
                      clear heq
                      go_wp2_with fail
                      refine (packed_any true (M - n) E _ (by have := hm8.out; omega) (by omega) (by omega)).mono ?_
                      rintro e w1 ⟨rfl, rfl⟩
                      go_wp2_with fail
                      go_ret
                      exact ⟨by rw [hBig'.out.sum, hres.out, hd.out, if_neg heq'.out]; rfl, rfl⟩
                  · have e1 : sgn x = 9223372036854775808 := by unfold sgn; rw [hnx]; rfl
                    have e2 : sgn y = 9223372036854775808 := by unfold sgn; rw [hny]; rfl
                    rw [e1] at sx
                    rw [e2] at sy
                    have hres := hsame (by rw [hnx, hny])
                    clear hsame hdiff e1 e2
                    rw [hnx] at hres
                    clear hnx hny
                    go_wp2_with fail
                    refine (packed_any true (M + n) E _ (by have := hm8.out; have := hNl.out; omega) (by omega) (by omega)).mono ?_
                    rintro e w1 ⟨rfl, rfl⟩
                    go_wp2_with fail
                    go_ret
                    exact ⟨by rw [hBig'.out.sum, hres.out, hd.out]; rfl, rfl⟩
    · go_enter Try.func71, Try.ntmps71
      have hr := Lib.hid (radd_nan a b (.inr hnb))
      go_wp2_with fail
      refine (isnan_any a _ ha).mono ?_
      rintro e w1 ⟨rfl, rfl⟩
      go_wp2_with fail
      refine (isnan_any b _ hb).mono ?_
      rintro e w2 ⟨rfl, rfl⟩
      go_wp2_with fail
      go_ret
      exact ⟨by rw [hr.out]; rfl, rfl⟩
  · go_enter Try.func71, Try.ntmps71
    have hr := Lib.hid (radd_nan a b (.inl hna))
    go_wp2_with fail
    refine (isnan_any a _ ha).mono ?_
    rintro e w1 ⟨rfl, rfl⟩
    go_wp2_with fail
    refine (isnan_any b _ hb).mono ?_
    rintro e w2 ⟨rfl, rfl⟩
    go_wp2_with fail
    go_ret
    exact ⟨by rw [hr.out]; rfl, rfl⟩
end Go.Proofs.Ytimiojckinpfdaa.Pq

/- The walks of the reference's pairs. -/
namespace Go.Proofs.Ytimiojckinpfdaa.Pq
open Go.RowKit Flt

theorem radd_lt (a b : Nat) : radd a b < 18446744073709551616 := by
  unfold radd
  cases h : D.add a b with
  | none => simp
  | some r => exact Ieee.Format.add_lt D h
def rsub (a b : Nat) : Nat := radd a (Flt.flip b)
def rloss (a b : Nat) : Nat := if nan a = false ∧ nan b = false ∧ mag b ≤ mag a then radd (rsub a (radd a b)) b else radd (rsub b (radd a b)) a
theorem rloss_lt (a b : Nat) : rloss a b < 18446744073709551616 := by unfold rloss; split <;> exact radd_lt _ _

set_option maxHeartbeats 400000 in
theorem sub_any (a b : Nat) (w : World) (ha : a < 18446744073709551616) (hb : b < 18446744073709551616) :
    Calls Try.prog 96 #[.int .u64 a, .int .u64 b] w fun e w' => e = .returned (.int .u64 (rsub a b : Nat)) ∧ w = w' := by
  have hf := Lib.hid (flip_lt b hb)
  have ha' := Lib.hid ha
  have hb' := Lib.hid hb
  clear ha hb
  go_enter Try.func96, Try.ntmps96
  go_wp2_with fail
  refine (negative_any b _ hb'.out).mono ?_
  rintro e w1 ⟨rfl, rfl⟩
  go_wp2_with fail
  refine (add_any a (Flt.flip b) _ ha'.out hf.out).mono ?_
  rintro e w1 ⟨rfl, rfl⟩
  go_wp2_with fail
  go_ret
  exact ⟨rfl, rfl⟩

set_option maxHeartbeats 1000000 in
theorem loss_any (a b : Nat) (w : World) (ha : a < 18446744073709551616) (hb : b < 18446744073709551616) :
    Calls Try.prog 70 #[.int .u64 a, .int .u64 b] w fun e w' => e = .returned (.int .u64 (rloss a b : Nat)) ∧ w = w' := by
  have m1 := mag_bits a ha
  have m2 := mag_bits b hb
  have ha' := Lib.hid ha
  have hb' := Lib.hid hb
  have ht := Lib.hid (radd_lt a b)
  have hs1 : Hid (rsub a (radd a b) < 18446744073709551616) := radd_lt _ _
  have hs2 : Hid (rsub b (radd a b) < 18446744073709551616) := radd_lt _ _
  clear ha hb
  cases hna : nan a
  · cases hnb : nan b
    · by_cases hge : mag b ≤ mag a
      · have g1 : decide (mag b ≤ mag a) = true := by rw [decide_eq_true_iff]; exact hge
        have hr : Hid (rloss a b = radd (rsub a (radd a b)) b) := by show _ = _; unfold rloss; rw [if_pos ⟨hna, hnb, hge⟩]
        clear hge
        go_enter Try.func70, Try.ntmps70
        go_wp2_with fail
        refine (add_any a b _ ha'.out hb'.out).mono ?_
        rintro e w1 ⟨rfl, rfl⟩
        go_wp2_with fail
        refine (isnan_any a _ ha'.out).mono ?_
        rintro e w1 ⟨rfl, rfl⟩
        go_wp2_with fail
        refine (isnan_any b _ hb'.out).mono ?_
        rintro e w1 ⟨rfl, rfl⟩
        go_wp2_with fail
        refine (sub_any a (radd a b) _ ha'.out ht.out).mono ?_
        rintro e w1 ⟨rfl, rfl⟩
        go_wp2_with fail
        refine (add_any _ b _ hs1.out hb'.out).mono ?_
        rintro e w1 ⟨rfl, rfl⟩
        go_wp2_with fail
        go_ret
        exact ⟨by rw [hr.out]; rfl, rfl⟩
      · have g1 : decide (mag b ≤ mag a) = false := by rw [decide_eq_false_iff_not]; exact hge
        have hr : Hid (rloss a b = radd (rsub b (radd a b)) a) := by show _ = _; unfold rloss; rw [if_neg (fun h => hge h.2.2)]
        clear hge
        go_enter Try.func70, Try.ntmps70
        go_wp2_with fail
        refine (add_any a b _ ha'.out hb'.out).mono ?_
        rintro e w1 ⟨rfl, rfl⟩
        go_wp2_with fail
        refine (isnan_any a _ ha'.out).mono ?_
        rintro e w1 ⟨rfl, rfl⟩
        go_wp2_with fail
        refine (isnan_any b _ hb'.out).mono ?_
        rintro e w1 ⟨rfl, rfl⟩
        go_wp2_with fail
        refine (sub_any b (radd a b) _ hb'.out ht.out).mono ?_
        rintro e w1 ⟨rfl, rfl⟩
        go_wp2_with fail
        refine (add_any _ a _ hs2.out ha'.out).mono ?_
        rintro e w1 ⟨rfl, rfl⟩
        go_wp2_with fail
        go_ret
        exact ⟨by rw [hr.out]; rfl, rfl⟩
    · have hr : Hid (rloss a b = radd (rsub b (radd a b)) a) := by show _ = _; unfold rloss; rw [if_neg (fun h => by rw [hnb] at h; exact absurd h.2.1 (by simp))]
      go_enter Try.func70, Try.ntmps70
      go_wp2_with fail
      refine (add_any a b _ ha'.out hb'.out).mono ?_
      rintro e w1 ⟨rfl, rfl⟩
      go_wp2_with fail
      refine (isnan_any a _ ha'.out).mono ?_
      rintro e w1 ⟨rfl, rfl⟩
      go_wp2_with fail
      refine (isnan_any b _ hb'.out).mono ?_
      rintro e w1 ⟨rfl, rfl⟩
      go_wp2_with fail
      refine (sub_any b (radd a b) _ hb'.out ht.out).mono ?_
      rintro e w1 ⟨rfl, rfl⟩
      go_wp2_with fail
      refine (add_any _ a _ hs2.out ha'.out).mono ?_
      rintro e w1 ⟨rfl, rfl⟩
      go_wp2_with fail
      go_ret
      exact ⟨by rw [hr.out]; rfl, rfl⟩
  · have hr : Hid (rloss a b = radd (rsub b (radd a b)) a) := by show _ = _; unfold rloss; rw [if_neg (fun h => by rw [hna] at h; exact absurd h.1 (by simp))]
    go_enter Try.func70, Try.ntmps70
    go_wp2_with fail
    refine (add_any a b _ ha'.out hb'.out).mono ?_
    rintro e w1 ⟨rfl, rfl⟩
    go_wp2_with fail
    refine (isnan_any a _ ha'.out).mono ?_
    rintro e w1 ⟨rfl, rfl⟩
    go_wp2_with fail
    refine (isnan_any b _ hb'.out).mono ?_
    rintro e w1 ⟨rfl, rfl⟩
    go_wp2_with fail
    refine (sub_any b (radd a b) _ hb'.out ht.out).mono ?_
    rintro e w1 ⟨rfl, rfl⟩
    go_wp2_with fail
    refine (add_any _ a _ hs2.out ha'.out).mono ?_
    rintro e w1 ⟨rfl, rfl⟩
    go_wp2_with fail
    go_ret
    exact ⟨by rw [hr.out]; rfl, rfl⟩

theorem still_of {f : FuncId} {args : Array Value} {w : World} {v : Value} (h : Calls Try.prog f args w fun e w' => e = .returned v ∧ w = w') : Calls Try.prog f args w fun e w' => e = .returned v ∧ w' = w :=
  h.mono fun _ _ ⟨h1, h2⟩ => ⟨h1, h2.symm⟩
/-- a pair of words -/
abbrev PW (p : Nat × Nat) : Value := .agg #[.int .u64 (p.1 : Nat), .int .u64 (p.2 : Nat)]
def Ok2 (p : Nat × Nat) : Prop := p.1 < 18446744073709551616 ∧ p.2 < 18446744073709551616
def rput (p : Nat × Nat) (x : Nat) : Nat × Nat := (radd p.1 x, radd p.2 (rloss p.1 x))
def rmerge (p q : Nat × Nat) : Nat × Nat := (radd p.1 q.1, radd (radd p.2 q.2) (rloss p.1 q.1))
theorem rput_ok (p : Nat × Nat) (x : Nat) : Ok2 (rput p x) := ⟨radd_lt _ _, radd_lt _ _⟩
theorem rmerge_ok (p q : Nat × Nat) : Ok2 (rmerge p q) := ⟨radd_lt _ _, radd_lt _ _⟩

def one (a : Nat) : Nat := if nan a then 9221120237041090560 else a
def sameW (a b : Nat) : Bool := one a == one b

set_option maxHeartbeats 400000 in
theorem one_any (a : Nat) (w : World) (ha : a < 18446744073709551616) :
    Calls Try.prog 82 #[.int .u64 a] w fun e w' => e = .returned (.int .u64 (one a : Nat)) ∧ w = w' := by
  have ha' := Lib.hid ha
  clear ha
  cases hn : nan a
  · have hr : Hid (one a = a) := by show _ = _; unfold one; rw [hn]; rfl
    go_enter Try.func82, Try.ntmps82
    go_wp2_with fail
    refine (isnan_any a _ ha'.out).mono ?_
    rintro e w1 ⟨rfl, rfl⟩
    go_wp2_with fail
    go_ret
    exact ⟨by rw [hr.out]; rfl, rfl⟩
  · have hr : Hid (one a = 9221120237041090560) := by show _ = _; unfold one; rw [hn]; rfl
    go_enter Try.func82, Try.ntmps82
    go_wp2_with fail
    refine (isnan_any a _ ha'.out).mono ?_
    rintro e w1 ⟨rfl, rfl⟩
    go_wp2_with fail
    go_ret
    exact ⟨by rw [hr.out]; rfl, rfl⟩

set_option maxHeartbeats 400000 in
theorem sameW_any (a b : Nat) (w : World) (ha : a < 18446744073709551616) (hb : b < 18446744073709551616) :
    Calls Try.prog 51 #[.int .u64 a, .int .u64 b] w fun e w' => e = .returned (.bool (sameW a b)) ∧ w = w' := by
  have ha' := Lib.hid ha
  have hb' := Lib.hid hb
  clear ha hb
  have hr : Hid (sameW a b = ((one a : Int) == (one b : Int))) := by show _ = _; unfold sameW; rw [Bool.eq_iff_iff]; simp; omega
  go_enter Try.func51, Try.ntmps51
  go_wp2_with fail
  refine (one_any a _ ha'.out).mono ?_
  rintro e w1 ⟨rfl, rfl⟩
  go_wp2_with fail
  refine (one_any b _ hb'.out).mono ?_
  rintro e w1 ⟨rfl, rfl⟩
  go_wp2_with fail
  go_ret
  exact ⟨ret_eq (by rw [hr.out]; rfl), rfl⟩

theorem rtotal_any (p : Nat × Nat) (w : World) (hp : Ok2 p) :
    Calls Try.prog 53 #[.agg #[.int .u64 (p.1 : Nat), .int .u64 (p.2 : Nat)]] w fun e w' => e = .returned (.int .u64 (radd p.1 p.2 : Nat)) ∧ Only (fun _ => False) w w' := by
  obtain ⟨s, c⟩ := p
  obtain ⟨hs, hc⟩ := hp
  have hs' := Lib.hid hs
  have hc' := Lib.hid hc
  clear hs hc
  dsimp only at hs' hc' ⊢
  go_enter Try.func53, Try.ntmps53
  go_wp2_with fail
  refine (add_any s c _ hs'.out hc'.out).mono ?_
  rintro e w1 ⟨rfl, rfl⟩
  go_wp2_with fail
  go_ret
  exact ⟨rfl, (Only.refl _ _).alloc _⟩

set_option maxHeartbeats 1000000 in
theorem rmerge_any (p q : Nat × Nat) (w : World) (hp : Ok2 p) (hq : Ok2 q) :
    Calls Try.prog 44 #[.agg #[.int .u64 (p.1 : Nat), .int .u64 (p.2 : Nat)], .agg #[.int .u64 (q.1 : Nat), .int .u64 (q.2 : Nat)]] w fun e w' => e = .returned (PW (rmerge p q)) ∧ Only (fun _ => False) w w' := by
  obtain ⟨s, c⟩ := p
  obtain ⟨hs, hc⟩ := hp
  obtain ⟨t, d⟩ := q
  obtain ⟨ht, hd⟩ := hq
  have hs' := Lib.hid hs
  have hc' := Lib.hid hc
  have ht' := Lib.hid ht
  have hd' := Lib.hid hd
  have hl := Lib.hid (rloss_lt s t)
  have hcd := Lib.hid (radd_lt c d)
  clear hs hc ht hd
  dsimp only at hs' hc' ht' hd' ⊢
  go_enter Try.func44, Try.ntmps44
  go_wp2_with fail
  refine (loss_any s t _ hs'.out ht'.out).mono ?_
  rintro e w1 ⟨rfl, rfl⟩
  go_wp2_with fail
  refine (add_any c d _ hc'.out hd'.out).mono ?_
  rintro e w1 ⟨rfl, rfl⟩
  go_wp2_with fail
  refine (add_any s t _ hs'.out ht'.out).mono ?_
  rintro e w1 ⟨rfl, rfl⟩
  go_wp2_with fail
  refine (add_any (radd c d) (rloss s t) _ hcd.out hl.out).mono ?_
  rintro e w1 ⟨rfl, rfl⟩
  go_wp2_with fail
  refine bodyPost_ret (v := PW (rmerge (s, c) (t, d))) (by simp [results, Try.results44, go_sem, rmerge]) rfl ⟨rfl, ?_⟩
  exact (((Only.refl _ _).alloc _).alloc _).alloc _

/-- words that came in -/
structure Words (w : World) (a : Option Addr) (len : Nat) (us : Nat → Nat) : Prop where
  at_ : ∀ j, j < len → ∃ p o, a = some ⟨p, o, none⟩ ∧ p < w.heap.size ∧ w.cell? ⟨p, o + j, none⟩ = some (.int .u64 (us j : Nat)) ∧ us j < 18446744073709551616
def rof (us : Nat → Nat) : Nat → Nat × Nat
  | 0 => (0, 0)
  | n + 1 => rput (rof us n) (us n)
theorem rof_ok (us : Nat → Nat) (n : Nat) : Ok2 (rof us n) := by
  cases n with
  | zero => exact ⟨(by omega : (0:Nat) < 18446744073709551616), (by omega : (0:Nat) < 18446744073709551616)⟩
  | succ n => exact rput_ok _ _

theorem blk_upd2 {w : World} {b : Nat} {x y : Value} {t : TypeId} (h : w.heap[b]? = some (.cells #[x, y] t (0, 0))) (u v : Value) : ((w.setCell ⟨b, 0, none⟩ u).setCell ⟨b, 1, none⟩ v).heap[b]? = some (.cells #[u, v] t (0, 0)) :=
  blk_set (blk_set h 0 u) 1 v
def RO (w : World) (us : Nat → Nat) (len b : Nat) (i : Value) (wr : World) : Prop := ∃ k : Nat, k ≤ len ∧ i = .int .i64 k ∧ Only (fun _ => False) w wr ∧ wr.heap[w.heap.size]? = some (.cells #[.int .u64 0, .int .u64 0] 24 (0, 0)) ∧ wr.heap[b]? = some (.cells #[.int .u64 ((rof us k).1 : Nat), .int .u64 ((rof us k).2 : Nat)] 24 (0, 0)) ∧ b < wr.heap.size

end Go.Proofs.Ytimiojckinpfdaa.Pq
