/- Sums that are exact: whole numbers of magnitude up to 2^53; one float; plainly. -/
import Derived.Test.YtgcjhdcplmfjbaaFlo
namespace Go.Proofs.Ytgcjhdcplmfjbaa.Flt
open Ieee

def val (x : Nat) : Int := if neg x then -(V (mag x) : Int) else (V (mag x) : Int)
theorem V_zero : V 0 = 0 := by decide
theorem V_eq_zero {g : Nat} : V g = 0 ↔ g = 0 := by
  constructor
  · intro h
    rcases Nat.eq_zero_or_pos g with q | q
    · exact q
    · have := V_lt q; rw [V_zero] at this; omega
  · rintro rfl; exact V_zero
theorem val_zero {x : Nat} : val x = 0 ↔ mag x = 0 := by
  unfold val
  have := @V_eq_zero (mag x)
  cases neg x <;> simp only [if_true, if_false, Bool.false_eq_true] <;> omega
theorem word_neg (s : Bool) (r : Nat) (h : r < 9223372036854775808) : neg (D.word s r) = s := by
  rw [word_eq]; unfold neg
  cases s
  · simp only [if_false, Bool.false_eq_true]
    rw [beq_eq_false_iff_ne]; omega
  · simp only [if_true]
    rw [beq_iff_eq]; omega
theorem word_mag (s : Bool) (r : Nat) (h : r < 9223372036854775808) : mag (D.word s r) = r := by
  rw [word_eq]; unfold mag
  cases s <;> simp only [if_true, if_false, Bool.false_eq_true] <;> omega
theorem rung_top (m : Nat) (p : Int) : rung m p ≤ 9218868437227405312 := by
  unfold rung; split
  · omega
  · exact Nat.min_le_right _ _

/-- a sum by what the two stand for -/
theorem radd_val (x y : Nat) (hx : mag x < 9218868437227405312) (hy : mag y < 9218868437227405312) :
    radd x y = if val x + val y = 0 then D.word (neg x && neg y) 0 else D.word (decide (val x + val y < 0)) (rung (val x + val y).natAbs (-1074)) := by
  unfold radd Format.add
  rw [read_fin x hx, read_fin y hy]
  simp only [Datum.sum, Option.map_some, Option.getD_some, Format.write, nearest_eq, signed_eq]
  have e1 := ex_ge (mag x)
  have e2 := ex_ge (mag y)
  have s1 := scaled (mag x) (min (ex (mag x)) (ex (mag y))) (by omega) (by omega)
  have s2 := scaled (mag y) (min (ex (mag x)) (ex (mag y))) (by omega) (by omega)
  have hb : -1074 ≤ min (ex (mag x)) (ex (mag y)) := by omega
  generalize min (ex (mag x)) (ex (mag y)) = base at *
  generalize sig (mag x) * 2 ^ (ex (mag x) - base).toNat = X at *
  generalize sig (mag y) * 2 ^ (ex (mag y) - base).toNat = Y at *
  have hsc := fun n => rung_scale n (base + 1074).toNat (-1074)
  have hbase : -1074 + (((base + 1074).toNat : Nat) : Int) = base := by omega
  rw [hbase] at hsc
  have hp := Nat.two_pow_pos (base + 1074).toNat
  generalize 2 ^ (base + 1074).toNat = p at *
  generalize hX : (if neg x = true then -(X : Int) else (X : Int)) = A
  generalize hY : (if neg y = true then -(Y : Int) else (Y : Int)) = B
  have vx : val x = A * p := by
    unfold val; rw [← s1, ← hX]
    cases neg x <;> simp [Int.neg_mul]
  have vy : val y = B * p := by
    unfold val; rw [← s2, ← hY]
    cases neg y <;> simp [Int.neg_mul]
  have hs : val x + val y = (A + B) * p := by rw [vx, vy, Int.add_mul]
  have hp' : (0 : Int) < (p : Int) := by omega
  have z : val x + val y = 0 ↔ A + B = 0 := by
    rw [hs]
    constructor
    · intro h
      rcases Int.mul_eq_zero.1 h with q | q
      · exact q
      · omega
    · intro h; rw [h, Int.zero_mul]
  have n : val x + val y < 0 ↔ A + B < 0 := by
    rw [hs]
    constructor
    · intro h
      rcases Int.lt_or_le (A + B) 0 with q | q
      · exact q
      · have := Int.mul_nonneg q (Int.le_of_lt hp'); omega
    · intro h; exact Int.mul_neg_of_neg_of_pos h hp'
  by_cases h0 : A + B = 0
  · rw [if_pos (z.2 h0), if_pos h0, h0]; simp [rung]
  · rw [if_neg (fun q => h0 (z.1 q)), if_neg h0]
    have hd : decide (val x + val y < 0) = decide (A + B < 0) := decide_eq_decide.2 n
    rw [hd]
    congr 1
    have : (val x + val y).natAbs = (A + B).natAbs * p := by rw [hs, Int.natAbs_mul]; simp
    rw [this, hsc]

theorem rung_exact (g : Nat) (h : g < 9218868437227405312) : rung (V g) (-1074) = g := by
  unfold V
  have e1 := ex_ge g
  have hsc := rung_scale (sig g) (ex g + 1074).toNat (-1074)
  have hb : -1074 + (((ex g + 1074).toNat : Nat) : Int) = ex g := by omega
  rw [hsc, hb]
  by_cases h1 : g < 4503599627370496
  · have hs : sig g = g := by unfold sig; rw [if_pos h1]
    have he : ex g = -1074 := by unfold ex; rw [if_pos h1]
    rw [hs, he]
    unfold rung
    by_cases h0 : g = 0
    · rw [if_pos h0, h0]
    · rw [if_neg h0]
      have hl : g.log2 < 52 := (Nat.log2_lt h0).2 (by omega)
      have hlast : max (-1074 + (g.log2 : Int) - 52) (-1074) = -1074 := by omega
      dsimp only
      rw [hlast]
      have t0 : ((-1074 : Int) - -1074).toNat = 0 := by omega
      have t1 : ((-1074 : Int) + 1074).toNat = 0 := by omega
      rw [t0, t1, Nat.pow_zero, Nat.mul_one, rne_zero, Nat.zero_mul, Nat.zero_add]
      exact Nat.min_eq_left (by omega)
  · have hs : sig g = 4503599627370496 + g % 4503599627370496 := by unfold sig; rw [if_neg h1]
    have he : ex g = -1074 + ((g / 4503599627370496 - 1 : Nat) : Int) := by unfold ex; rw [if_neg h1]
    have hs0 : sig g ≠ 0 := by omega
    unfold rung
    rw [if_neg hs0]
    have l1 : (sig g).log2 < 53 := (Nat.log2_lt hs0).2 (by omega)
    have l2 : 52 ≤ (sig g).log2 := (Nat.le_log2 hs0).2 (by omega)
    have hlast : max (ex g + ((sig g).log2 : Int) - 52) (-1074) = ex g := by omega
    dsimp only
    rw [hlast]
    have t0 : (ex g - ex g).toNat = 0 := by omega
    have t1 : (ex g + 1074).toNat = g / 4503599627370496 - 1 := by omega
    rw [t0, t1, Nat.pow_zero, Nat.mul_one, rne_zero, hs]
    clear hlast l1 l2 hs0 hs he hb hsc t0 t1 e1
    have h2 : (g / 4503599627370496 - 1) * 4503599627370496 + (4503599627370496 + g % 4503599627370496) = g := by omega
    rw [h2]
    exact Nat.min_eq_left (by omega)

/-- the unit: 2^1074 -/
def ue : Nat := 1074
def U : Nat := 2 ^ ue
theorem U_pos : 0 < U := Nat.two_pow_pos _
theorem rung_whole (n : Nat) (h : n ≤ 9007199254740992) : rung n 0 < 9218868437227405312 ∧ V (rung n 0) = n * U := by
  by_cases h0 : n = 0
  · subst h0
    have : rung 0 0 = 0 := by decide
    rw [this, V_zero, Nat.zero_mul]; exact ⟨by omega, rfl⟩
  · have hl1 : n.log2 < 54 := (Nat.log2_lt h0).2 (by omega)
    have hself := Nat.log2_self_le h0
    have hlt := @Nat.lt_log2_self n
    by_cases h53 : n = 9007199254740992
    · subst h53
      have hr : rung 9007199254740992 0 = 4845873199050653696 := by decide +kernel
      rw [hr]
      refine ⟨by omega, ?_⟩
      unfold V sig ex U
      rw [if_neg (by omega), if_neg (by omega)]
      have a : (4503599627370496 + 4845873199050653696 % 4503599627370496 : Nat) = 4503599627370496 := by decide
      have b : (-1074 + ((4845873199050653696 / 4503599627370496 - 1 : Nat) : Int) + 1074).toNat = ue + 1 := by unfold ue; decide
      rw [a, b, Nat.pow_succ]
      generalize 2 ^ ue = p
      omega
    · have hl : n.log2 ≤ 52 := by
        have : n.log2 < 53 := (Nat.log2_lt h0).2 (by omega)
        omega
      have hlast : max (0 + (n.log2 : Int) - 52) (-1074) = (n.log2 : Int) - 52 := by omega
      have hm : n * 2 ^ (52 - n.log2) < 9007199254740992 ∧ 4503599627370496 ≤ n * 2 ^ (52 - n.log2) := by
        have a : 2 ^ n.log2 * 2 ^ (52 - n.log2) = 4503599627370496 := by rw [← Nat.pow_add, show n.log2 + (52 - n.log2) = 52 by omega]
        have b : 2 ^ (n.log2 + 1) * 2 ^ (52 - n.log2) = 9007199254740992 := by rw [← Nat.pow_add, show n.log2 + 1 + (52 - n.log2) = 53 by omega]
        have hp := Nat.two_pow_pos (52 - n.log2)
        constructor
        · rw [← b]; exact (Nat.mul_lt_mul_right hp).2 hlt
        · rw [← a]; exact Nat.mul_le_mul_right _ hself
      have hr : rung n 0 = (n.log2 + 1022) * 4503599627370496 + n * 2 ^ (52 - n.log2) := by
        unfold rung
        rw [if_neg h0]
        dsimp only
        rw [hlast]
        have a : (0 - ((n.log2 : Int) - 52)).toNat = 52 - n.log2 := by omega
        have b : ((n.log2 : Int) - 52 - 0).toNat = 0 := by omega
        have c : ((n.log2 : Int) - 52 + 1074).toNat = n.log2 + 1022 := by omega
        rw [a, b, c, rne_zero]
        omega
      rw [hr]
      refine ⟨by omega, ?_⟩
      generalize hM : n * 2 ^ (52 - n.log2) = M at *
      have d1 : ((n.log2 + 1022) * 4503599627370496 + M) / 4503599627370496 = n.log2 + 1023 := by omega
      have m1 : ((n.log2 + 1022) * 4503599627370496 + M) % 4503599627370496 = M - 4503599627370496 := by omega
      unfold V sig ex
      rw [if_neg (by omega), if_neg (by omega), d1, m1]
      have a : (-1074 + ((n.log2 + 1023 - 1 : Nat) : Int) + 1074).toNat = n.log2 + 1022 := by omega
      rw [a, show 4503599627370496 + (M - 4503599627370496) = M by omega, ← hM, Nat.mul_assoc, ← Nat.pow_add]
      unfold U
      have hx : 52 - n.log2 + (n.log2 + 1022) = ue := by unfold ue; omega
      rw [hx]

/-- a whole number as a float -/
def fw (z : Int) : Nat := D.word (decide (z < 0)) (rung z.natAbs 0)
def sm (z : Int) : Prop := z.natAbs ≤ 9007199254740992
theorem fw_neg {z : Int} (_h : sm z) : neg (fw z) = decide (z < 0) := word_neg _ _ (by have := rung_top z.natAbs 0; omega)
theorem fw_mag {z : Int} (_h : sm z) : mag (fw z) = rung z.natAbs 0 := word_mag _ _ (by have := rung_top z.natAbs 0; omega)
theorem fw_fin {z : Int} (h : sm z) : mag (fw z) < 9218868437227405312 := by rw [fw_mag h]; exact (rung_whole _ h).1
theorem fw_val {z : Int} (h : sm z) : val (fw z) = z * U := by
  unfold val
  rw [fw_neg h, fw_mag h, (rung_whole _ h).2]
  by_cases hz : z < 0
  · rw [decide_eq_true hz, if_pos rfl]
    have : z = -(z.natAbs : Int) := by omega
    rw [Int.natCast_mul]
    rw [this]; simp [Int.neg_mul]
  · rw [decide_eq_false hz, if_neg (by simp)]
    have : z = (z.natAbs : Int) := by omega
    rw [Int.natCast_mul, ← this]
theorem fw_zero : fw 0 = 0 := by decide +kernel
theorem fw_lt (z : Int) : fw z < 18446744073709551616 := by
  unfold fw; rw [word_eq]
  have := rung_top z.natAbs 0
  split <;> omega
theorem rung_U (n : Nat) : rung (n * U) (-1074) = rung n 0 := by
  have := rung_scale n ue (-1074)
  rw [show (-1074 : Int) + ((ue : Nat) : Int) = 0 from rfl] at this
  exact this
theorem mulU_zero {z : Int} : z * (U : Int) = 0 ↔ z = 0 := by
  have := U_pos
  constructor
  · intro h
    rcases Int.mul_eq_zero.1 h with q | q
    · exact q
    · omega
  · rintro rfl; rw [Int.zero_mul]
theorem mulU_neg {z : Int} : z * (U : Int) < 0 ↔ z < 0 := by
  have hp : (0 : Int) < (U : Int) := by have := U_pos; omega
  constructor
  · intro h
    rcases Int.lt_or_le z 0 with q | q
    · exact q
    · have := Int.mul_nonneg q (Int.le_of_lt hp); omega
  · intro h; exact Int.mul_neg_of_neg_of_pos h hp

theorem val_flip {x : Nat} (hx : x < 18446744073709551616) : val (Flt.flip x) = -val x := by
  unfold val; rw [mag_flip x hx, neg_flip x hx]
  cases neg x <;> simp
/-- of two words that stand for whole numbers, where not both signs of a zero sum are minus -/
theorem radd_whole {x y : Nat} {a b : Int} (hx : mag x < 9218868437227405312) (hy : mag y < 9218868437227405312) (vx : val x = a * U) (vy : val y = b * U) (hz : a + b = 0 → (neg x && neg y) = false) : radd x y = fw (a + b) := by
  rw [radd_val x y hx hy]
  have hs : val x + val y = (a + b) * U := by rw [vx, vy, Int.add_mul]
  rw [hs]
  by_cases h0 : a + b = 0
  · rw [if_pos (mulU_zero.2 h0), hz h0, h0, fw_zero]; decide
  · rw [if_neg (fun q => h0 (mulU_zero.1 q))]
    unfold fw
    have hd : decide ((a + b) * (U : Int) < 0) = decide (a + b < 0) := decide_eq_decide.2 mulU_neg
    rw [hd]
    congr 1
    rw [Int.natAbs_mul, Int.natAbs_natCast, rung_U]
theorem radd_fw {a b : Int} (ha : sm a) (hb : sm b) : radd (fw a) (fw b) = fw (a + b) :=
  radd_whole (fw_fin ha) (fw_fin hb) (fw_val ha) (fw_val hb) (fun h => by
    rw [fw_neg ha, fw_neg hb]
    by_cases q : a < 0
    · have : ¬ b < 0 := by omega
      simp [this]
    · simp [q])
theorem rsub_fw {a b : Int} (ha : sm a) (hb : sm b) : radd (fw a) (Flt.flip (fw b)) = fw (a - b) := by
  have hl := fw_lt b
  have := radd_whole (x := fw a) (y := Flt.flip (fw b)) (a := a) (b := -b) (fw_fin ha) (by rw [mag_flip _ hl]; exact fw_fin hb) (fw_val ha) (by rw [val_flip hl, fw_val hb, Int.neg_mul]) (fun h => by
    rw [fw_neg ha, neg_flip _ hl, fw_neg hb]
    have : a = b := by omega
    subst this
    cases decide (a < 0) <;> rfl)
  rw [this]; rfl
theorem fw_nan {z : Int} (h : sm z) : nan (fw z) = false := by unfold nan; have := fw_fin h; simp; omega

theorem mag0 : mag 0 = 0 := by decide
theorem val0 : val 0 = 0 := by decide
/-- one float: it is told as it is; -0 as 0 -/
def plain (x : Nat) : Nat := if mag x = 0 then 0 else x
theorem radd_0 (x : Nat) (hx : x < 18446744073709551616) (h : mag x < 9218868437227405312) : radd 0 x = plain x := by
  rw [radd_val 0 x (by rw [mag0]; omega) h, val0, Int.zero_add]
  unfold plain
  by_cases h0 : mag x = 0
  · rw [if_pos (val_zero.2 h0), if_pos h0]
    have : neg 0 = false := by decide
    rw [this]; simp [word_eq]
  · rw [if_neg (fun q => h0 (val_zero.1 q)), if_neg h0]
    have hv := fun q => h0 (val_zero.1 q)
    have hV : V (mag x) ≠ 0 := fun q => h0 (V_eq_zero.1 q)
    have h1 : decide (val x < 0) = neg x := by
      unfold val
      cases neg x
      · simp
      · simp; omega
    have h2 : (val x).natAbs = V (mag x) := by unfold val; split <;> simp
    rw [h1, h2, rung_exact _ h]
    exact (word_of x hx).symm
theorem rsub_self (x : Nat) (hx : x < 18446744073709551616) (h : mag x < 9218868437227405312) : radd x (Flt.flip x) = 0 := by
  rw [radd_val x _ h (by rw [mag_flip x hx]; exact h), val_flip hx]
  rw [if_pos (by omega), neg_flip x hx]
  cases neg x <;> decide
end Go.Proofs.Ytgcjhdcplmfjbaa.Flt
