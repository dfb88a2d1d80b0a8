/- The order of floats of 64 bits, plainly; the reference's last step of a sum. -/
import Derived.Test.YtiijgghholhcnaaGreatDoorJL32
import Derived.Test.YtiijgghholhcnaaGreatDoorJL20
import Derived.Laws.BitsAllLaws
namespace Go.Proofs.YtiijgghholhcnaaGreatDoor.Re.Pq.Flt
open Ieee

/-- what a magnitude stands for, in units of 2^-1074 -/
def V (g : Nat) : Nat := sig g * 2 ^ (ex g + 1074).toNat
theorem V_lt {g h : Nat} (hgh : g < h) : V g < V h := by
  unfold V sig ex
  by_cases h1 : h < 4503599627370496
  · rw [if_pos h1, if_pos h1, if_pos (by omega), if_pos (by omega)]
    simp; omega
  · rw [if_neg h1, if_neg h1]
    have e2 : (-1074 + ((h / 4503599627370496 - 1 : Nat) : Int) + 1074).toNat = h / 4503599627370496 - 1 := by omega
    rw [e2]
    have hp := Nat.two_pow_pos (h / 4503599627370496 - 1)
    by_cases h2 : g < 4503599627370496
    · rw [if_pos h2, if_pos h2]
      have e1 : ((-1074 : Int) + 1074).toNat = 0 := by omega
      rw [e1, Nat.pow_zero, Nat.mul_one]
      have : 4503599627370496 * 1 ≤ (4503599627370496 + h % 4503599627370496) * 2 ^ (h / 4503599627370496 - 1) := Nat.mul_le_mul (by omega) hp
      omega
    · rw [if_neg h2, if_neg h2]
      have e1 : (-1074 + ((g / 4503599627370496 - 1 : Nat) : Int) + 1074).toNat = g / 4503599627370496 - 1 := by omega
      rw [e1]
      by_cases h3 : g / 4503599627370496 = h / 4503599627370496
      · rw [h3]
        exact (Nat.mul_lt_mul_right hp).2 (by omega)
      · have hk : g / 4503599627370496 - 1 + 1 ≤ h / 4503599627370496 - 1 := by omega
        have h4 : 2 ^ (g / 4503599627370496 - 1 + 1) ≤ 2 ^ (h / 4503599627370496 - 1) := Nat.pow_le_pow_right (by omega) hk
        rw [Nat.pow_succ] at h4
        have hq := Nat.two_pow_pos (g / 4503599627370496 - 1)
        generalize 2 ^ (g / 4503599627370496 - 1) = p at *
        generalize 2 ^ (h / 4503599627370496 - 1) = q at *
        have h5 : (4503599627370496 + g % 4503599627370496) * p < 9007199254740992 * p := (Nat.mul_lt_mul_right hq).2 (by omega)
        have h6 : 4503599627370496 * (p * 2) ≤ 4503599627370496 * q := Nat.mul_le_mul_left _ h4
        have h7 : 4503599627370496 * q ≤ (4503599627370496 + h % 4503599627370496) * q := Nat.mul_le_mul_right _ (by omega)
        omega

/-- a float's place in the order; both zeros at one -/
def key (a : Nat) : Int := if neg a then -(mag a : Int) else (mag a : Int)

theorem signed_eq (s : Bool) (m k : Nat) : signed s m k = if s then -((m * 2 ^ k : Nat) : Int) else ((m * 2 ^ k : Nat) : Int) := by
  unfold signed; simp only [Nat.shiftLeft_eq]

theorem cmp_of (x y x' y' : Int) (h1 : x < y ↔ x' < y') (h2 : x = y ↔ x' = y') : compare x y = compare x' y' := by
  simp only [compare, compareOfLessAndEq, h1, h2]

theorem V_inj {g h : Nat} : V g < V h ↔ g < h := by
  constructor
  · intro q
    rcases Nat.lt_trichotomy g h with a | a | a
    · exact a
    · subst a; omega
    · have := V_lt a; omega
  · exact V_lt

theorem scaled (g : Nat) (base : Int) (h1 : -1074 ≤ base) (h2 : base ≤ ex g) : sig g * 2 ^ (ex g - base).toNat * 2 ^ (base + 1074).toNat = V g := by
  unfold V
  rw [Nat.mul_assoc, ← Nat.pow_add]
  congr 2
  omega

theorem order_fin (a b : Nat) (ha : mag a < 9218868437227405312) (hb : mag b < 9218868437227405312) : D.order a b = some (compare (key a) (key b)) := by
  unfold Format.order
  rw [read_fin a ha, read_fin b hb]
  simp only [Datum.order, Option.some.injEq, signed_eq]
  have e1 := ex_ge (mag a)
  have e2 := ex_ge (mag b)
  have s1 := scaled (mag a) (min (ex (mag a)) (ex (mag b))) (by omega) (by omega)
  have s2 := scaled (mag b) (min (ex (mag a)) (ex (mag b))) (by omega) (by omega)
  have hp := Nat.two_pow_pos (min (ex (mag a)) (ex (mag b)) + 1074).toNat
  generalize sig (mag a) * 2 ^ (ex (mag a) - min (ex (mag a)) (ex (mag b))).toNat = x at *
  generalize sig (mag b) * 2 ^ (ex (mag b) - min (ex (mag a)) (ex (mag b))).toNat = y at *
  generalize 2 ^ (min (ex (mag a)) (ex (mag b)) + 1074).toNat = p at *
  have v1 := @V_inj (mag a) (mag b)
  have v2 := @V_inj (mag b) (mag a)
  rw [← s1, ← s2] at v1 v2
  have v1' : x < y ↔ mag a < mag b := by rw [← v1]; exact (Nat.mul_lt_mul_right hp).symm
  have v2' : y < x ↔ mag b < mag a := by rw [← v2]; exact (Nat.mul_lt_mul_right hp).symm
  have z1 : x = 0 ↔ mag a = 0 := by
    have v0 := @V_inj 0 (mag a)
    have : V 0 = 0 := by decide
    rw [this, ← s1] at v0
    constructor
    · rintro rfl; simp at v0; omega
    · intro h; rw [h] at v0
      rcases Nat.eq_zero_or_pos x with q | q
      · exact q
      · have := v0.1 (Nat.mul_pos q hp); omega
  have z2 : y = 0 ↔ mag b = 0 := by
    have v0 := @V_inj 0 (mag b)
    have : V 0 = 0 := by decide
    rw [this, ← s2] at v0
    constructor
    · rintro rfl; simp at v0; omega
    · intro h; rw [h] at v0
      rcases Nat.eq_zero_or_pos y with q | q
      · exact q
      · have := v0.1 (Nat.mul_pos q hp); omega
  unfold key
  generalize mag a = g at *
  generalize mag b = h at *
  cases neg a <;> cases neg b <;> simp only [if_true, if_false, Bool.false_eq_true] <;> exact cmp_of _ _ _ _ (by omega) (by omega)

theorem order_nan (a b : Nat) (h : nan a = true ∨ nan b = true) : D.order a b = none := by
  unfold Format.order
  rcases h with h | h
  · obtain ⟨s, t, e⟩ := read_nan a h
    rw [e]; rfl
  · obtain ⟨s, t, e⟩ := read_nan b h
    rw [e]; cases D.read a <;> rfl

theorem order_eq (a b : Nat) (ha : nan a = false) (hb : nan b = false) : D.order a b = some (compare (key a) (key b)) := by
  have ga : mag a ≤ 9218868437227405312 := by unfold nan at ha; simpa using ha
  have gb : mag b ≤ 9218868437227405312 := by unfold nan at hb; simpa using hb
  by_cases h1 : mag a < 9218868437227405312
  · by_cases h2 : mag b < 9218868437227405312
    · exact order_fin a b h1 h2
    · have h2' : mag b = 9218868437227405312 := by omega
      unfold Format.order
      rw [read_fin a h1, read_inf b h2']
      unfold key
      rw [h2']
      simp only [Datum.order]
      congr 1
      cases hb' : neg b <;> cases ha' : neg a <;> simp [compare, compareOfLessAndEq] <;> first | omega | (split <;> first | rfl | omega | (split <;> first | rfl | omega))
  · have h1' : mag a = 9218868437227405312 := by omega
    by_cases h2 : mag b < 9218868437227405312
    · unfold Format.order
      rw [read_inf a h1', read_fin b h2]
      unfold key
      rw [h1']
      simp only [Datum.order]
      congr 1
      cases hb' : neg b <;> cases ha' : neg a <;> simp [compare, compareOfLessAndEq] <;> first | omega | (split <;> first | rfl | omega | (split <;> first | rfl | omega))
    · have h2' : mag b = 9218868437227405312 := by omega
      unfold Format.order
      rw [read_inf a h1', read_inf b h2']
      unfold key
      rw [h1', h2']
      cases hb' : neg b <;> cases ha' : neg a <;> rfl

/-- THE LAST STEP of the reference's sum: three digits go, to the nearest. -/
def pack1 (m : Nat) : Nat := m / 8 + if 4 < m % 8 ∨ (m % 8 = 4 ∧ m / 8 % 2 = 1) then 1 else 0
theorem pack1_eq (m : Nat) : pack1 m = rne m 3 := by
  unfold pack1 rne
  have e : (2 : Nat) ^ 3 = 8 := by decide
  rw [e]
  have h1 : (8 < 2 * (m % 8) ∨ (8 = 2 * (m % 8) ∧ m / 8 % 2 = 1)) ↔ (4 < m % 8 ∨ (m % 8 = 4 ∧ m / 8 % 2 = 1)) := by omega
  simp only [h1]
/-- what comes out of the rounded significand k at exponent e -/
def pack2 (k : Nat) (e : Int) : Nat :=
  let m := if k = 9007199254740992 then 4503599627370496 else k
  let e := if k = 9007199254740992 then e + 1 else e
  if e + 1075 ≥ 2047 then 9218868437227405312 else
  if 4503599627370496 ≤ m then (e + 1075).toNat * 4503599627370496 + m % 4503599627370496 else m
theorem pack_final (m : Nat) (e : Int) (h1 : m < 72057594037927936) (h2 : 36028797018963968 ≤ m ∨ e = -1074) (he : -1074 ≤ e) : pack2 (pack1 m) e = rung m (e - 3) := by
  rw [pack1_eq]
  by_cases hz : m = 0
  · subst hz
    have he' : e = -1074 := by omega
    subst he'; decide
  · have hk : rne m 3 ≤ 9007199254740992 ∧ (36028797018963968 ≤ m → 4503599627370496 ≤ rne m 3) ∧ (m < 36028797018963968 → rne m 3 ≤ 4503599627370496) := by
      rw [← pack1_eq]; unfold pack1
      split <;> omega
    obtain ⟨k1, k2, k3⟩ := hk
    have hlast : max (e - 3 + (m.log2 : Int) - 52) (-1074) = e := by
      have l1 : m.log2 < 56 := (Nat.log2_lt hz).2 (by omega)
      rcases h2 with h2 | h2
      · have l2 : 55 ≤ m.log2 := (Nat.le_log2 hz).2 (by omega)
        omega
      · by_cases h3 : 36028797018963968 ≤ m
        · have l2 : 55 ≤ m.log2 := (Nat.le_log2 hz).2 (by omega)
          omega
        · have l3 : m.log2 < 55 := (Nat.log2_lt hz).2 (by omega)
          omega
    unfold rung
    rw [if_neg hz, hlast]
    have a : (e - 3 - e).toNat = 0 := by omega
    have b : (e - (e - 3)).toNat = 3 := by omega
    dsimp only
    rw [a, b, Nat.pow_zero, Nat.mul_one]
    generalize rne m 3 = k at *
    unfold pack2
    dsimp only
    by_cases hkm : k = 9007199254740992
    · rw [if_pos hkm, if_pos hkm]
      split
      · omega
      · rw [if_pos (Nat.le_refl _)]; omega
    · rw [if_neg hkm, if_neg hkm]
      split
      · rcases h2 with h2 | h2
        · have := k2 h2; omega
        · omega
      · split
        · omega
        · rcases h2 with h2 | h2
          · have := k2 h2; omega
          · subst h2; omega
end Go.Proofs.YtiijgghholhcnaaGreatDoor.Re.Pq.Flt

/- How floats stand: the program's order is that of the document's ranks; the walk of the document's Compare. -/
namespace Go.Proofs.YtiijgghholhcnaaGreatDoor.Re.Pq
open Go.RowKit Flt

theorem nat_mag (a : Nat) (_h : a < 18446744073709551616) : a &&& (18446744073709551615 - 9223372036854775808) = mag a := by
  have := Nat.and_two_pow_sub_one_eq_mod a 63
  simpa [mag] using this
theorem mag_bits (a : Nat) (h : a < 18446744073709551616) : bits BinOp.andNot IntKind.u64 (a : Int) 9223372036854775808 = ((mag a : Nat) : Int) := by
  have := u64_andNot_nat a 9223372036854775808 h (by omega)
  rw [nat_mag a h] at this
  exact this

theorem or_sign (P : Nat) (h : P < 9223372036854775808) : bits BinOp.or IntKind.u64 (P : Int) 9223372036854775808 = ((9223372036854775808 + P : Nat) : Int) := by
  have h2 := u64_or_nat P 9223372036854775808 (by omega) (by omega)
  have h3 := nat_join 63 9223372036854775808 P (by decide) (by rw [show (2 ^ 63 : Nat) = 9223372036854775808 from rfl]; exact h)
  rw [Nat.or_comm, h3] at h2
  exact h2
def sgn (a : Nat) : Nat := if neg a then 9223372036854775808 else 0
theorem and_sign (a : Nat) (h : a < 18446744073709551616) : bits BinOp.and IntKind.u64 (a : Int) 9223372036854775808 = ((sgn a : Nat) : Int) := by
  have h1 := u64_and_nat a 9223372036854775808 h (by omega)
  have h2 := nat_bit 63 a
  rw [show (2 ^ 63 : Nat) = 9223372036854775808 from rfl] at h2
  rw [h2] at h1
  have h3 : a / 9223372036854775808 % 2 * 9223372036854775808 = sgn a := by
    unfold sgn neg
    rcases (show a / 9223372036854775808 % 2 = 0 ∨ a / 9223372036854775808 % 2 = 1 by omega) with q | q <;> rw [q] <;> rfl
  rw [h3] at h1; exact h1

end Go.Proofs.YtiijgghholhcnaaGreatDoor.Re.Pq
namespace Go.Proofs.YtiijgghholhcnaaGreatDoor.Re
open Go.RowKit

def rk (x : Nat) : Nat := if Pq.Flt.nan x then 0 else if Pq.Flt.neg x then 18446744073709551615 - x else x + 9223372036854775808
def cmpR (a b : Nat) : Int := if a < b then -1 else if a > b then 1 else 0
theorem fnan_eq (x : Nat) : fnan x = Pq.Flt.nan x := by
  unfold fnan
  cases h : Pq.Flt.nan x
  · rw [show Ieee.double.order x x = some (compare (Pq.Flt.key x) (Pq.Flt.key x)) from Pq.Flt.order_eq x x h h]
    simp
  · rw [show Ieee.double.order x x = none from Pq.Flt.order_nan x x (.inl h)]
    rfl
theorem flt_eq (x y : Nat) : flt x y = (!Pq.Flt.nan x && !Pq.Flt.nan y && decide (Pq.Flt.key x < Pq.Flt.key y)) := by
  unfold flt
  cases hx : Pq.Flt.nan x
  · cases hy : Pq.Flt.nan y
    · rw [show Ieee.double.order x y = some (compare (Pq.Flt.key x) (Pq.Flt.key y)) from Pq.Flt.order_eq x y hx hy]
      simp only [compare, compareOfLessAndEq]
      by_cases h1 : Pq.Flt.key x < Pq.Flt.key y
      · rw [if_pos h1]; simp [h1]
      · rw [if_neg h1]
        by_cases h2 : Pq.Flt.key x = Pq.Flt.key y
        · rw [if_pos h2]; simp [h2]
        · rw [if_neg h2]; simp [h1]
    · rw [show Ieee.double.order x y = none from Pq.Flt.order_nan x y (.inr hy)]; rfl
  · rw [show Ieee.double.order x y = none from Pq.Flt.order_nan x y (.inl hx)]; rfl
theorem fgt_eq (x y : Nat) : fgt x y = (!Pq.Flt.nan x && !Pq.Flt.nan y && decide (Pq.Flt.key y < Pq.Flt.key x)) := by
  unfold fgt
  cases hx : Pq.Flt.nan x
  · cases hy : Pq.Flt.nan y
    · rw [show Ieee.double.order x y = some (compare (Pq.Flt.key x) (Pq.Flt.key y)) from Pq.Flt.order_eq x y hx hy]
      simp only [compare, compareOfLessAndEq]
      by_cases h1 : Pq.Flt.key x < Pq.Flt.key y
      · rw [if_pos h1]
        have : ¬ Pq.Flt.key y < Pq.Flt.key x := by omega
        simp [this]
      · rw [if_neg h1]
        by_cases h2 : Pq.Flt.key x = Pq.Flt.key y
        · rw [if_pos h2]; simp [h2]
        · rw [if_neg h2]
          have : Pq.Flt.key y < Pq.Flt.key x := by omega
          simp [this]
    · rw [show Ieee.double.order x y = none from Pq.Flt.order_nan x y (.inr hy)]; rfl
  · rw [show Ieee.double.order x y = none from Pq.Flt.order_nan x y (.inl hx)]; rfl
theorem fsg_eq (x : Nat) (hx : x < 18446744073709551616) : fsg x = Pq.Flt.neg x := by
  unfold fsg Pq.Flt.neg wrap64
  by_cases h : x < 9223372036854775808
  · rw [show (x / 9223372036854775808 % 2 == 1) = false by rw [beq_eq_false_iff_ne]; omega]
    rw [decide_eq_false_iff_not]; omega
  · rw [show (x / 9223372036854775808 % 2 == 1) = true by rw [beq_iff_eq]; omega]
    rw [decide_eq_true_eq]; omega
theorem rk_cases (x : Nat) (hx : x < 18446744073709551616) :
    (Pq.Flt.nan x = true ∧ rk x = 0) ∨ (Pq.Flt.nan x = false ∧ Pq.Flt.neg x = true ∧ (rk x : Int) = 9223372036854775807 + Pq.Flt.key x ∧ -9218868437227405312 ≤ Pq.Flt.key x ∧ Pq.Flt.key x ≤ 0) ∨
    (Pq.Flt.nan x = false ∧ Pq.Flt.neg x = false ∧ (rk x : Int) = 9223372036854775808 + Pq.Flt.key x ∧ 0 ≤ Pq.Flt.key x) := by
  unfold rk Pq.Flt.key
  cases hn : Pq.Flt.nan x
  · have hm : Pq.Flt.mag x ≤ 9218868437227405312 := by unfold Pq.Flt.nan at hn; simpa using hn
    cases hg : Pq.Flt.neg x
    · refine .inr (.inr ⟨rfl, rfl, ?_, ?_⟩)
      · unfold Pq.Flt.neg at hg
        rw [beq_eq_false_iff_ne] at hg
        simp only [Bool.false_eq_true, if_false]
        unfold Pq.Flt.mag; omega
      · simp
    · refine .inr (.inl ⟨rfl, rfl, ?_, ?_, ?_⟩)
      · unfold Pq.Flt.neg at hg
        rw [beq_iff_eq] at hg
        simp only [Bool.false_eq_true, if_false, if_true]
        unfold Pq.Flt.mag; omega
      · simp only [if_true]; omega
      · simp only [if_true]; omega
  · exact .inl ⟨rfl, rfl⟩
theorem fcmp_rk (x y : Nat) (hx : x < 18446744073709551616) (hy : y < 18446744073709551616) : fcmp x y = cmpR (rk x) (rk y) := by
  unfold fcmp cmpB cmpR
  rw [fnan_eq, fnan_eq, flt_eq, fgt_eq, fsg_eq x hx, fsg_eq y hy]
  rcases rk_cases x hx with ⟨a1, a2⟩ | ⟨a1, a2, a3, a4, a5⟩ | ⟨a1, a2, a3, a4⟩ <;> rcases rk_cases y hy with ⟨b1, b2⟩ | ⟨b1, b2, b3, b4, b5⟩ | ⟨b1, b2, b3, b4⟩
  all_goals
    simp only [a1, b1, a2, b2, Bool.and_self, Bool.true_or, Bool.or_true, Bool.false_or, Bool.or_false, Bool.and_false, Bool.false_and, Bool.and_true, Bool.true_and, Bool.not_false, Bool.not_true, Bool.false_eq_true, if_false, if_true, beq_self_eq_true, reduceCtorEq, decide_eq_true_eq, beq_iff_eq]
    try (repeat' split) <;> omega
end Go.Proofs.YtiijgghholhcnaaGreatDoor.Re
