/- What the model's product and quotient of two floats round to reads back. Plain. -/
import Derived.Test.YthjfdhkahmlolaaGreatDoorJF23
import Derived.Test.YthjfdhkahmlolaaGreatDoorJF06
import Derived.Test.YthjfdhkahmlolaaGreatDoorJF20
import Derived.Laws.BitsAllLaws
namespace Go.Proofs.YthjfdhkahmlolaaGreatDoor.Usc
open Pq.Flt
/-- X/Y over 2^d, rounded to t units of 2^(K-1074) -/
theorem near_core {K t d N D X Y : Nat} (hY : 0 < Y) (hD : 0 < D) (ht1 : 1 ≤ t) (ht2 : t ≤ 9007199254740992) (hK : 4503599627370496 ≤ t ∨ K = 0)
    (c1 : 2 * t * 2 ^ d * Y ≤ 2 * X + 2 ^ d * Y) (c2 : 2 * X ≤ 2 * t * 2 ^ d * Y + 2 ^ d * Y) (c3 : 2 * t * 2 ^ d * Y = 2 * X + 2 ^ d * Y → t % 2 = 0) (c4 : 2 * X = 2 * t * 2 ^ d * Y + 2 ^ d * Y → t % 2 = 0)
    (h5 : t = 4503599627370496 → 0 < K → 4503599627370496 * 2 ^ d * Y ≤ X) (hs : N * (2 ^ d * Y) = 2 * X * (2 ^ K * D)) : Near (K * 4503599627370496 + t) N D := by
  have hP := Nat.mul_pos (Nat.two_pow_pos d) hY
  have hQ := Nat.mul_pos (Nat.two_pow_pos K) hD
  have a1 : 2 * t * 2 ^ d * Y = 2 * t * (2 ^ d * Y) := Nat.mul_assoc ..
  have a2 : 4503599627370496 * 2 ^ d * Y = 4503599627370496 * (2 ^ d * Y) := Nat.mul_assoc ..
  rw [a1] at c1 c2 c3 c4
  rw [a2] at h5
  have cv : ∀ Z : Nat, Z * 2 ^ K * D * (2 ^ d * Y) = Z * (2 ^ d * Y) * (2 ^ K * D) := fun Z => by rw [Nat.mul_assoc Z, Nat.mul_right_comm]
  have e1 : ∀ Z : Nat, Z * (2 ^ d * Y) ≤ 2 * X → Z * 2 ^ K * D ≤ N := fun Z h => by
    have := Nat.mul_le_mul_right (2 ^ K * D) h
    rw [← cv, ← hs] at this
    exact Nat.le_of_mul_le_mul_right this hP
  have e2 : ∀ Z : Nat, 2 * X ≤ Z * (2 ^ d * Y) → N ≤ Z * 2 ^ K * D := fun Z h => by
    have := Nat.mul_le_mul_right (2 ^ K * D) h
    rw [← cv, ← hs] at this
    exact Nat.le_of_mul_le_mul_right this hP
  have e3 : ∀ Z : Nat, Z * 2 ^ K * D = N → Z * (2 ^ d * Y) = 2 * X := fun Z h => by
    have : Z * (2 ^ d * Y) * (2 ^ K * D) = 2 * X * (2 ^ K * D) := by rw [← cv, ← hs, h]
    exact Nat.eq_of_mul_eq_mul_right hQ this
  generalize 2 ^ d * Y = P at *
  have hx : 1 * P ≤ 2 * t * P := Nat.mul_le_mul_right _ (by omega)
  refine near_of_round ht1 ht2 hK (e1 _ ?_) (e2 _ ?_) (fun h => c3 ?_) (fun h => c4 ?_) (fun h hk => ?_)
  · rw [Nat.sub_mul]; omega
  · rw [Nat.add_mul]; omega
  · have := e3 _ h
    rw [Nat.sub_mul] at this
    omega
  · have := e3 _ h.symm
    rw [Nat.add_mul] at this
    omega
  · have h6 := e1 (2 * t) (by rw [h, Nat.mul_assoc]; exact Nat.mul_le_mul_left 2 (h5 h hk))
    have h7 : 2 ^ K = 2 * 2 ^ (K - 1) := by rw [Nat.mul_comm, ← Nat.pow_succ]; congr 1; omega
    rw [h7, ← Nat.mul_assoc, show 2 * t * 2 = 4 * t by omega] at h6
    exact Nat.le_trans (Nat.mul_le_mul_right _ (Nat.mul_le_mul_right _ (by omega))) h6
/-- M at the place q, where it is told of X/Y with a sticky last bit: rounded, it is the float that X/Y 2^q reads back as -/
theorem rung_is {b M X Y : Nat} {q : Int} (hb : 1 ≤ b) (hb2 : b < 9218868437227405312) (hM : 0 < M) (hY : 0 < Y)
    (hst : X = M * Y ∨ (18014398509481984 ≤ M ∧ M % 2 = 1 ∧ (M - 1) * Y < X ∧ X < (M + 1) * Y ∧ -1074 ≤ q + (M.log2 : Int) - 52))
    (hN : Near b (X * 2 ^ (q + 1075).toNat) (2 ^ (-(q + 1075)).toNat * Y)) : rung M q = b := by
  have h0 : M ≠ 0 := by omega
  have g1 := Nat.log2_self_le h0
  have g2 := @Nat.lt_log2_self M
  unfold rung
  rw [if_neg h0]
  simp only
  have hlr : max (q + (M.log2 : Int) - 52) (-1074) = q + (M.log2 : Int) - 52 ∨ (max (q + (M.log2 : Int) - 52) (-1074) = -1074) := by omega
  generalize hl : max (q + (M.log2 : Int) - 52) (-1074) = last at *
  obtain ⟨b1, b2, b3, b4, b5, b6⟩ := rne_bounds (M * 2 ^ (q - last).toNat) (last - q).toNat
  generalize ht : rne (M * 2 ^ (q - last).toNat) (last - q).toNat = t at *
  generalize hK : (last + 1074).toNat = K at *
  have hP := Nat.two_pow_pos (last - q).toNat
  have u1 : M * 2 ^ (q - last).toNat < 9007199254740992 * 2 ^ (last - q).toNat := by
    have : M * 2 ^ (q - last).toNat < 2 ^ (M.log2 + 1) * 2 ^ (q - last).toNat := Nat.mul_lt_mul_of_pos_right g2 (Nat.two_pow_pos _)
    rw [← Nat.pow_add] at this
    have h2 : 2 ^ (M.log2 + 1 + (q - last).toNat) ≤ 2 ^ (53 + (last - q).toNat) := Nat.pow_le_pow_right (by decide) (by omega)
    rw [Nat.pow_add 2 53, show (2 : Nat) ^ 53 = 9007199254740992 by decide] at h2
    omega
  have u2 : K = 0 ∨ 4503599627370496 * 2 ^ (last - q).toNat ≤ M * 2 ^ (q - last).toNat := by
    rcases Nat.eq_zero_or_pos K with e | e
    · exact .inl e
    · right
      have : 2 ^ M.log2 * 2 ^ (q - last).toNat ≤ M * 2 ^ (q - last).toNat := Nat.mul_le_mul_right _ g1
      rw [← Nat.pow_add] at this
      have h2 : 2 ^ (52 + (last - q).toNat) ≤ 2 ^ (M.log2 + (q - last).toNat) := Nat.pow_le_pow_right (by decide) (by omega)
      rw [Nat.pow_add, show (2 : Nat) ^ 52 = 4503599627370496 by decide] at h2
      omega
  have u3 : t ≤ 9007199254740992 := by
    have : M * 2 ^ (q - last).toNat / 2 ^ (last - q).toNat < 9007199254740992 := (Nat.div_lt_iff_lt_mul hP).2 u1
    omega
  have u4 : 4503599627370496 ≤ t ∨ K = 0 := by
    rcases u2 with e | e
    · exact .inr e
    · left
      have := (Nat.le_div_iff_mul_le hP).2 e
      omega
  have hs : X * 2 ^ (q + 1075).toNat * (2 ^ (last - q).toNat * Y) = 2 * (X * 2 ^ (q - last).toNat) * (2 ^ K * (2 ^ (-(q + 1075)).toNat * Y)) := by
    have hpow : 2 ^ (q + 1075).toNat * 2 ^ (last - q).toNat = 2 * (2 ^ (q - last).toNat * 2 ^ K * 2 ^ (-(q + 1075)).toNat) := by
      rw [← Nat.pow_add, ← Nat.pow_add, ← Nat.pow_add, Nat.mul_comm 2, ← Nat.pow_succ]
      congr 1
      omega
    generalize 2 ^ (q + 1075).toNat = A at *
    generalize 2 ^ (last - q).toNat = B at *
    generalize 2 ^ (q - last).toNat = C at *
    generalize 2 ^ K = E at *
    generalize 2 ^ (-(q + 1075)).toNat = F at *
    have : X * A * (B * Y) = X * Y * (A * B) := by grind
    rw [this, hpow]
    grind
  have hD : 0 < 2 ^ (-(q + 1075)).toNat * Y := Nat.mul_pos (Nat.two_pow_pos _) hY
  have hpos := hN.pos hb hD
  generalize X * 2 ^ (q + 1075).toNat = N at *
  generalize 2 ^ (-(q + 1075)).toNat * Y = D at *
  -- what is rounded, by X
  have key : 2 * t * 2 ^ (last - q).toNat * Y ≤ 2 * (X * 2 ^ (q - last).toNat) + 2 ^ (last - q).toNat * Y ∧ 2 * (X * 2 ^ (q - last).toNat) ≤ 2 * t * 2 ^ (last - q).toNat * Y + 2 ^ (last - q).toNat * Y ∧
      (2 * t * 2 ^ (last - q).toNat * Y = 2 * (X * 2 ^ (q - last).toNat) + 2 ^ (last - q).toNat * Y → t % 2 = 0) ∧ (2 * (X * 2 ^ (q - last).toNat) = 2 * t * 2 ^ (last - q).toNat * Y + 2 ^ (last - q).toNat * Y → t % 2 = 0) ∧
      (K = 0 ∨ 4503599627370496 * 2 ^ (last - q).toNat * Y ≤ X * 2 ^ (q - last).toNat) := by
    rcases hst with e | ⟨m1, m2, m3, m4, m5⟩
    · have hx : X * 2 ^ (q - last).toNat = M * 2 ^ (q - last).toNat * Y := by rw [e, Nat.mul_right_comm]
      rw [hx]
      generalize M * 2 ^ (q - last).toNat = n at *
      generalize 2 ^ (last - q).toNat = P at *
      have q1 := Nat.mul_le_mul_right Y b1
      have q2 := Nat.mul_le_mul_right Y b2
      rw [Nat.add_mul] at q1 q2
      have r1 : 2 * (n * Y) = 2 * n * Y := (Nat.mul_assoc ..).symm
      refine ⟨by omega, by omega, fun h => b3 ?_, fun h => b4 ?_, ?_⟩
      · rw [r1, ← Nat.add_mul] at h
        exact Nat.eq_of_mul_eq_mul_right hY h
      · rw [r1, ← Nat.add_mul] at h
        exact Nat.eq_of_mul_eq_mul_right hY h
      · rcases u2 with e | e
        · exact .inl e
        · exact .inr (Nat.mul_le_mul_right Y e)
    · have hlast : last = q + (M.log2 : Int) - 52 := by omega
      have hlog : 54 ≤ M.log2 := (Nat.le_log2 h0).2 (by rw [show (2 : Nat) ^ 54 = 18014398509481984 by decide]; exact m1)
      have z1 : (q - last).toNat = 0 := by omega
      have zz : M * 2 ^ (q - last).toNat = M := by rw [z1, Nat.pow_zero, Nat.mul_one]
      have zx : X * 2 ^ (q - last).toNat = X := by rw [z1, Nat.pow_zero, Nat.mul_one]
      rw [zz] at b1 b2 u2
      rw [zx]
      obtain ⟨p, hp⟩ : ∃ p, 2 ^ (last - q).toNat = 4 * p := ⟨2 ^ ((last - q).toNat - 2), by rw [show (4 : Nat) = 2 ^ 2 by decide, ← Nat.pow_add]; congr 1; omega⟩
      rw [hp] at b1 b2 u2
      rw [hp]
      obtain ⟨m, hm⟩ : ∃ m, M = 2 * m + 1 := ⟨M / 2, by omega⟩
      have f2 : 2 * t * (4 * p) = 8 * (t * p) := by rw [Nat.mul_mul_mul_comm]
      rw [f2] at b1 b2
      rw [f2]
      have g3 : 8 * (t * p) ≤ 4 * m + 4 * p := by omega
      have g4 : 4 * m + 4 ≤ 8 * (t * p) + 4 * p := by omega
      have y1 : 2 * (m * Y) < X := by
        rw [hm, Nat.add_sub_cancel, Nat.mul_assoc] at m3; exact m3
      have y2 : X < 2 * (m * Y) + 2 * Y := by
        rw [hm, Nat.add_assoc, Nat.add_mul, Nat.mul_assoc] at m4; exact m4
      have k1 := Nat.mul_le_mul_right Y g3
      have k2 := Nat.mul_le_mul_right Y g4
      rw [Nat.add_mul, Nat.mul_assoc 4 m] at k1
      rw [Nat.add_mul, Nat.add_mul, Nat.mul_assoc 4 m] at k2
      refine ⟨by omega, by omega, fun h => ?_, fun h => ?_, ?_⟩
      · omega
      · omega
      · rcases u2 with e | e
        · exact .inl e
        · right
          have h8 : 4503599627370496 * (4 * p) ≤ 2 * m := by omega
          have h9 := Nat.mul_le_mul_right Y h8
          rw [Nat.mul_assoc 2] at h9
          omega
  obtain ⟨k1, k2, k3, k4, k5⟩ := key
  have ht1 : 1 ≤ t := by
    rcases Nat.eq_zero_or_pos t with e | e
    · exfalso
      have hk : K = 0 := by omega
      have k2' : 2 * (X * 2 ^ (q - last).toNat) ≤ 2 ^ (last - q).toNat * Y := by
        rw [e] at k2; simpa using k2
      rw [hk, Nat.pow_zero, Nat.one_mul] at hs
      have h8 := Nat.mul_le_mul_right D k2'
      rw [← hs, Nat.mul_comm N] at h8
      have := Nat.le_of_mul_le_mul_left h8 (Nat.mul_pos hP hY)
      omega
    · exact e
  have hnear := near_core hY hD ht1 u3 u4 k1 k2 k3 k4 (fun _ hk => by rcases k5 with e | e; omega; exact e) hs
  have := hnear.uniq hD hN
  rw [this]
  exact Nat.min_eq_left (by omega)
end Go.Proofs.YthjfdhkahmlolaaGreatDoor.Usc

/- How floats stand: the program's order is that of the document's ranks; the walk of the document's Compare. -/
namespace Go.Proofs.YthjfdhkahmlolaaGreatDoor.Pq
open Go.RowKit Flt

theorem nat_mag (a : Nat) (_h : a < 18446744073709551616) : a &&& (18446744073709551615 - 9223372036854775808) = mag a := by
  have := Nat.and_two_pow_sub_one_eq_mod a 63
  simpa [mag] using this
theorem mag_bits (a : Nat) (h : a < 18446744073709551616) : bits BinOp.andNot IntKind.u64 (a : Int) 9223372036854775808 = ((mag a : Nat) : Int) := by
  have := u64_andNot_nat a 9223372036854775808 h (by omega)
  rw [nat_mag a h] at this
  exact this

theorem or_sign (P : Nat) (h : P < 9223372036854775808) : bits BinOp.or IntKind.u64 (P : Int) 9223372036854775808 = ((9223372036854775808 + P : Nat) : Int) := by
  have h2 := u64_or_nat P 9223372036854775808 (by omega) (by omega)
  have h3 := nat_join 63 9223372036854775808 P (by decide) (by rw [show (2 ^ 63 : Nat) = 9223372036854775808 from rfl]; exact h)
  rw [Nat.or_comm, h3] at h2
  exact h2
def sgn (a : Nat) : Nat := if neg a then 9223372036854775808 else 0
theorem and_sign (a : Nat) (h : a < 18446744073709551616) : bits BinOp.and IntKind.u64 (a : Int) 9223372036854775808 = ((sgn a : Nat) : Int) := by
  have h1 := u64_and_nat a 9223372036854775808 h (by omega)
  have h2 := nat_bit 63 a
  rw [show (2 ^ 63 : Nat) = 9223372036854775808 from rfl] at h2
  rw [h2] at h1
  have h3 : a / 9223372036854775808 % 2 * 9223372036854775808 = sgn a := by
    unfold sgn neg
    rcases (show a / 9223372036854775808 % 2 = 0 ∨ a / 9223372036854775808 % 2 = 1 by omega) with q | q <;> rw [q] <;> rfl
  rw [h3] at h1; exact h1

end Go.Proofs.YthjfdhkahmlolaaGreatDoor.Pq
namespace Go.Proofs.YthjfdhkahmlolaaGreatDoor
open Go.RowKit

def rk (x : Nat) : Nat := if Pq.Flt.nan x then 0 else if Pq.Flt.neg x then 18446744073709551615 - x else x + 9223372036854775808
def cmpR (a b : Nat) : Int := if a < b then -1 else if a > b then 1 else 0
theorem fnan_eq (x : Nat) : fnan x = Pq.Flt.nan x := by
  unfold fnan
  cases h : Pq.Flt.nan x
  · rw [show Ieee.double.order x x = some (compare (Pq.Flt.key x) (Pq.Flt.key x)) from Pq.Flt.order_eq x x h h]
    simp
  · rw [show Ieee.double.order x x = none from Pq.Flt.order_nan x x (.inl h)]
    rfl
theorem flt_eq (x y : Nat) : flt x y = (!Pq.Flt.nan x && !Pq.Flt.nan y && decide (Pq.Flt.key x < Pq.Flt.key y)) := by
  unfold flt
  cases hx : Pq.Flt.nan x
  · cases hy : Pq.Flt.nan y
    · rw [show Ieee.double.order x y = some (compare (Pq.Flt.key x) (Pq.Flt.key y)) from Pq.Flt.order_eq x y hx hy]
      simp only [compare, compareOfLessAndEq]
      by_cases h1 : Pq.Flt.key x < Pq.Flt.key y
      · rw [if_pos h1]; simp [h1]
      · rw [if_neg h1]
        by_cases h2 : Pq.Flt.key x = Pq.Flt.key y
        · rw [if_pos h2]; simp [h2]
        · rw [if_neg h2]; simp [h1]
    · rw [show Ieee.double.order x y = none from Pq.Flt.order_nan x y (.inr hy)]; rfl
  · rw [show Ieee.double.order x y = none from Pq.Flt.order_nan x y (.inl hx)]; rfl
theorem fgt_eq (x y : Nat) : fgt x y = (!Pq.Flt.nan x && !Pq.Flt.nan y && decide (Pq.Flt.key y < Pq.Flt.key x)) := by
  unfold fgt
  cases hx : Pq.Flt.nan x
  · cases hy : Pq.Flt.nan y
    · rw [show Ieee.double.order x y = some (compare (Pq.Flt.key x) (Pq.Flt.key y)) from Pq.Flt.order_eq x y hx hy]
      simp only [compare, compareOfLessAndEq]
      by_cases h1 : Pq.Flt.key x < Pq.Flt.key y
      · rw [if_pos h1]
        have : ¬ Pq.Flt.key y < Pq.Flt.key x := by omega
        simp [this]
      · rw [if_neg h1]
        by_cases h2 : Pq.Flt.key x = Pq.Flt.key y
        · rw [if_pos h2]; simp [h2]
        · rw [if_neg h2]
          have : Pq.Flt.key y < Pq.Flt.key x := by omega
          simp [this]
    · rw [show Ieee.double.order x y = none from Pq.Flt.order_nan x y (.inr hy)]; rfl
  · rw [show Ieee.double.order x y = none from Pq.Flt.order_nan x y (.inl hx)]; rfl
theorem fsg_eq (x : Nat) (hx : x < 18446744073709551616) : fsg x = Pq.Flt.neg x := by
  unfold fsg Pq.Flt.neg wrap64
  by_cases h : x < 9223372036854775808
  · rw [show (x / 9223372036854775808 % 2 == 1) = false by rw [beq_eq_false_iff_ne]; omega]
    rw [decide_eq_false_iff_not]; omega
  · rw [show (x / 9223372036854775808 % 2 == 1) = true by rw [beq_iff_eq]; omega]
    rw [decide_eq_true_eq]; omega
theorem rk_cases (x : Nat) (hx : x < 18446744073709551616) :
    (Pq.Flt.nan x = true ∧ rk x = 0) ∨ (Pq.Flt.nan x = false ∧ Pq.Flt.neg x = true ∧ (rk x : Int) = 9223372036854775807 + Pq.Flt.key x ∧ -9218868437227405312 ≤ Pq.Flt.key x ∧ Pq.Flt.key x ≤ 0) ∨
    (Pq.Flt.nan x = false ∧ Pq.Flt.neg x = false ∧ (rk x : Int) = 9223372036854775808 + Pq.Flt.key x ∧ 0 ≤ Pq.Flt.key x) := by
  unfold rk Pq.Flt.key
  cases hn : Pq.Flt.nan x
  · have hm : Pq.Flt.mag x ≤ 9218868437227405312 := by unfold Pq.Flt.nan at hn; simpa using hn
    cases hg : Pq.Flt.neg x
    · refine .inr (.inr ⟨rfl, rfl, ?_, ?_⟩)
      · unfold Pq.Flt.neg at hg
        rw [beq_eq_false_iff_ne] at hg
        simp only [Bool.false_eq_true, if_false]
        unfold Pq.Flt.mag; omega
      · simp
    · refine .inr (.inl ⟨rfl, rfl, ?_, ?_, ?_⟩)
      · unfold Pq.Flt.neg at hg
        rw [beq_iff_eq] at hg
        simp only [Bool.false_eq_true, if_false, if_true]
        unfold Pq.Flt.mag; omega
      · simp only [if_true]; omega
      · simp only [if_true]; omega
  · exact .inl ⟨rfl, rfl⟩
theorem fcmp_rk (x y : Nat) (hx : x < 18446744073709551616) (hy : y < 18446744073709551616) : fcmp x y = cmpR (rk x) (rk y) := by
  unfold fcmp cmpB cmpR
  rw [fnan_eq, fnan_eq, flt_eq, fgt_eq, fsg_eq x hx, fsg_eq y hy]
  rcases rk_cases x hx with ⟨a1, a2⟩ | ⟨a1, a2, a3, a4, a5⟩ | ⟨a1, a2, a3, a4⟩ <;> rcases rk_cases y hy with ⟨b1, b2⟩ | ⟨b1, b2, b3, b4, b5⟩ | ⟨b1, b2, b3, b4⟩
  all_goals
    simp only [a1, b1, a2, b2, Bool.and_self, Bool.true_or, Bool.or_true, Bool.false_or, Bool.or_false, Bool.and_false, Bool.false_and, Bool.and_true, Bool.true_and, Bool.not_false, Bool.not_true, Bool.false_eq_true, if_false, if_true, beq_self_eq_true, reduceCtorEq, decide_eq_true_eq, beq_iff_eq]
    try (repeat' split) <;> omega
end Go.Proofs.YthjfdhkahmlolaaGreatDoor
