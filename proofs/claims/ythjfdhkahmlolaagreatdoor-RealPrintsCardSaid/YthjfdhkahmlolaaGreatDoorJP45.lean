/- How floats stand: the program's order is that of the document's ranks; the walk of the document's Compare. -/
import Derived.Test.YthjfdhkahmlolaaGreatDoorJP08
import Derived.Test.YthjfdhkahmlolaaGreatDoorJP44
import Derived.Laws.BitsAllLaws
namespace Go.Proofs.YthjfdhkahmlolaaGreatDoor.Pq
open Go.RowKit Flt

theorem nat_mag (a : Nat) (_h : a < 18446744073709551616) : a &&& (18446744073709551615 - 9223372036854775808) = mag a := by
  have := Nat.and_two_pow_sub_one_eq_mod a 63
  simpa [mag] using this
theorem mag_bits (a : Nat) (h : a < 18446744073709551616) : bits BinOp.andNot IntKind.u64 (a : Int) 9223372036854775808 = ((mag a : Nat) : Int) := by
  have := u64_andNot_nat a 9223372036854775808 h (by omega)
  rw [nat_mag a h] at this
  exact this

theorem or_sign (P : Nat) (h : P < 9223372036854775808) : bits BinOp.or IntKind.u64 (P : Int) 9223372036854775808 = ((9223372036854775808 + P : Nat) : Int) := by
  have h2 := u64_or_nat P 9223372036854775808 (by omega) (by omega)
  have h3 := nat_join 63 9223372036854775808 P (by decide) (by rw [show (2 ^ 63 : Nat) = 9223372036854775808 from rfl]; exact h)
  rw [Nat.or_comm, h3] at h2
  exact h2
def sgn (a : Nat) : Nat := if neg a then 9223372036854775808 else 0
theorem and_sign (a : Nat) (h : a < 18446744073709551616) : bits BinOp.and IntKind.u64 (a : Int) 9223372036854775808 = ((sgn a : Nat) : Int) := by
  have h1 := u64_and_nat a 9223372036854775808 h (by omega)
  have h2 := nat_bit 63 a
  rw [show (2 ^ 63 : Nat) = 9223372036854775808 from rfl] at h2
  rw [h2] at h1
  have h3 : a / 9223372036854775808 % 2 * 9223372036854775808 = sgn a := by
    unfold sgn neg
    rcases (show a / 9223372036854775808 % 2 = 0 ∨ a / 9223372036854775808 % 2 = 1 by omega) with q | q <;> rw [q] <;> rfl
  rw [h3] at h1; exact h1

end Go.Proofs.YthjfdhkahmlolaaGreatDoor.Pq
namespace Go.Proofs.YthjfdhkahmlolaaGreatDoor
open Go.RowKit

def rk (x : Nat) : Nat := if Pq.Flt.nan x then 0 else if Pq.Flt.neg x then 18446744073709551615 - x else x + 9223372036854775808
def cmpR (a b : Nat) : Int := if a < b then -1 else if a > b then 1 else 0
theorem fnan_eq (x : Nat) : fnan x = Pq.Flt.nan x := by
  unfold fnan
  cases h : Pq.Flt.nan x
  · rw [show Ieee.double.order x x = some (compare (Pq.Flt.key x) (Pq.Flt.key x)) from Pq.Flt.order_eq x x h h]
    simp
  · rw [show Ieee.double.order x x = none from Pq.Flt.order_nan x x (.inl h)]
    rfl
theorem flt_eq (x y : Nat) : flt x y = (!Pq.Flt.nan x && !Pq.Flt.nan y && decide (Pq.Flt.key x < Pq.Flt.key y)) := by
  unfold flt
  cases hx : Pq.Flt.nan x
  · cases hy : Pq.Flt.nan y
    · rw [show Ieee.double.order x y = some (compare (Pq.Flt.key x) (Pq.Flt.key y)) from Pq.Flt.order_eq x y hx hy]
      simp only [compare, compareOfLessAndEq]
      by_cases h1 : Pq.Flt.key x < Pq.Flt.key y
      · rw [if_pos h1]; simp [h1]
      · rw [if_neg h1]
        by_cases h2 : Pq.Flt.key x = Pq.Flt.key y
        · rw [if_pos h2]; simp [h2]
        · rw [if_neg h2]; simp [h1]
    · rw [show Ieee.double.order x y = none from Pq.Flt.order_nan x y (.inr hy)]; rfl
  · rw [show Ieee.double.order x y = none from Pq.Flt.order_nan x y (.inl hx)]; rfl
theorem fgt_eq (x y : Nat) : fgt x y = (!Pq.Flt.nan x && !Pq.Flt.nan y && decide (Pq.Flt.key y < Pq.Flt.key x)) := by
  unfold fgt
  cases hx : Pq.Flt.nan x
  · cases hy : Pq.Flt.nan y
    · rw [show Ieee.double.order x y = some (compare (Pq.Flt.key x) (Pq.Flt.key y)) from Pq.Flt.order_eq x y hx hy]
      simp only [compare, compareOfLessAndEq]
      by_cases h1 : Pq.Flt.key x < Pq.Flt.key y
      · rw [if_pos h1]
        have : ¬ Pq.Flt.key y < Pq.Flt.key x := by omega
        simp [this]
      · rw [if_neg h1]
        by_cases h2 : Pq.Flt.key x = Pq.Flt.key y
        · rw [if_pos h2]; simp [h2]
        · rw [if_neg h2]
          have : Pq.Flt.key y < Pq.Flt.key x := by omega
          simp [this]
    · rw [show Ieee.double.order x y = none from Pq.Flt.order_nan x y (.inr hy)]; rfl
  · rw [show Ieee.double.order x y = none from Pq.Flt.order_nan x y (.inl hx)]; rfl
theorem fsg_eq (x : Nat) (hx : x < 18446744073709551616) : fsg x = Pq.Flt.neg x := by
  unfold fsg Pq.Flt.neg wrap64
  by_cases h : x < 9223372036854775808
  · rw [show (x / 9223372036854775808 % 2 == 1) = false by rw [beq_eq_false_iff_ne]; omega]
    rw [decide_eq_false_iff_not]; omega
  · rw [show (x / 9223372036854775808 % 2 == 1) = true by rw [beq_iff_eq]; omega]
    rw [decide_eq_true_eq]; omega
theorem rk_cases (x : Nat) (hx : x < 18446744073709551616) :
    (Pq.Flt.nan x = true ∧ rk x = 0) ∨ (Pq.Flt.nan x = false ∧ Pq.Flt.neg x = true ∧ (rk x : Int) = 9223372036854775807 + Pq.Flt.key x ∧ -9218868437227405312 ≤ Pq.Flt.key x ∧ Pq.Flt.key x ≤ 0) ∨
    (Pq.Flt.nan x = false ∧ Pq.Flt.neg x = false ∧ (rk x : Int) = 9223372036854775808 + Pq.Flt.key x ∧ 0 ≤ Pq.Flt.key x) := by
  unfold rk Pq.Flt.key
  cases hn : Pq.Flt.nan x
  · have hm : Pq.Flt.mag x ≤ 9218868437227405312 := by unfold Pq.Flt.nan at hn; simpa using hn
    cases hg : Pq.Flt.neg x
    · refine .inr (.inr ⟨rfl, rfl, ?_, ?_⟩)
      · unfold Pq.Flt.neg at hg
        rw [beq_eq_false_iff_ne] at hg
        simp only [Bool.false_eq_true, if_false]
        unfold Pq.Flt.mag; omega
      · simp
    · refine .inr (.inl ⟨rfl, rfl, ?_, ?_, ?_⟩)
      · unfold Pq.Flt.neg at hg
        rw [beq_iff_eq] at hg
        simp only [Bool.false_eq_true, if_false, if_true]
        unfold Pq.Flt.mag; omega
      · simp only [if_true]; omega
      · simp only [if_true]; omega
  · exact .inl ⟨rfl, rfl⟩
theorem fcmp_rk (x y : Nat) (hx : x < 18446744073709551616) (hy : y < 18446744073709551616) : fcmp x y = cmpR (rk x) (rk y) := by
  unfold fcmp cmpB cmpR
  rw [fnan_eq, fnan_eq, flt_eq, fgt_eq, fsg_eq x hx, fsg_eq y hy]
  rcases rk_cases x hx with ⟨a1, a2⟩ | ⟨a1, a2, a3, a4, a5⟩ | ⟨a1, a2, a3, a4⟩ <;> rcases rk_cases y hy with ⟨b1, b2⟩ | ⟨b1, b2, b3, b4, b5⟩ | ⟨b1, b2, b3, b4⟩
  all_goals
    simp only [a1, b1, a2, b2, Bool.and_self, Bool.true_or, Bool.or_true, Bool.false_or, Bool.or_false, Bool.and_false, Bool.false_and, Bool.and_true, Bool.true_and, Bool.not_false, Bool.not_true, Bool.false_eq_true, if_false, if_true, beq_self_eq_true, reduceCtorEq, decide_eq_true_eq, beq_iff_eq]
    try (repeat' split) <;> omega
end Go.Proofs.YthjfdhkahmlolaaGreatDoor

/- A float less itself. -/
namespace Go.Proofs.YthjfdhkahmlolaaGreatDoor.Pq
open Go.RowKit Flt
theorem flip_nan {x : Nat} (hx : x < 18446744073709551616) : Flt.nan (Flt.flip x) = Flt.nan x := by unfold Flt.nan; rw [mag_flip x hx]
theorem cut_nan (x y t : Nat) : Flt.nan ((Question.nanBits .f64 x y).cut t) = true ∧ (Question.nanBits .f64 x y).cut t < 18446744073709551616 := by
  have e : (Question.nanBits .f64 x y).cut t = (t % 2) * 9223372036854775808 + 9218868437227405312 + 1 + (t / 2) % 4503599627370495 := rfl
  rw [e]
  unfold Flt.nan mag
  rw [decide_eq_true_iff]
  have hr : t / 2 % 4503599627370495 < 4503599627370495 := Nat.mod_lt _ (by omega)
  generalize t / 2 % 4503599627370495 = r at *
  rcases (show t % 2 = 0 ∨ t % 2 = 1 by omega) with q | q <;> rw [q] <;> omega
theorem read_flip (y : Nat) (hy : y < 18446744073709551616) : (D.read y).opposite = D.read (Flt.flip y) ∨ Flt.nan y = true := by
  cases hn : Flt.nan y
  · left
    have hm : mag y ≤ 9218868437227405312 := by unfold Flt.nan at hn; simpa using hn
    by_cases h : mag y < 9218868437227405312
    · rw [read_fin y h, read_fin (Flt.flip y) (by rw [mag_flip y hy]; exact h), mag_flip y hy, neg_flip y hy]; rfl
    · rw [read_inf y (by omega), read_inf (Flt.flip y) (by rw [mag_flip y hy]; omega), neg_flip y hy]; rfl
  · exact .inr rfl
theorem sub_eq (x y : Nat) (hy : y < 18446744073709551616) : D.sub x y = D.add x (Flt.flip y) := by
  rcases read_flip y hy with h | h
  · unfold Ieee.Format.sub Ieee.Format.add; rw [h]
  · rw [add_nan x (Flt.flip y) (.inr (by rw [flip_nan hy]; exact h))]
    obtain ⟨s, t, e⟩ := read_nan y h
    unfold Ieee.Format.sub
    rw [e, sum_comm]; rfl
theorem sub_self_fin (x : Nat) (hx : x < 18446744073709551616) (h : mag x < 9218868437227405312) : D.sub x x = some 0 := by
  rw [sub_eq x x hx]
  have hm := mag_flip x hx
  have hn := neg_flip x hx
  have h1 := radd_diff x (Flt.flip x) h (by rw [hm]; exact Nat.le_refl _) (by rw [hn]; cases neg x <;> decide)
  rw [hm, Int.sub_self, show (0 : Int).toNat = 0 from rfl, stk_zero, if_pos rfl] at h1
  unfold radd at h1
  cases h2 : D.add x (Flt.flip x) with
  | none => rw [h2] at h1; exact absurd h1 (by decide)
  | some r => rw [h2] at h1; rw [show r = 0 from h1]
theorem sub_self_inf (x : Nat) (hx : x < 18446744073709551616) (h : mag x = 9218868437227405312) : D.sub x x = none := by
  rw [sub_eq x x hx, add_inf_inf x (Flt.flip x) h (by rw [mag_flip x hx]; exact h), neg_flip x hx, if_neg (by cases neg x <;> decide)]
end Go.Proofs.YthjfdhkahmlolaaGreatDoor.Pq
namespace Go.Proofs.YthjfdhkahmlolaaGreatDoor
open Go.RowKit
theorem run_fsub_fin (x : Nat) (hx : x < 18446744073709551616) (h : x % 9223372036854775808 < 9218868437227405312) (w : World) : Sem.run Tryz.prog (binOp .sub 25 (.float .f64 x) (.float .f64 x)) w = .ok (.float .f64 0) w := by
  have h2 : Ieee.double.sub x x = some 0 := Pq.sub_self_fin x hx h
  simp [binOp, Op.floatArith, FloatKind.format, h2]
theorem run_fsub_inf (x : Nat) (hx : x < 18446744073709551616) (h : x % 9223372036854775808 = 9218868437227405312) (w : World) : ∃ v, Pq.Flt.nan v = true ∧ Sem.run Tryz.prog (binOp .sub 25 (.float .f64 x) (.float .f64 x)) w = .ok (.float .f64 v) w.drew := by
  have h2 : Ieee.double.sub x x = none := Pq.sub_self_inf x hx h
  refine ⟨(Question.nanBits .f64 x x).cut (w.tape w.drawn (Question.nanBits .f64 x x)), (Pq.cut_nan x x _).1, ?_⟩
  simp [binOp, Op.floatArith, FloatKind.format, h2, choose]
  rfl
end Go.Proofs.YthjfdhkahmlolaaGreatDoor
