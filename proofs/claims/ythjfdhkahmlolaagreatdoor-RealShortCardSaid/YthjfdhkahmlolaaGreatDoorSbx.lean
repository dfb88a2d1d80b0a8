/- A float less itself. -/
import Derived.Test.YthjfdhkahmlolaaGreatDoorOra
namespace Go.Proofs.YthjfdhkahmlolaaGreatDoor.Pq
open Go.RowKit Flt
theorem flip_nan {x : Nat} (hx : x < 18446744073709551616) : Flt.nan (Flt.flip x) = Flt.nan x := by unfold Flt.nan; rw [mag_flip x hx]
theorem cut_nan (x y t : Nat) : Flt.nan ((Question.nanBits .f64 x y).cut t) = true ∧ (Question.nanBits .f64 x y).cut t < 18446744073709551616 := by
  have e : (Question.nanBits .f64 x y).cut t = (t % 2) * 9223372036854775808 + 9218868437227405312 + 1 + (t / 2) % 4503599627370495 := rfl
  rw [e]
  unfold Flt.nan mag
  rw [decide_eq_true_iff]
  have hr : t / 2 % 4503599627370495 < 4503599627370495 := Nat.mod_lt _ (by omega)
  generalize t / 2 % 4503599627370495 = r at *
  rcases (show t % 2 = 0 ∨ t % 2 = 1 by omega) with q | q <;> rw [q] <;> omega
theorem read_flip (y : Nat) (hy : y < 18446744073709551616) : (D.read y).opposite = D.read (Flt.flip y) ∨ Flt.nan y = true := by
  cases hn : Flt.nan y
  · left
    have hm : mag y ≤ 9218868437227405312 := by unfold Flt.nan at hn; simpa using hn
    by_cases h : mag y < 9218868437227405312
    · rw [read_fin y h, read_fin (Flt.flip y) (by rw [mag_flip y hy]; exact h), mag_flip y hy, neg_flip y hy]; rfl
    · rw [read_inf y (by omega), read_inf (Flt.flip y) (by rw [mag_flip y hy]; omega), neg_flip y hy]; rfl
  · exact .inr rfl
theorem sub_eq (x y : Nat) (hy : y < 18446744073709551616) : D.sub x y = D.add x (Flt.flip y) := by
  rcases read_flip y hy with h | h
  · unfold Ieee.Format.sub Ieee.Format.add; rw [h]
  · rw [add_nan x (Flt.flip y) (.inr (by rw [flip_nan hy]; exact h))]
    obtain ⟨s, t, e⟩ := read_nan y h
    unfold Ieee.Format.sub
    rw [e, sum_comm]; rfl
theorem sub_self_fin (x : Nat) (hx : x < 18446744073709551616) (h : mag x < 9218868437227405312) : D.sub x x = some 0 := by
  rw [sub_eq x x hx]
  have hm := mag_flip x hx
  have hn := neg_flip x hx
  have h1 := radd_diff x (Flt.flip x) h (by rw [hm]; exact Nat.le_refl _) (by rw [hn]; cases neg x <;> decide)
  rw [hm, Int.sub_self, show (0 : Int).toNat = 0 from rfl, stk_zero, if_pos rfl] at h1
  unfold radd at h1
  cases h2 : D.add x (Flt.flip x) with
  | none => rw [h2] at h1; exact absurd h1 (by decide)
  | some r => rw [h2] at h1; rw [show r = 0 from h1]
theorem sub_self_inf (x : Nat) (hx : x < 18446744073709551616) (h : mag x = 9218868437227405312) : D.sub x x = none := by
  rw [sub_eq x x hx, add_inf_inf x (Flt.flip x) h (by rw [mag_flip x hx]; exact h), neg_flip x hx, if_neg (by cases neg x <;> decide)]
end Go.Proofs.YthjfdhkahmlolaaGreatDoor.Pq
namespace Go.Proofs.YthjfdhkahmlolaaGreatDoor
open Go.RowKit
theorem run_fsub_fin (x : Nat) (hx : x < 18446744073709551616) (h : x % 9223372036854775808 < 9218868437227405312) (w : World) : Sem.run Tryz.prog (binOp .sub 25 (.float .f64 x) (.float .f64 x)) w = .ok (.float .f64 0) w := by
  have h2 : Ieee.double.sub x x = some 0 := Pq.sub_self_fin x hx h
  simp [binOp, Op.floatArith, FloatKind.format, h2]
theorem run_fsub_inf (x : Nat) (hx : x < 18446744073709551616) (h : x % 9223372036854775808 = 9218868437227405312) (w : World) : ∃ v, Pq.Flt.nan v = true ∧ Sem.run Tryz.prog (binOp .sub 25 (.float .f64 x) (.float .f64 x)) w = .ok (.float .f64 v) w.drew := by
  have h2 : Ieee.double.sub x x = none := Pq.sub_self_inf x hx h
  refine ⟨(Question.nanBits .f64 x x).cut (w.tape w.drawn (Question.nanBits .f64 x x)), (Pq.cut_nan x x _).1, ?_⟩
  simp [binOp, Op.floatArith, FloatKind.format, h2, choose]
  rfl
end Go.Proofs.YthjfdhkahmlolaaGreatDoor
