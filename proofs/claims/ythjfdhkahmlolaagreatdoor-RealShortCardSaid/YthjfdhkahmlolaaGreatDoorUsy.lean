/- What printing scales at the rows 0 .. 24: exact in the upper word. -/
import Derived.Test.YthjfdhkahmlolaaGreatDoorUsx
namespace Go.Proofs.YthjfdhkahmlolaaGreatDoor.Usc
theorem unr_scale (n d c : Nat) (hc : 0 < c) : unr (n * c) (d * c) = unr n d := by
  unfold unr
  rw [Nat.mul_div_mul_right _ _ hc, Nat.mul_mod_mul_right]
  by_cases h : n % d = 0
  · rw [if_pos h, h, if_pos (Nat.zero_mul c)]
  · rw [if_neg h, if_neg (by
      intro e
      rcases Nat.mul_eq_zero.1 e with e | e
      · exact h e
      · omega)]
theorem zero_rows : (List.range 25).all (fun k => match Go.Pinned.pow10Rows[348 + k]? with | some r => decide (r.2 = 0) && decide (numOf (348 + k) = r.1 * 18446744073709551616 * denOf (348 + k)) | none => false) = true := by kernel_rfl
theorem uscale_zero {x k s : Nat} {r : Nat × Nat} (hr : Go.Pinned.pow10Rows[348 + k]? = some r) (hk : k < 25) (hx : x < 18446744073709551616) (he : x % 2 = 0) :
    uscaleN x r.1 r.2 s = unr (x * numOf (348 + k)) (denOf (348 + k) * (2 ^ s * 340282366920938463463374607431768211456)) := by
  obtain ⟨r1, _, _, _, _⟩ := row_true hr
  have h := List.all_eq_true.1 zero_rows k (List.mem_range.2 hk)
  rw [hr] at h
  simp only [Bool.and_eq_true, decide_eq_true_eq] at h
  rw [h.1, prog_zero x r.1 s hx r1 he, h.2]
  have hc : 0 < 18446744073709551616 * denOf (348 + k) := Nat.mul_pos (by decide) (denOf_pos _)
  rw [← unr_scale (x * r.1) (2 ^ s * 18446744073709551616) _ hc]
  congr 1
  · rw [Nat.mul_assoc, Nat.mul_assoc]
  · have : (340282366920938463463374607431768211456 : Nat) = 18446744073709551616 * 18446744073709551616 := by decide
    rw [this, Nat.mul_comm (denOf _), Nat.mul_assoc, Nat.mul_assoc, Nat.mul_assoc]
end Go.Proofs.YthjfdhkahmlolaaGreatDoor.Usc
