/- What printing scales at subnormal numbers: the row 324 at the shifts 9 .. 58. -/
import Derived.Test.YthjfdhkahmlolaaGreatDoorUsx
namespace Go.Proofs.YthjfdhkahmlolaaGreatDoor.Usc
theorem uscale_far {x i s : Nat} {r : Nat × Nat} (hr : Go.Pinned.pow10Rows[i]? = some r) (hk : printOk r s = true) (hx : 9007199254740992 ≤ x ∧ x < 18014398509481984) :
    uscaleN (1024 * x) r.1 r.2 s = unr (1024 * x * numOf i) (denOf i * (2 ^ s * 340282366920938463463374607431768211456)) := by
  obtain ⟨r1, r2, r3, r4, r5⟩ := row_true hr
  unfold printOk at hk
  have hM : 0 < 2 ^ (s + 118) := Nat.pow_pos (by decide)
  obtain ⟨f1, f2⟩ := far_of hk (x := x) hx.1 (by omega) hM
  have hM1 : 0 < 1024 * 2 ^ (s + 118) := by omega
  have em : 1024 * x * (r.1 * 18446744073709551616 - r.2) % (1024 * 2 ^ (s + 118)) = 1024 * (x * (r.1 * 18446744073709551616 - r.2) % 2 ^ (s + 118)) := by
    rw [Nat.mul_assoc, Nat.mul_mod_mul_left]
  have hbig : 18014398509481984 ≤ 2 ^ (s + 118) := Nat.le_trans (by decide) (Nat.pow_le_pow_right (by decide) (by omega : 54 ≤ s + 118))
  have g1 := prog_far (1024 * x) r.1 r.2 s (by omega) r1 r2 r3 (by rw [pow_shift, em]; omega) (by rw [pow_shift, em]; omega)
  have g2 := unr_far (x := 1024 * x) (P := numOf i) (Q := denOf i) (M := 1024 * 2 ^ (s + 118)) (pm := r.1 * 18446744073709551616 - r.2) (denOf_pos i) hM1 r4 r5 (by omega) (by omega) (by rw [em]; omega)
  rw [pow_shift] at g1 ⊢
  rw [g1, g2]
theorem sub_ok : (List.range 50).all (fun j => match Go.Pinned.pow10Rows[672]? with | some r => printOk r (9 + j) | none => false) = true := by kernel_rfl
theorem uscale_sub {x s : Nat} {r : Nat × Nat} (hr : Go.Pinned.pow10Rows[672]? = some r) (hs : 9 ≤ s ∧ s ≤ 58) (hx : 9007199254740992 ≤ x ∧ x < 18014398509481984) :
    uscaleN (1024 * x) r.1 r.2 s = unr (1024 * x * numOf 672) (denOf 672 * (2 ^ s * 340282366920938463463374607431768211456)) := by
  have h := List.all_eq_true.1 sub_ok (s - 9) (List.mem_range.2 (by omega))
  rw [hr, show 9 + (s - 9) = s by omega] at h
  exact uscale_far hr h hx
end Go.Proofs.YthjfdhkahmlolaaGreatDoor.Usc
