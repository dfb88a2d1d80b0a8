/- The table of powers of ten, row by row: each is the least whole number not below ten's power at 128 places. Plain arithmetic, by the kernel. -/
import Derived.Test.YthjfdhkahmlolaaGreatDoorUsn
import GoSem.PinnedTables
import Derived.KernelRfl
namespace Go.Proofs.YthjfdhkahmlolaaGreatDoor.Usc

/-- the row i is 10^(i-348) at 128 places, rounded up: with lp the power's binary exponent -/
def rowOk (i : Nat) (x : Nat × Nat) : Bool :=
  let p : Int := (i : Int) - 348
  let lp : Int := Int.shiftRight (p * 108853) 15
  let k : Int := 127 - lp
  let num := 10 ^ p.toNat * 2 ^ k.toNat
  let den := 10 ^ (-p).toNat * 2 ^ (-k).toNat
  let pm := x.1 * 18446744073709551616 - x.2
  decide (x.1 < 18446744073709551616) && decide (x.2 < 18446744073709551616) &&
    decide (170141183460469231731687303715884105728 ≤ pm) && decide (pm < 340282366920938463463374607431768211456) &&
    decide (num ≤ pm * den) && decide (pm * den < num + den)
def rowsOk : Nat → List (Nat × Nat) → Bool
  | _, [] => true
  | i, x :: l => rowOk i x && rowsOk (i + 1) l
theorem table_ok : rowsOk 0 Go.Pinned.pow10Rows = true := by kernel_rfl
theorem rowsOk_at : ∀ (l : List (Nat × Nat)) (i k : Nat) (x : Nat × Nat), rowsOk i l = true → l[k]? = some x → rowOk (i + k) x = true
  | [], _, _, _, _, h => by simp at h
  | y :: l, i, 0, x, h, e => by
    simp at e; subst e
    unfold rowsOk at h; rw [Bool.and_eq_true] at h
    exact h.1
  | y :: l, i, k + 1, x, h, e => by
    unfold rowsOk at h; rw [Bool.and_eq_true] at h
    have := rowsOk_at l (i + 1) k x h.2 (by simpa using e)
    rwa [Nat.add_assoc, Nat.add_comm 1 k] at this
end Go.Proofs.YthjfdhkahmlolaaGreatDoor.Usc
