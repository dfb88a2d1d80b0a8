/- Unrounded scaling, plainly: when it is exact; certificates by neighbouring fractions. -/
import Derived.Test.YthjfdhkahmlolaaGreatDoorSfa
namespace Go.Proofs.YthjfdhkahmlolaaGreatDoor.Usc

/-- num / den, the last bit set too if it is not whole -/
def unr (num den : Nat) : Nat := (num / den) ||| (if num % den = 0 then 0 else 1)

theorem far_id1 (x y la lb ra rb : Int) (hd : ra * lb = la * rb + 1) : x = (ra * x - rb * y) * lb - (la * x - lb * y) * rb := by grind
theorem far_id2 (x y a M la lb ra rb : Int) (hd : ra * lb = la * rb + 1) : x * a - y * M = (ra * x - rb * y) * (lb * a - la * M) + (la * x - lb * y) * (ra * M - rb * a) := by grind

theorem mul_np {i b : Int} (h : i ≤ 0) (hb : 0 ≤ b) : i * b ≤ 0 := by
  have := Int.mul_le_mul_of_nonneg_right h hb; simpa using this
theorem mul_nn {i b : Int} (h : 0 ≤ i) (hb : 0 ≤ b) : 0 ≤ i * b := Int.mul_nonneg h hb
theorem mul_ge {i b : Int} (h : 1 ≤ i) (hb : 0 ≤ b) : b ≤ i * b := by
  have := Int.mul_le_mul_of_nonneg_right h hb; simpa using this

/-- what lies below: x a - y M, where y is the whole part -/
theorem far_low {x y a M la lb ra rb : Int} (hd : ra * lb = la * rb + 1) (hx : 0 < x) (hxl : x < lb + rb) (hL : 0 ≤ lb * a - la * M) (hR : 0 < ra * M - rb * a) (hlb : 0 ≤ lb) (hrb : 0 ≤ rb) (hN : 0 ≤ x * a - y * M) :
    ∃ i j : Int, 1 ≤ i ∧ 0 ≤ j ∧ x = i * lb - j * rb ∧ x * a - y * M = i * (lb * a - la * M) + j * (ra * M - rb * a) := by
  have e1 := far_id1 x y la lb ra rb hd
  have e2 := far_id2 x y a M la lb ra rb hd
  refine ⟨ra * x - rb * y, la * x - lb * y, ?_, ?_, e1, e2⟩
  · generalize ra * x - rb * y = i at *
    generalize la * x - lb * y = j at *
    generalize lb * a - la * M = L at *
    generalize ra * M - rb * a = R at *
    rcases Int.lt_or_le i 1 with hi | hi
    · exfalso
      have h1 := mul_np (i := i) (b := lb) (by omega) hlb
      have h2 := mul_np (i := i) (b := L) (by omega) hL
      rcases Int.lt_or_le j 0 with hj | hj
      · have h3 := mul_ge (i := -j) (b := R) (by omega) (by omega)
        rw [Int.neg_mul] at h3
        omega
      · have h3 := mul_nn hj hrb
        omega
    · exact hi
  · generalize ra * x - rb * y = i at *
    generalize la * x - lb * y = j at *
    generalize lb * a - la * M = L at *
    generalize ra * M - rb * a = R at *
    rcases Int.lt_or_le j 0 with hj | hj
    · exfalso
      have h4 := mul_ge (i := -j) (b := rb) (by omega) hrb
      rw [Int.neg_mul] at h4
      rcases Int.lt_or_le i 1 with hi | hi
      · have h2 := mul_np (i := i) (b := L) (by omega) hL
        have h3 := mul_ge (i := -j) (b := R) (by omega) (by omega)
        rw [Int.neg_mul] at h3
        omega
      · have h5 := mul_ge hi hlb
        omega
    · exact hj
/-- what lies above: y' M - x a -/
theorem far_up {x y a M la lb ra rb : Int} (hd : ra * lb = la * rb + 1) (hx : 0 < x) (hxl : x < lb + rb) (hL : 0 ≤ lb * a - la * M) (hR : 0 < ra * M - rb * a) (hlb : 0 ≤ lb) (hrb : 0 ≤ rb) (hN : 0 < y * M - x * a) :
    x * (ra * M - rb * a) ≤ (y * M - x * a) * rb := by
  have e1 := far_id1 x y la lb ra rb hd
  have e2 := far_id2 x y a M la lb ra rb hd
  have key : ∀ i j L R N : Int, 0 ≤ L → 0 < R → x = i * lb - j * rb → N = -(i * L + j * R) → 0 < N → x * R ≤ N * rb := by
    intro i j L R N hL hR e1 e2 hN
    have hj : j ≤ -1 := by
      rcases Int.lt_or_le (-1) j with hj | hj
      · exfalso
        have h3 := mul_nn (i := j) (b := R) (by omega) (by omega)
        rcases Int.lt_or_le i 1 with hi | hi
        · have h1 := mul_np (i := i) (b := lb) (by omega) hlb
          have h2 := mul_nn (i := j) (b := rb) (by omega) hrb
          omega
        · have h1 := mul_nn (i := i) (b := L) (by omega) hL
          omega
      · exact hj
    have hi : i ≤ 0 := by
      rcases Int.lt_or_le 0 i with hi | hi
      · exfalso
        have h1 := mul_ge (i := i) (b := lb) (by omega) hlb
        have h2 := mul_ge (i := -j) (b := rb) (by omega) hrb
        rw [Int.neg_mul] at h2
        omega
      · exact hi
    -- x <= -j rb ; N >= -j R
    have h1 := mul_np hi hlb
    have h2 := mul_np hi hL
    have h3 : x ≤ (-j) * rb := by rw [Int.neg_mul]; omega
    have h4 : (-j) * R ≤ N := by rw [Int.neg_mul]; omega
    have h5 := Int.mul_le_mul_of_nonneg_right h3 (Int.le_of_lt hR)
    have h6 := Int.mul_le_mul_of_nonneg_right h4 hrb
    have h7 : (-j) * rb * R = (-j) * R * rb := by grind
    omega
  exact key (ra * x - rb * y) (la * x - lb * y) _ _ _ hL hR e1 (by omega) hN
end Go.Proofs.YthjfdhkahmlolaaGreatDoor.Usc
