/- How near a pair's Total is to the exact sum: whole numbers, plainly. -/
import Derived.Test.YtgcjhdcplmfjbaaBnd2
namespace Go.Proofs.Ytgcjhdcplmfjbaa.Flt
open Ieee

/-- a pair's sum S, its rest C, after k roundings of the rest; X: the exact sum, A: that of the magnitudes -/
structure PI (S C X : Int) (A k : Nat) : Prop where
  x : X.natAbs ≤ A
  r : 18014398509481984 * (X - S).natAbs ≤ 3 * (k * A)
  e : 100 * (81129638414606681695789005144064 * (C - (X - S)).natAbs) ≤ 170 * (k * (k * A))
  kk : k ≤ 17179869184
theorem PI.zero : PI 0 0 0 0 0 := ⟨by decide, by decide, by decide, by decide⟩
theorem PI.mono {S C X : Int} {A k k' : Nat} (h : PI S C X A k) (hk : k ≤ k') (hb : k' ≤ 17179869184) : PI S C X A k' := by
  have h1 : k * A ≤ k' * A := Nat.mul_le_mul_right _ hk
  have h2 : k * (k * A) ≤ k' * (k' * A) := Nat.mul_le_mul hk h1
  exact ⟨h.x, by have := h.r; omega, by have := h.e; omega, hb⟩
theorem PI.kA {S C X : Int} {A k : Nat} (h : PI S C X A k) : k * A ≤ 17179869184 * A ∧ k * (k * A) ≤ 17179869184 * (k * A) := ⟨Nat.mul_le_mul_right _ h.kk, Nat.mul_le_mul_right _ h.kk⟩
theorem PI.s {S C X : Int} {A k : Nat} (h : PI S C X A k) : 2 * S.natAbs ≤ 3 * A := by
  obtain ⟨q1, q2⟩ := h.kA
  have := h.x; have := h.r
  generalize k * A = u at *
  omega
theorem PI.c {S C X : Int} {A k : Nat} (h : PI S C X A k) : 90071992547409920 * C.natAbs ≤ 16 * (k * A) := by
  obtain ⟨q1, q2⟩ := h.kA
  have h2 := h.r; have h3 := h.e
  generalize k * (k * A) = v at *
  generalize k * A = u at *
  generalize X - S = R at *
  omega
theorem near (z : Int) : 9007199254740992 * (rz z - z).natAbs ≤ z.natAbs := rz_near z
theorem tri (a b : Int) : (a + b).natAbs ≤ a.natAbs + b.natAbs := Int.natAbs_add_le a b
/-- the sum of two, and what was lost -/
theorem step_loss {S S' : Int} {A A' : Nat} (h : 2 * S.natAbs ≤ 3 * A) (h' : 2 * S'.natAbs ≤ 3 * A') : 18014398509481984 * (S + S' - rz (S + S')).natAbs ≤ 3 * (A + A') := by
  have n := near (S + S')
  have t := tri S S'
  have e : (S + S' - rz (S + S')).natAbs = (rz (S + S') - (S + S')).natAbs := by rw [← Int.natAbs_neg]; congr 1; omega
  rw [e]
  generalize (rz (S + S') - (S + S')).natAbs = l at *
  generalize (S + S').natAbs = v at *
  omega
/-- one more float -/
theorem PI.add {S C X x : Int} {A a k : Nat} (h : PI S C X A k) (hx : x.natAbs = a) (hk : k + 1 ≤ 17179869184) :
    PI (rz (S + x)) (rz (C + (S + x - rz (S + x)))) (X + x) (A + a) (k + 1) := by
  have hl : 18014398509481984 * (S + x - rz (S + x)).natAbs ≤ 3 * (A + a) := step_loss h.s (by omega)
  have hc := h.c
  have n2 := near (C + (S + x - rz (S + x)))
  have t1 := tri C (S + x - rz (S + x))
  have t2 : (X + x - rz (S + x)).natAbs ≤ (X - S).natAbs + (S + x - rz (S + x)).natAbs := by
    have := tri (X - S) (S + x - rz (S + x))
    rwa [show X - S + (S + x - rz (S + x)) = X + x - rz (S + x) by omega] at this
  have t3 : (rz (C + (S + x - rz (S + x))) - (X + x - rz (S + x))).natAbs ≤ (rz (C + (S + x - rz (S + x))) - (C + (S + x - rz (S + x)))).natAbs + (C - (X - S)).natAbs := by
    have := tri (rz (C + (S + x - rz (S + x))) - (C + (S + x - rz (S + x)))) (C - (X - S))
    rwa [show rz (C + (S + x - rz (S + x))) - (C + (S + x - rz (S + x))) + (C - (X - S)) = rz (C + (S + x - rz (S + x))) - (X + x - rz (S + x)) by omega] at this
  have t4 := tri X x
  rw [hx] at t4
  have h0 := h.x; have h1 := h.r; have h2 := h.e
  have m1 : (k + 1) * (A + a) = k * A + k * a + (A + a) := by rw [Nat.add_mul, Nat.mul_add, Nat.one_mul]
  have m2 : (k + 1) * ((k + 1) * (A + a)) = k * (k * A) + k * (k * a) + (k * A + k * a) + (k * A + k * a + (A + a)) := by
    rw [m1, Nat.add_mul, Nat.one_mul, Nat.mul_add, Nat.mul_add, Nat.mul_add]
  have hx' : x.natAbs = a := hx
  refine ⟨by omega, ?_, ?_, hk⟩
  all_goals
    generalize (X + x - rz (S + x)).natAbs = y1 at *
    generalize (rz (C + (S + x - rz (S + x))) - (X + x - rz (S + x))).natAbs = y2 at *
    generalize (rz (C + (S + x - rz (S + x))) - (C + (S + x - rz (S + x)))).natAbs = y3 at *
    generalize (C + (S + x - rz (S + x))).natAbs = y4 at *
    generalize (S + x - rz (S + x)).natAbs = y5 at *
    generalize (C - (X - S)).natAbs = y6 at *
    generalize (X - S).natAbs = y7 at *
    generalize C.natAbs = y8 at *
  · rw [m1]
    generalize k * A = u at *
    clear m1 m2 h2 n2 t3 hc t1 t4 hx'
    omega
  · rw [m2]
    clear m1 m2 h1 t2 t4 hx' h0 hk hx
    generalize k * (k * A) = v at *
    generalize k * A = u at *
    -- 2^53 y3 ≤ y4 ≤ y8 + y5; 10 2^53 y8 ≤ 16 u; 2 2^53 y5 ≤ 3 (A + a)
    have g1 : 90071992547409920 * y4 ≤ 16 * u + 15 * (A + a) := by omega
    have g2 : 811296384146066816957890051440640 * y3 ≤ 16 * u + 15 * (A + a) := by omega
    clear n2 t1 hl hc g1
    omega
/-- two pairs -/
theorem PI.merge {S C X S' C' X' : Int} {A A' k k' : Nat} (h : PI S C X A k) (h' : PI S' C' X' A' k') (hk : k + k' + 2 ≤ 17179869184) :
    PI (rz (S + S')) (rz (rz (C + C') + (S + S' - rz (S + S')))) (X + X') (A + A') (k + k' + 2) := by
  have hl := step_loss h.s h'.s
  have hc := h.c; have hc' := h'.c
  have n2 := near (C + C')
  have n3 := near (rz (C + C') + (S + S' - rz (S + S')))
  have t1 := tri C C'
  have t2 : (X + X' - rz (S + S')).natAbs ≤ (X - S).natAbs + (X' - S').natAbs + (S + S' - rz (S + S')).natAbs := by
    have a1 := tri (X - S + (X' - S')) (S + S' - rz (S + S'))
    have a2 := tri (X - S) (X' - S')
    rw [show X - S + (X' - S') + (S + S' - rz (S + S')) = X + X' - rz (S + S') by omega] at a1
    omega
  have t5 : (rz (C + C') + (S + S' - rz (S + S'))).natAbs ≤ C.natAbs + C'.natAbs + (rz (C + C') - (C + C')).natAbs + (S + S' - rz (S + S')).natAbs := by
    have a1 := tri (rz (C + C')) (S + S' - rz (S + S'))
    have a2 := tri (rz (C + C') - (C + C')) (C + C')
    rw [show rz (C + C') - (C + C') + (C + C') = rz (C + C') by omega] at a2
    omega
  have t3 : (rz (rz (C + C') + (S + S' - rz (S + S'))) - (X + X' - rz (S + S'))).natAbs ≤ (rz (rz (C + C') + (S + S' - rz (S + S'))) - (rz (C + C') + (S + S' - rz (S + S')))).natAbs + (rz (C + C') - (C + C')).natAbs + (C - (X - S)).natAbs + (C' - (X' - S')).natAbs := by
    have a1 := tri (rz (rz (C + C') + (S + S' - rz (S + S'))) - (rz (C + C') + (S + S' - rz (S + S')))) (rz (C + C') - (C + C') + (C - (X - S) + (C' - (X' - S'))))
    have a2 := tri (rz (C + C') - (C + C')) (C - (X - S) + (C' - (X' - S')))
    have a3 := tri (C - (X - S)) (C' - (X' - S'))
    rw [show rz (rz (C + C') + (S + S' - rz (S + S'))) - (rz (C + C') + (S + S' - rz (S + S'))) + (rz (C + C') - (C + C') + (C - (X - S) + (C' - (X' - S')))) = rz (rz (C + C') + (S + S' - rz (S + S'))) - (X + X' - rz (S + S')) by omega] at a1
    omega
  have t4 := tri X X'
  have h0 := h.x; have h1 := h.r; have h2 := h.e
  have h0' := h'.x; have h1' := h'.r; have h2' := h'.e
  have m1 : (k + k' + 2) * (A + A') = k * A + k * A' + (k' * A + k' * A') + (2 * A + 2 * A') := by rw [Nat.add_mul, Nat.add_mul, Nat.mul_add, Nat.mul_add, Nat.mul_add]
  have m2 : k * (k * A) + k' * (k' * A') + 4 * (k * A + k' * A') + 4 * (A + A') ≤ (k + k' + 2) * ((k + k' + 2) * (A + A')) := by
    have e : (k + k' + 2) * ((k + k' + 2) * (A + A')) = k * ((k + k' + 2) * (A + A')) + k' * ((k + k' + 2) * (A + A')) + 2 * ((k + k' + 2) * (A + A')) := by rw [Nat.add_mul, Nat.add_mul]
    rw [e, m1]
    have e1 : k * (k * A + k * A' + (k' * A + k' * A') + (2 * A + 2 * A')) = k * (k * A) + k * (k * A') + (k * (k' * A) + k * (k' * A')) + (k * (2 * A) + k * (2 * A')) := by simp only [Nat.mul_add]
    have e2 : k' * (k * A + k * A' + (k' * A + k' * A') + (2 * A + 2 * A')) = k' * (k * A) + k' * (k * A') + (k' * (k' * A) + k' * (k' * A')) + (k' * (2 * A) + k' * (2 * A')) := by simp only [Nat.mul_add]
    rw [e1, e2, Nat.mul_left_comm k 2 A, Nat.mul_left_comm k 2 A', Nat.mul_left_comm k' 2 A, Nat.mul_left_comm k' 2 A']
    clear m1 h0 h1 h2 h0' h1' h2' hl hc hc' n2 n3 t1 t2 t3 t4 t5 e e1 e2 hk h h'
    omega
  refine ⟨by omega, ?_, ?_, hk⟩
  all_goals
    generalize (rz (rz (C + C') + (S + S' - rz (S + S'))) - (X + X' - rz (S + S'))).natAbs = y2 at *
    generalize (rz (rz (C + C') + (S + S' - rz (S + S'))) - (rz (C + C') + (S + S' - rz (S + S')))).natAbs = y3 at *
    generalize (rz (C + C') + (S + S' - rz (S + S'))).natAbs = y4 at *
    generalize (X + X' - rz (S + S')).natAbs = y1 at *
    generalize (S + S' - rz (S + S')).natAbs = y5 at *
    generalize (rz (C + C') - (C + C')).natAbs = y9 at *
    generalize (C + C').natAbs = y10 at *
    generalize (C - (X - S)).natAbs = y6 at *
    generalize (C' - (X' - S')).natAbs = y6' at *
    generalize (X - S).natAbs = y7 at *
    generalize (X' - S').natAbs = y7' at *
    generalize C.natAbs = y8 at *
    generalize C'.natAbs = y8' at *
  · rw [m1]
    clear m1 m2 h2 h2' n2 n3 t3 hc hc' t1 t4 t5 h0 h0' hk h h'
    generalize k * A = u at *
    generalize k' * A' = u' at *
    omega
  · refine Nat.le_trans ?_ (Nat.mul_le_mul_left 170 m2)
    clear m1 m2 h1 h1' t2 t4 h0 h0' hk h h'
    generalize k * (k * A) = v at *
    generalize k' * (k' * A') = v' at *
    generalize k * A = u at *
    generalize k' * A' = u' at *
    have g1 : 90071992547409920 * y10 ≤ 16 * (u + u') := by omega
    have g2 : 811296384146066816957890051440640 * y9 ≤ 16 * (u + u') := by omega
    have g3 : 90071992547409920 * y4 ≤ 17 * (u + u') + 16 * (A + A') := by omega
    have g4 : 811296384146066816957890051440640 * y3 ≤ 17 * (u + u') + 16 * (A + A') := by omega
    clear n2 n3 t1 t5 hl hc hc' g1 g3
    omega
/-- what Total promises -/
theorem PI.total {S C X : Int} {A k : Nat} (h : PI S C X A k) : 81129638414606681695789005144064 * (rz (S + C) - X).natAbs ≤ 9007199254740992 * X.natAbs + 2 * (k * (k * A)) := by
  have n1 := near (S + C)
  have h2 := h.e
  generalize rz (S + C) = T at *
  generalize k * (k * A) = v at *
  omega
end Go.Proofs.Ytgcjhdcplmfjbaa.Flt
