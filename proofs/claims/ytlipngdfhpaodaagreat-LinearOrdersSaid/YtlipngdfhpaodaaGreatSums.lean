/- Sums of 128 bits: no program in sight. -/
import Derived.Test.YtlipngdfhpaodaaGreatFixed
namespace Go.Proofs.YtlipngdfhpaodaaGreat
open Go.RowKit

/-- the number that two halves are, brought round -/
def T (hi lo : Int) : Int := (hi * 18446744073709551616 + lo) % 340282366920938463463374607431768211456
theorem T_inj {h1 l1 h2 l2 : Int} (e : T h1 l1 = T h2 l2) (a1 : 0 ≤ l1) (a2 : l1 ≤ 18446744073709551615) (b1 : 0 ≤ l2) (b2 : l2 ≤ 18446744073709551615)
    (c1 : -9223372036854775808 ≤ h1) (c2 : h1 ≤ 9223372036854775807) (d1 : -9223372036854775808 ≤ h2) (d2 : h2 ≤ 9223372036854775807) : h1 = h2 ∧ l1 = l2 := by
  unfold T at e; omega
theorem hi_range (ah al bh bl : Int) : -9223372036854775808 ≤ hiSum ah al bh bl ∧ hiSum ah al bh bl ≤ 9223372036854775807 := by unfold hiSum wrap64; omega
theorem T_sum (ah al bh bl : Int) (a1 : 0 ≤ al) (a2 : al ≤ 18446744073709551615) (b1 : 0 ≤ bl) (b2 : bl ≤ 18446744073709551615) :
    T (hiSum ah al bh bl) (loSum al bl : Nat) = (T ah al + T bh bl) % 340282366920938463463374607431768211456 := by
  obtain ⟨c, hc, hlo⟩ : ∃ c : Nat, c = carOf (al.toNat + bl.toNat) ∧ ((loSum al bl : Nat) : Int) + 18446744073709551616 * c = al + bl := by
    refine ⟨_, rfl, ?_⟩
    unfold loSum lowOf carOf; omega
  have hhi : ∃ q : Int, hiSum ah al bh bl = ah + bh + c + 18446744073709551616 * q := by
    unfold hiSum
    rw [← hc, u64_mod, u64_mod]
    have e1 : ∃ q1 : Int, (((ah % 18446744073709551616).toNat + (bh % 18446744073709551616).toNat + c : Nat) : Int) = ah + bh + c + 18446744073709551616 * q1 := ⟨-(ah / 18446744073709551616) - bh / 18446744073709551616, by omega⟩
    obtain ⟨q1, e1⟩ := e1
    generalize ((ah % 18446744073709551616).toNat + (bh % 18446744073709551616).toNat + c : Nat) = s at *
    have e2 : ∃ q2 : Int, wrap64 (lowOf s : Nat) = (s : Int) + 18446744073709551616 * q2 := by
      unfold wrap64 lowOf
      exact ⟨-((s : Int) / 18446744073709551616) - (((s : Int) % 18446744073709551616 + 9223372036854775808) / 18446744073709551616), by omega⟩
    obtain ⟨q2, e2⟩ := e2
    exact ⟨q1 + q2, by omega⟩
  obtain ⟨q, hq⟩ := hhi
  generalize hiSum ah al bh bl = hi at *
  generalize ((loSum al bl : Nat) : Int) = lo at *
  clear hc
  unfold T
  omega
theorem T_add (x y n : Int) (h0 : 0 ≤ n) (h1 : n ≤ 9223372036854775807) :
    T (if carry x n then add64 y 1 else y) (IntKind.u64.wrap (add64 x n)) = (T y (IntKind.u64.wrap x) + n) % 340282366920938463463374607431768211456 := by
  cases hc : carry x n with
  | true =>
    have hc' : IntKind.u64.wrap (IntKind.u64.wrap x + IntKind.u64.wrap n) < IntKind.u64.wrap x := of_decide_eq_true hc
    simp only [if_true]
    rw [u64_mod, u64_mod, u64_mod] at hc'
    rw [u64_mod, u64_mod]
    unfold T add64 wrap64
    omega
  | false =>
    have hc' : ¬ IntKind.u64.wrap (IntKind.u64.wrap x + IntKind.u64.wrap n) < IntKind.u64.wrap x := of_decide_eq_false hc
    simp only [Bool.false_eq_true, if_false]
    rw [u64_mod, u64_mod, u64_mod] at hc'
    rw [u64_mod, u64_mod]
    unfold T add64 wrap64
    omega
/-- the law's own sum, a number more -/
theorem T_law (hi lo n : Int) (a1 : 0 ≤ lo) (a2 : lo ≤ 18446744073709551615) (h0 : 0 ≤ n) (h1 : n ≤ 9223372036854775807) :
    T (if IntKind.u64.wrap (lo + n) < n then wrap64 (hi + 1) else hi) (IntKind.u64.wrap (lo + n)) = (T hi lo + n) % 340282366920938463463374607431768211456 := by
  rw [u64_mod]
  split
  · unfold T wrap64; omega
  · unfold T; omega
/-- what the stripes hold together, of n stripes -/
def tot (V : Nat → Nat → Int) : Nat → Int
  | 0 => 0
  | n + 1 => (tot V n + T (V n 1) (IntKind.u64.wrap (V n 0))) % 340282366920938463463374607431768211456
theorem u64_ge (x : Int) : 0 ≤ IntKind.u64.wrap x := by rw [u64_mod]; omega
theorem sumTo_ge (V : Nat → Nat → Int) (n : Nat) : 0 ≤ (sumTo V n).2 := by
  cases n with
  | zero => simp [sumTo]
  | succ n => exact Int.natCast_nonneg _
theorem sumTo_hi (V : Nat → Nat → Int) (n : Nat) : -9223372036854775808 ≤ (sumTo V n).1 ∧ (sumTo V n).1 ≤ 9223372036854775807 := by
  cases n with
  | zero => simp [sumTo]
  | succ n => exact hi_range _ _ _ _
theorem T_sumTo (V : Nat → Nat → Int) (n : Nat) : T (sumTo V n).1 (sumTo V n).2 = tot V n := by
  induction n with
  | zero => rfl
  | succ n ih =>
    show T (hiSum (sumTo V n).1 (sumTo V n).2 (V n 1) (IntKind.u64.wrap (V n 0))) (loSum (sumTo V n).2 (IntKind.u64.wrap (V n 0)) : Nat) = (tot V n + T (V n 1) (IntKind.u64.wrap (V n 0))) % _
    rw [T_sum _ _ _ _ (sumTo_ge V n) (sumTo_le V n) (u64_ge _) (u64_le _), ih]
theorem tot_congr {V V' : Nat → Nat → Int} (n : Nat) (h : ∀ i, i < n → V i 0 = V' i 0 ∧ V i 1 = V' i 1) : tot V n = tot V' n := by
  induction n with
  | zero => rfl
  | succ n ih =>
    show (tot V n + T (V n 1) (IntKind.u64.wrap (V n 0))) % _ = (tot V' n + T (V' n 1) (IntKind.u64.wrap (V' n 0))) % _
    rw [ih (fun i hi => h i (by omega)), (h n (by omega)).1, (h n (by omega)).2]
theorem T_range (hi lo : Int) : 0 ≤ T hi lo ∧ T hi lo < 340282366920938463463374607431768211456 := by unfold T; omega
theorem tot_range (V : Nat → Nat → Int) (n : Nat) : 0 ≤ tot V n ∧ tot V n < 340282366920938463463374607431768211456 := by
  cases n with
  | zero => simp [tot]
  | succ n => simp only [tot]; omega
/-- a record into the stripe i is a record into them all -/
theorem tot_add (V : Nat → Nat → Nat → Int) (b i st : Nat) (hi : i < st) (n : Int) (h0 : 0 ≤ n) (h1 : n ≤ 9223372036854775807) :
    tot (addV V b i n b) st = (tot (V b) st + n) % 340282366920938463463374607431768211456 := by
  induction st with
  | zero => omega
  | succ st ih =>
    simp only [tot]
    by_cases e : i = st
    · subst e
      have hc : tot (addV V b i n b) i = tot (V b) i := tot_congr i fun j hj => by
        unfold addV; rw [upd2_ne _ _ (by omega)]; exact ⟨rfl, rfl⟩
      have e0 : addV V b i n b i 0 = add64 (V b i 0) n := by unfold addV; rw [upd2_same, upd_ne _ _ (by decide), upd_same]
      have e1 : addV V b i n b i 1 = (if carry (V b i 0) n then add64 (V b i 1) 1 else V b i 1) := by unfold addV; rw [upd2_same, upd_same]
      rw [hc, e0, e1, T_add _ _ _ h0 h1]
      have := tot_range (V b) i
      have := T_range (V b i 1) (IntKind.u64.wrap (V b i 0))
      omega
    · have hc : addV V b i n b st = V b st := by unfold addV; rw [upd2_ne _ _ (by omega)]
      rw [ih (by omega), hc]
      have := tot_range (V b) st
      have := T_range (V b st 1) (IntKind.u64.wrap (V b st 0))
      omega
theorem tot_zero (V : Nat → Nat → Int) (n : Nat) (h : ∀ i, i < n → V i 0 = 0 ∧ V i 1 = 0) : tot V n = 0 := by
  induction n with
  | zero => rfl
  | succ n ih =>
    simp only [tot]
    rw [ih (fun i hi => h i (by omega)), (h n (by omega)).1, (h n (by omega)).2]; kernel_rfl
end Go.Proofs.YtlipngdfhpaodaaGreat
