/- What the sum of two floats has lost is had exactly: by what floats stand for. -/
import Derived.Test.YtgcjhdcplmfjbaaBnd1
namespace Go.Proofs.Ytgcjhdcplmfjbaa.Flt
open Ieee

/-- a whole number, rounded -/
def rz (z : Int) : Int := if z < 0 then -(rnd z.natAbs : Int) else (rnd z.natAbs : Int)
theorem rz_abs (z : Int) : (rz z).natAbs = rnd z.natAbs := by unfold rz; split <;> omega
theorem rz_neg (z : Int) : rz (-z) = -rz z := by
  unfold rz
  have e : (-z).natAbs = z.natAbs := by omega
  rw [e]
  by_cases h0 : z = 0
  · subst h0
    have : rnd (Int.natAbs 0) = 0 := by decide
    rw [this]; rfl
  · by_cases h : z < 0
    · rw [if_pos h, if_neg (by omega)]; omega
    · rw [if_neg h, if_pos (by omega)]
theorem rz_near (z : Int) : 2 ^ 53 * (rz z - z).natAbs ≤ z.natAbs := by
  obtain ⟨a, b⟩ := rnd_near z.natAbs
  unfold rz
  generalize rnd z.natAbs = r at *
  split <;> omega
/-- a whole number that a float may stand for -/
def Rz (z : Int) : Prop := Rp z.natAbs
theorem rz_rp {z : Int} (h : Rz z) : rz z = z := by
  unfold rz; rw [rnd_rp h]; split <;> omega
theorem rp_sig (g : Nat) : V g = sig g * 2 ^ (ex g + 1074).toNat ∧ sig g < 2 ^ 53 ∧ (0 < (ex g + 1074).toNat → 2 ^ 52 ≤ sig g) := by
  refine ⟨rfl, sig_lt g, fun h => sig_ge (by have := ex_ge g; omega)⟩
theorem val_abs (x : Nat) : (val x).natAbs = V (mag x) := by unfold val; split <;> omega
theorem val_rz (x : Nat) : Rz (val x) := by
  unfold Rz; rw [val_abs]
  exact ⟨_, _, rfl, sig_lt _⟩
theorem word_val (s : Bool) (r : Nat) (h : r < 9223372036854775808) : val (D.word s r) = if s then -(V r : Int) else (V r : Int) := by
  unfold val; rw [word_neg s r h, word_mag s r h]
theorem rnd_pos {n : Nat} (h : rnd n = 0) : n = 0 := by
  have := (rnd_near n).2
  rw [h] at this; omega
/-- a sum, where nothing is too great -/
theorem radd_rz (x y : Nat) (hx : mag x < 9218868437227405312) (hy : mag y < 9218868437227405312) (h : (val x + val y).natAbs < BG) :
    mag (radd x y) < 9218868437227405312 ∧ val (radd x y) = rz (val x + val y) ∧ (x < 18446744073709551616 → x ≠ 9223372036854775808 → radd x y ≠ 9223372036854775808) := by
  rw [radd_val x y hx hy]
  obtain ⟨r1, r2⟩ := rung_rnd _ h
  by_cases h0 : val x + val y = 0
  · rw [if_pos h0, word_mag _ _ (by omega), word_val _ _ (by omega), V_zero, h0]
    refine ⟨by omega, ?_, fun hlt hne e => ?_⟩
    · have : rz 0 = 0 := by decide
      rw [this]; split <;> rfl
    · rw [word_eq] at e
      cases hn : (neg x && neg y) with
      | false => rw [hn] at e; simp at e
      | true =>
        have h1 : neg x = true ∧ neg y = true := by simpa using hn
        have hx0 : val x = -(V (mag x) : Int) := by unfold val; rw [h1.1]; rfl
        have hy0 : val y = -(V (mag y) : Int) := by unfold val; rw [h1.2]; rfl
        have hV : V (mag x) = 0 := by omega
        have hm := V_eq_zero.1 hV
        have hw := word_of x hlt
        rw [h1.1, hm, word_eq] at hw
        exact hne hw
  · rw [if_neg h0]
    have hlt : rung (val x + val y).natAbs (-1074) < 9223372036854775808 := by omega
    rw [word_mag _ _ hlt, word_val _ _ hlt, r2]
    refine ⟨r1, ?_, fun _ _ e => ?_⟩
    · unfold rz
      by_cases hn : val x + val y < 0
      · rw [if_pos hn, decide_eq_true hn]; rfl
      · rw [if_neg hn, decide_eq_false hn]; rfl
    · rw [word_eq] at e
      have h3 : rung (val x + val y).natAbs (-1074) = 0 := by split at e <;> omega
      have h4 : rnd (val x + val y).natAbs = 0 := by rw [← r2, h3, V_zero]
      have := rnd_pos h4
      omega

theorem abs_mul (j : Int) (p : Nat) : (j * (p : Int)).natAbs = j.natAbs * p := by rw [Int.natAbs_mul]; simp
theorem rz_of {z j : Int} {k : Nat} (h : z = j * ((2 ^ k : Nat) : Int)) (hl : z.natAbs ≤ 2 ^ 53 * 2 ^ k) : Rz z := by
  have hp := Nat.two_pow_pos k
  rw [h, abs_mul] at hl
  have hj : j.natAbs ≤ 2 ^ 53 := Nat.le_of_mul_le_mul_right hl hp
  unfold Rz
  rw [h, abs_mul]
  by_cases e : j.natAbs = 2 ^ 53
  · refine ⟨2 ^ 52, k + 1, ?_, by decide⟩
    rw [e, Nat.pow_succ 2 k, Nat.mul_comm (2 ^ k) 2, ← Nat.mul_assoc]
  · exact ⟨j.natAbs, k, rfl, by omega⟩
theorem val_grid (x : Nat) : ∃ (j : Int), val x = j * ((2 ^ (ex (mag x) + 1074).toNat : Nat) : Int) ∧ j.natAbs < 2 ^ 53 := by
  unfold val V
  generalize (ex (mag x) + 1074).toNat = k
  have hs := sig_lt (mag x)
  cases neg x
  · exact ⟨(sig (mag x) : Int), by simp, by simpa using hs⟩
  · exact ⟨-(sig (mag x) : Int), by simp [Int.neg_mul], by simpa using hs⟩
/-- the two parts of a loss are had exactly -/
theorem loss_parts {A B : Int} {ja jb : Int} {ea eb : Nat} (hA : A = ja * ((2 ^ ea : Nat) : Int)) (bA : ja.natAbs < 2 ^ 53) (hB : B = jb * ((2 ^ eb : Nat) : Int)) (bB : jb.natAbs < 2 ^ 53) (he : eb ≤ ea) (hle : B.natAbs ≤ A.natAbs) :
    Rz (A - rz (A + B)) ∧ Rz (A + B - rz (A + B)) := by
  have rA : Rz A := rz_of hA (by rw [hA, abs_mul]; exact Nat.mul_le_mul_right _ (Nat.le_of_lt bA))
  have rB : Rz B := rz_of hB (by rw [hB, abs_mul]; exact Nat.mul_le_mul_right _ (Nat.le_of_lt bB))
  by_cases hs : Rz (A + B)
  · rw [rz_rp hs, show A - (A + B) = -B by omega, Int.sub_self]
    refine ⟨?_, ⟨0, 0, by decide, by decide⟩⟩
    unfold Rz at *
    rwa [Int.natAbs_neg]
  · -- the grid of the sum
    have hsum : A + B = (ja * ((2 ^ (ea - eb) : Nat) : Int) + jb) * ((2 ^ eb : Nat) : Int) := by
      rw [Int.add_mul, hB, hA, Int.mul_assoc, ← Int.natCast_mul, ← Nat.pow_add, show ea - eb + eb = ea by omega]
    have e0 : le' (A + B).natAbs ≠ 0 := fun q => hs ⟨_, 0, (Nat.mul_one _).symm, le_zero q⟩
    obtain ⟨l1, l2⟩ := le_le (Nat.pos_of_ne_zero e0)
    have e1 : eb < le' (A + B).natAbs := by
      apply Nat.lt_of_not_le; intro hlt
      refine hs (rz_of hsum (Nat.le_of_lt (Nat.lt_of_lt_of_le l2 (Nat.mul_le_mul_left _ (Nat.pow_le_pow_right (by omega) hlt)))))
    have aA : A.natAbs < 2 ^ 53 * 2 ^ ea := by rw [hA, abs_mul]; exact (Nat.mul_lt_mul_right (Nat.two_pow_pos ea)).2 bA
    have aA' : A.natAbs + 2 ^ ea ≤ 2 ^ 53 * 2 ^ ea := by
      rw [hA, abs_mul]
      have := Nat.mul_le_mul_right (2 ^ ea) (show ja.natAbs + 1 ≤ 2 ^ 53 from bA)
      rw [Nat.add_mul, Nat.one_mul] at this; exact this
    have aB : B.natAbs < 2 ^ 53 * 2 ^ eb := by rw [hB, abs_mul]; exact (Nat.mul_lt_mul_right (Nat.two_pow_pos eb)).2 bB
    have e2 : le' (A + B).natAbs ≤ ea + 1 := le_of_lt (by rw [Nat.pow_succ 2 ea]; omega)
    obtain ⟨q, hq⟩ : ∃ q : Int, rz (A + B) = q * ((2 ^ le' (A + B).natAbs : Nat) : Int) := by
      unfold rz rnd
      split
      · exact ⟨-(rne (A + B).natAbs (le' (A + B).natAbs) : Int), by rw [Int.neg_mul]; simp⟩
      · exact ⟨(rne (A + B).natAbs (le' (A + B).natAbs) : Int), by simp⟩
    have hd : 2 * (A + B - rz (A + B)).natAbs ≤ 2 ^ le' (A + B).natAbs := by
      obtain ⟨n1, n2⟩ := rne_near (A + B).natAbs (le' (A + B).natAbs)
      have : (rz (A + B)).natAbs = rne (A + B).natAbs (le' (A + B).natAbs) * 2 ^ le' (A + B).natAbs := rz_abs _
      unfold rz at this ⊢
      unfold rnd at this ⊢
      generalize rne (A + B).natAbs (le' (A + B).natAbs) * 2 ^ le' (A + B).natAbs = r at *
      split <;> omega
    generalize hT : rz (A + B) = T at *
    generalize hE : le' (A + B).natAbs = e at *
    -- powers
    have p1 : 2 ^ 53 * 2 ^ eb ≤ 2 ^ 52 * 2 ^ e := by
      have := Nat.pow_le_pow_right (show 0 < 2 by omega) (show eb + 1 ≤ e from e1)
      rw [Nat.pow_succ] at this; omega
    by_cases hea : e ≤ ea
    · have m1 : A - T = (ja * ((2 ^ (ea - e) : Nat) : Int) - q) * ((2 ^ e : Nat) : Int) := by
        rw [Int.sub_mul, ← hq, hA, Int.mul_assoc, ← Int.natCast_mul, ← Nat.pow_add, show ea - e + e = ea by omega]
      have z1 : Rz (A - T) := rz_of m1 (by omega)
      have near : (A + B - T).natAbs ≤ B.natAbs := by
        apply Nat.le_of_not_lt; intro hlt
        have h1 : (A - T).natAbs < 2 ^ e := by omega
        rw [m1, abs_mul] at h1
        have h2 : (ja * ((2 ^ (ea - e) : Nat) : Int) - q).natAbs = 0 := by
          apply Nat.eq_zero_of_le_zero; apply Nat.le_of_not_lt; intro h3
          have := Nat.mul_le_mul_right (2 ^ e) h3
          omega
        have h3 : A - T = 0 := by rw [m1, Int.natAbs_eq_zero.1 h2, Int.zero_mul]
        have h4 : A + B - T = B := by omega
        rw [h4] at hlt; omega
      refine ⟨z1, ?_⟩
      have m2 : A + B - T = (ja * ((2 ^ (ea - eb) : Nat) : Int) + jb - q * ((2 ^ (e - eb) : Nat) : Int)) * ((2 ^ eb : Nat) : Int) := by
        rw [Int.sub_mul, ← hsum, Int.mul_assoc, ← Int.natCast_mul, ← Nat.pow_add, show e - eb + eb = e by omega, ← hq]
      exact rz_of m2 (by omega)
    · obtain rfl : e = ea + 1 := by omega
      rw [Nat.pow_succ 2 ea] at hd l1 l2
      have hq' : T = (q * 2) * ((2 ^ ea : Nat) : Int) := by
        rw [hq, Nat.pow_succ 2 ea, Int.natCast_mul, Int.mul_assoc, Int.mul_comm (2 : Int)]; rfl
      have m1 : A - T = (ja - q * 2) * ((2 ^ ea : Nat) : Int) := by rw [Int.sub_mul, ← hq', ← hA]
      refine ⟨rz_of m1 (by omega), ?_⟩
      have m2 : A + B - T = (ja * ((2 ^ (ea - eb) : Nat) : Int) + jb - q * ((2 ^ (ea + 1 - eb) : Nat) : Int)) * ((2 ^ eb : Nat) : Int) := by
        rw [Int.sub_mul, ← hsum, Int.mul_assoc, ← Int.natCast_mul, ← Nat.pow_add, show ea + 1 - eb + eb = ea + 1 by omega, ← hq]
      exact rz_of m2 (by omega)
end Go.Proofs.Ytgcjhdcplmfjbaa.Flt
