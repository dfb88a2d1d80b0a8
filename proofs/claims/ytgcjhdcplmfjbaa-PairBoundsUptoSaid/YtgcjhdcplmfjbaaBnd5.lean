/- Whole numbers of any length, parts of 32 bits, the lowest first: plainly. -/
import Derived.Test.YtgcjhdcplmfjbaaBnd4
namespace Go.Proofs.Ytgcjhdcplmfjbaa.Bg

def W : Nat → Nat
  | 0 => 1
  | n + 1 => W n * 4294967296
theorem W_pos : ∀ n, 0 < W n
  | 0 => by decide
  | n + 1 => Nat.mul_pos (W_pos n) (by decide)
theorem W_add (m : Nat) : ∀ n, W (m + n) = W m * W n
  | 0 => by simp [W]
  | n + 1 => by rw [← Nat.add_assoc, W, W_add m n, W, Nat.mul_assoc]
theorem W_mono {m n : Nat} (h : m ≤ n) : W m ≤ W n := by
  obtain ⟨k, rfl⟩ := Nat.le.dest h
  rw [W_add]
  exact Nat.le_mul_of_pos_right _ (W_pos k)
/-- what n parts come to -/
def bv (d : Nat → Nat) : Nat → Nat
  | 0 => 0
  | n + 1 => bv d n + d n * W n
theorem W_succ (n : Nat) : W (n + 1) = W n * 4294967296 := rfl
theorem bv_zero (d : Nat → Nat) : bv d 0 = 0 := rfl
theorem bv_succ (d : Nat → Nat) (n : Nat) : bv d (n + 1) = bv d n + d n * W n := rfl
def Dg (d : Nat → Nat) (n : Nat) : Prop := ∀ i, i < n → d i < 4294967296
theorem Dg.mono {d : Nat → Nat} {m n : Nat} (h : Dg d n) (hm : m ≤ n) : Dg d m := fun i hi => h i (by omega)
theorem bv_lt {d : Nat → Nat} : ∀ {n}, Dg d n → bv d n < W n
  | 0, _ => by rw [bv_zero]; exact W_pos 0
  | n + 1, h => by
    have h1 := bv_lt (h.mono (Nat.le_succ n))
    have h2 : (d n + 1) * W n ≤ 4294967296 * W n := Nat.mul_le_mul_right _ (h n (by omega))
    rw [Nat.add_mul, Nat.one_mul] at h2
    rw [bv_succ, W_succ, Nat.mul_comm (W n)]
    omega
theorem bv_congr {d e : Nat → Nat} : ∀ {n}, (∀ i, i < n → d i = e i) → bv d n = bv e n
  | 0, _ => rfl
  | n + 1, h => by rw [bv_succ, bv_succ, bv_congr (fun i hi => h i (by omega)), h n (by omega)]
theorem bv_pad {d : Nat → Nat} {m : Nat} : ∀ {n}, m ≤ n → (∀ i, m ≤ i → i < n → d i = 0) → bv d n = bv d m
  | 0, h, _ => by rw [show m = 0 by omega]
  | n + 1, h, hz => by
    by_cases e : m = n + 1
    · rw [e]
    · rw [bv_succ, hz n (by omega) (by omega), bv_pad (show m ≤ n by omega) (fun i h1 h2 => hz i h1 (by omega)), Nat.zero_mul, Nat.add_zero]
/-- parts from m on -/
theorem bv_tail {d e : Nat → Nat} {m : Nat} : ∀ {n}, m ≤ n → (∀ i, m ≤ i → i < n → d i = e i) → bv d n + bv e m = bv e n + bv d m
  | 0, h, _ => by rw [show m = 0 by omega, bv_zero, bv_zero]
  | n + 1, h, hz => by
    by_cases q : m = n + 1
    · rw [q, Nat.add_comm]
    · have := bv_tail (show m ≤ n by omega) (fun i h1 h2 => hz i h1 (by omega))
      rw [bv_succ, bv_succ, hz n (by omega) (by omega)]
      omega
theorem bv_gt {d e : Nat → Nat} {n i : Nat} (hi : i < n) (heq : ∀ j, i < j → j < n → d j = e j) (hgt : e i < d i) (he : Dg e n) : bv e n < bv d n := by
  have h1 := bv_tail (show i + 1 ≤ n by omega) (fun j h1 h2 => heq j (by omega) h2)
  have h2 : bv e (i + 1) < bv d (i + 1) := by
    have h3 := bv_lt (he.mono (show i ≤ n by omega))
    have h4 : (e i + 1) * W i ≤ d i * W i := Nat.mul_le_mul_right _ hgt
    rw [Nat.add_mul, Nat.one_mul] at h4
    rw [bv_succ, bv_succ]
    omega
  omega
theorem bv_same {d e : Nat → Nat} {n : Nat} (h : ∀ j, j < n → d j = e j) : bv d n = bv e n := bv_congr h
/-- more parts, the top one not 0 -/
theorem bv_longer {d e : Nat → Nat} {m n : Nat} (hmn : n < m) (hd : d (m - 1) ≠ 0) (he : Dg e n) : bv e n < bv d m := by
  have h1 := bv_lt he
  obtain ⟨k, rfl⟩ : ∃ k, m = k + 1 := ⟨m - 1, by omega⟩
  have h2 : W n ≤ W k := W_mono (by omega)
  have h3 : 1 * W k ≤ d k * W k := Nat.mul_le_mul_right _ (Nat.pos_of_ne_zero hd)
  rw [bv_succ]
  omega
theorem bv_up (d : Nat → Nat) (k : Nat) : ∀ n, bv (fun i => if i < k then 0 else d (i - k)) (k + n) = W k * bv d n
  | 0 => by
    rw [Nat.add_zero, bv_pad (m := 0) (Nat.zero_le k) (fun i _ h => if_pos h)]
    simp [bv]
  | n + 1 => by
    rw [← Nat.add_assoc, bv_succ, bv_succ, bv_up d k n, Nat.mul_add, W_add]
    have : (if k + n < k then 0 else d (k + n - k)) = d n := by rw [if_neg (by omega)]; congr 1; omega
    rw [this, Nat.mul_left_comm]
/-- one step of a sum with a carry -/
theorem bv_carry {o : Nat → Nat} {i c s c' x : Nat} (h : bv o i + c * W i = x) (ho : o i = s % 4294967296) (hc : c' = s / 4294967296) : bv o (i + 1) + c' * W (i + 1) + c * W i = x + s * W i := by
  rw [bv_succ, show W (i + 1) = W i * 4294967296 from rfl, ho, hc, Nat.mul_left_comm]
  have e : s * W i = (s % 4294967296) * W i + 4294967296 * (s / 4294967296) * W i := by
    rw [← Nat.add_mul, Nat.mod_add_div]
  have e2 : W i * (s / 4294967296 * 4294967296) = 4294967296 * (s / 4294967296) * W i := by
    rw [Nat.mul_comm (W i), Nat.mul_comm (s / 4294967296)]
  rw [e, e2]
  omega
/-- a part that may not be there -/
def at0 (d : Nat → Nat) (n i : Nat) : Nat := if i < n then d i else 0
theorem bv_at0 {d : Nat → Nat} {n m : Nat} (h : n ≤ m) : bv (at0 d n) m = bv d n := by
  rw [bv_pad (d := at0 d n) h (fun i h1 _ => if_neg (by omega))]
  exact bv_congr fun i hi => if_pos hi
end Go.Proofs.Ytgcjhdcplmfjbaa.Bg
