/- Bytes turned into others, one by one: the plain side of a replacer. -/
import Derived.Test.YtiijgghholhcnaaGreatDoorBle
import Derived.Test.YtiijgghholhcnaaGreatDoorShg
namespace Go.Proofs.YtiijgghholhcnaaGreatDoor
open Go.RowKit
/-- what a byte becomes by the last k pairs -/
def esc (n : Nat) (x : Nat → UInt8) (S : Nat → List UInt8) : Nat → UInt8 → List UInt8
  | 0, b => [b]
  | k + 1, b => if b = x (n - 1 - k) then S (n - 1 - k) else esc n x S k b
section
variable {n : Nat} {x : Nat → UInt8} {S : Nat → List UInt8}
theorem esc_miss {b : UInt8} : ∀ {k : Nat}, k ≤ n → (∀ j, n - k ≤ j → j < n → x j ≠ b) → esc n x S k b = [b]
  | 0, _, _ => rfl
  | k + 1, hk, h => by
    rw [esc, if_neg (fun e => h (n - 1 - k) (by omega) (by omega) e.symm)]
    exact esc_miss (by omega) (fun j h1 h2 => h j (by omega) h2)
theorem esc_hit (hinj : ∀ i j, i < n → j < n → x i = x j → i = j) {j : Nat} (hj : j < n) : ∀ {k : Nat}, k ≤ n → n - k ≤ j → esc n x S k (x j) = S j
  | 0, _, h => by omega
  | k + 1, hk, h => by
    rw [esc]
    by_cases e : x j = x (n - 1 - k)
    · rw [if_pos e, hinj _ _ hj (by omega) e]
    · rw [if_neg e]
      have : j ≠ n - 1 - k := fun q => e (by rw [q])
      exact esc_hit hinj hj (by omega) (by omega)
theorem esc_le (hle : ∀ k, k < n → (S k).length ≤ 1000) (b : UInt8) : ∀ {k : Nat}, k ≤ n → (esc n x S k b).length ≤ 1000
  | 0, _ => by simp [esc]
  | k + 1, hk => by
    rw [esc]
    split
    · exact hle _ (by omega)
    · exact esc_le hle b (by omega)
theorem flat_le (hle : ∀ k, k < n → (S k).length ≤ 1000) {k : Nat} (hk : k ≤ n) : ∀ s : List UInt8, (s.flatMap (esc n x S k)).length ≤ 1000 * s.length
  | [] => by simp
  | b :: s => by
    rw [List.flatMap_cons, List.length_append, List.length_cons]
    have h1 := esc_le (x := x) hle b hk
    have h2 := flat_le hle hk s
    omega
theorem count_le (c : UInt8) (s : List UInt8) : (Go.Lib.countByte s c : Int) ≤ s.length := by
  unfold Go.Lib.countByte
  exact_mod_cast List.count_le_length
theorem flat_step {k : Nat} (hk : k < n) (hinj : ∀ i j, i < n → j < n → x i = x j → i = j) : ∀ s : List UInt8,
    ((s.flatMap (esc n x S (k + 1))).length : Int) = (s.flatMap (esc n x S k)).length + (Go.Lib.countByte s (x (n - 1 - k)) : Int) * (((S (n - 1 - k)).length : Int) - 1)
  | [] => by simp [Go.Lib.countByte]
  | b :: s => by
    have ih := flat_step hk hinj s
    unfold Go.Lib.countByte at ih ⊢
    rw [List.flatMap_cons, List.flatMap_cons, List.length_append, List.length_append, List.count_cons]
    by_cases e : b = x (n - 1 - k)
    · have h1 : esc n x S k b = [b] := esc_miss (by omega) (fun j h1 h2 h3 => by have := hinj j (n - 1 - k) h2 (by omega) (h3.trans e); omega)
      rw [h1, esc, if_pos e, if_pos (by rw [e]; exact beq_self_eq_true _)]
      push_cast
      rw [ih, Int.add_mul]
      simp only [List.length_singleton]
      omega
    · rw [esc, if_neg e, if_neg (by simpa using e)]
      push_cast
      rw [ih]
      simp only [Int.add_zero]
      omega
theorem flat_same {k : Nat} : ∀ s : List UInt8, Go.Lib.countByte s (x (n - 1 - k)) = 0 → s.flatMap (esc n x S (k + 1)) = s.flatMap (esc n x S k)
  | [], _ => rfl
  | b :: s, h => by
    unfold Go.Lib.countByte at h
    rw [List.count_cons] at h
    have e : ¬ b = x (n - 1 - k) := fun e => by rw [if_pos (by rw [e]; exact beq_self_eq_true _)] at h; omega
    rw [List.flatMap_cons, List.flatMap_cons, esc, if_neg e, flat_same s (by unfold Go.Lib.countByte; omega)]
theorem flat_zero (s : List UInt8) : s.flatMap (esc n x S 0) = s := by
  induction s with
  | nil => rfl
  | cons b s ih => rw [List.flatMap_cons, ih]; rfl
theorem take_flat (f : UInt8 → List UInt8) (s : List UInt8) (i : Nat) (h : i < s.length) : (s.take (i + 1)).flatMap f = (s.take i).flatMap f ++ f s[i] := by
  rw [List.take_succ_eq_append_getElem h, List.flatMap_append]
  simp
theorem take_flat_le (f : UInt8 → List UInt8) (s : List UInt8) (i : Nat) : ((s.take i).flatMap f).length ≤ (s.flatMap f).length := by
  conv => rhs; rw [← List.take_append_drop i s, List.flatMap_append, List.length_append]
  omega
end
end Go.Proofs.YtiijgghholhcnaaGreatDoor
