/- Strings by their bytes: a part of one, the place of a byte, a number's digits read. Plain. -/
import Derived.Test.YthjfdhkahmlolaaGreatDoorEfi
import Derived.Lib.Atoi
import Derived.Lib.Bytealg
namespace Go.Proofs.YthjfdhkahmlolaaGreatDoor
open Go.Lib
theorem ba_extract (l : List UInt8) (i j : Nat) : (⟨l.toArray⟩ : ByteArray).extract i j = ⟨((l.drop i).take (j - i)).toArray⟩ := by
  apply ByteArray.ext
  simp [ByteArray.data_extract, List.extract_eq_take_drop]
theorem ba_size (l : List UInt8) : (⟨l.toArray⟩ : ByteArray).size = l.length := by simp [ByteArray.size]
theorem idx_at (A : List UInt8) (c : UInt8) (B : List UInt8) (h : c ∉ A) : Lib.indexByte (A ++ c :: B) c = A.length := by
  induction A with
  | nil => simp [Lib.indexByte]
  | cons a A ih =>
    have h1 : c ∉ A := fun m => h (List.mem_cons_of_mem _ m)
    have h2 : (a == c) = false := by rw [beq_eq_false_iff_ne]; rintro rfl; exact h (List.mem_cons_self)
    rw [List.cons_append, Lib.indexByte, h2, ih h1]
    simp
theorem expB_nat : ∀ n : Fin 1000, Lib.decNat (expB n.val) = some n.val := by decide +kernel
theorem atoi_tail (x : Int) (h : -999 ≤ x ∧ x ≤ 999) : Lib.atoi (tailB x) = some x := by
  have hn := expB_nat ⟨x.natAbs, by omega⟩
  simp only at hn
  unfold tailB
  split
  · rw [Lib.atoi, if_pos (by decide), hn]
    simp only [Option.map_some, Option.some.injEq]; omega
  · rw [Lib.atoi, if_neg (by decide), if_pos (by decide), hn]
    simp only [Option.map_some, Option.some.injEq]; omega
theorem expB_len : ∀ n : Fin 1000, (expB n.val).length ≤ 3 := by decide +kernel
theorem tailB_len (x : Int) (h : -999 ≤ x ∧ x ≤ 999) : (tailB x).length ≤ 4 := by
  have := expB_len ⟨x.natAbs, by omega⟩
  unfold tailB; simp only [List.length_cons]; simp only at this; omega
/-- digits are bytes from 48 to 57 -/
theorem dec_byte (c : Nat) : ∀ d, d ∈ Lib.decDigits c → 48 ≤ d.toNat ∧ d.toNat ≤ 57 := by
  intro d hd
  rw [Lib.decDigits_eq] at hd
  obtain ⟨t, _, rfl⟩ := List.mem_map.1 hd
  unfold Lib.dg
  rw [UInt8.toNat_ofNat']
  omega
theorem dec_not (c : Nat) (x : UInt8) (h : x.toNat < 48 ∨ 57 < x.toNat) : x ∉ Lib.decDigits c := by
  intro hd
  have := dec_byte c x hd
  omega
theorem dec_cons (c : Nat) : ∃ x l, Lib.decDigits c = x :: l := by
  have hlen := Lib.decDigits_length c
  have := Lib.nDigits_pos c
  cases hd : Lib.decDigits c with
  | nil => rw [hd] at hlen; simp at hlen; omega
  | cons x l => exact ⟨x, l, rfl⟩
theorem pointB_not (c : Nat) : (101 : UInt8) ∉ pointB c := by
  obtain ⟨x, l, hd⟩ := dec_cons c
  have h := dec_not c 101 (by decide)
  rw [hd] at h
  unfold pointB
  rw [hd]
  by_cases h1 : Lib.nDigits c = 1
  · rw [if_pos h1]; simp at h ⊢; exact h.1
  · rw [if_neg h1]; simp at h ⊢; exact h
theorem pointB_one {c : Nat} (h : Lib.nDigits c = 1) : pointB c = Lib.decDigits c := by
  have hl := Lib.decDigits_length c
  unfold pointB
  rw [if_pos h, List.append_nil, List.take_of_length_le (by omega)]
theorem pointB_many {c : Nat} (h : Lib.nDigits c ≠ 1) : ∃ x l, Lib.decDigits c = x :: l ∧ pointB c = x :: 46 :: l ∧ l ≠ [] := by
  obtain ⟨x, l, hd⟩ := dec_cons c
  have hl := Lib.decDigits_length c
  refine ⟨x, l, hd, ?_, ?_⟩
  · unfold pointB; rw [hd, if_neg h]; rfl
  · rintro rfl; rw [hd] at hl; simp at hl; omega
theorem pointB_len (c : Nat) : (pointB c).length ≤ Lib.nDigits c + 1 := by
  have hl := Lib.decDigits_length c
  by_cases h : Lib.nDigits c = 1
  · rw [pointB_one h]; omega
  · obtain ⟨x, l, h1, h2, _⟩ := pointB_many h
    rw [h1] at hl; rw [h2]; simp at hl ⊢; omega
end Go.Proofs.YthjfdhkahmlolaaGreatDoor
