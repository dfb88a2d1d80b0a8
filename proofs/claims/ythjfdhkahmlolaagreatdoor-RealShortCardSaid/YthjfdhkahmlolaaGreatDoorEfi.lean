/- fmtEFG at 'e' of a decimal's digits, as bytes. -/
import Derived.Test.YthjfdhkahmlolaaGreatDoorEfh
import Derived.Test.YthjfdhkahmlolaaGreatDoorDgs
namespace Go.Proofs.YthjfdhkahmlolaaGreatDoor
open Go.RowKit Usc
/-- an exponent's size as bytes -/
def expB (n : Nat) : List UInt8 := if n < 10 then [48, UInt8.ofNat (48 + n)] else if n < 100 then [UInt8.ofNat (48 + n / 10), UInt8.ofNat (48 + n % 10)] else [UInt8.ofNat (48 + n / 100), UInt8.ofNat (48 + n / 10 % 10), UInt8.ofNat (48 + n % 10)]
/-- the exponent of the first digit -/
def exp10 (c : Nat) (s : Int) : Int := (Lib.nDigits c : Int) + s - 1
/-- the digits with a point behind the first one -/
def pointB (c : Nat) : List UInt8 := (Lib.decDigits c).take 1 ++ if Lib.nDigits c = 1 then [] else 46 :: (Lib.decDigits c).drop 1
def tailB (x : Int) : List UInt8 := (if x < 0 then 45 else 43) :: expB x.natAbs
def efgB (c : Nat) (s : Int) : List UInt8 := pointB c ++ 101 :: tailB (exp10 c s)
theorem i8_of (n : Nat) (h : n < 256) : i8 (n : Int) = ch8 (UInt8.ofNat n) := by
  unfold i8 ch8; rw [UInt8.toNat_ofNat', Nat.mod_eq_of_lt h]
theorem exp_cells (x : Int) (h : -999 ≤ x ∧ x ≤ 999) : signCell x :: expCells (if x < 0 then -x else x) = Lib.byteCells (tailB x) := by
  unfold tailB Lib.byteCells
  obtain ⟨n, hn⟩ : ∃ n : Nat, n = x.natAbs := ⟨_, rfl⟩
  rw [← hn]
  have e1 : (if x < 0 then -x else x) = (n : Int) := by split <;> omega
  rw [e1]
  rw [List.map_cons]
  congr 1
  · unfold signCell i8; split <;> rfl
  · unfold expCells expB
    have k0 : (i8 48 : Value) = ch8 48 := rfl
    have k1 : ∀ m : Nat, m < 200 → i8 (48 + (m : Int)) = ch8 (UInt8.ofNat (48 + m)) := fun m hm => by rw [← i8_of _ (by omega)]; rfl
    by_cases h1 : n < 10
    · rw [if_pos (by omega), if_pos h1, k0, k1 n (by omega)]; rfl
    · rw [if_neg (by omega), if_neg h1]
      by_cases h2 : n < 100
      · rw [if_pos (by omega), if_pos h2, show (n : Int) / 10 = ((n / 10 : Nat) : Int) by omega, show (n : Int) % 10 = ((n % 10 : Nat) : Int) by omega, k1 _ (by omega), k1 _ (by omega)]; rfl
      · rw [if_neg (by omega), if_neg h2, show (n : Int) / 100 = ((n / 100 : Nat) : Int) by omega, show (n : Int) / 10 % 10 = ((n / 10 % 10 : Nat) : Int) by omega, show (n : Int) % 10 = ((n % 10 : Nat) : Int) by omega, k1 _ (by omega), k1 _ (by omega), k1 _ (by omega)]; rfl
theorem efg_cs (B b c : Nat) (s : Int) (d0 : Value) (w : World) (hB : B ≤ w.heap.size) (ho : w.ownsRow B 5 1 d0 0 []) (H : Shb c s) (hx : ∀ t u, ((Lib.decDigits c).map ch8)[t]? = some u → w.cell? ⟨b, t, none⟩ = some u) (hb : b < w.heap.size) (hne : d0.ownBlock ≠ some b) :
    Calls Tryz.prog 95 #[d0, .bool false, .slice (some ⟨b, 0, none⟩) 32 32, .int .i64 ((Lib.nDigits c : Int) + s), .int .i64 (Lib.nDigits c : Int), .int .i64 ((Lib.nDigits c : Int) - 1), .int .u8 101, .bool true] w fun e w' =>
      ∃ v, e = .returned v ∧ Hid (Ap w B d0 v (Lib.byteCells (efgB c s)) w') := by
  have hlen := Lib.decDigits_length c
  have n0 := H.n0; have n1 := H.n1; have s0 := H.s0; have s1 := H.s1
  have ec : signCell ((Lib.nDigits c : Int) + s - 1) :: expCells (if (Lib.nDigits c : Int) + s - 1 < 0 then 1 - ((Lib.nDigits c : Int) + s) else (Lib.nDigits c : Int) + s - 1) = Lib.byteCells (tailB (exp10 c s)) := by
    rw [← exp_cells (exp10 c s) (by unfold exp10; omega)]
    unfold exp10
    rw [show -((Lib.nDigits c : Int) + s - 1) = 1 - ((Lib.nDigits c : Int) + s) by omega]
  by_cases h1 : Lib.nDigits c = 1
  · obtain ⟨x, hd⟩ : ∃ x, Lib.decDigits c = [x] := by
      cases hd : Lib.decDigits c with
      | nil => rw [hd] at hlen; simp at hlen; omega
      | cons x l => cases l with
        | nil => exact ⟨x, rfl⟩
        | cons y l => rw [hd] at hlen; simp at hlen; omega
    have h := efg_1 B b d0 x ((Lib.nDigits c : Int) + s) w hB ho (hx 0 _ (by rw [hd]; rfl)) (by omega)
    have ef : efgOne x ((Lib.nDigits c : Int) + s) = Lib.byteCells (efgB c s) := by
      unfold efgOne efgB pointB
      rw [hd, if_pos h1]
      simp only [List.cons_append, List.nil_append, List.append_assoc]
      rw [ec]
      rfl
    rw [ef, h1] at h
    rw [h1]
    exact h
  · obtain ⟨x, l, hd⟩ : ∃ x l, Lib.decDigits c = x :: l := by
      cases hd : Lib.decDigits c with
      | nil => rw [hd] at hlen; simp at hlen; omega
      | cons x l => exact ⟨x, l, rfl⟩
    have hl : l.length + 1 = Lib.nDigits c := by rw [hd] at hlen; simpa using hlen
    have h := efg_many B b (Lib.nDigits c) d0 x l ((Lib.nDigits c : Int) + s) w hB ho (by omega) hl (hx 0 _ (by rw [hd]; rfl)) (fun j u hu => hx (1 + j) u (by rw [hd, Nat.add_comm]; exact hu)) hb hne (by omega)
    have ef : efgMany x l ((Lib.nDigits c : Int) + s) = Lib.byteCells (efgB c s) := by
      unfold efgMany efgB pointB
      rw [hd, if_neg h1]
      simp only [List.cons_append, List.nil_append, List.append_assoc]
      rw [ec]
      simp [Lib.byteCells, ch8, i8]
    rw [ef] at h
    exact h
end Go.Proofs.YthjfdhkahmlolaaGreatDoor
