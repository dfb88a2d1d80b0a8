/- fmtEFG at 'e' of a decimal's digits, as bytes. -/
import Derived.Test.YtiijgghholhcnaaGreatDoorJL21
import Derived.Test.YtiijgghholhcnaaGreatDoorJL27
import Derived.Lib.Atoi
import Derived.Lib.Bytealg
import Derived.Test.YtiijgghholhcnaaGreatDoorJL20
namespace Go.Proofs.YtiijgghholhcnaaGreatDoor.Re
open Go.RowKit Usc
/-- an exponent's size as bytes -/
def expB (n : Nat) : List UInt8 := if n < 10 then [48, UInt8.ofNat (48 + n)] else if n < 100 then [UInt8.ofNat (48 + n / 10), UInt8.ofNat (48 + n % 10)] else [UInt8.ofNat (48 + n / 100), UInt8.ofNat (48 + n / 10 % 10), UInt8.ofNat (48 + n % 10)]
/-- the exponent of the first digit -/
def exp10 (c : Nat) (s : Int) : Int := (Lib.nDigits c : Int) + s - 1
/-- the digits with a point behind the first one -/
def pointB (c : Nat) : List UInt8 := (Lib.decDigits c).take 1 ++ if Lib.nDigits c = 1 then [] else 46 :: (Lib.decDigits c).drop 1
def tailB (x : Int) : List UInt8 := (if x < 0 then 45 else 43) :: expB x.natAbs
def efgB (c : Nat) (s : Int) : List UInt8 := pointB c ++ 101 :: tailB (exp10 c s)
theorem i8_of (n : Nat) (h : n < 256) : i8 (n : Int) = ch8 (UInt8.ofNat n) := by
  unfold i8 ch8; rw [UInt8.toNat_ofNat', Nat.mod_eq_of_lt h]
theorem exp_cells (x : Int) (h : -999 ≤ x ∧ x ≤ 999) : signCell x :: expCells (if x < 0 then -x else x) = Lib.byteCells (tailB x) := by
  unfold tailB Lib.byteCells
  obtain ⟨n, hn⟩ : ∃ n : Nat, n = x.natAbs := ⟨_, rfl⟩
  rw [← hn]
  have e1 : (if x < 0 then -x else x) = (n : Int) := by split <;> omega
  rw [e1]
  rw [List.map_cons]
  congr 1
  · unfold signCell i8; split <;> rfl
  · unfold expCells expB
    have k0 : (i8 48 : Value) = ch8 48 := rfl
    have k1 : ∀ m : Nat, m < 200 → i8 (48 + (m : Int)) = ch8 (UInt8.ofNat (48 + m)) := fun m hm => by rw [← i8_of _ (by omega)]; rfl
    by_cases h1 : n < 10
    · rw [if_pos (by omega), if_pos h1, k0, k1 n (by omega)]; rfl
    · rw [if_neg (by omega), if_neg h1]
      by_cases h2 : n < 100
      · rw [if_pos (by omega), if_pos h2, show (n : Int) / 10 = ((n / 10 : Nat) : Int) by omega, show (n : Int) % 10 = ((n % 10 : Nat) : Int) by omega, k1 _ (by omega), k1 _ (by omega)]; rfl
      · rw [if_neg (by omega), if_neg h2, show (n : Int) / 100 = ((n / 100 : Nat) : Int) by omega, show (n : Int) / 10 % 10 = ((n / 10 % 10 : Nat) : Int) by omega, show (n : Int) % 10 = ((n % 10 : Nat) : Int) by omega, k1 _ (by omega), k1 _ (by omega), k1 _ (by omega)]; rfl
theorem efg_cs (B b c : Nat) (s : Int) (d0 : Value) (w : World) (hB : B ≤ w.heap.size) (ho : w.ownsRow B 5 1 d0 0 []) (H : Shb c s) (hx : ∀ t u, ((Lib.decDigits c).map ch8)[t]? = some u → w.cell? ⟨b, t, none⟩ = some u) (hb : b < w.heap.size) (hne : d0.ownBlock ≠ some b) :
    Calls Tryz.prog 232 #[d0, .bool false, .slice (some ⟨b, 0, none⟩) 32 32, .int .i64 ((Lib.nDigits c : Int) + s), .int .i64 (Lib.nDigits c : Int), .int .i64 ((Lib.nDigits c : Int) - 1), .int .u8 101, .bool true] w fun e w' =>
      ∃ v, e = .returned v ∧ Hid (Ap w B d0 v (Lib.byteCells (efgB c s)) w') := by
  have hlen := Lib.decDigits_length c
  have n0 := H.n0; have n1 := H.n1; have s0 := H.s0; have s1 := H.s1
  have ec : signCell ((Lib.nDigits c : Int) + s - 1) :: expCells (if (Lib.nDigits c : Int) + s - 1 < 0 then 1 - ((Lib.nDigits c : Int) + s) else (Lib.nDigits c : Int) + s - 1) = Lib.byteCells (tailB (exp10 c s)) := by
    rw [← exp_cells (exp10 c s) (by unfold exp10; omega)]
    unfold exp10
    rw [show -((Lib.nDigits c : Int) + s - 1) = 1 - ((Lib.nDigits c : Int) + s) by omega]
  by_cases h1 : Lib.nDigits c = 1
  · obtain ⟨x, hd⟩ : ∃ x, Lib.decDigits c = [x] := by
      cases hd : Lib.decDigits c with
      | nil => rw [hd] at hlen; simp at hlen; omega
      | cons x l => cases l with
        | nil => exact ⟨x, rfl⟩
        | cons y l => rw [hd] at hlen; simp at hlen; omega
    have h := efg_1 B b d0 x ((Lib.nDigits c : Int) + s) w hB ho (hx 0 _ (by rw [hd]; rfl)) (by omega)
    have ef : efgOne x ((Lib.nDigits c : Int) + s) = Lib.byteCells (efgB c s) := by
      unfold efgOne efgB pointB
      rw [hd, if_pos h1]
      simp only [List.cons_append, List.nil_append, List.append_assoc]
      rw [ec]
      rfl
    rw [ef, h1] at h
    rw [h1]
    exact h
  · obtain ⟨x, l, hd⟩ : ∃ x l, Lib.decDigits c = x :: l := by
      cases hd : Lib.decDigits c with
      | nil => rw [hd] at hlen; simp at hlen; omega
      | cons x l => exact ⟨x, l, rfl⟩
    have hl : l.length + 1 = Lib.nDigits c := by rw [hd] at hlen; simpa using hlen
    have h := efg_many B b (Lib.nDigits c) d0 x l ((Lib.nDigits c : Int) + s) w hB ho (by omega) hl (hx 0 _ (by rw [hd]; rfl)) (fun j u hu => hx (1 + j) u (by rw [hd, Nat.add_comm]; exact hu)) hb hne (by omega)
    have ef : efgMany x l ((Lib.nDigits c : Int) + s) = Lib.byteCells (efgB c s) := by
      unfold efgMany efgB pointB
      rw [hd, if_neg h1]
      simp only [List.cons_append, List.nil_append, List.append_assoc]
      rw [ec]
      simp [Lib.byteCells, ch8, i8]
    rw [ef] at h
    exact h
end Go.Proofs.YtiijgghholhcnaaGreatDoor.Re

/- Strings by their bytes: a part of one, the place of a byte, a number's digits read. Plain. -/
namespace Go.Proofs.YtiijgghholhcnaaGreatDoor.Re
open Go.Lib
theorem ba_extract (l : List UInt8) (i j : Nat) : (⟨l.toArray⟩ : ByteArray).extract i j = ⟨((l.drop i).take (j - i)).toArray⟩ := by
  apply ByteArray.ext
  simp [ByteArray.data_extract, List.extract_eq_take_drop]
theorem ba_size (l : List UInt8) : (⟨l.toArray⟩ : ByteArray).size = l.length := by simp [ByteArray.size]
theorem idx_at (A : List UInt8) (c : UInt8) (B : List UInt8) (h : c ∉ A) : Lib.indexByte (A ++ c :: B) c = A.length := by
  induction A with
  | nil => simp [Lib.indexByte]
  | cons a A ih =>
    have h1 : c ∉ A := fun m => h (List.mem_cons_of_mem _ m)
    have h2 : (a == c) = false := by rw [beq_eq_false_iff_ne]; rintro rfl; exact h (List.mem_cons_self)
    rw [List.cons_append, Lib.indexByte, h2, ih h1]
    simp
theorem expB_nat : ∀ n : Fin 1000, Lib.decNat (expB n.val) = some n.val := by decide +kernel
theorem atoi_tail (x : Int) (h : -999 ≤ x ∧ x ≤ 999) : Lib.atoi (tailB x) = some x := by
  have hn := expB_nat ⟨x.natAbs, by omega⟩
  simp only at hn
  unfold tailB
  split
  · rw [Lib.atoi, if_pos (by decide), hn]
    simp only [Option.map_some, Option.some.injEq]; omega
  · rw [Lib.atoi, if_neg (by decide), if_pos (by decide), hn]
    simp only [Option.map_some, Option.some.injEq]; omega
theorem expB_len : ∀ n : Fin 1000, (expB n.val).length ≤ 3 := by decide +kernel
theorem tailB_len (x : Int) (h : -999 ≤ x ∧ x ≤ 999) : (tailB x).length ≤ 4 := by
  have := expB_len ⟨x.natAbs, by omega⟩
  unfold tailB; simp only [List.length_cons]; simp only at this; omega
/-- digits are bytes from 48 to 57 -/
theorem dec_byte (c : Nat) : ∀ d, d ∈ Lib.decDigits c → 48 ≤ d.toNat ∧ d.toNat ≤ 57 := by
  intro d hd
  rw [Lib.decDigits_eq] at hd
  obtain ⟨t, _, rfl⟩ := List.mem_map.1 hd
  unfold Lib.dg
  rw [UInt8.toNat_ofNat']
  omega
theorem dec_not (c : Nat) (x : UInt8) (h : x.toNat < 48 ∨ 57 < x.toNat) : x ∉ Lib.decDigits c := by
  intro hd
  have := dec_byte c x hd
  omega
theorem dec_cons (c : Nat) : ∃ x l, Lib.decDigits c = x :: l := by
  have hlen := Lib.decDigits_length c
  have := Lib.nDigits_pos c
  cases hd : Lib.decDigits c with
  | nil => rw [hd] at hlen; simp at hlen; omega
  | cons x l => exact ⟨x, l, rfl⟩
theorem pointB_not (c : Nat) : (101 : UInt8) ∉ pointB c := by
  obtain ⟨x, l, hd⟩ := dec_cons c
  have h := dec_not c 101 (by decide)
  rw [hd] at h
  unfold pointB
  rw [hd]
  by_cases h1 : Lib.nDigits c = 1
  · rw [if_pos h1]; simp at h ⊢; exact h.1
  · rw [if_neg h1]; simp at h ⊢; exact h
theorem pointB_one {c : Nat} (h : Lib.nDigits c = 1) : pointB c = Lib.decDigits c := by
  have hl := Lib.decDigits_length c
  unfold pointB
  rw [if_pos h, List.append_nil, List.take_of_length_le (by omega)]
theorem pointB_many {c : Nat} (h : Lib.nDigits c ≠ 1) : ∃ x l, Lib.decDigits c = x :: l ∧ pointB c = x :: 46 :: l ∧ l ≠ [] := by
  obtain ⟨x, l, hd⟩ := dec_cons c
  have hl := Lib.decDigits_length c
  refine ⟨x, l, hd, ?_, ?_⟩
  · unfold pointB; rw [hd, if_neg h]; rfl
  · rintro rfl; rw [hd] at hl; simp at hl; omega
theorem pointB_len (c : Nat) : (pointB c).length ≤ Lib.nDigits c + 1 := by
  have hl := Lib.decDigits_length c
  by_cases h : Lib.nDigits c = 1
  · rw [pointB_one h]; omega
  · obtain ⟨x, l, h1, h2, _⟩ := pointB_many h
    rw [h1] at hl; rw [h2]; simp at hl ⊢; omega
end Go.Proofs.YtiijgghholhcnaaGreatDoor.Re

/- strings.Replace of the one point in a decimal. -/
namespace Go.Proofs.YtiijgghholhcnaaGreatDoor.Re
open Go.RowKit Go.Lib
theorem Tryz.ws (B b : Nat) (bs : List Value) (s : ByteArray) (w : World) (h : Lib.IsBuilder 163 5 B b bs w) (hlen : bs.length + s.size ≤ 140737488355328) (hBw : B ≤ w.heap.size) :
    Calls Tryz.prog 147 #[.pointer (some ⟨b, 0, none⟩), .string s] w fun e w' => e = .returned (.tuple #[.int .i64 s.size, .nilIface]) ∧ (Lib.BuilderAt 163 5 B b (.pointer (some ⟨b, 0, none⟩)) (bs ++ Lib.strCells s) w' ∧ Below B w w') := Any.Builder_WriteString { Tryz.lays105 with } Tryz.Builder_Extra_105 B b bs s w h hlen hBw
theorem below_of {w w' : World} {B : Nat} (h : Below B w w') : Only (fun k => B ≤ k) w w' := by
  obtain ⟨a, b, c, d, e⟩ := h
  exact ⟨a, b, c, d, fun k hk hs => e k (by omega)⟩
set_option maxRecDepth 100000
set_option maxHeartbeats 4000000 in
theorem rep_point (x : UInt8) (l : List UInt8) (S : ByteArray) (w : World) (hS : S = ⟨(x :: 46 :: l).toArray⟩) (hx : x ≠ 46) (hl : 46 ∉ l) (hl0 : l ≠ []) (hl1 : l.length ≤ 100) :
    Calls Tryz.prog 160 #[.string S, .string ⟨#[46]⟩, .string ⟨#[]⟩, .int .i64 1] w fun en w' => en = .returned (.string ⟨(x :: l).toArray⟩) ∧ Only (fun _ => False) w w' := by
  have hd : S.data.toList = x :: 46 :: l := by rw [hS]
  have hsz : S.size = l.length + 2 := by rw [hS]; simp [ByteArray.size]
  have hn : ∃ n, n = l.length + 2 := ⟨_, rfl⟩
  obtain ⟨n, hn⟩ := hn
  have hcnt : Lib.countByte S.data.toList 46 = 1 := by
    rw [hd]; unfold Lib.countByte
    rw [List.count_cons, List.count_cons, List.count_eq_zero_of_not_mem hl]
    simp [hx]
  have hidx : Lib.indexByte S.data.toList 46 = 1 := by
    rw [hd]; exact idx_at [x] 46 l (by simpa using fun h => hx h.symm)
  have e1 : S.extract 0 1 = ⟨#[x]⟩ := by rw [hS, ba_extract]; rfl
  have e2 : S.extract 2 n = ⟨l.toArray⟩ := by
    rw [hS, ba_extract]; simp [hn]
  have e0 : S.extract 0 n = S := by
    rw [hS, ba_extract]; simp [hn]
  have sz : S.size = n := by omega
  have C := Lib.hid (Tryz.strings_Count_one S 46 w)
  rw [hcnt] at C
  have HS := Lib.hid hS; have HX := Lib.hid hx; have HL := Lib.hid hl
  have hn2 : 3 ≤ n ∧ n ≤ 102 := by
    have : 1 ≤ l.length := by cases l <;> simp_all
    omega
  clear hS hd hsz hn hcnt hx hl hl0
  go_enter Tryz.func160, Tryz.ntmps160
  go_wp2_with fail
  refine C.out.mono ?_
  rintro en w1 ⟨rfl, hw⟩; rw [hw]; clear hw w1 C
  go_wp2_with fail
  rw [show (n : Int) + -1 = ((n - 1 : Nat) : Int) by omega]
  refine (Tryz.Builder_Grow_fresh w.heap.size w.heap.size (n - 1) (w.alloc (.cells #[.pointer none, .slice none 0 0] 163)) (Nat.le_refl _) (blk_new _ _) (by simp) (by omega)).mono ?_
  rintro en w1 ⟨rfl, hB1, hO1⟩
  have HB1 := Lib.hid hB1
  have HO1 := Lib.hid (((Only.refl (fun _ => False) w).alloc (.cells #[.pointer none, .slice none 0 0] 163)).seq2 (below_of hO1) (fun i hi => .inl hi))
  have hz1 : w.heap.size + 1 ≤ w1.heap.size := by have := hO1.size; simp at this; omega
  clear hB1 hO1
  go_wp2_with fail
  refine wp_loop_rounds 2 ?_
  rw [rounds_succ]
  have I := Lib.hid (Tryz.strings_Index_one S 46 w1)
  rw [hidx] at I
  go_wp2_with fail
  refine (I.out).mono ?_
  rintro en w2 ⟨rfl, hw⟩; rw [hw]; clear hw w2 I hidx
  go_wp2_with fail
  refine (Tryz.ws w.heap.size w.heap.size [] ⟨#[x]⟩ w1 (.inr HB1.out) (by simp [ByteArray.size]) (by omega)).mono ?_
  rintro en w2 ⟨rfl, hB2, hO2⟩
  have HB2 := Lib.hid hB2
  have HO2 := Lib.hid (HO1.out.seq2 (below_of hO2) (fun i hi => .inl hi))
  have hz2 : w1.heap.size ≤ w2.heap.size := hO2.size
  clear hB2 hO2
  go_wp2_with fail
  refine (Tryz.ws w.heap.size w.heap.size _ ⟨#[]⟩ w2 (.inr HB2.out) (by simp [ByteArray.size, Lib.strCells]) (by omega)).mono ?_
  rintro en w3 ⟨rfl, hB3, hO3⟩
  have HB3 := Lib.hid hB3
  have HO3 := Lib.hid (HO2.out.seq2 (below_of hO3) (fun i hi => .inl hi))
  have hz3 : w2.heap.size ≤ w3.heap.size := hO3.size
  clear hB3 hO3
  go_wp2_with fail
  rw [rounds_succ]
  go_wp2_with fail
  refine (Tryz.ws w.heap.size w.heap.size _ ⟨l.toArray⟩ w3 (.inr HB3.out) (by simp [ByteArray.size, Lib.strCells]; omega) (by omega)).mono ?_
  rintro en w4 ⟨rfl, hB4, hO4⟩
  have hcells : [] ++ Lib.strCells ⟨#[x]⟩ ++ Lib.strCells ⟨#[]⟩ ++ Lib.strCells ⟨l.toArray⟩ = Lib.byteCells (x :: l) := by simp [Lib.strCells, Lib.byteCells]
  rw [hcells] at hB4
  have HB4 := Lib.hid hB4
  have HO4 := Lib.hid (HO3.out.seq2 (below_of hO4) (fun i hi => .inl hi))
  clear hB4 hO4 hcells
  go_wp2_with fail
  refine (Tryz.Builder_String w.heap.size w.heap.size (x :: l) w4 (.inr HB4.out) (by simp)).mono ?_
  rintro en w5 ⟨rfl, hO5⟩
  have HO5 := Lib.hid (HO4.out.seq2 (below_of hO5) (fun i hi => .inl hi))
  clear hO5
  go_wp2_with fail
  go_ret
  exact ⟨rfl, HO5.out⟩
end Go.Proofs.YtiijgghholhcnaaGreatDoor.Re
