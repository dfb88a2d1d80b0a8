/- fmtEFG at 'e' of a decimal's digits, as bytes. -/
import Derived.Test.YthjfdhkahmlolaaGreatDoorJQ15
import Derived.Test.YthjfdhkahmlolaaGreatDoorJQ11
import Derived.Lib.Atoi
import Derived.Lib.Bytealg
import Derived.Test.YthjfdhkahmlolaaGreatDoorJQ06
import Derived.Test.YthjfdhkahmlolaaGreatDoorJQ03
namespace Go.Proofs.YthjfdhkahmlolaaGreatDoor
open Go.RowKit Usc
/-- an exponent's size as bytes -/
def expB (n : Nat) : List UInt8 := if n < 10 then [48, UInt8.ofNat (48 + n)] else if n < 100 then [UInt8.ofNat (48 + n / 10), UInt8.ofNat (48 + n % 10)] else [UInt8.ofNat (48 + n / 100), UInt8.ofNat (48 + n / 10 % 10), UInt8.ofNat (48 + n % 10)]
/-- the exponent of the first digit -/
def exp10 (c : Nat) (s : Int) : Int := (Lib.nDigits c : Int) + s - 1
/-- the digits with a point behind the first one -/
def pointB (c : Nat) : List UInt8 := (Lib.decDigits c).take 1 ++ if Lib.nDigits c = 1 then [] else 46 :: (Lib.decDigits c).drop 1
def tailB (x : Int) : List UInt8 := (if x < 0 then 45 else 43) :: expB x.natAbs
def efgB (c : Nat) (s : Int) : List UInt8 := pointB c ++ 101 :: tailB (exp10 c s)
theorem i8_of (n : Nat) (h : n < 256) : i8 (n : Int) = ch8 (UInt8.ofNat n) := by
  unfold i8 ch8; rw [UInt8.toNat_ofNat', Nat.mod_eq_of_lt h]
theorem exp_cells (x : Int) (h : -999 ≤ x ∧ x ≤ 999) : signCell x :: expCells (if x < 0 then -x else x) = Lib.byteCells (tailB x) := by
  unfold tailB Lib.byteCells
  obtain ⟨n, hn⟩ : ∃ n : Nat, n = x.natAbs := ⟨_, rfl⟩
  rw [← hn]
  have e1 : (if x < 0 then -x else x) = (n : Int) := by split <;> omega
  rw [e1]
  rw [List.map_cons]
  congr 1
  · unfold signCell i8; split <;> rfl
  · unfold expCells expB
    have k0 : (i8 48 : Value) = ch8 48 := rfl
    have k1 : ∀ m : Nat, m < 200 → i8 (48 + (m : Int)) = ch8 (UInt8.ofNat (48 + m)) := fun m hm => by rw [← i8_of _ (by omega)]; rfl
    by_cases h1 : n < 10
    · rw [if_pos (by omega), if_pos h1, k0, k1 n (by omega)]; rfl
    · rw [if_neg (by omega), if_neg h1]
      by_cases h2 : n < 100
      · rw [if_pos (by omega), if_pos h2, show (n : Int) / 10 = ((n / 10 : Nat) : Int) by omega, show (n : Int) % 10 = ((n % 10 : Nat) : Int) by omega, k1 _ (by omega), k1 _ (by omega)]; rfl
      · rw [if_neg (by omega), if_neg h2, show (n : Int) / 100 = ((n / 100 : Nat) : Int) by omega, show (n : Int) / 10 % 10 = ((n / 10 % 10 : Nat) : Int) by omega, show (n : Int) % 10 = ((n % 10 : Nat) : Int) by omega, k1 _ (by omega), k1 _ (by omega), k1 _ (by omega)]; rfl
theorem efg_cs (B b c : Nat) (s : Int) (d0 : Value) (w : World) (hB : B ≤ w.heap.size) (ho : w.ownsRow B 5 1 d0 0 []) (H : Shb c s) (hx : ∀ t u, ((Lib.decDigits c).map ch8)[t]? = some u → w.cell? ⟨b, t, none⟩ = some u) (hb : b < w.heap.size) (hne : d0.ownBlock ≠ some b) :
    Calls Tryz.prog 95 #[d0, .bool false, .slice (some ⟨b, 0, none⟩) 32 32, .int .i64 ((Lib.nDigits c : Int) + s), .int .i64 (Lib.nDigits c : Int), .int .i64 ((Lib.nDigits c : Int) - 1), .int .u8 101, .bool true] w fun e w' =>
      ∃ v, e = .returned v ∧ Hid (Ap w B d0 v (Lib.byteCells (efgB c s)) w') := by
  have hlen := Lib.decDigits_length c
  have n0 := H.n0; have n1 := H.n1; have s0 := H.s0; have s1 := H.s1
  have ec : signCell ((Lib.nDigits c : Int) + s - 1) :: expCells (if (Lib.nDigits c : Int) + s - 1 < 0 then 1 - ((Lib.nDigits c : Int) + s) else (Lib.nDigits c : Int) + s - 1) = Lib.byteCells (tailB (exp10 c s)) := by
    rw [← exp_cells (exp10 c s) (by unfold exp10; omega)]
    unfold exp10
    rw [show -((Lib.nDigits c : Int) + s - 1) = 1 - ((Lib.nDigits c : Int) + s) by omega]
  by_cases h1 : Lib.nDigits c = 1
  · obtain ⟨x, hd⟩ : ∃ x, Lib.decDigits c = [x] := by
      cases hd : Lib.decDigits c with
      | nil => rw [hd] at hlen; simp at hlen; omega
      | cons x l => cases l with
        | nil => exact ⟨x, rfl⟩
        | cons y l => rw [hd] at hlen; simp at hlen; omega
    have h := efg_1 B b d0 x ((Lib.nDigits c : Int) + s) w hB ho (hx 0 _ (by rw [hd]; rfl)) (by omega)
    have ef : efgOne x ((Lib.nDigits c : Int) + s) = Lib.byteCells (efgB c s) := by
      unfold efgOne efgB pointB
      rw [hd, if_pos h1]
      simp only [List.cons_append, List.nil_append, List.append_assoc]
      rw [ec]
      rfl
    rw [ef, h1] at h
    rw [h1]
    exact h
  · obtain ⟨x, l, hd⟩ : ∃ x l, Lib.decDigits c = x :: l := by
      cases hd : Lib.decDigits c with
      | nil => rw [hd] at hlen; simp at hlen; omega
      | cons x l => exact ⟨x, l, rfl⟩
    have hl : l.length + 1 = Lib.nDigits c := by rw [hd] at hlen; simpa using hlen
    have h := efg_many B b (Lib.nDigits c) d0 x l ((Lib.nDigits c : Int) + s) w hB ho (by omega) hl (hx 0 _ (by rw [hd]; rfl)) (fun j u hu => hx (1 + j) u (by rw [hd, Nat.add_comm]; exact hu)) hb hne (by omega)
    have ef : efgMany x l ((Lib.nDigits c : Int) + s) = Lib.byteCells (efgB c s) := by
      unfold efgMany efgB pointB
      rw [hd, if_neg h1]
      simp only [List.cons_append, List.nil_append, List.append_assoc]
      rw [ec]
      simp [Lib.byteCells, ch8, i8]
    rw [ef] at h
    exact h
end Go.Proofs.YthjfdhkahmlolaaGreatDoor

/- Strings by their bytes: a part of one, the place of a byte, a number's digits read. Plain. -/
namespace Go.Proofs.YthjfdhkahmlolaaGreatDoor
open Go.Lib
theorem ba_extract (l : List UInt8) (i j : Nat) : (⟨l.toArray⟩ : ByteArray).extract i j = ⟨((l.drop i).take (j - i)).toArray⟩ := by
  apply ByteArray.ext
  simp [ByteArray.data_extract, List.extract_eq_take_drop]
theorem ba_size (l : List UInt8) : (⟨l.toArray⟩ : ByteArray).size = l.length := by simp [ByteArray.size]
theorem idx_at (A : List UInt8) (c : UInt8) (B : List UInt8) (h : c ∉ A) : Lib.indexByte (A ++ c :: B) c = A.length := by
  induction A with
  | nil => simp [Lib.indexByte]
  | cons a A ih =>
    have h1 : c ∉ A := fun m => h (List.mem_cons_of_mem _ m)
    have h2 : (a == c) = false := by rw [beq_eq_false_iff_ne]; rintro rfl; exact h (List.mem_cons_self)
    rw [List.cons_append, Lib.indexByte, h2, ih h1]
    simp
theorem expB_nat : ∀ n : Fin 1000, Lib.decNat (expB n.val) = some n.val := by decide +kernel
theorem atoi_tail (x : Int) (h : -999 ≤ x ∧ x ≤ 999) : Lib.atoi (tailB x) = some x := by
  have hn := expB_nat ⟨x.natAbs, by omega⟩
  simp only at hn
  unfold tailB
  split
  · rw [Lib.atoi, if_pos (by decide), hn]
    simp only [Option.map_some, Option.some.injEq]; omega
  · rw [Lib.atoi, if_neg (by decide), if_pos (by decide), hn]
    simp only [Option.map_some, Option.some.injEq]; omega
theorem expB_len : ∀ n : Fin 1000, (expB n.val).length ≤ 3 := by decide +kernel
theorem tailB_len (x : Int) (h : -999 ≤ x ∧ x ≤ 999) : (tailB x).length ≤ 4 := by
  have := expB_len ⟨x.natAbs, by omega⟩
  unfold tailB; simp only [List.length_cons]; simp only at this; omega
/-- digits are bytes from 48 to 57 -/
theorem dec_byte (c : Nat) : ∀ d, d ∈ Lib.decDigits c → 48 ≤ d.toNat ∧ d.toNat ≤ 57 := by
  intro d hd
  rw [Lib.decDigits_eq] at hd
  obtain ⟨t, _, rfl⟩ := List.mem_map.1 hd
  unfold Lib.dg
  rw [UInt8.toNat_ofNat']
  omega
theorem dec_not (c : Nat) (x : UInt8) (h : x.toNat < 48 ∨ 57 < x.toNat) : x ∉ Lib.decDigits c := by
  intro hd
  have := dec_byte c x hd
  omega
theorem dec_cons (c : Nat) : ∃ x l, Lib.decDigits c = x :: l := by
  have hlen := Lib.decDigits_length c
  have := Lib.nDigits_pos c
  cases hd : Lib.decDigits c with
  | nil => rw [hd] at hlen; simp at hlen; omega
  | cons x l => exact ⟨x, l, rfl⟩
theorem pointB_not (c : Nat) : (101 : UInt8) ∉ pointB c := by
  obtain ⟨x, l, hd⟩ := dec_cons c
  have h := dec_not c 101 (by decide)
  rw [hd] at h
  unfold pointB
  rw [hd]
  by_cases h1 : Lib.nDigits c = 1
  · rw [if_pos h1]; simp at h ⊢; exact h.1
  · rw [if_neg h1]; simp at h ⊢; exact h
theorem pointB_one {c : Nat} (h : Lib.nDigits c = 1) : pointB c = Lib.decDigits c := by
  have hl := Lib.decDigits_length c
  unfold pointB
  rw [if_pos h, List.append_nil, List.take_of_length_le (by omega)]
theorem pointB_many {c : Nat} (h : Lib.nDigits c ≠ 1) : ∃ x l, Lib.decDigits c = x :: l ∧ pointB c = x :: 46 :: l ∧ l ≠ [] := by
  obtain ⟨x, l, hd⟩ := dec_cons c
  have hl := Lib.decDigits_length c
  refine ⟨x, l, hd, ?_, ?_⟩
  · unfold pointB; rw [hd, if_neg h]; rfl
  · rintro rfl; rw [hd] at hl; simp at hl; omega
theorem pointB_len (c : Nat) : (pointB c).length ≤ Lib.nDigits c + 1 := by
  have hl := Lib.decDigits_length c
  by_cases h : Lib.nDigits c = 1
  · rw [pointB_one h]; omega
  · obtain ⟨x, l, h1, h2, _⟩ := pointB_many h
    rw [h1] at hl; rw [h2]; simp at hl ⊢; omega
end Go.Proofs.YthjfdhkahmlolaaGreatDoor

/- strings.Replace of the one point in a decimal. -/
namespace Go.Proofs.YthjfdhkahmlolaaGreatDoor
open Go.RowKit Go.Lib
theorem Tryz.ws (B b : Nat) (bs : List Value) (s : ByteArray) (w : World) (h : Lib.IsBuilder 69 5 B b bs w) (hlen : bs.length + s.size ≤ 140737488355328) (hBw : B ≤ w.heap.size) :
    Calls Tryz.prog 51 #[.pointer (some ⟨b, 0, none⟩), .string s] w fun e w' => e = .returned (.tuple #[.int .i64 s.size, .nilIface]) ∧ (Lib.BuilderAt 69 5 B b (.pointer (some ⟨b, 0, none⟩)) (bs ++ Lib.strCells s) w' ∧ Below B w w') := Any.Builder_WriteString { Tryz.lays105 with } Tryz.Builder_Extra_105 B b bs s w h hlen hBw
theorem below_of {w w' : World} {B : Nat} (h : Below B w w') : Only (fun k => B ≤ k) w w' := by
  obtain ⟨a, b, c, d, e⟩ := h
  exact ⟨a, b, c, d, fun k hk hs => e k (by omega)⟩
set_option maxRecDepth 100000
set_option maxHeartbeats 4000000 in
theorem rep_point (x : UInt8) (l : List UInt8) (S : ByteArray) (w : World) (hS : S = ⟨(x :: 46 :: l).toArray⟩) (hx : x ≠ 46) (hl : 46 ∉ l) (hl0 : l ≠ []) (hl1 : l.length ≤ 100) :
    Calls Tryz.prog 36 #[.string S, .string ⟨#[46]⟩, .string ⟨#[]⟩, .int .i64 1] w fun en w' => en = .returned (.string ⟨(x :: l).toArray⟩) ∧ Only (fun _ => False) w w' := by
  have hd : S.data.toList = x :: 46 :: l := by rw [hS]
  have hsz : S.size = l.length + 2 := by rw [hS]; simp [ByteArray.size]
  have hn : ∃ n, n = l.length + 2 := ⟨_, rfl⟩
  obtain ⟨n, hn⟩ := hn
  have hcnt : Lib.countByte S.data.toList 46 = 1 := by
    rw [hd]; unfold Lib.countByte
    rw [List.count_cons, List.count_cons, List.count_eq_zero_of_not_mem hl]
    simp [hx]
  have hidx : Lib.indexByte S.data.toList 46 = 1 := by
    rw [hd]; exact idx_at [x] 46 l (by simpa using fun h => hx h.symm)
  have e1 : S.extract 0 1 = ⟨#[x]⟩ := by rw [hS, ba_extract]; rfl
  have e2 : S.extract 2 n = ⟨l.toArray⟩ := by
    rw [hS, ba_extract]; simp [hn]
  have e0 : S.extract 0 n = S := by
    rw [hS, ba_extract]; simp [hn]
  have sz : S.size = n := by omega
  have C := Lib.hid (Tryz.strings_Count_one S 46 w)
  rw [hcnt] at C
  have HS := Lib.hid hS; have HX := Lib.hid hx; have HL := Lib.hid hl
  have hn2 : 3 ≤ n ∧ n ≤ 102 := by
    have : 1 ≤ l.length := by cases l <;> simp_all
    omega
  clear hS hd hsz hn hcnt hx hl hl0
  go_enter Tryz.func36, Tryz.ntmps36
  go_wp2_with fail
  refine C.out.mono ?_
  rintro en w1 ⟨rfl, hw⟩; rw [hw]; clear hw w1 C
  go_wp2_with fail
  rw [show (n : Int) + -1 = ((n - 1 : Nat) : Int) by omega]
  refine (Tryz.Builder_Grow_fresh w.heap.size w.heap.size (n - 1) (w.alloc (.cells #[.pointer none, .slice none 0 0] 69)) (Nat.le_refl _) (blk_new _ _) (by simp) (by omega)).mono ?_
  rintro en w1 ⟨rfl, hB1, hO1⟩
  have HB1 := Lib.hid hB1
  have HO1 := Lib.hid (((Only.refl (fun _ => False) w).alloc (.cells #[.pointer none, .slice none 0 0] 69)).seq2 (below_of hO1) (fun i hi => .inl hi))
  have hz1 : w.heap.size + 1 ≤ w1.heap.size := by have := hO1.size; simp at this; omega
  clear hB1 hO1
  go_wp2_with fail
  refine wp_loop_rounds 2 ?_
  rw [rounds_succ]
  have I := Lib.hid (Tryz.strings_Index_one S 46 w1)
  rw [hidx] at I
  go_wp2_with fail
  refine (I.out).mono ?_
  rintro en w2 ⟨rfl, hw⟩; rw [hw]; clear hw w2 I hidx
  go_wp2_with fail
  refine (Tryz.ws w.heap.size w.heap.size [] ⟨#[x]⟩ w1 (.inr HB1.out) (by simp [ByteArray.size]) (by omega)).mono ?_
  rintro en w2 ⟨rfl, hB2, hO2⟩
  have HB2 := Lib.hid hB2
  have HO2 := Lib.hid (HO1.out.seq2 (below_of hO2) (fun i hi => .inl hi))
  have hz2 : w1.heap.size ≤ w2.heap.size := hO2.size
  clear hB2 hO2
  go_wp2_with fail
  refine (Tryz.ws w.heap.size w.heap.size _ ⟨#[]⟩ w2 (.inr HB2.out) (by simp [ByteArray.size, Lib.strCells]) (by omega)).mono ?_
  rintro en w3 ⟨rfl, hB3, hO3⟩
  have HB3 := Lib.hid hB3
  have HO3 := Lib.hid (HO2.out.seq2 (below_of hO3) (fun i hi => .inl hi))
  have hz3 : w2.heap.size ≤ w3.heap.size := hO3.size
  clear hB3 hO3
  go_wp2_with fail
  rw [rounds_succ]
  go_wp2_with fail
  refine (Tryz.ws w.heap.size w.heap.size _ ⟨l.toArray⟩ w3 (.inr HB3.out) (by simp [ByteArray.size, Lib.strCells]; omega) (by omega)).mono ?_
  rintro en w4 ⟨rfl, hB4, hO4⟩
  have hcells : [] ++ Lib.strCells ⟨#[x]⟩ ++ Lib.strCells ⟨#[]⟩ ++ Lib.strCells ⟨l.toArray⟩ = Lib.byteCells (x :: l) := by simp [Lib.strCells, Lib.byteCells]
  rw [hcells] at hB4
  have HB4 := Lib.hid hB4
  have HO4 := Lib.hid (HO3.out.seq2 (below_of hO4) (fun i hi => .inl hi))
  clear hB4 hO4 hcells
  go_wp2_with fail
  refine (Tryz.Builder_String w.heap.size w.heap.size (x :: l) w4 (.inr HB4.out) (by simp)).mono ?_
  rintro en w5 ⟨rfl, hO5⟩
  have HO5 := Lib.hid (HO4.out.seq2 (below_of hO5) (fun i hi => .inl hi))
  clear hO5
  go_wp2_with fail
  go_ret
  exact ⟨rfl, HO5.out⟩
end Go.Proofs.YthjfdhkahmlolaaGreatDoor

/- The walk of shortFloat at subnormal floats, and at all (printed by gen_sub.py). -/
namespace Go.Proofs.YthjfdhkahmlolaaGreatDoor
open Go.RowKit

theorem shl_u64 (k : Nat) (h : k < 64) : IntKind.u64.wrap ((2 : Int) ^ k) = ((2 ^ k : Nat) : Int) := by
  have h1 : (2 : Nat) ^ k ≤ 2 ^ 63 := Nat.pow_le_pow_right (by decide) (by omega)
  have h2 : (2 : Nat) ^ 63 = 9223372036854775808 := by decide
  have h3 : ((2 : Int) ^ k) = ((2 ^ k : Nat) : Int) := by rw [Int.natCast_pow]; rfl
  rw [h3]
  rw [h2] at h1
  generalize (2 : Nat) ^ k = P at *
  exact wrap_u64 (by omega) (by omega)
set_option maxRecDepth 100000 in
set_option maxHeartbeats 4000000 in
theorem sf_sub (m z : Nat) (e : Int) (w : World) (hT : Tab w) (H : SfOk m e) (he : e = -1074 - (z : Int)) (hz : 12 ≤ z ∧ z ≤ 63) :
    Calls Tryz.prog 105 #[.int .u64 m, .int .i64 e] w fun en w' => en = .returned (.tuple #[.int .u64 (sfd m e), .int .i64 (sfq m e)]) ∧ Only (fun _ => False) w w' := by
  have hsz : sfz e = z := by unfold sfz; rw [if_neg (by omega)]; omega
  have hs : sfskew m e = false := by unfold sfskew; rw [decide_eq_false (p := e > -1085) (by omega)]; simp
  have hp : sfp m e = -((e + z) * 78913 / 262144) := by unfold sfp; rw [hs, hsz]; rfl
  have hmin : sfmin m e = m - 2 ^ (z - 1) := by unfold sfmin; rw [hs, hsz]; rfl
  have hmax : sfmax m e = m + 2 ^ (z - 1) := by unfold sfmax; rw [hsz]
  have hodd : sfodd m e = m / 2 ^ z % 2 := by unfold sfodd; rw [hsz]
  have hm1 := H.m1
  rw [hmax] at hm1
  have hm0 := H.m0
  have HT := Lib.hid hT; have HH := Lib.hid H; have HP := Lib.hid hp; have HMIN := Lib.hid hmin; have HMAX := Lib.hid hmax; have HODD := Lib.hid hodd
  have he0 := H.e0
  have t2 : decide (e ≥ -1085) = false := decide_eq_false (by omega)
  have t3 : decide (e > -1085) = false := decide_eq_false (by omega)
  have z1 : 11 + (-1085 - e) = z := by omega
  clear hT H hp hmin hmax hodd hs
  have HE := Lib.hid he
  clear he
  have P := Nat.pow_le_pow_right (show 0 < 2 by decide) (show z - 1 ≤ 62 by omega)
  rw [show (2 : Nat) ^ 62 = 4611686018427387904 by decide] at P
  have EM := Lib.hid (show IntKind.u64.wrap ((m : Int) - IntKind.u64.wrap (2 ^ (z - 1))) = ((sfmin m e : Nat) : Int) by
    rw [shl_u64 (z - 1) (by omega), HMIN.out]
    generalize 2 ^ (z - 1) = T at *
    rw [wrap_u64 (by omega) (by omega)]; omega)
  have EX := Lib.hid (show IntKind.u64.wrap ((m : Int) + IntKind.u64.wrap (2 ^ (z - 1))) = ((sfmax m e : Nat) : Int) by
    rw [shl_u64 (z - 1) (by omega), HMAX.out]
    generalize 2 ^ (z - 1) = T at *
    rw [wrap_u64 (by omega) (by omega)]; omega)
  have EO := Lib.hid (show bits BinOp.and IntKind.i64 (wrap64 ((m : Int) / 2 ^ z)) 1 = ((sfodd m e : Nat) : Int) by
    have h1 : m / 2 ^ z < 9223372036854775808 := by
      have h2 : (2 : Nat) ^ 1 ≤ 2 ^ z := Nat.pow_le_pow_right (by decide) (by omega)
      have h3 : m / 2 ^ z ≤ m / 2 ^ 1 := Nat.div_le_div_left h2 (by decide)
      have h4 : m < 18446744073709551616 := Nat.lt_of_le_of_lt (Nat.le_add_right _ _) hm1
      generalize m / 2 ^ z = T at *
      omega
    have h4 : ((m : Int) / 2 ^ z) = ((m / 2 ^ z : Nat) : Int) := by rw [Int.natCast_ediv, Int.natCast_pow]; rfl
    rw [h4, HODD.out]
    generalize m / 2 ^ z = T at *
    rw [show wrap64 (T : Int) = T from by unfold wrap64; omega]
    exact and_1i T h1)
  have HM1 := Lib.hid hm1
  clear P hm1
  obtain ⟨Q, hQ⟩ : ∃ Q, Q = (e + z) * 78913 / 262144 := ⟨_, rfl⟩
  have L1 := Lib.hid (fun w => l10_calls (e + z) w (by omega) (by omega))
  rw [← hQ] at L1
  have hPQ : sfp m e = -Q := by rw [HP.out, hQ]
  have hp0 := HH.out.p0
  rw [hPQ] at hp0
  have L2 := Lib.hid (fun w => l2_calls (-Q) w (by omega) (by omega))
  obtain ⟨LP, hLP⟩ : ∃ LP, LP = -Q * 108853 / 32768 := ⟨_, rfl⟩
  rw [← hLP] at L2
  have hLPb : -2000 ≤ LP ∧ LP ≤ 2000 := by omega
  have hs0 := HH.out.s0
  have hS : sfs m e = -(e + LP + 3) := by unfold sfs; rw [hPQ, hLP]
  rw [hS] at hs0
  have HPQ := Lib.hid hPQ; have HS := Lib.hid hS
  clear hQ hPQ hLP hS HP
  have hb : ((m : Int) == 9223372036854775808) = false ∨ ((m : Int) == 9223372036854775808) = true := by cases ((m : Int) == 9223372036854775808) <;> simp
  rcases hb with hb | hb
  · go_enter Tryz.func105, Tryz.ntmps105
    go_wp2_with fail
    refine (L1.out _).mono ?_
    rintro en w1 ⟨rfl, hw⟩; rw [hw]; clear hw w1 L1
    go_wp2_with fail
    refine (L2.out _).mono ?_
    rintro en w1 ⟨rfl, hw⟩; rw [hw]; clear hw w1 L2
    go_wp2_with fail
    have n13 : w.heap.size ≠ 13 := by
      obtain ⟨x, _, h2, _⟩ := HT.out.row 0 (by omega)
      have := World.block_lt_of_cell? w ⟨13, 0 * 2, none⟩ h2
      have h3 : 13 < w.heap.size := this
      omega
    refine (prescale_calls w.heap.size e (-Q) LP _ _ _ _ (HT.out.still ((Only.refl (fun _ => False) w).alloc _) id) hp0 (by omega) (by omega) (blk_new _ _) n13).mono ?_
    rintro en w1 ⟨rfl, B1, O1⟩
    obtain ⟨sN, hsN⟩ : ∃ sN : Nat, -(e + LP + 3) = sN := ⟨(-(e + LP + 3)).toNat, by omega⟩
    rw [hsN] at B1
    have hsl : sN < 64 := by omega
    have hU : ∀ x, uscaleN x (th (-Q)) (tl (-Q)) sN = sfu m e x := fun x => by unfold sfu; rw [HPQ.out, HS.out, hsN]; rfl
    have US := Lib.hid (fun (x : Nat) (hx : x < 18446744073709551616) (w2 : World) (hw : Still w1 w2) => uscale_calls x (th (-Q)) (tl (-Q)) sN w.heap.size w2 hx (th_lt _).1 (th_lt _).2 hsl (by rw [hw.heap]; exact B1))
    have OO := Lib.hid (show Only (fun _ => False) w w1 from ((Only.refl (fun _ => False) w).alloc (.cells #[.int .u64 0, .int .u64 0, .int .i64 0] 169)).seq2 O1 (by rintro i rfl; exact .inl (Nat.le_refl _)))
    simp only [hU] at US
    have hu0 := HH.out.u0
    have hu1 := HH.out.u1
    have hu2 := HH.out.u2
    have hod : sfodd m e ≤ 1 := by unfold sfodd; omega
    have em := EM.out
    have ex := EX.out
    have eo := EO.out
    rw [em, ex, eo]
    have hmin1 : sfmin m e < 18446744073709551616 := Nat.lt_of_le_of_lt (by rw [HMIN.out]; exact Nat.le_trans (Nat.sub_le _ _) (Nat.le_add_right _ (2 ^ (z - 1)))) HM1.out
    have hmax1 : sfmax m e < 18446744073709551616 := by rw [HMAX.out]; exact HM1.out
    have hres : sfd m e = (if sfdmax m e / 10 * 10 ≥ sfdmin m e then sfdmax m e / 10 else if sfdmin m e < sfdmax m e then (sfu m e m + 1 + sfu m e m / 4 % 2) / 4 else sfdmin m e) ∧ sfq m e = if sfdmax m e / 10 * 10 ≥ sfdmin m e then -(sfp m e - 1) else -(sfp m e) := ⟨rfl, rfl⟩
    have hdn : sfdmin m e = (sfu m e (sfmin m e) + sfodd m e + 3) / 4 := rfl
    have hdx : sfdmax m e = (sfu m e (sfmax m e) - sfodd m e) / 4 := rfl
    rw [HPQ.out] at hres
    have HRES := Lib.hid hres; have HDN := Lib.hid hdn; have HDX := Lib.hid hdx
    clear em ex eo EM EX EO hU hres hdn hdx B1 O1 hsN HMIN HMAX HODD HPQ HS
    have UA := Lib.hid (US.out (sfmin m e) hmin1); have UB := Lib.hid (US.out (sfmax m e) hmax1); have UM := Lib.hid (US.out m (Nat.lt_of_le_of_lt (Nat.le_add_right _ _) HM1.out))
    clear US
    generalize sfu m e (sfmin m e) = ua at *
    generalize sfu m e (sfmax m e) = ub at *
    generalize sfu m e m = um at *
    generalize sfodd m e = od at *
    generalize sfmin m e = mn at *
    generalize sfmax m e = mx at *
    go_wp2_with fail
    refine (UA.out w1 (Still.refl _)).mono ?_
    rintro en w2 ⟨rfl, S2⟩
    have HS2 := Lib.hid S2; clear S2
    go_wp2_with fail
    refine (nudge_up ua od _ hod hu0.1 (by omega)).mono ?_
    rintro en w3 ⟨rfl, hw⟩; rw [hw]; clear hw w3
    go_wp2_with fail
    refine (ceil_calls (ua + od) _ (by omega)).mono ?_
    rintro en w3 ⟨rfl, hw⟩; rw [hw]; clear hw w3
    rw [← HDN.out]
    go_wp2_with fail
    refine (UB.out w2 HS2.out).mono ?_
    rintro en w3 ⟨rfl, S3⟩
    have HS3 := Lib.hid S3; clear S3
    go_wp2_with fail
    refine (nudge_dn ub od _ hod hu1.1 (by omega)).mono ?_
    rintro en w4 ⟨rfl, hw⟩; rw [hw]; clear hw w4
    go_wp2_with fail
    refine (floor_calls (ub - od) _ (by omega)).mono ?_
    rintro en w4 ⟨rfl, hw⟩; rw [hw]; clear hw w4
    rw [← HDX.out]
    have hdx : sfdmax m e ≤ 4611686018427387900 := by rw [HDX.out]; omega
    have hdn : sfdmin m e ≤ 4611686018427387902 := by rw [HDN.out]; omega
    generalize sfdmax m e = dx at *
    generalize sfdmin m e = dn at *
    go_wp2_with fail
    · have h : (dn : Int) ≤ (dx : Int) / 10 * 10 := by assumption
      go_ret2
      refine ⟨?_, OO.out.trans ((HS2.out.trans HS3.out).only _)⟩
      rw [HRES.out.1, HRES.out.2, if_pos (by omega), if_pos (by omega)]
      exact tup2 (by omega) (by omega)
    · have h : (dx : Int) / 10 * 10 < (dn : Int) := by assumption
      have h' : dn < dx := by assumption
      refine (UM.out w3 (HS2.out.trans HS3.out)).mono ?_
      rintro en w4 ⟨rfl, S4⟩
      have HS4 := Lib.hid S4; clear S4
      have K := Lib.hid (And.intro h h')
      clear h h'
      go_wp2_with fail
      refine (round_calls um _ (by omega)).mono ?_
      rintro en w5 ⟨rfl, hw⟩; rw [hw]; clear hw w5
      go_wp2_with fail
      go_ret2
      have k1 := K.out.1; have k2 := K.out.2
      refine ⟨?_, OO.out.trans (((HS2.out.trans HS3.out).trans HS4.out).only _)⟩
      rw [HRES.out.1, HRES.out.2, if_neg (by omega), if_pos k2, if_neg (by omega)]
      exact tup2 rfl (by omega)
    · have h : (dx : Int) / 10 * 10 < (dn : Int) := by assumption
      have h' : ¬ dn < dx := by assumption
      go_ret2
      refine ⟨?_, OO.out.trans ((HS2.out.trans HS3.out).only _)⟩
      rw [HRES.out.1, HRES.out.2, if_neg (by omega), if_neg h', if_neg (by omega)]
      exact tup2 rfl (by omega)
  · go_enter Tryz.func105, Tryz.ntmps105
    go_wp2_with fail
    refine (L1.out _).mono ?_
    rintro en w1 ⟨rfl, hw⟩; rw [hw]; clear hw w1 L1
    go_wp2_with fail
    refine (L2.out _).mono ?_
    rintro en w1 ⟨rfl, hw⟩; rw [hw]; clear hw w1 L2
    go_wp2_with fail
    have n13 : w.heap.size ≠ 13 := by
      obtain ⟨x, _, h2, _⟩ := HT.out.row 0 (by omega)
      have := World.block_lt_of_cell? w ⟨13, 0 * 2, none⟩ h2
      have h3 : 13 < w.heap.size := this
      omega
    refine (prescale_calls w.heap.size e (-Q) LP _ _ _ _ (HT.out.still ((Only.refl (fun _ => False) w).alloc _) id) hp0 (by omega) (by omega) (blk_new _ _) n13).mono ?_
    rintro en w1 ⟨rfl, B1, O1⟩
    obtain ⟨sN, hsN⟩ : ∃ sN : Nat, -(e + LP + 3) = sN := ⟨(-(e + LP + 3)).toNat, by omega⟩
    rw [hsN] at B1
    have hsl : sN < 64 := by omega
    have hU : ∀ x, uscaleN x (th (-Q)) (tl (-Q)) sN = sfu m e x := fun x => by unfold sfu; rw [HPQ.out, HS.out, hsN]; rfl
    have US := Lib.hid (fun (x : Nat) (hx : x < 18446744073709551616) (w2 : World) (hw : Still w1 w2) => uscale_calls x (th (-Q)) (tl (-Q)) sN w.heap.size w2 hx (th_lt _).1 (th_lt _).2 hsl (by rw [hw.heap]; exact B1))
    have OO := Lib.hid (show Only (fun _ => False) w w1 from ((Only.refl (fun _ => False) w).alloc (.cells #[.int .u64 0, .int .u64 0, .int .i64 0] 169)).seq2 O1 (by rintro i rfl; exact .inl (Nat.le_refl _)))
    simp only [hU] at US
    have hu0 := HH.out.u0
    have hu1 := HH.out.u1
    have hu2 := HH.out.u2
    have hod : sfodd m e ≤ 1 := by unfold sfodd; omega
    have em := EM.out
    have ex := EX.out
    have eo := EO.out
    rw [em, ex, eo]
    have hmin1 : sfmin m e < 18446744073709551616 := Nat.lt_of_le_of_lt (by rw [HMIN.out]; exact Nat.le_trans (Nat.sub_le _ _) (Nat.le_add_right _ (2 ^ (z - 1)))) HM1.out
    have hmax1 : sfmax m e < 18446744073709551616 := by rw [HMAX.out]; exact HM1.out
    have hres : sfd m e = (if sfdmax m e / 10 * 10 ≥ sfdmin m e then sfdmax m e / 10 else if sfdmin m e < sfdmax m e then (sfu m e m + 1 + sfu m e m / 4 % 2) / 4 else sfdmin m e) ∧ sfq m e = if sfdmax m e / 10 * 10 ≥ sfdmin m e then -(sfp m e - 1) else -(sfp m e) := ⟨rfl, rfl⟩
    have hdn : sfdmin m e = (sfu m e (sfmin m e) + sfodd m e + 3) / 4 := rfl
    have hdx : sfdmax m e = (sfu m e (sfmax m e) - sfodd m e) / 4 := rfl
    rw [HPQ.out] at hres
    have HRES := Lib.hid hres; have HDN := Lib.hid hdn; have HDX := Lib.hid hdx
    clear em ex eo EM EX EO hU hres hdn hdx B1 O1 hsN HMIN HMAX HODD HPQ HS
    have UA := Lib.hid (US.out (sfmin m e) hmin1); have UB := Lib.hid (US.out (sfmax m e) hmax1); have UM := Lib.hid (US.out m (Nat.lt_of_le_of_lt (Nat.le_add_right _ _) HM1.out))
    clear US
    generalize sfu m e (sfmin m e) = ua at *
    generalize sfu m e (sfmax m e) = ub at *
    generalize sfu m e m = um at *
    generalize sfodd m e = od at *
    generalize sfmin m e = mn at *
    generalize sfmax m e = mx at *
    go_wp2_with fail
    refine (UA.out w1 (Still.refl _)).mono ?_
    rintro en w2 ⟨rfl, S2⟩
    have HS2 := Lib.hid S2; clear S2
    go_wp2_with fail
    refine (nudge_up ua od _ hod hu0.1 (by omega)).mono ?_
    rintro en w3 ⟨rfl, hw⟩; rw [hw]; clear hw w3
    go_wp2_with fail
    refine (ceil_calls (ua + od) _ (by omega)).mono ?_
    rintro en w3 ⟨rfl, hw⟩; rw [hw]; clear hw w3
    rw [← HDN.out]
    go_wp2_with fail
    refine (UB.out w2 HS2.out).mono ?_
    rintro en w3 ⟨rfl, S3⟩
    have HS3 := Lib.hid S3; clear S3
    go_wp2_with fail
    refine (nudge_dn ub od _ hod hu1.1 (by omega)).mono ?_
    rintro en w4 ⟨rfl, hw⟩; rw [hw]; clear hw w4
    go_wp2_with fail
    refine (floor_calls (ub - od) _ (by omega)).mono ?_
    rintro en w4 ⟨rfl, hw⟩; rw [hw]; clear hw w4
    rw [← HDX.out]
    have hdx : sfdmax m e ≤ 4611686018427387900 := by rw [HDX.out]; omega
    have hdn : sfdmin m e ≤ 4611686018427387902 := by rw [HDN.out]; omega
    generalize sfdmax m e = dx at *
    generalize sfdmin m e = dn at *
    go_wp2_with fail
    · have h : (dn : Int) ≤ (dx : Int) / 10 * 10 := by assumption
      go_ret2
      refine ⟨?_, OO.out.trans ((HS2.out.trans HS3.out).only _)⟩
      rw [HRES.out.1, HRES.out.2, if_pos (by omega), if_pos (by omega)]
      exact tup2 (by omega) (by omega)
    · have h : (dx : Int) / 10 * 10 < (dn : Int) := by assumption
      have h' : dn < dx := by assumption
      refine (UM.out w3 (HS2.out.trans HS3.out)).mono ?_
      rintro en w4 ⟨rfl, S4⟩
      have HS4 := Lib.hid S4; clear S4
      have K := Lib.hid (And.intro h h')
      clear h h'
      go_wp2_with fail
      refine (round_calls um _ (by omega)).mono ?_
      rintro en w5 ⟨rfl, hw⟩; rw [hw]; clear hw w5
      go_wp2_with fail
      go_ret2
      have k1 := K.out.1; have k2 := K.out.2
      refine ⟨?_, OO.out.trans (((HS2.out.trans HS3.out).trans HS4.out).only _)⟩
      rw [HRES.out.1, HRES.out.2, if_neg (by omega), if_pos k2, if_neg (by omega)]
      exact tup2 rfl (by omega)
    · have h : (dx : Int) / 10 * 10 < (dn : Int) := by assumption
      have h' : ¬ dn < dx := by assumption
      go_ret2
      refine ⟨?_, OO.out.trans ((HS2.out.trans HS3.out).only _)⟩
      rw [HRES.out.1, HRES.out.2, if_neg (by omega), if_neg h', if_neg (by omega)]
      exact tup2 rfl (by omega)
/-- shortFloat, at every float above 0 -/
theorem sf_calls (m z : Nat) (e : Int) (w : World) (hT : Tab w) (H : SfOk m e) (he : -1085 ≤ e ∨ (e = -1074 - (z : Int) ∧ 12 ≤ z ∧ z ≤ 63)) :
    Calls Tryz.prog 105 #[.int .u64 m, .int .i64 e] w fun en w' => en = .returned (.tuple #[.int .u64 (sfd m e), .int .i64 (sfq m e)]) ∧ Only (fun _ => False) w w' := by
  rcases he with h | ⟨h, h1⟩
  · exact sf_normal m e w hT H h
  · exact sf_sub m z e w hT H h h1
end Go.Proofs.YthjfdhkahmlolaaGreatDoor
