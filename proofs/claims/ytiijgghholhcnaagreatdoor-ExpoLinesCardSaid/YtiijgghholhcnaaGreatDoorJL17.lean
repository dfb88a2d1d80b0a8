/- The walk of FormatUint at any number (after the shelf's FormatInt). -/
import Derived.Test.YtiijgghholhcnaaGreatDoorJL03
import Derived.Test.YtiijgghholhcnaaGreatDoorJL04
import Derived.Lib.ItoaMem
import Derived.Laws.BitsAllLaws
import Derived.Deep.QuietTactic
import Derived.BigQuiet
namespace Go.Proofs.YtiijgghholhcnaaGreatDoor
open Go.RowKit Go.Sort Go.Lib
set_option maxRecDepth 1000000
theorem holds_zero0 (w : World) (T : TypeId) (nd : Nat) (hs : nd ≤ 24) : Holds (fun (b : UInt8) => Value.int .u8 (b.toNat : Int)) (w.alloc (.cells zeros24 T)) w.heap.size 0 (Array.replicate nd (0 : UInt8)) := fun j hj => by
  have hj' : j < nd := by simpa using hj
  refine ⟨?_, World.frozen?_alloc_new _ _ _ _⟩
  rw [World.cell?_alloc_new, zeros24_at _ (by omega), getElem!_pos _ j hj]
  simp
theorem only_put (w : World) (o : Obj) (dk : Array UInt8) (k : Nat) : Only (fun _ => False) w ((putRow (fun (b : UInt8) => Value.int .u8 (b.toNat : Int)) (w.alloc o) w.heap.size 0 dk).drewN k) := by
  rw [alloc_eq_grow]
  obtain ⟨os', _, e⟩ := putRow_grow_new (fun (b : UInt8) => Value.int .u8 (b.toNat : Int)) w #[o] w.heap.size 0 dk (Nat.le_refl _)
  rw [e]
  refine ⟨rfl, rfl, rfl, ?_, fun j hj _ => ?_⟩
  · show w.heap.size ≤ (w.heap ++ os').size
    simp
  · show (w.heap ++ os')[j]? = _
    rw [Array.getElem?_append_left hj]
set_option maxHeartbeats 4000000 in
theorem fmtU_calls (u : Nat) (w : World) (hu64 : u < 18446744073709551616) (htab : Lib.TabIs Tryz.prog w "internal/strconv.uint64pow10" .u64 Lib.pow10Tab) :
    Calls Tryz.prog 62 #[.int .u64 (u : Int), .int .i64 10] w fun e w' => e = .returned (.string ⟨(Lib.decDigits u).toArray⟩) ∧ Only (fun _ => False) w w' := by
  by_cases hs : u < 100
  · have K := Lib.hid (fun w => Any.internal_strconv_small { Tryz.laysM246 with } u hs w)
    have t : decide ((u : Int) < 100) = true := decide_eq_true (by omega)
    go_enter Tryz.func62, Tryz.ntmps62
    go_wp2_with fail
    refine (show Calls Tryz.prog 108 #[.int .i64 (u : Int)] w _ from K.out w).mono ?_
    rintro e w1 ⟨rfl, hw⟩; rw [hw]; clear hw w1
    go_wp2_with fail
    go_ret
    exact ⟨rfl, Only.refl _ w⟩
  · have hu1 : 1 ≤ u := by omega
    have hnd20 : Lib.nDigits u ≤ 20 := by have := Lib.numDigits_eq u hu1 hu64; split at this <;> omega
    have t : decide ((u : Int) < 100) = false := decide_eq_false (by omega)
    have hsl : ∀ W, (Instr.sliceAt 132 (.pointer (some ⟨w.heap.size, 0, none⟩)) none (some (.int .i64 (Lib.nDigits u : Int))) none).run Tryz.prog W = .ok (.slice (some ⟨w.heap.size, 0, none⟩) (Lib.nDigits u) 24) W := fun W => by
      rw [run_sliceAt_array_h W 132 ⟨w.heap.size, 0, none⟩ (by kernel_rfl) .i64 (Lib.nDigits u : Int) (by omega) (by rw [show Tryz.prog.arrayLen 132 = 24 by kernel_rfl]; omega)]
      go_simp
    have hH0 := holds_zero0 w 132 (Lib.nDigits u) (by omega)
    have hfmt := Tryz.internal_strconv_formatBase10 w.heap.size 0 24 u (Array.replicate (Lib.nDigits u) 0) (w.alloc (.cells Lib.zeros24 132)) hH0 (by rw [Array.size_replicate]; exact Lib.lt_pow_nDigits u) hu64 (by rw [Array.size_replicate]; omega)
    rw [Array.size_replicate] at hfmt
    have HH0 := Lib.hid hH0
    have HF := Lib.hid hfmt
    clear hH0 hfmt
    have KN := Lib.hid (fun w htab => Tryz.internal_strconv_numDigits u hu1 hu64 w htab)
    go_enter Tryz.func62, Tryz.ntmps62
    go_wp2_with fail
    refine (KN.out _ (Lib.tabIs_alloc htab _)).mono ?_
    rintro e w1 ⟨rfl, hw⟩; rw [hw]; clear hw w1
    go_wp2_with fail
    refine HF.out.mono ?_
    rintro e w' ⟨rfl, k, v', dk, rfl, hF⟩
    have hcv : (convert 27 9 (.slice (some ⟨w.heap.size, 0, none⟩) (Lib.nDigits u) 24)).run Tryz.prog ((putRow (fun (b : UInt8) => Value.int .u8 (b.toNat : Int)) (w.alloc (.cells Lib.zeros24 132)) w.heap.size 0 dk).drewN k) = .ok (.string ⟨(Lib.decDigits u).toArray⟩) ((putRow (fun (b : UInt8) => Value.int .u8 (b.toNat : Int)) (w.alloc (.cells Lib.zeros24 132)) w.heap.size 0 dk).drewN k) := by
      have h := run_convert_bytes_back (P := Tryz.prog) ((putRow (fun (b : UInt8) => Value.int .u8 (b.toNat : Int)) (w.alloc (.cells Lib.zeros24 132)) w.heap.size 0 dk).drewN k) 27 9 5 ⟨w.heap.size, 0, none⟩ 24 (Lib.decDigits u) Tryz.underlying27 Tryz.underlying5 Tryz.underlying9 (fun j hj => by
        rw [Lib.row_is_numeral hF j hj, Lib.add_plain, World.cell?_drewN]
        exact cell?_putRow (fun (b : UInt8) => Value.int .u8 (b.toNat : Int)) _ w.heap.size 0 _ dk HH0.out (by rw [hF.size, Array.size_replicate]) j (by rw [hF.size]; rw [Lib.decDigits_length] at hj; exact hj))
      rw [Lib.decDigits_length] at h
      exact h
    have HO := Lib.hid (only_put w (.cells Lib.zeros24 132) dk k)
    generalize (putRow (fun (b : UInt8) => Value.int .u8 (b.toNat : Int)) (w.alloc (.cells Lib.zeros24 132)) w.heap.size 0 dk).drewN k = w2 at *
    go_wp2_with fail
    go_ret
    exact ⟨rfl, HO.out⟩
theorem fmtU31_calls (u : Nat) (w : World) (hu64 : u < 18446744073709551616) (htab : Lib.TabIs Tryz.prog w "internal/strconv.uint64pow10" .u64 Lib.pow10Tab) :
    Calls Tryz.prog 31 #[.int .u64 (u : Int), .int .i64 10] w fun e w' => e = .returned (.string ⟨(Lib.decDigits u).toArray⟩) ∧ Only (fun _ => False) w w' := by
  have K := Lib.hid (fmtU_calls u w hu64 htab)
  go_enter Tryz.func31, Tryz.ntmps31
  go_wp2_with fail
  refine K.out.mono ?_
  rintro e w1 ⟨rfl, hO⟩
  have HO := Lib.hid hO; clear hO
  go_wp2_with fail
  go_ret
  exact ⟨rfl, HO.out⟩
/-- expo's digits at any number -/
theorem digitsU_calls (u : Nat) (w : World) (hu64 : u < 18446744073709551616) (htab : Lib.TabIs Tryz.prog w "internal/strconv.uint64pow10" .u64 Lib.pow10Tab) :
    Calls Tryz.prog 17 #[.int .u64 (u : Int)] w fun e w' => e = .returned (.string ⟨(Lib.decDigits u).toArray⟩) ∧ Only (fun _ => False) w w' := by
  have K := Lib.hid (fmtU31_calls u w hu64 htab)
  go_enter Tryz.func17, Tryz.ntmps17
  go_wp2_with fail
  refine K.out.mono ?_
  rintro e w1 ⟨rfl, hO⟩
  have HO := Lib.hid hO; clear hO
  go_wp2_with fail
  go_ret
  exact ⟨rfl, HO.out⟩
theorem only_grow (w : World) (k : Nat) (os : Array Obj) : Only (fun _ => False) w (grow (w.drewN k) os) := by
  refine ⟨rfl, rfl, rfl, ?_, fun j hj _ => ?_⟩
  · show w.heap.size ≤ (w.heap ++ os).size
    simp
  · show (w.heap ++ os)[j]? = _
    rw [Array.getElem?_append_left hj]
/-- strconv.Itoa at any number -/
theorem itoaI_calls (n : Int) (w : World) (h0 : -9223372036854775808 ≤ n) (h1 : n ≤ 9223372036854775807) (htab : Lib.TabIs Tryz.prog w "internal/strconv.uint64pow10" .u64 Lib.pow10Tab) :
    Calls Tryz.prog 16 #[.int .i64 n] w fun e w' => e = .returned (.string ⟨(Lib.itoa n).toArray⟩) ∧ Only (fun _ => False) w w' := by
  refine (Tryz.strconv_Itoa n h0 h1 w htab).mono ?_
  rintro e w' ⟨rfl, k, os, rfl⟩
  exact ⟨rfl, only_grow w k os⟩
theorem fmtI61_calls (n : Int) (w : World) (h0 : -9223372036854775808 ≤ n) (h1 : n ≤ 9223372036854775807) (htab : Lib.TabIs Tryz.prog w "internal/strconv.uint64pow10" .u64 Lib.pow10Tab) :
    Calls Tryz.prog 61 #[.int .i64 n, .int .i64 10] w fun e w' => e = .returned (.string ⟨(Lib.itoa n).toArray⟩) ∧ Only (fun _ => False) w w' := by
  refine (Tryz.internal_strconv_FormatInt_10 n h0 h1 w htab).mono ?_
  rintro e w' ⟨rfl, k, os, rfl⟩
  exact ⟨rfl, only_grow w k os⟩
/-- strconv.FormatInt at any number -/
theorem fmtI_calls (n : Int) (w : World) (h0 : -9223372036854775808 ≤ n) (h1 : n ≤ 9223372036854775807) (htab : Lib.TabIs Tryz.prog w "internal/strconv.uint64pow10" .u64 Lib.pow10Tab) :
    Calls Tryz.prog 66 #[.int .i64 n, .int .i64 10] w fun e w' => e = .returned (.string ⟨(Lib.itoa n).toArray⟩) ∧ Only (fun _ => False) w w' := by
  have K := Lib.hid (fmtI61_calls n w h0 h1 htab)
  go_enter Tryz.func66, Tryz.ntmps66
  go_wp2_with fail
  refine K.out.mono ?_
  rintro e w1 ⟨rfl, hO⟩
  have HO := Lib.hid hO; clear hO
  go_wp2_with fail
  go_ret
  exact ⟨rfl, HO.out⟩
end Go.Proofs.YtiijgghholhcnaaGreatDoor

/- The walks of the small functions of unrounded numbers. -/
namespace Go.Proofs.YtiijgghholhcnaaGreatDoor.Re
open Go.RowKit

theorem l10_calls (x : Int) (w : World) (h0 : -100000 ≤ x) (h1 : x ≤ 100000) : Calls Tryz.prog 142 #[.int .i64 x] w fun e w' => e = .returned (.int .i64 (x * 78913 / 262144)) ∧ w' = w := by
  go_enter Tryz.func142, Tryz.ntmps142
  go_wp2_with fail
  go_ret
  exact ⟨rfl, rfl⟩
theorem l2_calls (x : Int) (w : World) (h0 : -100000 ≤ x) (h1 : x ≤ 100000) : Calls Tryz.prog 258 #[.int .i64 x] w fun e w' => e = .returned (.int .i64 (x * 108853 / 32768)) ∧ w' = w := by
  go_enter Tryz.func258, Tryz.ntmps258
  go_wp2_with fail
  go_ret
  exact ⟨rfl, rfl⟩
theorem sk_calls (x : Int) (w : World) (h0 : -100000 ≤ x) (h1 : x ≤ 100000) : Calls Tryz.prog 256 #[.int .i64 x] w fun e w' => e = .returned (.int .i64 ((x * 631305 - 261663) / 2097152)) ∧ w' = w := by
  go_enter Tryz.func256, Tryz.ntmps256
  go_wp2_with fail
  go_ret
  exact ⟨rfl, rfl⟩
theorem u64_mod (x : Int) : IntKind.u64.wrap x = x % 18446744073709551616 := rfl
theorem wrap_u64 {x : Int} (h0 : 0 ≤ x) (h1 : x ≤ 18446744073709551615) : IntKind.u64.wrap x = x := IntWalk.u64_in _ ⟨h0, h1⟩
theorem nudge_calls (u : Nat) (d : Int) (w : World) (hd : d = -1 ∨ d = 0 ∨ d = 1) (h0 : 1 ≤ u) (h1 : u ≤ 18446744073709551614) : Calls Tryz.prog 260 #[.int .u64 u, .int .i64 d] w fun e w' => e = .returned (.int .u64 ((u + d).toNat : Nat)) ∧ w' = w := by
  have k1 : IntKind.u64.wrap ((u : Int) + IntKind.u64.wrap d) = (((u : Int) + d).toNat : Nat) := by
    rcases hd with rfl | rfl | rfl
    · rw [show IntKind.u64.wrap (-1) = 18446744073709551615 by decide]
      rw [u64_mod]; omega
    · rw [show IntKind.u64.wrap 0 = 0 by decide, wrap_u64 (by omega) (by omega)]; omega
    · rw [show IntKind.u64.wrap 1 = 1 by decide, wrap_u64 (by omega) (by omega)]; omega
  have K := Lib.hid k1; clear k1 hd
  go_enter Tryz.func260, Tryz.ntmps260
  go_wp2_with fail
  go_ret
  exact ⟨ret_eq (congrArg (Value.int IntKind.u64) K.out), rfl⟩
theorem ceil_calls (u : Nat) (w : World) (h1 : u ≤ 18446744073709551612) : Calls Tryz.prog 261 #[.int .u64 u] w fun e w' => e = .returned (.int .u64 ((u + 3) / 4 : Nat)) ∧ w' = w := by
  have K := Lib.hid (wrap_u64 (x := (u : Int) + 3) (by omega) (by omega))
  go_enter Tryz.func261, Tryz.ntmps261
  go_wp2_with fail
  go_ret
  exact ⟨ret_eq (congrArg (Value.int IntKind.u64) (by first | omega | (rw [K.out]; omega))), rfl⟩
theorem floor_calls (u : Nat) (w : World) (h1 : u ≤ 18446744073709551615) : Calls Tryz.prog 262 #[.int .u64 u] w fun e w' => e = .returned (.int .u64 (u / 4 : Nat)) ∧ w' = w := by
  have K := Lib.hid (wrap_u64 (x := (u : Int)) (by omega) (by omega))
  go_enter Tryz.func262, Tryz.ntmps262
  go_wp2_with fail
  go_ret
  exact ⟨ret_eq (congrArg (Value.int IntKind.u64) (by first | omega | (rw [K.out]; omega))), rfl⟩
theorem and_1 (m : Nat) (h : m < 18446744073709551616) : bits BinOp.and IntKind.u64 (m : Int) 1 = ((m % 2 : Nat) : Int) := by
  have := u64_and_nat m 1 h (by omega)
  rw [nat_mask1] at this; exact this
theorem round_calls (u : Nat) (w : World) (h1 : u ≤ 18446744073709551610) : Calls Tryz.prog 263 #[.int .u64 u] w fun e w' => e = .returned (.int .u64 ((u + 1 + u / 4 % 2) / 4 : Nat)) ∧ w' = w := by
  have k1 := and_1 (u / 4) (by omega)
  rw [show (((u / 4 : Nat) : Int)) = (u : Int) / 4 by omega] at k1
  have k2 := wrap_u64 (x := (u : Int) + 1) (by omega) (by omega)
  have k3 := wrap_u64 (x := (u : Int) + 1 + (u / 4 % 2 : Nat)) (by omega) (by omega)
  have K1 := Lib.hid k1; have K2 := Lib.hid k2; have K3 := Lib.hid k3
  clear k1 k2 k3
  go_enter Tryz.func263, Tryz.ntmps263
  go_wp2_with fail
  go_ret
  exact ⟨ret_eq (congrArg (Value.int IntKind.u64) (by first | omega | (rw [K1.out, K3.out]; omega) | (rw [K2.out, K1.out, K3.out]; omega))), rfl⟩
theorem b2_calls (b : Bool) (w : World) : Calls Tryz.prog 274 #[.bool b] w fun e w' => e = .returned (.int .u64 (b.toNat : Nat)) ∧ w' = w := by
  cases b <;>
  · go_enter Tryz.func274, Tryz.ntmps274
    go_wp2_with fail
    go_ret
    exact ⟨rfl, rfl⟩
theorem mul_calls (x y h l : Nat) (w : World) (hx : x < 18446744073709551616) (hy : y < 18446744073709551616) (eh : h = x * y / 18446744073709551616) (el : l = x * y % 18446744073709551616) :
    Calls Tryz.prog 173 #[.int .u64 x, .int .u64 y] w fun e w' => e = .returned (.tuple #[.int .u64 h, .int .u64 l]) ∧ w' = w := by
  subst eh el; exact Tryz.bits_Mul64 x y hx hy w
/-- h >> s, its last bit set if q -/
def stick (n s : Nat) (q : Bool) : Nat := (n / 2 ^ s) ||| q.toNat
def hiN (x hi : Nat) : Nat := x * hi / 18446744073709551616
def loN (x hi : Nat) : Nat := x * hi % 18446744073709551616
def subN (a b : Nat) : Nat := (a + (18446744073709551616 - b)) % 18446744073709551616
/-- uscale -/
def uscaleN (x hi lo s : Nat) : Nat :=
  if hiN x hi / 2 ^ s * 2 ^ s ≠ hiN x hi then stick (hiN x hi) s true
  else stick (subN (hiN x hi) (decide (loN x hi < hiN x lo)).toNat) s (decide (1 < subN (loN x hi) (hiN x lo)))
theorem hiN_lt {x y : Nat} (hx : x < 18446744073709551616) (hy : y < 18446744073709551616) : hiN x y < 18446744073709551616 := by
  unfold hiN
  have : x * y < 18446744073709551616 * 18446744073709551616 := Nat.mul_lt_mul'' hx hy
  omega
theorem sub_wrap (a b : Nat) (ha : a < 18446744073709551616) (hb : b < 18446744073709551616) : IntKind.u64.wrap ((a : Int) - b) = (subN a b : Nat) := by
  unfold subN
  by_cases h : b ≤ a
  · rw [wrap_u64 (by omega) (by omega)]; omega
  · rw [u64_mod]; omega
theorem or_stick (n s : Nat) (q : Bool) (h : n < 18446744073709551616) : bits BinOp.or IntKind.u64 ((n : Int) / 2 ^ s) ((q.toNat : Nat) : Int) = ((stick n s q : Nat) : Int) := by
  have h2 : n / 2 ^ s < 18446744073709551616 := Nat.lt_of_le_of_lt (Nat.div_le_self _ _) h
  have := u64_or_nat (n / 2 ^ s) q.toNat h2 (by cases q <;> decide)
  rw [show ((n : Int) / 2 ^ s) = ((n / 2 ^ s : Nat) : Int) by simp]
  exact this
set_option maxHeartbeats 2000000 in
theorem uscale_calls (x hi lo s : Nat) (a : Nat) (w : World) (hx : x < 18446744073709551616) (hh : hi < 18446744073709551616) (hl : lo < 18446744073709551616) (hs : s < 64) (ha : w.heap[a]? = some (.cells #[.int .u64 hi, .int .u64 lo, .int .i64 s] 281 (0, 0))) :
    Calls Tryz.prog 259 #[.int .u64 x, .pointer (some ⟨a, 0, none⟩)] w fun e w' => e = .returned (.int .u64 (uscaleN x hi lo s : Nat)) ∧ Still w w' := by
  have c0 := blk_cell ha 0
  have c1 := blk_cell ha 1
  have c2 := blk_cell ha 2
  simp at c0 c1 c2
  clear ha
  have k63 : bits BinOp.and IntKind.i64 (s : Int) 63 = s := by
    have : ∀ n : Fin 64, bits BinOp.and IntKind.i64 ((n.val : Nat) : Int) 63 = (n.val : Nat) := by decide +kernel
    exact this ⟨s, hs⟩
  have hH := hiN_lt hx hh
  have hL : loN x hi < 18446744073709551616 := Nat.mod_lt _ (by decide)
  have hM := hiN_lt hx hl
  have M1 := Lib.hid (fun w => mul_calls x hi (hiN x hi) (loN x hi) w hx hh rfl rfl)
  have M2 := Lib.hid (fun w => mul_calls x lo (hiN x lo) (loN x lo) w hx hl rfl rfl)
  have E := Lib.hid (show uscaleN x hi lo s = if hiN x hi / 2 ^ s * 2 ^ s ≠ hiN x hi then stick (hiN x hi) s true else stick (subN (hiN x hi) (decide (loN x hi < hiN x lo)).toNat) s (decide (1 < subN (loN x hi) (hiN x lo))) from rfl)
  generalize uscaleN x hi lo s = U at *
  generalize hiN x hi = h at *
  generalize loN x hi = l at *
  generalize hiN x lo = m at *
  generalize loN x lo = l2 at *
  have D := Lib.hid (Nat.div_mul_le_self h (2 ^ s))
  have hle : h / 2 ^ s * 2 ^ s ≤ h := Nat.div_mul_le_self h (2 ^ s)
  have W1 : IntKind.u64.wrap ((h : Int) / 2 ^ s * 2 ^ s) = ((h / 2 ^ s * 2 ^ s : Nat) : Int) := by
    rw [show ((h : Int) / 2 ^ s * 2 ^ s) = ((h / 2 ^ s * 2 ^ s : Nat) : Int) by simp]
    exact wrap_u64 (by omega) (by omega)
  clear hle
  by_cases ht : h / 2 ^ s * 2 ^ s ≠ h
  · have T1 : (IntKind.u64.wrap ((h : Int) / 2 ^ s * 2 ^ s) != (h : Int)) = true := by
      rw [W1, bne_iff_ne]; intro e; exact ht (by exact_mod_cast e)
    have O1 := or_stick h s true hH
    have HT := Lib.hid ht
    have HW := Lib.hid W1
    have HO := Lib.hid O1
    clear ht W1 O1
    go_enter Tryz.func259, Tryz.ntmps259
    go_wp2_with fail
    refine (M1.out _).mono ?_
    rintro e w1 ⟨rfl, hw⟩; rw [hw]; clear hw w1
    go_wp2_with fail
    go_ret
    exact ⟨ret_eq (congrArg (Value.int IntKind.u64) (by rw [E.out, if_pos HT.out]; exact HO.out)), Still.refl _⟩
  · have T1 : (IntKind.u64.wrap ((h : Int) / 2 ^ s * 2 ^ s) != (h : Int)) = false := by
      rw [W1, show ((h / 2 ^ s * 2 ^ s : Nat) : Int) = h by simpa using congrArg (fun n : Nat => (n : Int)) (Decidable.not_not.1 ht)]; simp
    have HT := Lib.hid ht
    have hb1 : (decide (l < m)).toNat ≤ 1 := by cases decide (l < m) <;> decide
    have S1 := Lib.hid (sub_wrap h (decide (l < m)).toNat hH (by omega))
    have S2 := Lib.hid (sub_wrap l m hL hM)
    have hS : subN h (decide (l < m)).toNat < 18446744073709551616 := Nat.mod_lt _ (by decide)
    have O1 := Lib.hid (or_stick (subN h (decide (l < m)).toNat) s (decide (1 < subN l m)) hS)
    clear ht W1
    go_enter Tryz.func259, Tryz.ntmps259
    go_wp2_with fail
    refine (M1.out _).mono ?_
    rintro e w1 ⟨rfl, hw⟩; rw [hw]; clear hw w1
    go_wp2_with fail
    refine (M2.out _).mono ?_
    rintro e w1 ⟨rfl, hw⟩; rw [hw]; clear hw w1
    go_wp2_with fail
    refine (b2_calls _ _).mono ?_
    rintro e w1 ⟨rfl, hw⟩; rw [hw]; clear hw w1
    generalize (decide (l < m)).toNat = q at *
    go_wp2_with fail
    rw [S1.out]
    have s2 := S2.out
    generalize subN h q = g at *
    generalize subN l m = r at *
    go_quiet ((go_at_call 274; exact Calls.quiet_of_same (b2_calls _ _)))
    go_wp2_with fail
    go_ret
    exact ⟨ret_eq (congrArg (Value.int IntKind.u64) (by rw [E.out, if_neg HT.out, ← O1.out, show decide ((1 : Int) < (r : Int)) = decide (1 < r) from decide_eq_decide.2 (by omega)])), (Still.refl w).drewN _⟩
/-- the table of powers of ten, as it lies in memory -/
structure Tab (w : World) : Prop where
  row : ∀ i, i < 696 → ∃ x : Nat × Nat, Go.Pinned.pow10Rows[i]? = some x ∧ w.cell? ⟨12, i * 2, none⟩ = some (.int .u64 x.1) ∧ w.cell? ⟨12, i * 2 + 1, none⟩ = some (.int .u64 x.2)
theorem rows_len : Go.Pinned.pow10Rows.length = 696 := by decide +kernel
def th (p : Int) : Nat := ((Go.Pinned.pow10Rows[(p + 348).toNat]?).getD (0, 0)).1
def tl (p : Int) : Nat := ((Go.Pinned.pow10Rows[(p + 348).toNat]?).getD (0, 0)).2
set_option maxHeartbeats 1000000 in
theorem prescale_calls (a : Nat) (e p lp : Int) (x0 x1 x2 : Value) (w : World) (hT : Tab w) (hp : -348 ≤ p ∧ p ≤ 347) (he : -100000 ≤ e ∧ e ≤ 100000) (hl : -100000 ≤ lp ∧ lp ≤ 100000) (ha : w.heap[a]? = some (.cells #[x0, x1, x2] 281 (0, 0))) (_hne : a ≠ 12) :
    Calls Tryz.prog 257 #[.pointer (some ⟨a, 0, none⟩), .int .i64 e, .int .i64 p, .int .i64 lp] w fun en w' => en = .returned (.tuple #[]) ∧ w'.heap[a]? = some (.cells #[.int .u64 (th p), .int .u64 (tl p), .int .i64 (-(e + lp + 3))] 281 (0, 0)) ∧ Only (· = a) w w' := by
  obtain ⟨x, hx, t0, t1⟩ := hT.row (p + 348).toNat (by omega)
  have e0 : th p = x.1 := by unfold th; rw [hx]; rfl
  have e1 : tl p = x.2 := by unfold tl; rw [hx]; rfl
  rw [e0, e1]
  have c0 := blk_cell ha 0
  have c1 := blk_cell ha 1
  have c2 := blk_cell ha 2
  simp at c0 c1 c2
  have f0 := blk_free ha 0
  have f1 := blk_free ha 1
  have f2 := blk_free ha 2
  have HA := Lib.hid ha
  clear ha hT hx e0 e1
  obtain ⟨i, rfl⟩ : ∃ i : Nat, p = (i : Int) - 348 := ⟨(p + 348).toNat, by omega⟩
  rw [show ((i : Int) - 348 + 348).toNat = i by omega] at t0 t1
  have hi : i < 696 := by omega
  clear hp
  have q1 : IntKind.i64.wrap ((i : Int) - 348 - -348) = i := by rw [show ((i : Int) - 348 - -348) = i by omega]; exact IntWalk.i64_in _ ⟨by omega, by omega⟩
  go_enter Tryz.func257, Tryz.ntmps257
  go_wp2_with fail
  go_end0
  refine ⟨rfl, blk_set (blk_set (blk_set HA.out 0 _) 1 _) 2 _, ?_⟩
  exact (((Only.refl (· = a) w).setCell (p := ⟨a, 0, none⟩) (.inr rfl) _).setCell (p := ⟨a, 1, none⟩) (.inr rfl) _).setCell (p := ⟨a, 2, none⟩) (.inr rfl) _
end Go.Proofs.YtiijgghholhcnaaGreatDoor.Re

/- What shortFloat computes; its parts. -/
namespace Go.Proofs.YtiijgghholhcnaaGreatDoor.Re
open Go.RowKit

def sfz (e : Int) : Nat := if e ≥ -1085 then 11 else (11 + (-1085 - e)).toNat
def sfskew (m : Nat) (e : Int) : Bool := decide (m = 9223372036854775808) && decide (e > -1085)
def sfp (m : Nat) (e : Int) : Int := if sfskew m e then -(((e + 11) * 631305 - 261663) / 2097152) else -((e + sfz e) * 78913 / 262144)
def sfmin (m : Nat) (e : Int) : Nat := if sfskew m e then m - 512 else m - 2 ^ (sfz e - 1)
def sfmax (m : Nat) (e : Int) : Nat := m + 2 ^ (sfz e - 1)
def sfodd (m : Nat) (e : Int) : Nat := m / 2 ^ sfz e % 2
def sfs (m : Nat) (e : Int) : Int := -(e + sfp m e * 108853 / 32768 + 3)
def sfu (m : Nat) (e : Int) (x : Nat) : Nat := uscaleN x (th (sfp m e)) (tl (sfp m e)) (sfs m e).toNat
def sfdmin (m : Nat) (e : Int) : Nat := (sfu m e (sfmin m e) + sfodd m e + 3) / 4
def sfdmax (m : Nat) (e : Int) : Nat := (sfu m e (sfmax m e) - sfodd m e) / 4
def sfd (m : Nat) (e : Int) : Nat :=
  if sfdmax m e / 10 * 10 ≥ sfdmin m e then sfdmax m e / 10
  else if sfdmin m e < sfdmax m e then (sfu m e m + 1 + sfu m e m / 4 % 2) / 4 else sfdmin m e
def sfq (m : Nat) (e : Int) : Int := if sfdmax m e / 10 * 10 ≥ sfdmin m e then -(sfp m e - 1) else -(sfp m e)
/-- what shortFloat needs of a float's parts -/
structure SfOk (m : Nat) (e : Int) : Prop where
  m0 : 9223372036854775808 ≤ m
  m1 : sfmax m e < 18446744073709551616
  e0 : -2000 ≤ e ∧ e ≤ 2000
  z1 : sfz e ≤ 63
  p0 : -348 ≤ sfp m e ∧ sfp m e ≤ 347
  s0 : 0 ≤ sfs m e ∧ sfs m e < 64
  u0 : 1 ≤ sfu m e (sfmin m e) ∧ sfu m e (sfmin m e) ≤ 18446744073709551600
  u1 : 1 ≤ sfu m e (sfmax m e) ∧ sfu m e (sfmax m e) ≤ 18446744073709551600
  u2 : sfu m e m ≤ 18446744073709551600
instance (m : Nat) (e : Int) : Decidable (SfOk m e) := decidable_of_iff (9223372036854775808 ≤ m ∧ sfmax m e < 18446744073709551616 ∧ (-2000 ≤ e ∧ e ≤ 2000) ∧ sfz e ≤ 63 ∧ (-348 ≤ sfp m e ∧ sfp m e ≤ 347) ∧ (0 ≤ sfs m e ∧ sfs m e < 64) ∧
  (1 ≤ sfu m e (sfmin m e) ∧ sfu m e (sfmin m e) ≤ 18446744073709551600) ∧ (1 ≤ sfu m e (sfmax m e) ∧ sfu m e (sfmax m e) ≤ 18446744073709551600) ∧ sfu m e m ≤ 18446744073709551600)
  ⟨fun ⟨a, b, c, d, f, g, h, i, j⟩ => ⟨a, b, c, d, f, g, h, i, j⟩, fun ⟨a, b, c, d, f, g, h, i, j⟩ => ⟨a, b, c, d, f, g, h, i, j⟩⟩
theorem ok_tenth : SfOk (7205759403792794 * 2048) (-67) ∧ sfd (7205759403792794 * 2048) (-67) = 1000000000000000 ∧ sfq (7205759403792794 * 2048) (-67) = -16 := by decide +kernel
theorem ok_one : SfOk 9223372036854775808 (-63) ∧ sfd 9223372036854775808 (-63) = 1000000000000000 ∧ sfq 9223372036854775808 (-63) = -15 := by decide +kernel
theorem ok_e21 : SfOk (7629394531250000 * 2048) 6 ∧ sfd (7629394531250000 * 2048) 6 = 1000000000000000 ∧ sfq (7629394531250000 * 2048) 6 = 6 := by decide +kernel
theorem tup2 {a b c d : Int} (h : a = c) (h' : b = d) : Ending.returned (.tuple #[.int .u64 a, .int .i64 b]) = Ending.returned (.tuple #[.int .u64 c, .int .i64 d]) := by rw [h, h']
theorem rows_lt : ∀ x ∈ Go.Pinned.pow10Rows, x.1 < 18446744073709551616 ∧ x.2 < 18446744073709551616 := by decide +kernel
theorem th_lt (p : Int) : th p < 18446744073709551616 ∧ tl p < 18446744073709551616 := by
  unfold th tl
  cases h : Go.Pinned.pow10Rows[(p + 348).toNat]? with
  | none => exact ⟨by decide, by decide⟩
  | some x => exact rows_lt x (List.mem_of_getElem? h)
theorem nudge_up (u d : Nat) (w : World) (hd : d ≤ 1) (h0 : 1 ≤ u) (h1 : u ≤ 18446744073709551614) : Calls Tryz.prog 260 #[.int .u64 u, .int .i64 d] w fun e w' => e = .returned (.int .u64 (u + d : Nat)) ∧ w' = w :=
  (nudge_calls u d w (by omega) h0 h1).mono fun e w' ⟨a, b⟩ => ⟨by rw [a]; rfl, b⟩
theorem nudge_dn (u d : Nat) (w : World) (hd : d ≤ 1) (h0 : 1 ≤ u) (h1 : u ≤ 18446744073709551614) : Calls Tryz.prog 260 #[.int .u64 u, .int .i64 (-(d : Int))] w fun e w' => e = .returned (.int .u64 (u - d : Nat)) ∧ w' = w :=
  (nudge_calls u (-(d : Int)) w (by omega) h0 h1).mono fun e w' ⟨a, b⟩ => ⟨by rw [a]; congr 2; try omega, b⟩
theorem and_1i (m : Nat) (h : m < 9223372036854775808) : bits BinOp.and IntKind.i64 (m : Int) 1 = ((m % 2 : Nat) : Int) := by
  show IntKind.i64.wrap ((BitVec.ofInt 64 (m : Int) &&& BitVec.ofInt 64 ((1 : Nat) : Int)).toNat : Int) = _
  rw [BitVec.toNat_and, ofInt_u64 m (by omega), ofInt_u64 1 (by omega), nat_mask1]
  exact IntWalk.i64_in _ ⟨by omega, by omega⟩
theorem Tab.still {S : Nat → Prop} {w w' : World} (h : Tab w) (O : Only S w w') (hs : ¬ S 12) : Tab w' := by
  refine ⟨fun i hi => ?_⟩
  obtain ⟨x, h1, h2, h3⟩ := h.row i hi
  have hb : 12 < w.heap.size := World.block_lt_of_cell? w ⟨12, i * 2, none⟩ h2
  exact ⟨x, h1, by rw [O.cellAt hb hs, h2], by rw [O.cellAt hb hs, h3]⟩
end Go.Proofs.YtiijgghholhcnaaGreatDoor.Re
