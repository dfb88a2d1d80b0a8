/- The walks of small numbers' texts. -/
import Derived.Test.YtiijgghholhcnaaGreatDoorChs
import Derived.BigQuiet
import Derived.Deep.QuietTactic
namespace Go.Proofs.YtiijgghholhcnaaGreatDoor
open Go.RowKit
set_option maxRecDepth 1000000
/-- one digit -/
def dgS (n : Nat) : ByteArray := ⟨#[UInt8.ofNat (48 + n)]⟩
theorem dgS_size (n : Nat) : (dgS n).size = 1 := rfl
theorem small_n (n : Nat) (h : n < 10) (w : World) : Calls Tryz.prog 108 #[.int .i64 (n : Int)] w fun e w' => e = .returned (.string (dgS n)) ∧ w' = w := by
  have t1 : decide ((n : Int) < 10) = true := decide_eq_true (by omega)
  have e1 : (⟨#[48, 49, 50, 51, 52, 53, 54, 55, 56, 57, 97, 98, 99, 100, 101, 102, 103, 104, 105, 106, 107, 108, 109, 110, 111, 112, 113, 114, 115, 116, 117, 118, 119, 120, 121, 122]⟩ : ByteArray).extract n (n + 1) = dgS n := by
    match n, h with
    | 0, _ => rfl
    | 1, _ => rfl
    | 2, _ => rfl
    | 3, _ => rfl
    | 4, _ => rfl
    | 5, _ => rfl
    | 6, _ => rfl
    | 7, _ => rfl
    | 8, _ => rfl
    | 9, _ => rfl
    | n + 10, h => omega
  have E1 := Lib.hid e1; clear e1
  go_enter Tryz.func108, Tryz.ntmps108
  go_wp2_with fail
  go_ret
  refine ⟨?_, rfl⟩
  show Ending.returned (Value.string _) = _
  rw [E1.out]
theorem formatUint_n (n : Nat) (h : n < 10) (w : World) : Calls Tryz.prog 62 #[.int .u64 (n : Int), .int .i64 10] w fun e w' => e = .returned (.string (dgS n)) ∧ Only (fun _ => False) w w' := by
  have K := Lib.hid (fun w => small_n n h w)
  have t1 : decide ((n : Int) < 100) = true := decide_eq_true (by omega)
  go_enter Tryz.func62, Tryz.ntmps62
  go_wp2_with fail
  refine (K.out _).mono ?_
  rintro e w1 ⟨rfl, hw⟩; rw [hw]; clear hw w1
  go_wp2_with fail
  go_ret
  exact ⟨rfl, Only.refl _ w⟩
theorem fmtUint_n (n : Nat) (h : n < 10) (w : World) : Calls Tryz.prog 31 #[.int .u64 (n : Int), .int .i64 10] w fun e w' => e = .returned (.string (dgS n)) ∧ Only (fun _ => False) w w' := by
  have K := Lib.hid (fun w => formatUint_n n h w)
  go_enter Tryz.func31, Tryz.ntmps31
  go_wp2_with fail
  refine (K.out _).mono ?_
  rintro e w1 ⟨rfl, hO⟩
  have HO := Lib.hid hO; clear hO
  go_wp2_with fail
  go_ret
  exact ⟨rfl, HO.out⟩
theorem digits_n (n : Nat) (h : n < 10) (w : World) : Calls Tryz.prog 17 #[.int .u64 (n : Int)] w fun e w' => e = .returned (.string (dgS n)) ∧ Only (fun _ => False) w w' := by
  have K := Lib.hid (fun w => fmtUint_n n h w)
  go_enter Tryz.func17, Tryz.ntmps17
  go_wp2_with fail
  refine (K.out _).mono ?_
  rintro e w1 ⟨rfl, hO⟩
  have HO := Lib.hid hO; clear hO
  go_wp2_with fail
  go_ret
  exact ⟨rfl, HO.out⟩
theorem formatInt_n (n : Nat) (h : n < 10) (w : World) : Calls Tryz.prog 61 #[.int .i64 (n : Int), .int .i64 10] w fun e w' => e = .returned (.string (dgS n)) ∧ Only (fun _ => False) w w' := by
  have K := Lib.hid (fun w => small_n n h w)
  have t1 : decide ((0 : Int) ≤ (n : Int)) = true := decide_eq_true (by omega)
  have t2 : decide ((n : Int) < 100) = true := decide_eq_true (by omega)
  go_enter Tryz.func61, Tryz.ntmps61
  go_wp2_with fail
  refine (K.out _).mono ?_
  rintro e w1 ⟨rfl, hw⟩; rw [hw]; clear hw w1
  go_wp2_with fail
  go_ret
  exact ⟨rfl, Only.refl _ w⟩
theorem itoaI_n (n : Nat) (h : n < 10) (w : World) : Calls Tryz.prog 30 #[.int .i64 (n : Int)] w fun e w' => e = .returned (.string (dgS n)) ∧ Only (fun _ => False) w w' := by
  have K := Lib.hid (fun w => formatInt_n n h w)
  go_enter Tryz.func30, Tryz.ntmps30
  go_wp2_with fail
  refine (K.out _).mono ?_
  rintro e w1 ⟨rfl, hO⟩
  have HO := Lib.hid hO; clear hO
  go_wp2_with fail
  go_ret
  exact ⟨rfl, HO.out⟩
theorem itoa_n (n : Nat) (h : n < 10) (w : World) : Calls Tryz.prog 16 #[.int .i64 (n : Int)] w fun e w' => e = .returned (.string (dgS n)) ∧ Only (fun _ => False) w w' := by
  have K := Lib.hid (fun w => itoaI_n n h w)
  go_enter Tryz.func16, Tryz.ntmps16
  go_wp2_with fail
  refine (K.out _).mono ?_
  rintro e w1 ⟨rfl, hO⟩
  have HO := Lib.hid hO; clear hO
  go_wp2_with fail
  go_ret
  exact ⟨rfl, HO.out⟩
theorem size_n (n : Nat) (h : n < 10) (w : World) : Calls Tryz.prog 114 #[intV 0 n] w fun e w' => e = .returned (.tuple #[.int .u64 0, .int .u64 (n : Int)]) ∧ Only (fun _ => False) w w' := by
  unfold intV
  go_enter Tryz.func114, Tryz.ntmps114
  go_wp2_with fail
  go_quiet (fail)
  go_wp2_with fail
  go_ret2
  exact ⟨rfl, ((Only.refl _ w).alloc _).drewN _⟩
theorem widePrint_n (n : Nat) (h : n < 10) (w : World) : Calls Tryz.prog 64 #[intV 0 n] w fun e w' => e = .returned (.string (dgS n)) ∧ Only (fun _ => False) w w' := by
  have K := Lib.hid (fun w => fmtUint_n n h w)
  have K2 := Lib.hid (fun w => size_n n h w)
  have e1 := (show (⟨#[]⟩ : ByteArray) ++ dgS n = dgS n by
    apply ByteArray.ext
    simp [ByteArray.data_append])
  have hz := dgS_size n
  unfold intV at *
  generalize dgS n = S at *
  go_enter Tryz.func64, Tryz.ntmps64
  go_wp2_with fail
  have hb := blk_new w (.cells #[.int .i64 0, .int .u64 (n : Int)] 38)
  have hO := Lib.hid ((Only.refl (fun _ => False) w).alloc (.cells #[.int .i64 0, .int .u64 (n : Int)] 38))
  generalize w.alloc (.cells #[.int .i64 0, .int .u64 (n : Int)] 38) = w1 at *
  refine (K2.out _).mono ?_
  rintro e w2 ⟨rfl, hO2⟩
  have hb2 := hO2.blk hb (by simp)
  have HO2 := Lib.hid (hO.out.trans hO2)
  clear hb hO2 hO
  have c0 : w2.cell? ⟨w.heap.size, 0, none⟩ = some (.int .i64 0) := by rw [blk_cell hb2]; rfl
  clear hb2
  go_wp2_with fail
  refine (K.out _).mono ?_
  rintro e w3 ⟨rfl, hO3⟩
  have HO3 := Lib.hid (HO2.out.trans hO3); clear hO3 HO2
  go_wp2_with fail
  go_ret
  exact ⟨rfl, HO3.out⟩
end Go.Proofs.YtiijgghholhcnaaGreatDoor
