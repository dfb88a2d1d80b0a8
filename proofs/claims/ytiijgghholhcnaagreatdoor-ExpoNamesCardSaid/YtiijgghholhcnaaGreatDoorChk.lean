/- The walks of label.Check at the counter "c". -/
import Derived.Test.YtiijgghholhcnaaGreatDoorFrame
import Derived.WalkMore
import Derived.LoopN
import Derived.Laws.RangeString
namespace Go.Proofs.YtiijgghholhcnaaGreatDoor
open Go.RowKit
set_option maxRecDepth 1000000
theorem hs_c1 (w : World) : Calls Tryz.prog 134 #[.string ⟨#[97]⟩, .string ⟨#[95, 98, 117, 99, 107, 101, 116]⟩] w fun e w' => e = .returned (.bool false) ∧ w' = w := by
  go_enter Tryz.func134, Tryz.ntmps134
  go_wp2_with fail
  go_ret
  exact ⟨rfl, rfl⟩
theorem hs_c2 (w : World) : Calls Tryz.prog 134 #[.string ⟨#[97]⟩, .string ⟨#[95, 115, 117, 109]⟩] w fun e w' => e = .returned (.bool false) ∧ w' = w := by
  go_enter Tryz.func134, Tryz.ntmps134
  go_wp2_with fail
  go_ret
  exact ⟨rfl, rfl⟩
theorem hs_c3 (w : World) : Calls Tryz.prog 134 #[.string ⟨#[97]⟩, .string ⟨#[95, 99, 111, 117, 110, 116]⟩] w fun e w' => e = .returned (.bool false) ∧ w' = w := by
  go_enter Tryz.func134, Tryz.ntmps134
  go_wp2_with fail
  go_ret
  exact ⟨rfl, rfl⟩
theorem hsx_c (t : ByteArray) (w : World) (K : Calls Tryz.prog 134 #[.string ⟨#[97]⟩, .string t] w fun e w' => e = .returned (.bool false) ∧ w' = w) : Calls Tryz.prog 91 #[.string ⟨#[97]⟩, .string t] w fun e w' => e = .returned (.bool false) ∧ w' = w := by
  have HK := Lib.hid K; clear K
  go_enter Tryz.func91, Tryz.ntmps91
  go_wp2_with fail
  refine HK.out.mono ?_
  rintro e w1 ⟨rfl, hw⟩; rw [hw]; clear hw w1
  go_wp2_with fail
  go_ret
  exact ⟨rfl, rfl⟩
theorem first_c (w : World) : Calls Tryz.prog 90 #[.string ⟨#[97]⟩] w fun e w' => e = .returned (.bool true) ∧ w' = w := by
  have b0 : ((⟨#[97]⟩ : ByteArray)[0]'(by decide)).toNat = 97 := rfl
  go_enter Tryz.func90, Tryz.ntmps90
  go_wp2_with fail
  go_ret
  exact ⟨rfl, rfl⟩
theorem letter_c (w : World) : Calls Tryz.prog 92 #[.int .u8 97] w fun e w' => e = .returned (.bool true) ∧ w' = w := by
  go_enter Tryz.func92, Tryz.ntmps92
  go_wp2_with fail
  go_ret
  exact ⟨rfl, rfl⟩
theorem name_c (w : World) : Calls Tryz.prog 49 #[.string ⟨#[97]⟩] w fun e w' => e = .returned (.bool true) ∧ w' = w := by
  have b0 : ((⟨#[97]⟩ : ByteArray)[0]'(by decide)).toNat = 97 := rfl
  go_enter Tryz.func49, Tryz.ntmps49
  go_wp2_with fail
  refine (first_c w).mono ?_
  rintro e w1 ⟨rfl, hw⟩; rw [hw]; clear hw w1
  go_wp2_with fail
  refine (hsx_c _ w (hs_c1 w)).mono ?_
  rintro e w1 ⟨rfl, hw⟩; rw [hw]; clear hw w1
  go_wp2_with fail
  refine (hsx_c _ w (hs_c2 w)).mono ?_
  rintro e w1 ⟨rfl, hw⟩; rw [hw]; clear hw w1
  go_wp2_with fail
  refine (hsx_c _ w (hs_c3 w)).mono ?_
  rintro e w1 ⟨rfl, hw⟩; rw [hw]; clear hw w1
  go_wp2_with fail
  refine wp_loop_rounds 2 ?_
  rw [rounds_succ]
  go_wp2_with fail
  refine (letter_c w).mono ?_
  rintro e w1 ⟨rfl, hw⟩; rw [hw]; clear hw w1
  go_wp2_with fail
  rw [rounds_succ]
  go_wp2_with fail
  go_ret
  exact ⟨rfl, rfl⟩
theorem right_nil (w : World) : Calls Tryz.prog 93 #[.string ⟨#[]⟩] w fun e w' => e = .returned (.bool true) ∧ Only (fun _ => False) w w' := by
  have hn := run_next_end (P := Tryz.prog) w ⟨#[]⟩ 0 0 (by decide)
  go_enter Tryz.func93, Tryz.ntmps93
  go_wp2_with fail
  refine wp_loop_rounds 1 ?_
  rw [rounds_succ]
  go_wp2_with fail
  go_ret
  exact ⟨rfl, (Only.refl _ w).alloc _⟩
theorem value_nil (w : World) : Calls Tryz.prog 50 #[.string ⟨#[]⟩] w fun e w' => e = .returned (.int .i64 0) ∧ Only (fun _ => False) w w' := by
  go_enter Tryz.func50, Tryz.ntmps50
  go_wp2_with fail
  refine (right_nil w).mono ?_
  rintro e w1 ⟨rfl, hO⟩
  have HO := Lib.hid hO; clear hO
  go_wp2_with fail
  go_ret
  exact ⟨rfl, HO.out⟩
/-- the description of the counter "c" -/
def descC : Value := .agg #[.int .i64 1, .string ⟨#[97]⟩, .string ⟨#[]⟩, .slice none 0 0]
theorem check_c (w : World) : Calls Tryz.prog 26 #[descC] w fun e w' => e = .returned (.int .i64 0) ∧ Only (fun _ => False) w w' := by
  unfold descC
  go_enter Tryz.func26, Tryz.ntmps26
  go_wp2_with fail
  refine (name_c _).mono ?_
  rintro e w1 ⟨rfl, hw⟩; rw [hw]; clear hw w1
  go_wp2_with fail
  have hb := blk_new w (.cells #[.int .i64 1, .string ⟨#[97]⟩, .string ⟨#[]⟩, .slice none 0 0] 36)
  have hO := (Only.refl (fun _ => False) w).alloc (.cells #[.int .i64 1, .string ⟨#[97]⟩, .string ⟨#[]⟩, .slice none 0 0] 36)
  generalize w.alloc (.cells #[.int .i64 1, .string ⟨#[97]⟩, .string ⟨#[]⟩, .slice none 0 0] 36) = w1 at *
  have Hb := Lib.hid hb; have HO := Lib.hid hO; clear hb hO
  refine (value_nil _).mono ?_
  rintro e w2 ⟨rfl, hO2⟩
  have Hb2 := hO2.blk Hb.out (by simp)
  have HO2 := Lib.hid (HO.out.trans hO2); clear hO2
  have c3 : w2.cell? ⟨w.heap.size, 3, none⟩ = some (.slice none 0 0) := by rw [blk_cell Hb2]; rfl
  clear Hb2
  go_wp2_with fail
  refine wp_loop_rounds 1 ?_
  rw [rounds_succ]
  go_wp2_with fail
  go_ret
  exact ⟨rfl, HO2.out⟩
end Go.Proofs.YtiijgghholhcnaaGreatDoor
