/- decimal and Print at three floats (printed by gen_dec.py). -/
import Derived.Test.YthjfdhkahmlolaaGreatDoorJP08
namespace Go.Proofs.YthjfdhkahmlolaaGreatDoor
open Go.RowKit
def Env (w : World) : Prop := Tab w ∧ Tab2 w
theorem Env.still {S : Nat → Prop} {w w' : World} (h : Env w) (O : Only S w w') (hs : ∀ k, k < 20 → ¬ S k) : Env w' := by
  exact ⟨h.1.still O (hs 13 (by decide)), h.2.still O (hs 9 (by decide))⟩
theorem Only.ofB {w w' : World} (h : Below w.heap.size w w') : Only (fun _ => False) w w' := by
  obtain ⟨a, b, c, d, e⟩ := h
  exact ⟨a, b, c, d, fun k hk _ => e k hk⟩
theorem bw_only {w w1 : World} (h : Only (fun _ => False) w w1) (t : ByteArray) : Only (fun _ => False) w (Lib.bytesWorld w1 5 t) :=
  h.trans (Only.ofB (Lib.bytesWorld_below w1 5 t))
set_option maxRecDepth 100000
theorem rep_absent (w : World) : Calls Tryz.prog 36 #[.string ⟨#[49]⟩, .string ⟨#[46]⟩, .string ⟨#[]⟩, .int .i64 1] w fun en w' => en = .returned (.string ⟨#[49]⟩) ∧ w' = w := by
  go_enter Tryz.func36, Tryz.ntmps36
  go_wp2_with fail
  refine (Tryz.strings_Count_one ⟨#[49]⟩ 46 w).mono ?_
  rintro en w1 ⟨rfl, hw⟩; rw [hw]; clear hw w1
  go_wp2_with fail
  go_ret
  exact ⟨rfl, rfl⟩
theorem dec_tenth (w : World) (hE : Env w) : Calls Tryz.prog 25 #[.float .f64 4591870180066957722] w fun en w' => en = .returned (.tuple #[.string ⟨#[49]⟩, .int .i64 (-1)]) ∧ Only (fun _ => False) w w' := by
  have HE := Lib.hid hE; clear hE
  have e1 : (⟨#[49, 101, 45, 48, 49]⟩ : ByteArray).extract 2 5 = ⟨#[45, 48, 49]⟩ := by decide +kernel
  have e2 : (⟨#[49, 101, 45, 48, 49]⟩ : ByteArray).extract 0 1 = ⟨#[49]⟩ := by decide +kernel
  go_enter Tryz.func25, Tryz.ntmps25
  go_wp2_with fail
  refine (fmt33 _ _ (by decide) fto_tenth w HE.out.1 HE.out.2).mono ?_
  rintro en w1 ⟨rfl, hO⟩
  have HO := Lib.hid hO; clear hO
  go_wp2_with fail
  refine (Tryz.strings_IndexByte _ _ _).mono ?_
  rintro en w2 ⟨rfl, hw⟩; rw [hw]; clear hw w2
  rw [show Lib.indexByte (⟨([49, 101, 45, 48, 49] : List UInt8).toArray⟩ : ByteArray).data.toList (101 : Int).toNat.toUInt8 = 1 by decide +kernel]
  go_wp2_with fail
  try simp only [e1]
  refine (Tryz.strconv_Atoi ⟨#[45, 48, 49]⟩ (-1) (by decide) (by decide +kernel) w1).mono ?_
  rintro en w2 ⟨rfl, t, hw⟩
  have O2 : Only (fun _ => False) w w2 := by rw [hw]; exact bw_only HO.out t
  have HO2 := Lib.hid O2; clear O2 hw
  have RP := Lib.hid (fun n => rep_absent (w2.drewN n))
  go_wp2_with fail
  try rw [e2]
  refine (RP.out 0).mono ?_
  rintro en w3 ⟨rfl, hw⟩; rw [hw]; clear hw w3
  go_wp2_with fail
  go_ret2
  exact ⟨rfl, HO2.out.drewN 0⟩
theorem dec_one (w : World) (hE : Env w) : Calls Tryz.prog 25 #[.float .f64 4607182418800017408] w fun en w' => en = .returned (.tuple #[.string ⟨#[49]⟩, .int .i64 (0)]) ∧ Only (fun _ => False) w w' := by
  have HE := Lib.hid hE; clear hE
  have e1 : (⟨#[49, 101, 43, 48, 48]⟩ : ByteArray).extract 2 5 = ⟨#[43, 48, 48]⟩ := by decide +kernel
  have e2 : (⟨#[49, 101, 43, 48, 48]⟩ : ByteArray).extract 0 1 = ⟨#[49]⟩ := by decide +kernel
  go_enter Tryz.func25, Tryz.ntmps25
  go_wp2_with fail
  refine (fmt33 _ _ (by decide) fto_one w HE.out.1 HE.out.2).mono ?_
  rintro en w1 ⟨rfl, hO⟩
  have HO := Lib.hid hO; clear hO
  go_wp2_with fail
  refine (Tryz.strings_IndexByte _ _ _).mono ?_
  rintro en w2 ⟨rfl, hw⟩; rw [hw]; clear hw w2
  rw [show Lib.indexByte (⟨([49, 101, 43, 48, 48] : List UInt8).toArray⟩ : ByteArray).data.toList (101 : Int).toNat.toUInt8 = 1 by decide +kernel]
  go_wp2_with fail
  try simp only [e1]
  refine (Tryz.strconv_Atoi ⟨#[43, 48, 48]⟩ (0) (by decide) (by decide +kernel) w1).mono ?_
  rintro en w2 ⟨rfl, t, hw⟩
  have O2 : Only (fun _ => False) w w2 := by rw [hw]; exact bw_only HO.out t
  have HO2 := Lib.hid O2; clear O2 hw
  have RP := Lib.hid (fun n => rep_absent (w2.drewN n))
  go_wp2_with fail
  try rw [e2]
  refine (RP.out 0).mono ?_
  rintro en w3 ⟨rfl, hw⟩; rw [hw]; clear hw w3
  go_wp2_with fail
  go_ret2
  exact ⟨rfl, HO2.out.drewN 0⟩
theorem dec_e21 (w : World) (hE : Env w) : Calls Tryz.prog 25 #[.float .f64 4921056587992461136] w fun en w' => en = .returned (.tuple #[.string ⟨#[49]⟩, .int .i64 (21)]) ∧ Only (fun _ => False) w w' := by
  have HE := Lib.hid hE; clear hE
  have e1 : (⟨#[49, 101, 43, 50, 49]⟩ : ByteArray).extract 2 5 = ⟨#[43, 50, 49]⟩ := by decide +kernel
  have e2 : (⟨#[49, 101, 43, 50, 49]⟩ : ByteArray).extract 0 1 = ⟨#[49]⟩ := by decide +kernel
  go_enter Tryz.func25, Tryz.ntmps25
  go_wp2_with fail
  refine (fmt33 _ _ (by decide) fto_e21 w HE.out.1 HE.out.2).mono ?_
  rintro en w1 ⟨rfl, hO⟩
  have HO := Lib.hid hO; clear hO
  go_wp2_with fail
  refine (Tryz.strings_IndexByte _ _ _).mono ?_
  rintro en w2 ⟨rfl, hw⟩; rw [hw]; clear hw w2
  rw [show Lib.indexByte (⟨([49, 101, 43, 50, 49] : List UInt8).toArray⟩ : ByteArray).data.toList (101 : Int).toNat.toUInt8 = 1 by decide +kernel]
  go_wp2_with fail
  try simp only [e1]
  refine (Tryz.strconv_Atoi ⟨#[43, 50, 49]⟩ (21) (by decide) (by decide +kernel) w1).mono ?_
  rintro en w2 ⟨rfl, t, hw⟩
  have O2 : Only (fun _ => False) w w2 := by rw [hw]; exact bw_only HO.out t
  have HO2 := Lib.hid O2; clear O2 hw
  have RP := Lib.hid (fun n => rep_absent (w2.drewN n))
  go_wp2_with fail
  try rw [e2]
  refine (RP.out 0).mono ?_
  rintro en w3 ⟨rfl, hw⟩; rw [hw]; clear hw w3
  go_wp2_with fail
  go_ret2
  exact ⟨rfl, HO2.out.drewN 0⟩
theorem laid_tenth (w : World) : Calls Tryz.prog 26 #[.string ⟨#[49]⟩, .int .i64 (-1)] w fun en w' => en = .returned (.string ⟨#[48, 46, 49]⟩) ∧ Only (fun _ => False) w w' := by
  go_enter Tryz.func26, Tryz.ntmps26
  go_wp2_with fail
  refine (Tryz.strings_Repeat_zero _ _).mono ?_
  rintro en w3 ⟨rfl, hw⟩; rw [hw]; clear hw w3
  go_wp2_with fail
  go_ret
  exact ⟨by congr 2, Only.refl _ _⟩
theorem laid_one (w : World) : Calls Tryz.prog 26 #[.string ⟨#[49]⟩, .int .i64 0] w fun en w' => en = .returned (.string ⟨#[49]⟩) ∧ Only (fun _ => False) w w' := by
  go_enter Tryz.func26, Tryz.ntmps26
  go_wp2_with fail
  refine (Tryz.strings_Repeat_zero _ _).mono ?_
  rintro en w3 ⟨rfl, hw⟩; rw [hw]; clear hw w3
  go_wp2_with fail
  go_ret
  exact ⟨by congr 2, Only.refl _ _⟩
theorem laid_e21 (w : World) : Calls Tryz.prog 26 #[.string ⟨#[49]⟩, .int .i64 21] w fun en w' => en = .returned (.string ⟨#[49, 101, 50, 49]⟩) ∧ Only (fun _ => False) w w' := by
  go_enter Tryz.func26, Tryz.ntmps26
  go_wp2_with fail
  refine (Tryz.strconv_Itoa_small 21 (by decide) _).mono ?_
  rintro en w3 ⟨rfl, hw⟩; rw [hw]; clear hw w3
  rw [show Lib.decDigits 21 = [50, 49] by decide +kernel]
  go_wp2_with fail
  go_ret
  exact ⟨by congr 2, Only.refl _ _⟩
theorem print_tenth (w : World) (hE : Env w) : Calls Tryz.prog 11 #[.float .f64 4591870180066957722] w fun en w' => en = .returned (.string ⟨#[48, 46, 49]⟩) ∧ Only (fun _ => False) w w' := by
  have HE := Lib.hid hE; clear hE
  go_enter Tryz.func11, Tryz.ntmps11
  go_wp2_with fail
  refine (isnan_calls _ _).mono ?_
  rintro en w1 ⟨rfl, hw⟩; rw [hw]; clear hw w1
  rw [show fnan 4591870180066957722 = false by decide +kernel]
  go_wp2_with fail
  refine (inf_p _ _).mono ?_
  rintro en w1 ⟨rfl, hw⟩; rw [hw]; clear hw w1
  rw [show fgt 4591870180066957722 9218868437227405311 = false by decide +kernel]
  go_wp2_with fail
  refine (inf_m _ _).mono ?_
  rintro en w1 ⟨rfl, hw⟩; rw [hw]; clear hw w1
  rw [show fgt (fnegf 4591870180066957722) 9218868437227405311 = false by decide +kernel]
  go_wp2_with fail
  refine (signbit_calls _ _).mono ?_
  rintro en w1 ⟨rfl, hw⟩; rw [hw]; clear hw w1
  rw [show fsg 4591870180066957722 = false by decide +kernel]
  have z : (FloatKind.f64.format.order 4591870180066957722 0 == some Ordering.eq) = false := by decide +kernel
  go_wp2_with fail
  refine (dec_tenth w HE.out).mono ?_
  rintro en w1 ⟨rfl, hO⟩
  have HO := Lib.hid hO; clear hO
  go_wp2_with fail
  refine (laid_tenth w1).mono ?_
  rintro en w2 ⟨rfl, hO⟩
  have HO2 := Lib.hid (HO.out.trans hO); clear hO
  go_wp2_with fail
  go_ret
  exact ⟨by congr 2, HO2.out⟩
theorem print_one (w : World) (hE : Env w) : Calls Tryz.prog 11 #[.float .f64 4607182418800017408] w fun en w' => en = .returned (.string ⟨#[49]⟩) ∧ Only (fun _ => False) w w' := by
  have HE := Lib.hid hE; clear hE
  go_enter Tryz.func11, Tryz.ntmps11
  go_wp2_with fail
  refine (isnan_calls _ _).mono ?_
  rintro en w1 ⟨rfl, hw⟩; rw [hw]; clear hw w1
  rw [show fnan 4607182418800017408 = false by decide +kernel]
  go_wp2_with fail
  refine (inf_p _ _).mono ?_
  rintro en w1 ⟨rfl, hw⟩; rw [hw]; clear hw w1
  rw [show fgt 4607182418800017408 9218868437227405311 = false by decide +kernel]
  go_wp2_with fail
  refine (inf_m _ _).mono ?_
  rintro en w1 ⟨rfl, hw⟩; rw [hw]; clear hw w1
  rw [show fgt (fnegf 4607182418800017408) 9218868437227405311 = false by decide +kernel]
  go_wp2_with fail
  refine (signbit_calls _ _).mono ?_
  rintro en w1 ⟨rfl, hw⟩; rw [hw]; clear hw w1
  rw [show fsg 4607182418800017408 = false by decide +kernel]
  have z : (FloatKind.f64.format.order 4607182418800017408 0 == some Ordering.eq) = false := by decide +kernel
  go_wp2_with fail
  refine (dec_one w HE.out).mono ?_
  rintro en w1 ⟨rfl, hO⟩
  have HO := Lib.hid hO; clear hO
  go_wp2_with fail
  refine (laid_one w1).mono ?_
  rintro en w2 ⟨rfl, hO⟩
  have HO2 := Lib.hid (HO.out.trans hO); clear hO
  go_wp2_with fail
  go_ret
  exact ⟨by congr 2, HO2.out⟩
theorem print_e21 (w : World) (hE : Env w) : Calls Tryz.prog 11 #[.float .f64 4921056587992461136] w fun en w' => en = .returned (.string ⟨#[49, 101, 50, 49]⟩) ∧ Only (fun _ => False) w w' := by
  have HE := Lib.hid hE; clear hE
  go_enter Tryz.func11, Tryz.ntmps11
  go_wp2_with fail
  refine (isnan_calls _ _).mono ?_
  rintro en w1 ⟨rfl, hw⟩; rw [hw]; clear hw w1
  rw [show fnan 4921056587992461136 = false by decide +kernel]
  go_wp2_with fail
  refine (inf_p _ _).mono ?_
  rintro en w1 ⟨rfl, hw⟩; rw [hw]; clear hw w1
  rw [show fgt 4921056587992461136 9218868437227405311 = false by decide +kernel]
  go_wp2_with fail
  refine (inf_m _ _).mono ?_
  rintro en w1 ⟨rfl, hw⟩; rw [hw]; clear hw w1
  rw [show fgt (fnegf 4921056587992461136) 9218868437227405311 = false by decide +kernel]
  go_wp2_with fail
  refine (signbit_calls _ _).mono ?_
  rintro en w1 ⟨rfl, hw⟩; rw [hw]; clear hw w1
  rw [show fsg 4921056587992461136 = false by decide +kernel]
  have z : (FloatKind.f64.format.order 4921056587992461136 0 == some Ordering.eq) = false := by decide +kernel
  go_wp2_with fail
  refine (dec_e21 w HE.out).mono ?_
  rintro en w1 ⟨rfl, hO⟩
  have HO := Lib.hid hO; clear hO
  go_wp2_with fail
  refine (laid_e21 w1).mono ?_
  rintro en w2 ⟨rfl, hO⟩
  have HO2 := Lib.hid (HO.out.trans hO); clear hO
  go_wp2_with fail
  go_ret
  exact ⟨by congr 2, HO2.out⟩
end Go.Proofs.YthjfdhkahmlolaaGreatDoor
