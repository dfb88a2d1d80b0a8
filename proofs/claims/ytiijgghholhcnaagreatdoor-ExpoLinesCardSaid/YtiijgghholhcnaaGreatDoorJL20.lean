/- FormatFloat at a float whose ftoa64 is known. -/
import Derived.Test.YtiijgghholhcnaaGreatDoorJL19
import Derived.Lib.AtoiErrMem
import Derived.WalkMore
import Derived.LoopN
namespace Go.Proofs.YtiijgghholhcnaaGreatDoor.Re
open Go.RowKit
theorem run_conv {w1 : World} {B n : Nat} {v : Value} {bl : List UInt8} (h : w1.ownsRow B 5 1 v n (Lib.byteCells bl)) (h0 : bl ≠ []) :
    Sem.run Tryz.prog (convert 27 9 v) w1 = .ok (.string ⟨bl.toArray⟩) w1 := by
  have hl := h.1
  have hl' : bl.length = n := by simpa [Lib.byteCells] using hl
  rcases h.2 with ⟨_, rfl⟩ | ⟨g, cap, cur, rfl, _⟩
  · exact absurd (List.eq_nil_of_length_eq_zero hl') h0
  · subst hl'
    refine run_convert_bytes_back w1 27 9 5 ⟨g, 0, none⟩ cap bl Tryz.underlying27 Tryz.underlying5 Tryz.underlying9 (fun j hj => ?_)
    refine h.cells rfl j _ ?_
    simp [Lib.byteCells, hj]
def Fto (X : Nat) (l : List Value) : Prop := ∀ (B : Nat) (d0 : Value) (w : World), Tab w → Tab2 w → B ≤ w.heap.size → w.ownsRow B 5 1 d0 0 [] → Calls Tryz.prog 207 #[d0, .float .f64 X, .int .u8 101, .int .i64 (-1)] w fun e w' => ∃ v, e = .returned v ∧ Ap w B d0 v l w'
set_option maxRecDepth 100000
theorem run_mk24 (w : World) : Sem.run Tryz.prog (Instr.makeSlice 27 (.int .i64 0) (.int .i64 (max 3 24))) w = .ok (.slice (some ⟨w.heap.size, 0, none⟩) 0 24) (w.alloc (.cells (madeCells #[.int .u8 0] 24) 5)) := by
  have hmk := run_make (P := Tryz.prog) (w := w) 27 5 Tryz.t5 (.int .u8 0) Tryz.underlying27 hi5 hz5 .i64 .i64 0 24 (by omega) (by omega) (by rw [hb5]; omega) (by omega)
  rw [hs5] at hmk
  exact hmk
theorem fmt45 (X : Nat) (bl : List UInt8) (h0 : bl ≠ []) (H : Fto X (Lib.byteCells bl)) (w : World) (hT : Tab w) (hU : Tab2 w) :
    Calls Tryz.prog 181 #[.float .f64 X, .int .u8 101, .int .i64 (-1), .int .i64 64] w fun en w' => en = .returned (.string ⟨bl.toArray⟩) ∧ Only (fun _ => False) w w' := by
  have HT := Lib.hid hT; have HU := Lib.hid hU; have HH := Lib.hid H; have H0 := Lib.hid h0
  clear hT hU H h0
  have hm := run_mk24 w
  go_enter Tryz.func181, Tryz.ntmps181
  go_wp2_with fail
  have O1 : Only (fun _ => False) w (w.alloc (.cells (madeCells #[.int .u8 0] 24) 5)) := (Only.refl _ w).alloc _
  refine (HH.out w.heap.size _ _ (HT.out.still O1 id) (HU.out.still O1 id) O1.size (World.ownsRow_made w _ 24 (Nat.le_refl _) (by decide) (by simp [madeCells]))).mono ?_
  rintro en w1 ⟨v, rfl, hA⟩
  have HC := run_conv hA.own H0.out
  have HO := Lib.hid (O1.seq2 (S := fun _ => False) hA.only (fun i hi => .inl (by cases hi; exact Nat.le_refl _)))
  clear hA O1
  go_wp2_with fail
  go_ret
  exact ⟨rfl, HO.out⟩
theorem fmt33 (X : Nat) (bl : List UInt8) (h0 : bl ≠ []) (H : Fto X (Lib.byteCells bl)) (w : World) (hT : Tab w) (hU : Tab2 w) :
    Calls Tryz.prog 157 #[.float .f64 X, .int .u8 101, .int .i64 (-1), .int .i64 64] w fun en w' => en = .returned (.string ⟨bl.toArray⟩) ∧ Only (fun _ => False) w w' := by
  have K := Lib.hid (fmt45 X bl h0 H w hT hU)
  clear hT hU H h0
  go_enter Tryz.func157, Tryz.ntmps157
  go_wp2_with fail
  refine K.out.mono ?_
  rintro en w1 ⟨rfl, hO⟩
  have HO := Lib.hid hO; clear hO
  go_wp2_with fail
  go_ret
  exact ⟨rfl, HO.out⟩
theorem fto_tenth : Fto 4591870180066957722 (Lib.byteCells [49, 101, 45, 48, 49]) := fun B d0 w h1 h2 h3 h4 => ftoa_tenth B d0 w h1 h2 h3 h4
theorem fto_one : Fto 4607182418800017408 (Lib.byteCells [49, 101, 43, 48, 48]) := fun B d0 w h1 h2 h3 h4 => ftoa_one B d0 w h1 h2 h3 h4
theorem fto_e21 : Fto 4921056587992461136 (Lib.byteCells [49, 101, 43, 50, 49]) := fun B d0 w h1 h2 h3 h4 => ftoa_e21 B d0 w h1 h2 h3 h4
end Go.Proofs.YtiijgghholhcnaaGreatDoor.Re

/- real.Compare, IsNaN, IsInf, Signbit: the walks (turned from the Slab seat). -/
namespace Go.Proofs.YtiijgghholhcnaaGreatDoor.Re
open Go.RowKit
theorem run_tobits (x : Nat) (w : World) : Sem.run Tryz.prog (callFunc 84 #[.float .f64 x]) w = .ok (.value (.int .u64 (x : Nat))) w := by kernel_rfl
theorem run_abs (x : Nat) (w : World) : Sem.run Tryz.prog (callFunc 174 #[.int .u64 (x : Nat)]) w = .ok (.value (.float .f64 x)) w := by kernel_rfl

def fnan (x : Nat) : Bool := Ieee.double.order x x != some .eq
def flt (x y : Nat) : Bool := Ieee.double.order x y == some .lt
def fgt (x y : Nat) : Bool := Ieee.double.order x y == some .gt
theorem run_fneq (x : Nat) (w : World) : Sem.run Tryz.prog (binOp .neq 40 (.float .f64 x) (.float .f64 x)) w = .ok (.bool (fnan x)) w := by
  simp [binOp, Op.floatCmp, FloatKind.format, fnan]
theorem run_flt (x y : Nat) (w : World) : Sem.run Tryz.prog (binOp .lss 40 (.float .f64 x) (.float .f64 y)) w = .ok (.bool (flt x y)) w := by
  simp [binOp, Op.floatCmp, FloatKind.format, flt]
theorem run_fgt (x y : Nat) (w : World) : Sem.run Tryz.prog (binOp .gtr 40 (.float .f64 x) (.float .f64 y)) w = .ok (.bool (fgt x y)) w := by
  simp [binOp, Op.floatCmp, FloatKind.format, fgt]
theorem isnan_calls (x : Nat) (w : World) : Calls Tryz.prog 104 #[.float .f64 x] w fun e w' => e = .returned (.bool (fnan x)) ∧ w' = w := by
  have k := run_fneq x
  go_enter Tryz.func104, Tryz.ntmps104
  go_wp2_with fail
  go_ret
  exact ⟨rfl, rfl⟩
def fsg (x : Nat) : Bool := decide (wrap64 (x : Int) < 0)
theorem signbit_calls (x : Nat) (w : World) : Calls Tryz.prog 106 #[.float .f64 x] w fun e w' => e = .returned (.bool (fsg x)) ∧ w' = w := by
  have k := run_tobits x
  go_enter Tryz.func106, Tryz.ntmps106
  go_wp2_with fail
  go_ret
  exact ⟨rfl, rfl⟩
def cmpB (p q l g sa sb : Bool) : Int := if p && q then 0 else if p || l then -1 else if q || g then 1 else if sa == sb then 0 else if sa then -1 else 1
/-- how two floats stand -/
def fcmp (x y : Nat) : Int := cmpB (fnan x) (fnan y) (flt x y) (fgt x y) (fsg x) (fsg y)
set_option maxRecDepth 100000 in
set_option maxHeartbeats 4000000 in
theorem compare_calls (x y : Nat) (w : World) : Calls Tryz.prog 57 #[.float .f64 x, .float .f64 y] w fun e w' => e = .returned (.int .i64 (fcmp x y)) ∧ w' = w := by
  have K1 := Lib.hid (fun w => isnan_calls x w)
  have K2 := Lib.hid (fun w => isnan_calls y w)
  have K3 := Lib.hid (fun w => signbit_calls x w)
  have K4 := Lib.hid (fun w => signbit_calls y w)
  unfold fcmp
  have k1 : (FloatKind.f64.format.order x y == some Ordering.lt) = flt x y := rfl
  have k2 : (FloatKind.f64.format.order x y == some Ordering.gt) = fgt x y := rfl
  generalize fnan x = p at *
  generalize fnan y = q at *
  generalize flt x y = l at *
  generalize fgt x y = g at *
  generalize fsg x = sa at *
  generalize fsg y = sb at *
  go_enter Tryz.func57, Tryz.ntmps57
  go_wp2_with fail
  refine (K1.out _).mono ?_
  rintro e w1 ⟨rfl, rfl⟩
  go_wp2_with fail
  refine (K2.out _).mono ?_
  rintro e w1 ⟨rfl, rfl⟩
  cases p <;> cases q <;> cases l <;> cases g <;> cases sa <;> cases sb <;> (go_wp2_with (first | (refine (K3.out _).mono ?_; rintro e w1 ⟨rfl, rfl⟩) | (refine (K4.out _).mono ?_; rintro e w1 ⟨rfl, rfl⟩)); go_ret; exact ⟨rfl, rfl⟩)
theorem inf_p (x : Nat) (w : World) : Calls Tryz.prog 105 #[.float .f64 x, .int .i64 1] w fun en w' => en = .returned (.bool (fgt x 9218868437227405311)) ∧ w' = w := by
  go_enter Tryz.func105, Tryz.ntmps105
  go_wp2_with fail
  go_ret
  exact ⟨rfl, rfl⟩
def fnegf (x : Nat) : Nat := Op.negFloat .f64 x
theorem run_fneg (x : Nat) (w : World) : Sem.run Tryz.prog (Op.unary .neg (.float .f64 x)) w = .ok (.float .f64 (fnegf x)) w := rfl
theorem inf_m (x : Nat) (w : World) : Calls Tryz.prog 105 #[.float .f64 x, .int .i64 (-1)] w fun en w' => en = .returned (.bool (fgt (fnegf x) 9218868437227405311)) ∧ w' = w := by
  have k := run_fneg x
  go_enter Tryz.func105, Tryz.ntmps105
  go_wp2_with fail
  go_ret
  exact ⟨rfl, rfl⟩
end Go.Proofs.YtiijgghholhcnaaGreatDoor.Re

/- decimal and Print at three floats (printed by gen_dec.py). -/
namespace Go.Proofs.YtiijgghholhcnaaGreatDoor.Re
open Go.RowKit
def Env (w : World) : Prop := Tab w ∧ Tab2 w
theorem Env.still {S : Nat → Prop} {w w' : World} (h : Env w) (O : Only S w w') (hs : ∀ k, k < 20 → ¬ S k) : Env w' := by
  exact ⟨h.1.still O (hs 12 (by decide)), h.2.still O (hs 2 (by decide))⟩
theorem Only.ofB {w w' : World} (h : Below w.heap.size w w') : Only (fun _ => False) w w' := by
  obtain ⟨a, b, c, d, e⟩ := h
  exact ⟨a, b, c, d, fun k hk _ => e k hk⟩
theorem bw_only {w w1 : World} (h : Only (fun _ => False) w w1) (t : ByteArray) : Only (fun _ => False) w (Lib.bytesWorld w1 5 t) :=
  h.trans (Only.ofB (Lib.bytesWorld_below w1 5 t))
set_option maxRecDepth 100000
theorem rep_absent (w : World) : Calls Tryz.prog 160 #[.string ⟨#[49]⟩, .string ⟨#[46]⟩, .string ⟨#[]⟩, .int .i64 1] w fun en w' => en = .returned (.string ⟨#[49]⟩) ∧ w' = w := by
  go_enter Tryz.func160, Tryz.ntmps160
  go_wp2_with fail
  refine (Tryz.strings_Count_one ⟨#[49]⟩ 46 w).mono ?_
  rintro en w1 ⟨rfl, hw⟩; rw [hw]; clear hw w1
  go_wp2_with fail
  go_ret
  exact ⟨rfl, rfl⟩
theorem dec_tenth (w : World) (hE : Env w) : Calls Tryz.prog 118 #[.float .f64 4591870180066957722] w fun en w' => en = .returned (.tuple #[.string ⟨#[49]⟩, .int .i64 (-1)]) ∧ Only (fun _ => False) w w' := by
  have HE := Lib.hid hE; clear hE
  have e1 : (⟨#[49, 101, 45, 48, 49]⟩ : ByteArray).extract 2 5 = ⟨#[45, 48, 49]⟩ := by decide +kernel
  have e2 : (⟨#[49, 101, 45, 48, 49]⟩ : ByteArray).extract 0 1 = ⟨#[49]⟩ := by decide +kernel
  go_enter Tryz.func118, Tryz.ntmps118
  go_wp2_with fail
  refine (fmt33 _ _ (by decide) fto_tenth w HE.out.1 HE.out.2).mono ?_
  rintro en w1 ⟨rfl, hO⟩
  have HO := Lib.hid hO; clear hO
  go_wp2_with fail
  refine (Tryz.strings_IndexByte _ _ _).mono ?_
  rintro en w2 ⟨rfl, hw⟩; rw [hw]; clear hw w2
  rw [show Lib.indexByte (⟨([49, 101, 45, 48, 49] : List UInt8).toArray⟩ : ByteArray).data.toList (101 : Int).toNat.toUInt8 = 1 by decide +kernel]
  go_wp2_with fail
  try simp only [e1]
  refine (Tryz.strconv_Atoi ⟨#[45, 48, 49]⟩ (-1) (by decide) (by decide +kernel) w1).mono ?_
  rintro en w2 ⟨rfl, t, hw⟩
  have O2 : Only (fun _ => False) w w2 := by rw [hw]; exact bw_only HO.out t
  have HO2 := Lib.hid O2; clear O2 hw
  have RP := Lib.hid (fun n => rep_absent (w2.drewN n))
  go_wp2_with fail
  try rw [e2]
  refine (RP.out 0).mono ?_
  rintro en w3 ⟨rfl, hw⟩; rw [hw]; clear hw w3
  go_wp2_with fail
  go_ret2
  exact ⟨rfl, HO2.out.drewN 0⟩
theorem dec_one (w : World) (hE : Env w) : Calls Tryz.prog 118 #[.float .f64 4607182418800017408] w fun en w' => en = .returned (.tuple #[.string ⟨#[49]⟩, .int .i64 (0)]) ∧ Only (fun _ => False) w w' := by
  have HE := Lib.hid hE; clear hE
  have e1 : (⟨#[49, 101, 43, 48, 48]⟩ : ByteArray).extract 2 5 = ⟨#[43, 48, 48]⟩ := by decide +kernel
  have e2 : (⟨#[49, 101, 43, 48, 48]⟩ : ByteArray).extract 0 1 = ⟨#[49]⟩ := by decide +kernel
  go_enter Tryz.func118, Tryz.ntmps118
  go_wp2_with fail
  refine (fmt33 _ _ (by decide) fto_one w HE.out.1 HE.out.2).mono ?_
  rintro en w1 ⟨rfl, hO⟩
  have HO := Lib.hid hO; clear hO
  go_wp2_with fail
  refine (Tryz.strings_IndexByte _ _ _).mono ?_
  rintro en w2 ⟨rfl, hw⟩; rw [hw]; clear hw w2
  rw [show Lib.indexByte (⟨([49, 101, 43, 48, 48] : List UInt8).toArray⟩ : ByteArray).data.toList (101 : Int).toNat.toUInt8 = 1 by decide +kernel]
  go_wp2_with fail
  try simp only [e1]
  refine (Tryz.strconv_Atoi ⟨#[43, 48, 48]⟩ (0) (by decide) (by decide +kernel) w1).mono ?_
  rintro en w2 ⟨rfl, t, hw⟩
  have O2 : Only (fun _ => False) w w2 := by rw [hw]; exact bw_only HO.out t
  have HO2 := Lib.hid O2; clear O2 hw
  have RP := Lib.hid (fun n => rep_absent (w2.drewN n))
  go_wp2_with fail
  try rw [e2]
  refine (RP.out 0).mono ?_
  rintro en w3 ⟨rfl, hw⟩; rw [hw]; clear hw w3
  go_wp2_with fail
  go_ret2
  exact ⟨rfl, HO2.out.drewN 0⟩
theorem dec_e21 (w : World) (hE : Env w) : Calls Tryz.prog 118 #[.float .f64 4921056587992461136] w fun en w' => en = .returned (.tuple #[.string ⟨#[49]⟩, .int .i64 (21)]) ∧ Only (fun _ => False) w w' := by
  have HE := Lib.hid hE; clear hE
  have e1 : (⟨#[49, 101, 43, 50, 49]⟩ : ByteArray).extract 2 5 = ⟨#[43, 50, 49]⟩ := by decide +kernel
  have e2 : (⟨#[49, 101, 43, 50, 49]⟩ : ByteArray).extract 0 1 = ⟨#[49]⟩ := by decide +kernel
  go_enter Tryz.func118, Tryz.ntmps118
  go_wp2_with fail
  refine (fmt33 _ _ (by decide) fto_e21 w HE.out.1 HE.out.2).mono ?_
  rintro en w1 ⟨rfl, hO⟩
  have HO := Lib.hid hO; clear hO
  go_wp2_with fail
  refine (Tryz.strings_IndexByte _ _ _).mono ?_
  rintro en w2 ⟨rfl, hw⟩; rw [hw]; clear hw w2
  rw [show Lib.indexByte (⟨([49, 101, 43, 50, 49] : List UInt8).toArray⟩ : ByteArray).data.toList (101 : Int).toNat.toUInt8 = 1 by decide +kernel]
  go_wp2_with fail
  try simp only [e1]
  refine (Tryz.strconv_Atoi ⟨#[43, 50, 49]⟩ (21) (by decide) (by decide +kernel) w1).mono ?_
  rintro en w2 ⟨rfl, t, hw⟩
  have O2 : Only (fun _ => False) w w2 := by rw [hw]; exact bw_only HO.out t
  have HO2 := Lib.hid O2; clear O2 hw
  have RP := Lib.hid (fun n => rep_absent (w2.drewN n))
  go_wp2_with fail
  try rw [e2]
  refine (RP.out 0).mono ?_
  rintro en w3 ⟨rfl, hw⟩; rw [hw]; clear hw w3
  go_wp2_with fail
  go_ret2
  exact ⟨rfl, HO2.out.drewN 0⟩
theorem laid_tenth (w : World) : Calls Tryz.prog 119 #[.string ⟨#[49]⟩, .int .i64 (-1)] w fun en w' => en = .returned (.string ⟨#[48, 46, 49]⟩) ∧ Only (fun _ => False) w w' := by
  go_enter Tryz.func119, Tryz.ntmps119
  go_wp2_with fail
  refine (Tryz.strings_Repeat_zero _ _).mono ?_
  rintro en w3 ⟨rfl, hw⟩; rw [hw]; clear hw w3
  go_wp2_with fail
  go_ret
  exact ⟨by congr 2, Only.refl _ _⟩
theorem laid_one (w : World) : Calls Tryz.prog 119 #[.string ⟨#[49]⟩, .int .i64 0] w fun en w' => en = .returned (.string ⟨#[49]⟩) ∧ Only (fun _ => False) w w' := by
  go_enter Tryz.func119, Tryz.ntmps119
  go_wp2_with fail
  refine (Tryz.strings_Repeat_zero _ _).mono ?_
  rintro en w3 ⟨rfl, hw⟩; rw [hw]; clear hw w3
  go_wp2_with fail
  go_ret
  exact ⟨by congr 2, Only.refl _ _⟩
theorem laid_e21 (w : World) : Calls Tryz.prog 119 #[.string ⟨#[49]⟩, .int .i64 21] w fun en w' => en = .returned (.string ⟨#[49, 101, 50, 49]⟩) ∧ Only (fun _ => False) w w' := by
  go_enter Tryz.func119, Tryz.ntmps119
  go_wp2_with fail
  refine (Tryz.strconv_Itoa_small 21 (by decide) _).mono ?_
  rintro en w3 ⟨rfl, hw⟩; rw [hw]; clear hw w3
  rw [show Lib.decDigits 21 = [50, 49] by decide +kernel]
  go_wp2_with fail
  go_ret
  exact ⟨by congr 2, Only.refl _ _⟩
theorem print_tenth (w : World) (hE : Env w) : Calls Tryz.prog 67 #[.float .f64 4591870180066957722] w fun en w' => en = .returned (.string ⟨#[48, 46, 49]⟩) ∧ Only (fun _ => False) w w' := by
  have HE := Lib.hid hE; clear hE
  go_enter Tryz.func67, Tryz.ntmps67
  go_wp2_with fail
  refine (isnan_calls _ _).mono ?_
  rintro en w1 ⟨rfl, hw⟩; rw [hw]; clear hw w1
  rw [show fnan 4591870180066957722 = false by decide +kernel]
  go_wp2_with fail
  refine (inf_p _ _).mono ?_
  rintro en w1 ⟨rfl, hw⟩; rw [hw]; clear hw w1
  rw [show fgt 4591870180066957722 9218868437227405311 = false by decide +kernel]
  go_wp2_with fail
  refine (inf_m _ _).mono ?_
  rintro en w1 ⟨rfl, hw⟩; rw [hw]; clear hw w1
  rw [show fgt (fnegf 4591870180066957722) 9218868437227405311 = false by decide +kernel]
  go_wp2_with fail
  refine (signbit_calls _ _).mono ?_
  rintro en w1 ⟨rfl, hw⟩; rw [hw]; clear hw w1
  rw [show fsg 4591870180066957722 = false by decide +kernel]
  have z : (FloatKind.f64.format.order 4591870180066957722 0 == some Ordering.eq) = false := by decide +kernel
  go_wp2_with fail
  refine (dec_tenth w HE.out).mono ?_
  rintro en w1 ⟨rfl, hO⟩
  have HO := Lib.hid hO; clear hO
  go_wp2_with fail
  refine (laid_tenth w1).mono ?_
  rintro en w2 ⟨rfl, hO⟩
  have HO2 := Lib.hid (HO.out.trans hO); clear hO
  go_wp2_with fail
  go_ret
  exact ⟨by congr 2, HO2.out⟩
theorem print_one (w : World) (hE : Env w) : Calls Tryz.prog 67 #[.float .f64 4607182418800017408] w fun en w' => en = .returned (.string ⟨#[49]⟩) ∧ Only (fun _ => False) w w' := by
  have HE := Lib.hid hE; clear hE
  go_enter Tryz.func67, Tryz.ntmps67
  go_wp2_with fail
  refine (isnan_calls _ _).mono ?_
  rintro en w1 ⟨rfl, hw⟩; rw [hw]; clear hw w1
  rw [show fnan 4607182418800017408 = false by decide +kernel]
  go_wp2_with fail
  refine (inf_p _ _).mono ?_
  rintro en w1 ⟨rfl, hw⟩; rw [hw]; clear hw w1
  rw [show fgt 4607182418800017408 9218868437227405311 = false by decide +kernel]
  go_wp2_with fail
  refine (inf_m _ _).mono ?_
  rintro en w1 ⟨rfl, hw⟩; rw [hw]; clear hw w1
  rw [show fgt (fnegf 4607182418800017408) 9218868437227405311 = false by decide +kernel]
  go_wp2_with fail
  refine (signbit_calls _ _).mono ?_
  rintro en w1 ⟨rfl, hw⟩; rw [hw]; clear hw w1
  rw [show fsg 4607182418800017408 = false by decide +kernel]
  have z : (FloatKind.f64.format.order 4607182418800017408 0 == some Ordering.eq) = false := by decide +kernel
  go_wp2_with fail
  refine (dec_one w HE.out).mono ?_
  rintro en w1 ⟨rfl, hO⟩
  have HO := Lib.hid hO; clear hO
  go_wp2_with fail
  refine (laid_one w1).mono ?_
  rintro en w2 ⟨rfl, hO⟩
  have HO2 := Lib.hid (HO.out.trans hO); clear hO
  go_wp2_with fail
  go_ret
  exact ⟨by congr 2, HO2.out⟩
theorem print_e21 (w : World) (hE : Env w) : Calls Tryz.prog 67 #[.float .f64 4921056587992461136] w fun en w' => en = .returned (.string ⟨#[49, 101, 50, 49]⟩) ∧ Only (fun _ => False) w w' := by
  have HE := Lib.hid hE; clear hE
  go_enter Tryz.func67, Tryz.ntmps67
  go_wp2_with fail
  refine (isnan_calls _ _).mono ?_
  rintro en w1 ⟨rfl, hw⟩; rw [hw]; clear hw w1
  rw [show fnan 4921056587992461136 = false by decide +kernel]
  go_wp2_with fail
  refine (inf_p _ _).mono ?_
  rintro en w1 ⟨rfl, hw⟩; rw [hw]; clear hw w1
  rw [show fgt 4921056587992461136 9218868437227405311 = false by decide +kernel]
  go_wp2_with fail
  refine (inf_m _ _).mono ?_
  rintro en w1 ⟨rfl, hw⟩; rw [hw]; clear hw w1
  rw [show fgt (fnegf 4921056587992461136) 9218868437227405311 = false by decide +kernel]
  go_wp2_with fail
  refine (signbit_calls _ _).mono ?_
  rintro en w1 ⟨rfl, hw⟩; rw [hw]; clear hw w1
  rw [show fsg 4921056587992461136 = false by decide +kernel]
  have z : (FloatKind.f64.format.order 4921056587992461136 0 == some Ordering.eq) = false := by decide +kernel
  go_wp2_with fail
  refine (dec_e21 w HE.out).mono ?_
  rintro en w1 ⟨rfl, hO⟩
  have HO := Lib.hid hO; clear hO
  go_wp2_with fail
  refine (laid_e21 w1).mono ?_
  rintro en w2 ⟨rfl, hO⟩
  have HO2 := Lib.hid (HO.out.trans hO); clear hO
  go_wp2_with fail
  go_ret
  exact ⟨by congr 2, HO2.out⟩
end Go.Proofs.YtiijgghholhcnaaGreatDoor.Re

/- readFloat and special at "0.1" and "1.0". -/
namespace Go.Proofs.YtiijgghholhcnaaGreatDoor.Re
open Go.RowKit
theorem results_tmp7 {fn : Func} {t u v x y z s : Tmp} (h : fn.results = #[.tmp t, .tmp u, .tmp v, .tmp x, .tmp y, .tmp z, .tmp s]) (tmps : Array Value) (P : Program) (w : World) :
    (results fn tmps).run P w = .ok (.tuple #[tmps.getD t undef, tmps.getD u undef, tmps.getD v undef, tmps.getD x undef, tmps.getD y undef, tmps.getD z undef, tmps.getD s undef]) w := by
  simp [results, h, Sem.run]
set_option maxRecDepth 1000000
set_option maxHeartbeats 4000000
end Go.Proofs.YtiijgghholhcnaaGreatDoor.Re
