/- readFloat and special at "0.1" and "1.0". -/
import Derived.Test.YthjfdhkahmlolaaGreatDoorJQ05
import Derived.WalkMore
import Derived.LoopN
import Derived.ProofKit
import Derived.LaidMore
import Derived.OpenShut
namespace Go.Proofs.YthjfdhkahmlolaaGreatDoor
open Go.RowKit
theorem results_tmp7 {fn : Func} {t u v x y z s : Tmp} (h : fn.results = #[.tmp t, .tmp u, .tmp v, .tmp x, .tmp y, .tmp z, .tmp s]) (tmps : Array Value) (P : Program) (w : World) :
    (results fn tmps).run P w = .ok (.tuple #[tmps.getD t undef, tmps.getD u undef, tmps.getD v undef, tmps.getD x undef, tmps.getD y undef, tmps.getD z undef, tmps.getD s undef]) w := by
  simp [results, h, Sem.run]
set_option maxRecDepth 1000000
set_option maxHeartbeats 4000000
theorem rf_tenth (w : World) : Calls Tryz.prog 117 #[.string ⟨#[48, 46, 49]⟩] w fun en w' => en = .returned (.tuple #[.int .u64 1, .int .i64 (-1), .bool false, .bool false, .bool false, .int .i64 3, .bool true]) ∧ w' = w := by
  have b0 : ((⟨#[48, 46, 49]⟩ : ByteArray)[0]'(by decide)).toNat = 48 := rfl
  have b1 : ((⟨#[48, 46, 49]⟩ : ByteArray)[1]'(by decide)).toNat = 46 := rfl
  have b2 : ((⟨#[48, 46, 49]⟩ : ByteArray)[2]'(by decide)).toNat = 49 := rfl
  go_enter Tryz.func117, Tryz.ntmps117
  go_wp2_with fail
  go_step3
  go_wp2_with fail
  refine (Tryz.internal_strconv_lower 46 w).mono ?_
  rintro en w1 ⟨rfl, hw⟩; rw [hw]; clear hw w1
  go_wp2_with fail
  go_step3
  go_wp2_with fail
  refine wp_loop_rounds 4 ?_
  rw [rounds_succ]; go_wp2_with fail
  rw [rounds_succ]; go_wp2_with fail
  rw [rounds_succ]; go_wp2_with fail
  rw [rounds_succ]; go_wp2_with fail
  rw [Exit.noGoto_ret]
  (try simp only [Exit.inBlock, Exit.then])
  refine bodyPost_ret (results_tmp7 rfl _ _ _) rfl ?_
  exact ⟨rfl, rfl⟩
theorem rf_one (w : World) : Calls Tryz.prog 117 #[.string ⟨#[49, 46, 48]⟩] w fun en w' => en = .returned (.tuple #[.int .u64 10, .int .i64 (-1), .bool false, .bool false, .bool false, .int .i64 3, .bool true]) ∧ w' = w := by
  have b0 : ((⟨#[49, 46, 48]⟩ : ByteArray)[0]'(by decide)).toNat = 49 := rfl
  have b1 : ((⟨#[49, 46, 48]⟩ : ByteArray)[1]'(by decide)).toNat = 46 := rfl
  have b2 : ((⟨#[49, 46, 48]⟩ : ByteArray)[2]'(by decide)).toNat = 48 := rfl
  go_enter Tryz.func117, Tryz.ntmps117
  go_wp2_with fail
  go_step3
  go_wp2_with fail
  go_step3
  go_wp2_with fail
  refine wp_loop_rounds 4 ?_
  rw [rounds_succ]; go_wp2_with fail
  rw [rounds_succ]; go_wp2_with fail
  rw [rounds_succ]; go_wp2_with fail
  rw [rounds_succ]; go_wp2_with fail
  rw [Exit.noGoto_ret]
  (try simp only [Exit.inBlock, Exit.then])
  refine bodyPost_ret (results_tmp7 rfl _ _ _) rfl ?_
  exact ⟨rfl, rfl⟩
theorem sp_tenth (w : World) : Calls Tryz.prog 116 #[.string ⟨#[48, 46, 49]⟩] w fun en w' => en = .returned (.tuple #[.float .f64 0, .int .i64 0, .bool false]) ∧ w' = w := by
  have b0 : ((⟨#[48, 46, 49]⟩ : ByteArray)[0]'(by decide)).toNat = 48 := rfl
  go_enter Tryz.func116, Tryz.ntmps116
  go_wp2_with fail
  go_ret3
  exact ⟨rfl, rfl⟩
theorem sp_one (w : World) : Calls Tryz.prog 116 #[.string ⟨#[49, 46, 48]⟩] w fun en w' => en = .returned (.tuple #[.float .f64 0, .int .i64 0, .bool false]) ∧ w' = w := by
  have b0 : ((⟨#[49, 46, 48]⟩ : ByteArray)[0]'(by decide)).toNat = 49 := rfl
  go_enter Tryz.func116, Tryz.ntmps116
  go_wp2_with fail
  go_ret3
  exact ⟨rfl, rfl⟩
end Go.Proofs.YthjfdhkahmlolaaGreatDoor

/- atof64exact, atof64 and ParseFloat at "0.1" and "1.0". -/
namespace Go.Proofs.YthjfdhkahmlolaaGreatDoor
open Go.RowKit
/-- what the parser reads of the laid variables -/
structure Env2 (w : World) : Prop where
  i0 : w.cell? ⟨8, 0, none⟩ = some (.int .u64 52)
  i1 : w.cell? ⟨8, 1, none⟩ = some (.int .u64 11)
  i2 : w.cell? ⟨8, 2, none⟩ = some (.int .i64 (-1023))
  opt : w.cell? ⟨3, 0, none⟩ = some (.bool true)
  tab : ∃ (b o : Nat), w.cell? ⟨12, 0, none⟩ = some (.slice (some ⟨b, o, none⟩) 23 23) ∧ w.cell? ⟨b, o + 1, none⟩ = some (.float .f64 4621819117588971520)
theorem Env2.still {w w' : World} (h : Env2 w) (O : Only (fun _ => False) w w') : Env2 w' := by
  have c : ∀ {b o : Nat} {v : Value}, w.cell? ⟨b, o, none⟩ = some v → w'.cell? ⟨b, o, none⟩ = some v := fun {b o v} hv => by
    rw [O.cellAt (World.block_lt_of_cell? w ⟨b, o, none⟩ hv) id, hv]
  obtain ⟨b, o, h1, h2⟩ := h.tab
  exact ⟨c h.i0, c h.i1, c h.i2, c h.opt, b, o, c h1, c h2⟩
set_option maxRecDepth 1000000
set_option maxHeartbeats 4000000
theorem run_div1 (w : World) : Sem.run Tryz.prog (binOp .quo 25 (.float .f64 (floatOfInt FloatKind.f64 1)) (.float .f64 4621819117588971520)) w = .ok (.float .f64 4591870180066957722) w := by kernel_rfl
theorem run_div10 (w : World) : Sem.run Tryz.prog (binOp .quo 25 (.float .f64 (floatOfInt FloatKind.f64 10)) (.float .f64 4621819117588971520)) w = .ok (.float .f64 4607182418800017408) w := by kernel_rfl
theorem ex_tenth (w : World) (hE : Env2 w) : Calls Tryz.prog 127 #[.int .u64 1, .int .i64 (-1), .bool false] w fun en w' => en = .returned (.tuple #[.float .f64 4591870180066957722, .bool true]) ∧ w' = w := by
  obtain ⟨h0, h1, h2, h3, b, o, h4, h5⟩ := hE
  have k := run_div1
  go_enter Tryz.func127, Tryz.ntmps127
  go_wp2_with fail
  go_ret2
  exact ⟨rfl, rfl⟩
theorem ex_one (w : World) (hE : Env2 w) : Calls Tryz.prog 127 #[.int .u64 10, .int .i64 (-1), .bool false] w fun en w' => en = .returned (.tuple #[.float .f64 4607182418800017408, .bool true]) ∧ w' = w := by
  obtain ⟨h0, h1, h2, h3, b, o, h4, h5⟩ := hE
  have k := run_div10
  go_enter Tryz.func127, Tryz.ntmps127
  go_wp2_with fail
  go_ret2
  exact ⟨rfl, rfl⟩
theorem at_tenth (w : World) (hE : Env2 w) : Calls Tryz.prog 88 #[.string ⟨#[48, 46, 49]⟩] w fun en w' => en = .returned (.tuple #[.float .f64 4591870180066957722, .int .i64 3, .nilIface]) ∧ w' = w := by
  have HE := Lib.hid hE
  obtain ⟨h0, h1, h2, h3, b, o, h4, h5⟩ := hE
  clear h0 h1 h2 h4 h5
  go_enter Tryz.func88, Tryz.ntmps88
  go_wp2_with fail
  refine (sp_tenth w).mono ?_
  rintro en w1 ⟨rfl, hw⟩; rw [hw]; clear hw w1
  go_wp2_with fail
  refine (rf_tenth _).mono ?_
  rintro en w1 ⟨rfl, hw⟩; rw [hw]; clear hw w1
  go_wp2_with fail
  refine (b2_calls false _).mono ?_
  rintro en w1 ⟨rfl, hw⟩; rw [hw]; clear hw w1
  go_wp2_with fail
  refine (ex_tenth _ HE.out).mono ?_
  rintro en w1 ⟨rfl, hw⟩; rw [hw]; clear hw w1
  go_wp2_with fail
  go_ret3
  exact ⟨rfl, rfl⟩
theorem pp_tenth (w : World) (hE : Env2 w) : Calls Tryz.prog 60 #[.string ⟨#[48, 46, 49]⟩, .int .i64 64] w fun en w' => en = .returned (.tuple #[.float .f64 4591870180066957722, .int .i64 3, .nilIface]) ∧ w' = w := by
  have HE := Lib.hid hE; clear hE
  go_enter Tryz.func60, Tryz.ntmps60
  go_wp2_with fail
  refine (at_tenth _ HE.out).mono ?_
  rintro en w1 ⟨rfl, hw⟩; rw [hw]; clear hw w1
  go_wp2_with fail
  go_ret3
  exact ⟨rfl, rfl⟩
theorem pf42_tenth (w : World) (hE : Env2 w) : Calls Tryz.prog 42 #[.string ⟨#[48, 46, 49]⟩, .int .i64 64] w fun en w' => en = .returned (.tuple #[.float .f64 4591870180066957722, .nilIface]) ∧ w' = w := by
  have HE := Lib.hid hE; clear hE
  go_enter Tryz.func42, Tryz.ntmps42
  go_wp2_with fail
  refine (pp_tenth _ HE.out).mono ?_
  rintro en w1 ⟨rfl, hw⟩; rw [hw]; clear hw w1
  go_wp2_with fail
  go_ret2
  exact ⟨rfl, rfl⟩
theorem pf_tenth (w : World) (hE : Env2 w) : Calls Tryz.prog 29 #[.string ⟨#[48, 46, 49]⟩, .int .i64 64] w fun en w' => en = .returned (.tuple #[.float .f64 4591870180066957722, .nilIface]) ∧ w' = w := by
  have HE := Lib.hid hE; clear hE
  go_enter Tryz.func29, Tryz.ntmps29
  go_wp2_with fail
  refine (pf42_tenth _ HE.out).mono ?_
  rintro en w1 ⟨rfl, hw⟩; rw [hw]; clear hw w1
  go_wp2_with fail
  go_ret2
  exact ⟨rfl, rfl⟩
theorem at_one (w : World) (hE : Env2 w) : Calls Tryz.prog 88 #[.string ⟨#[49, 46, 48]⟩] w fun en w' => en = .returned (.tuple #[.float .f64 4607182418800017408, .int .i64 3, .nilIface]) ∧ w' = w := by
  have HE := Lib.hid hE
  obtain ⟨h0, h1, h2, h3, b, o, h4, h5⟩ := hE
  clear h0 h1 h2 h4 h5
  go_enter Tryz.func88, Tryz.ntmps88
  go_wp2_with fail
  refine (sp_one w).mono ?_
  rintro en w1 ⟨rfl, hw⟩; rw [hw]; clear hw w1
  go_wp2_with fail
  refine (rf_one _).mono ?_
  rintro en w1 ⟨rfl, hw⟩; rw [hw]; clear hw w1
  go_wp2_with fail
  refine (b2_calls false _).mono ?_
  rintro en w1 ⟨rfl, hw⟩; rw [hw]; clear hw w1
  go_wp2_with fail
  refine (ex_one _ HE.out).mono ?_
  rintro en w1 ⟨rfl, hw⟩; rw [hw]; clear hw w1
  go_wp2_with fail
  go_ret3
  exact ⟨rfl, rfl⟩
theorem pp_one (w : World) (hE : Env2 w) : Calls Tryz.prog 60 #[.string ⟨#[49, 46, 48]⟩, .int .i64 64] w fun en w' => en = .returned (.tuple #[.float .f64 4607182418800017408, .int .i64 3, .nilIface]) ∧ w' = w := by
  have HE := Lib.hid hE; clear hE
  go_enter Tryz.func60, Tryz.ntmps60
  go_wp2_with fail
  refine (at_one _ HE.out).mono ?_
  rintro en w1 ⟨rfl, hw⟩; rw [hw]; clear hw w1
  go_wp2_with fail
  go_ret3
  exact ⟨rfl, rfl⟩
theorem pf42_one (w : World) (hE : Env2 w) : Calls Tryz.prog 42 #[.string ⟨#[49, 46, 48]⟩, .int .i64 64] w fun en w' => en = .returned (.tuple #[.float .f64 4607182418800017408, .nilIface]) ∧ w' = w := by
  have HE := Lib.hid hE; clear hE
  go_enter Tryz.func42, Tryz.ntmps42
  go_wp2_with fail
  refine (pp_one _ HE.out).mono ?_
  rintro en w1 ⟨rfl, hw⟩; rw [hw]; clear hw w1
  go_wp2_with fail
  go_ret2
  exact ⟨rfl, rfl⟩
theorem pf_one (w : World) (hE : Env2 w) : Calls Tryz.prog 29 #[.string ⟨#[49, 46, 48]⟩, .int .i64 64] w fun en w' => en = .returned (.tuple #[.float .f64 4607182418800017408, .nilIface]) ∧ w' = w := by
  have HE := Lib.hid hE; clear hE
  go_enter Tryz.func29, Tryz.ntmps29
  go_wp2_with fail
  refine (pf42_one _ HE.out).mono ?_
  rintro en w1 ⟨rfl, hw⟩; rw [hw]; clear hw w1
  go_wp2_with fail
  go_ret2
  exact ⟨rfl, rfl⟩
end Go.Proofs.YthjfdhkahmlolaaGreatDoor

/- Parse, May and the closed run awake. -/
namespace Go.Proofs.YthjfdhkahmlolaaGreatDoor
open Go.RowKit
set_option maxRecDepth 1000000
set_option maxHeartbeats 4000000
theorem parse_tenth (w : World) (hE : Env w) (hE2 : Env2 w) : Calls Tryz.prog 15 #[.string ⟨#[48, 46, 49]⟩] w fun en w' => en = .returned (.tuple #[.float .f64 4591870180066957722, .int .i64 0]) ∧ Only (fun _ => False) w w' := by
  have HE := Lib.hid hE; have HE2 := Lib.hid hE2; clear hE hE2
  go_enter Tryz.func15, Tryz.ntmps15
  go_wp2_with fail
  refine (pf_tenth _ HE2.out).mono ?_
  rintro en w1 ⟨rfl, hw⟩; rw [hw]; clear hw w1
  go_wp2_with fail
  refine (print_tenth w HE.out).mono ?_
  rintro en w1 ⟨rfl, hO⟩
  have HO := Lib.hid hO; clear hO
  go_wp2_with fail
  go_ret2
  exact ⟨rfl, HO.out⟩
theorem parse_one (w : World) (hE : Env w) (hE2 : Env2 w) : Calls Tryz.prog 15 #[.string ⟨#[49, 46, 48]⟩] w fun en w' => en = .returned (.tuple #[.float .f64 0, .int .i64 5]) ∧ Only (fun _ => False) w w' := by
  have HE := Lib.hid hE; have HE2 := Lib.hid hE2; clear hE hE2
  go_enter Tryz.func15, Tryz.ntmps15
  go_wp2_with fail
  refine (pf_one _ HE2.out).mono ?_
  rintro en w1 ⟨rfl, hw⟩; rw [hw]; clear hw w1
  go_wp2_with fail
  refine (print_one w HE.out).mono ?_
  rintro en w1 ⟨rfl, hO⟩
  have HO := Lib.hid hO; clear hO
  go_wp2_with fail
  go_ret2
  exact ⟨rfl, HO.out⟩
theorem run_frb_one (w : World) : Sem.run Tryz.prog (callFunc 10 #[.int .u64 4607182418800017408]) w = .ok (.value (.float .f64 4607182418800017408)) w := by kernel_rfl
theorem abs_one (w : World) : Calls Tryz.prog 28 #[.float .f64 4607182418800017408] w fun en w' => en = .returned (.float .f64 4607182418800017408) ∧ w' = w := by
  have k1 := run_tobits 4607182418800017408
  have k2 := run_frb_one
  have k3 : bits BinOp.andNot IntKind.u64 4607182418800017408 9223372036854775808 = 4607182418800017408 := by decide +kernel
  go_enter Tryz.func28, Tryz.ntmps28
  go_wp2_with fail
  go_ret
  exact ⟨rfl, rfl⟩
theorem may_one (w : World) : Calls Tryz.prog 13 #[.float .f64 4607182418800017408] w fun en w' => en = .returned (.bool true) ∧ w' = w := by
  go_enter Tryz.func13, Tryz.ntmps13
  go_wp2_with fail
  refine (abs_one w).mono ?_
  rintro en w1 ⟨rfl, hw⟩; rw [hw]; clear hw w1
  have z : (FloatKind.f64.format.order 4607182418800017408 8930638061075693568 == some Ordering.lt) = true := by decide +kernel
  go_wp2_with fail
  go_ret
  exact ⟨rfl, rfl⟩
theorem same_two (w : World) : Calls Tryz.prog 18 #[.float .f64 4611686018427387904, .float .f64 4611686018427387904] w fun en w' => en = .returned (.bool true) ∧ w' = w := by
  go_enter Tryz.func18, Tryz.ntmps18
  go_wp2_with fail
  refine (compare_calls 4611686018427387904 4611686018427387904 w).mono ?_
  rintro en w1 ⟨rfl, hw⟩; rw [hw]; clear hw w1
  rw [show fcmp 4611686018427387904 4611686018427387904 = 0 by decide +kernel]
  go_wp2_with fail
  go_ret
  exact ⟨rfl, rfl⟩
theorem awake_calls (w : World) (hE : Env w) (hE2 : Env2 w) : Calls Tryz.prog 9 #[] w fun en w' => en = .returned (.bool true) ∧ Only (fun _ => False) w w' := by
  have HE := Lib.hid hE; have HE2 := Lib.hid hE2; clear hE hE2
  go_enter Tryz.func9, Tryz.ntmps9
  go_wp2_with fail
  refine (parse_tenth w HE.out HE2.out).mono ?_
  rintro en w1 ⟨rfl, hO⟩
  have O1 := Lib.hid hO; clear hO
  go_wp2_with fail
  refine (parse_one w1 (HE.out.still O1.out (fun _ _ h => h)) (HE2.out.still O1.out)).mono ?_
  rintro en w2 ⟨rfl, hO⟩
  have O2 := Lib.hid (O1.out.trans hO); clear hO
  go_wp2_with fail
  refine (print_e21 w2 (HE.out.still O2.out (fun _ _ h => h))).mono ?_
  rintro en w3 ⟨rfl, hO⟩
  have O3 := Lib.hid (O2.out.trans hO); clear hO
  go_wp2_with fail
  refine (print_tenth w3 (HE.out.still O3.out (fun _ _ h => h))).mono ?_
  rintro en w4 ⟨rfl, hO⟩
  have O4 := Lib.hid (O3.out.trans hO); clear hO
  have z : (FloatKind.f64.format.order 4591870180066957722 4591870180066957722 == some Ordering.eq) = true := by decide +kernel
  go_wp2_with fail
  refine (compare_calls 4607182418800017408 4611686018427387904 w4).mono ?_
  rintro en w5 ⟨rfl, hw⟩; rw [hw]; clear hw w5
  rw [show fcmp 4607182418800017408 4611686018427387904 = -1 by decide +kernel]
  go_wp2_with fail
  refine (same_two w4).mono ?_
  rintro en w5 ⟨rfl, hw⟩; rw [hw]; clear hw w5
  go_wp2_with fail
  refine (may_one w4).mono ?_
  rintro en w5 ⟨rfl, hw⟩; rw [hw]; clear hw w5
  go_wp2_with fail
  go_ret
  exact ⟨rfl, O4.out⟩
end Go.Proofs.YthjfdhkahmlolaaGreatDoor

/- The law RealNames. -/
namespace Go.Proofs.YthjfdhkahmlolaaGreatDoor
open Go.RowKit
theorem names_calls (w : World) (hE : Env w) (hE2 : Env2 w) : Calls Tryz.prog 3 #[] w fun en w' => en = .returned (.bool true) ∧ Only (fun _ => False) w w' := by
  have K := Lib.hid (awake_calls w hE hE2); clear hE hE2
  go_enter Tryz.func3, Tryz.ntmps3
  go_wp2_with fail
  refine K.out.mono ?_
  rintro en w1 ⟨rfl, hO⟩
  have O1 := Lib.hid hO; clear hO
  go_wp2_with fail
  go_ret
  exact ⟨rfl, O1.out⟩
end Go.Proofs.YthjfdhkahmlolaaGreatDoor

/- What the laid variables give the walks. -/
namespace Go.Proofs.YthjfdhkahmlolaaGreatDoor
open Go.RowKit
theorem laid_at {P : Program} {w : World} : ∀ {l : List (String × DataW Unit)} {ps : List MemPlace}, DataW.LaidVars P w l ps → ∀ n d, (n, d) ∈ l →
    ∃ g t cs fuel p, P.globalNamed n = some g ∧ (P.globals[g]?).map (·.type) = some t ∧ w.var? P n = some cs ∧ DataW.trod (fun _ => ()) P w 0 (fun _ => true) false fuel t cs.toList = some (d, p)
  | [], _, _, n, d, h => by cases h
  | (n0, d0) :: r, ps, hl, n, d, h => by
    obtain ⟨g, t, cs, fuel, p, q, e1, e2, e3, e4, hr, rfl⟩ := hl
    rcases List.mem_cons.mp h with e | h
    · cases e; exact ⟨g, t, cs, fuel, p, e1, e2, e3, e4⟩
    · exact laid_at hr n d h
set_option maxRecDepth 100000
theorem uint_eq : (Rows.laid_internal_strconv_uint64pow10 : DataW Unit) = Lib.tabData .u64 Lib.pow10Tab := by kernel_rfl
theorem t9 : (Tryz.prog.globals[9]?).map (·.type) = some 177 := by kernel_rfl
theorem gl8 : Tryz.prog.globalNamed "internal/strconv.float64info" = some 8 := by kernel_rfl
theorem t8 : (Tryz.prog.globals[8]?).map (·.type) = some 149 := by kernel_rfl
theorem gl3 : Tryz.prog.globalNamed "internal/strconv.optimize" = some 3 := by kernel_rfl
theorem t3 : (Tryz.prog.globals[3]?).map (·.type) = some 4 := by kernel_rfl
theorem gl12 : Tryz.prog.globalNamed "internal/strconv.float64pow10" = some 12 := by kernel_rfl
theorem t12 : (Tryz.prog.globals[12]?).map (·.type) = some 191 := by kernel_rfl
theorem gl13 : Tryz.prog.globalNamed "internal/strconv.pow10Tab" = some 13 := by kernel_rfl
theorem t13 : (Tryz.prog.globals[13]?).map (·.type) = some 195 := by kernel_rfl
theorem spot_none {x : Addr} {v : Value} {w : World} (h : w.cell? x = some v) : x.spot = none := by
  cases hs : x.spot with
  | none => rfl
  | some y =>
    simp only [World.cell?, hs] at h
    split at h <;> simp at h
theorem tab2_of {W : World} {l : List (String × DataW Unit)} {ps : List MemPlace} (h : DataW.LaidVars Tryz.prog W l ps) (hm : ("internal/strconv.uint64pow10", Rows.laid_internal_strconv_uint64pow10) ∈ l) : Tab2 W := by
  obtain ⟨g, t, cs, fuel, p, hg, ht, hv, hd⟩ := laid_at h _ _ hm
  obtain rfl := Option.some.inj (gl9.symm.trans hg)
  obtain rfl := Option.some.inj (t9.symm.trans ht)
  rw [uint_eq] at hd
  unfold Tab2 Lib.TabIs
  rw [hv, ← Lib.cells_of_tab Tryz.underlying177 Tryz.underlying24 (by kernel_rfl) (by kernel_rfl) hd]
theorem opt_of {W : World} {l : List (String × DataW Unit)} {ps : List MemPlace} (h : DataW.LaidVars Tryz.prog W l ps) (hm : ("internal/strconv.optimize", Rows.laid_internal_strconv_optimize) ∈ l) : W.cell? ⟨3, 0, none⟩ = some (.bool true) := by
  obtain ⟨g, t, cs, fuel, p, hg, ht, hv, hd⟩ := laid_at h _ _ hm
  obtain rfl := Option.some.inj (gl3.symm.trans hg)
  obtain rfl := Option.some.inj (t3.symm.trans ht)
  obtain ⟨b, hc, hx⟩ := DataW.trod_bool Tryz.underlying4 hd
  have hb : b = true := by
    simp only [Rows.laid_internal_strconv_optimize, Prod.mk.injEq, DataW.lit.injEq, Lit.bool.injEq] at hx
    exact hx.1.symm
  subst hb
  have := World.var?_cell hg hv 0
  obtain ⟨l1⟩ := cs
  simp only at hc
  subst hc
  simpa using this
theorem info_of {W : World} {l : List (String × DataW Unit)} {ps : List MemPlace} (h : DataW.LaidVars Tryz.prog W l ps) (hm : ("internal/strconv.float64info", Rows.laid_internal_strconv_float64info) ∈ l) :
    W.cell? ⟨8, 0, none⟩ = some (.int .u64 52) ∧ W.cell? ⟨8, 1, none⟩ = some (.int .u64 11) ∧ W.cell? ⟨8, 2, none⟩ = some (.int .i64 (-1023)) := by
  obtain ⟨g, t, cs, fuel, p, hg, ht, hv, hd⟩ := laid_at h _ _ hm
  obtain rfl := Option.some.inj (gl8.symm.trans hg)
  obtain rfl := Option.some.inj (t8.symm.trans ht)
  obtain ⟨xs, m, rfl, hx, hlen, hn, hel⟩ := DataW.trod_struct Tryz.underlying149 hd
  have c74 : Tryz.prog.cellsOf 74 = 1 := by kernel_rfl
  have c3 : Tryz.prog.cellsOf 3 = 1 := by kernel_rfl
  have c149 : Tryz.prog.cellsOf 149 = 3 := by kernel_rfl
  have h0 := hel 0 _ rfl
  have h1 := hel 1 _ rfl
  have h2 := hel 2 _ rfl
  change DataW.trod _ Tryz.prog W 0 _ false m 74 ((cs.toList.drop 0).take (Tryz.prog.cellsOf 74)) = _ at h0
  change DataW.trod _ Tryz.prog W 0 _ false m 74 ((cs.toList.drop 1).take (Tryz.prog.cellsOf 74)) = _ at h1
  change DataW.trod _ Tryz.prog W 0 _ false m 3 ((cs.toList.drop 2).take (Tryz.prog.cellsOf 3)) = _ at h2
  rw [c74] at h0 h1
  rw [c3] at h2
  rw [c149] at hlen
  obtain ⟨l1⟩ := cs
  have v0 := World.var?_cell hg hv 0
  have v1 := World.var?_cell hg hv 1
  have v2 := World.var?_cell hg hv 2
  match l1, hlen, xs, hn with
  | [a, b, c], _, [x0, x1, x2], _ =>
    simp only [Prod.mk.injEq, Rows.laid_internal_strconv_float64info, DataW.agg.injEq, List.map_cons, List.map_nil, List.cons.injEq] at hx
    obtain ⟨k0, e0, f0, _⟩ := DataW.trod_int Tryz.underlying74 (show DataW.trod _ Tryz.prog W 0 _ false m 74 _ = some x0 from h0)
    obtain ⟨k1, e1, f1, _⟩ := DataW.trod_int Tryz.underlying74 (show DataW.trod _ Tryz.prog W 0 _ false m 74 _ = some x1 from h1)
    obtain ⟨k2, e2, f2, _⟩ := DataW.trod_int Tryz.underlying3 (show DataW.trod _ Tryz.prog W 0 _ false m 3 _ = some x2 from h2)
    have q0 : k0 = 52 := by have := hx.1.1; rw [f0] at this; simpa using this.symm
    have q1 : k1 = 11 := by have := hx.1.2.1; rw [f1] at this; simpa using this.symm
    have q2 : k2 = -1023 := by have := hx.1.2.2.1; rw [f2] at this; simpa using this.symm
    subst q0 q1 q2
    simp at e0 e1 e2
    subst e0 e1 e2
    exact ⟨by simpa using v0, by simpa using v1, by simpa using v2⟩
theorem trod_flt {H : Type} {enc : TypeId × Value → H} {P : Program} {w : World} {base : Nat} {sp : Nat → Bool} {held : Bool} {fuel : Nat} {t : TypeId} {cs : List Value} {x : DataW H × List MemPlace} {k : FloatKind}
    (ht : P.underlying t = some (.float k)) (h : DataW.trod enc P w base sp held fuel t cs = some x) : ∃ n, cs = [.float k n] ∧ x = (.lit (.float k n), []) := by
  cases fuel with
  | zero => simp [DataW.trod] at h
  | succ n =>
    unfold DataW.trod at h
    rw [ht] at h
    split at h <;> simp_all
theorem pow_of {W : World} {l : List (String × DataW Unit)} {ps : List MemPlace} (h : DataW.LaidVars Tryz.prog W l ps) (hm : ("internal/strconv.float64pow10", Rows.laid_internal_strconv_float64pow10) ∈ l) :
    ∃ (b o : Nat), W.cell? ⟨12, 0, none⟩ = some (.slice (some ⟨b, o, none⟩) 23 23) ∧ W.cell? ⟨b, o + 1, none⟩ = some (.float .f64 4621819117588971520) := by
  obtain ⟨g, t, cs, fuel, p, hg, ht, hv, hd⟩ := laid_at h _ _ hm
  obtain rfl := Option.some.inj (gl12.symm.trans hg)
  obtain rfl := Option.some.inj (t12.symm.trans ht)
  have c25 : Tryz.prog.cellsOf 25 = 1 := by kernel_rfl
  have v0 := World.var?_cell hg hv 0
  rcases DataW.trod_slice Tryz.underlying191 hd with ⟨_, hx⟩ | ⟨a, len, cap, elems, rest, m, rfl, hc, hx, _, hlc, _, hlen, hel, hsp, _⟩
  · simp [Rows.laid_internal_strconv_float64pow10] at hx
  · have hl : len = 23 := by
      have := congrArg Prod.fst hx
      simp only [Rows.laid_internal_strconv_float64pow10, DataW.slice.injEq] at this
      have h2 := congrArg List.length this.1
      simp only [List.length_map] at h2
      rw [← hlen, ← h2]; rfl
    have hr : rest = [] := by
      have := congrArg Prod.fst hx
      simp only [Rows.laid_internal_strconv_float64pow10, DataW.slice.injEq] at this
      simpa using this.2.symm
    have hcap : cap = 23 := by
      have := (hsp rfl).1
      rw [hr] at this
      simp at this
      omega
    subst hl hcap
    have e1 := hel 1 (by decide)
    have hx1 : (elems.map (·.1))[1]? = some (DataW.lit (.float .f64 4621819117588971520)) := by
      have := congrArg Prod.fst hx
      simp only [Rows.laid_internal_strconv_float64pow10, DataW.slice.injEq] at this
      rw [← this.1]; rfl
    rw [c25] at e1
    simp only [List.getElem?_map, Option.map_eq_some_iff] at hx1
    obtain ⟨y, hy, hy1⟩ := hx1
    rw [hy, Option.bind_eq_some_iff] at e1
    obtain ⟨vs, hcells, htr⟩ := e1
    obtain ⟨n, rfl, hyy⟩ := trod_flt Tryz.underlying25 htr
    have hn : n = 4621819117588971520 := by rw [hyy] at hy1; simpa using hy1
    subst hn
    have one : ∀ (x : Addr) (v : Value), W.cells? 0 x 1 = some [v] → W.cell? x = some v := fun x v hx => by
      have e0 : x.add 0 = x := by unfold Addr.add; simp
      unfold World.cells? at hx
      rw [if_pos (Nat.zero_le _)] at hx
      simp only [List.range_succ, List.range_zero, List.nil_append, List.mapM_cons, List.mapM_nil, e0] at hx
      cases hu : W.cell? x with
      | none => rw [hu] at hx; cases hx
      | some u => rw [hu] at hx; injection hx with hx; injection hx with hx; rw [hx]
    have hcell : W.cell? (a.add 1) = some (.float .f64 4621819117588971520) := one _ _ hcells
    have hs' : a.spot = none := by
      have z0 := hel 0 (by decide)
      rw [c25, List.getElem?_eq_getElem (by omega), Option.bind_eq_some_iff] at z0
      obtain ⟨us, hu, hv⟩ := z0
      obtain ⟨n, rfl, _⟩ := trod_flt Tryz.underlying25 hv
      have := one _ _ hu
      exact spot_none (x := a) (by have e0 : a.add (0 * 1) = a := by { unfold Addr.add; simp }; rw [e0] at this; exact this)
    obtain ⟨b, o, s⟩ := a
    simp only at hs'
    subst hs'
    refine ⟨b, o, ?_, ?_⟩
    · obtain ⟨l1⟩ := cs
      simp only at hc
      subst hc
      simpa using v0
    · simpa [Addr.add] using hcell
end Go.Proofs.YthjfdhkahmlolaaGreatDoor
