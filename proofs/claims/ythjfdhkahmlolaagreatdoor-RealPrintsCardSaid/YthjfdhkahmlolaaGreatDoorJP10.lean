/- readFloat and special at "0.1" and "1.0". -/
import Derived.Test.YthjfdhkahmlolaaGreatDoorJP09
import Derived.WalkMore
import Derived.LoopN
namespace Go.Proofs.YthjfdhkahmlolaaGreatDoor
open Go.RowKit
theorem results_tmp7 {fn : Func} {t u v x y z s : Tmp} (h : fn.results = #[.tmp t, .tmp u, .tmp v, .tmp x, .tmp y, .tmp z, .tmp s]) (tmps : Array Value) (P : Program) (w : World) :
    (results fn tmps).run P w = .ok (.tuple #[tmps.getD t undef, tmps.getD u undef, tmps.getD v undef, tmps.getD x undef, tmps.getD y undef, tmps.getD z undef, tmps.getD s undef]) w := by
  simp [results, h, Sem.run]
set_option maxRecDepth 1000000
set_option maxHeartbeats 4000000
theorem rf_tenth (w : World) : Calls Tryz.prog 117 #[.string ⟨#[48, 46, 49]⟩] w fun en w' => en = .returned (.tuple #[.int .u64 1, .int .i64 (-1), .bool false, .bool false, .bool false, .int .i64 3, .bool true]) ∧ w' = w := by
  have b0 : ((⟨#[48, 46, 49]⟩ : ByteArray)[0]'(by decide)).toNat = 48 := rfl
  have b1 : ((⟨#[48, 46, 49]⟩ : ByteArray)[1]'(by decide)).toNat = 46 := rfl
  have b2 : ((⟨#[48, 46, 49]⟩ : ByteArray)[2]'(by decide)).toNat = 49 := rfl
  go_enter Tryz.func117, Tryz.ntmps117
  go_wp2_with fail
  go_step3
  go_wp2_with fail
  refine (Tryz.internal_strconv_lower 46 w).mono ?_
  rintro en w1 ⟨rfl, hw⟩; rw [hw]; clear hw w1
  go_wp2_with fail
  go_step3
  go_wp2_with fail
  refine wp_loop_rounds 4 ?_
  rw [rounds_succ]; go_wp2_with fail
  rw [rounds_succ]; go_wp2_with fail
  rw [rounds_succ]; go_wp2_with fail
  rw [rounds_succ]; go_wp2_with fail
  rw [Exit.noGoto_ret]
  (try simp only [Exit.inBlock, Exit.then])
  refine bodyPost_ret (results_tmp7 rfl _ _ _) rfl ?_
  exact ⟨rfl, rfl⟩
theorem rf_one (w : World) : Calls Tryz.prog 117 #[.string ⟨#[49, 46, 48]⟩] w fun en w' => en = .returned (.tuple #[.int .u64 10, .int .i64 (-1), .bool false, .bool false, .bool false, .int .i64 3, .bool true]) ∧ w' = w := by
  have b0 : ((⟨#[49, 46, 48]⟩ : ByteArray)[0]'(by decide)).toNat = 49 := rfl
  have b1 : ((⟨#[49, 46, 48]⟩ : ByteArray)[1]'(by decide)).toNat = 46 := rfl
  have b2 : ((⟨#[49, 46, 48]⟩ : ByteArray)[2]'(by decide)).toNat = 48 := rfl
  go_enter Tryz.func117, Tryz.ntmps117
  go_wp2_with fail
  go_step3
  go_wp2_with fail
  go_step3
  go_wp2_with fail
  refine wp_loop_rounds 4 ?_
  rw [rounds_succ]; go_wp2_with fail
  rw [rounds_succ]; go_wp2_with fail
  rw [rounds_succ]; go_wp2_with fail
  rw [rounds_succ]; go_wp2_with fail
  rw [Exit.noGoto_ret]
  (try simp only [Exit.inBlock, Exit.then])
  refine bodyPost_ret (results_tmp7 rfl _ _ _) rfl ?_
  exact ⟨rfl, rfl⟩
theorem sp_tenth (w : World) : Calls Tryz.prog 116 #[.string ⟨#[48, 46, 49]⟩] w fun en w' => en = .returned (.tuple #[.float .f64 0, .int .i64 0, .bool false]) ∧ w' = w := by
  have b0 : ((⟨#[48, 46, 49]⟩ : ByteArray)[0]'(by decide)).toNat = 48 := rfl
  go_enter Tryz.func116, Tryz.ntmps116
  go_wp2_with fail
  go_ret3
  exact ⟨rfl, rfl⟩
theorem sp_one (w : World) : Calls Tryz.prog 116 #[.string ⟨#[49, 46, 48]⟩] w fun en w' => en = .returned (.tuple #[.float .f64 0, .int .i64 0, .bool false]) ∧ w' = w := by
  have b0 : ((⟨#[49, 46, 48]⟩ : ByteArray)[0]'(by decide)).toNat = 49 := rfl
  go_enter Tryz.func116, Tryz.ntmps116
  go_wp2_with fail
  go_ret3
  exact ⟨rfl, rfl⟩
end Go.Proofs.YthjfdhkahmlolaaGreatDoor

/- atof64exact, atof64 and ParseFloat at "0.1" and "1.0". -/
namespace Go.Proofs.YthjfdhkahmlolaaGreatDoor
open Go.RowKit
/-- what the parser reads of the laid variables -/
structure Env2 (w : World) : Prop where
  i0 : w.cell? ⟨8, 0, none⟩ = some (.int .u64 52)
  i1 : w.cell? ⟨8, 1, none⟩ = some (.int .u64 11)
  i2 : w.cell? ⟨8, 2, none⟩ = some (.int .i64 (-1023))
  opt : w.cell? ⟨3, 0, none⟩ = some (.bool true)
  tab : ∃ (b o : Nat), w.cell? ⟨12, 0, none⟩ = some (.slice (some ⟨b, o, none⟩) 23 23) ∧ w.cell? ⟨b, o + 1, none⟩ = some (.float .f64 4621819117588971520)
theorem Env2.still {w w' : World} (h : Env2 w) (O : Only (fun _ => False) w w') : Env2 w' := by
  have c : ∀ {b o : Nat} {v : Value}, w.cell? ⟨b, o, none⟩ = some v → w'.cell? ⟨b, o, none⟩ = some v := fun {b o v} hv => by
    rw [O.cellAt (World.block_lt_of_cell? w ⟨b, o, none⟩ hv) id, hv]
  obtain ⟨b, o, h1, h2⟩ := h.tab
  exact ⟨c h.i0, c h.i1, c h.i2, c h.opt, b, o, c h1, c h2⟩
set_option maxRecDepth 1000000
set_option maxHeartbeats 4000000
theorem run_div1 (w : World) : Sem.run Tryz.prog (binOp .quo 25 (.float .f64 (floatOfInt FloatKind.f64 1)) (.float .f64 4621819117588971520)) w = .ok (.float .f64 4591870180066957722) w := by kernel_rfl
theorem run_div10 (w : World) : Sem.run Tryz.prog (binOp .quo 25 (.float .f64 (floatOfInt FloatKind.f64 10)) (.float .f64 4621819117588971520)) w = .ok (.float .f64 4607182418800017408) w := by kernel_rfl
theorem ex_tenth (w : World) (hE : Env2 w) : Calls Tryz.prog 127 #[.int .u64 1, .int .i64 (-1), .bool false] w fun en w' => en = .returned (.tuple #[.float .f64 4591870180066957722, .bool true]) ∧ w' = w := by
  obtain ⟨h0, h1, h2, h3, b, o, h4, h5⟩ := hE
  have k := run_div1
  go_enter Tryz.func127, Tryz.ntmps127
  go_wp2_with fail
  go_ret2
  exact ⟨rfl, rfl⟩
theorem ex_one (w : World) (hE : Env2 w) : Calls Tryz.prog 127 #[.int .u64 10, .int .i64 (-1), .bool false] w fun en w' => en = .returned (.tuple #[.float .f64 4607182418800017408, .bool true]) ∧ w' = w := by
  obtain ⟨h0, h1, h2, h3, b, o, h4, h5⟩ := hE
  have k := run_div10
  go_enter Tryz.func127, Tryz.ntmps127
  go_wp2_with fail
  go_ret2
  exact ⟨rfl, rfl⟩
theorem at_tenth (w : World) (hE : Env2 w) : Calls Tryz.prog 88 #[.string ⟨#[48, 46, 49]⟩] w fun en w' => en = .returned (.tuple #[.float .f64 4591870180066957722, .int .i64 3, .nilIface]) ∧ w' = w := by
  have HE := Lib.hid hE
  obtain ⟨h0, h1, h2, h3, b, o, h4, h5⟩ := hE
  clear h0 h1 h2 h4 h5
  go_enter Tryz.func88, Tryz.ntmps88
  go_wp2_with fail
  refine (sp_tenth w).mono ?_
  rintro en w1 ⟨rfl, hw⟩; rw [hw]; clear hw w1
  go_wp2_with fail
  refine (rf_tenth _).mono ?_
  rintro en w1 ⟨rfl, hw⟩; rw [hw]; clear hw w1
  go_wp2_with fail
  refine (b2_calls false _).mono ?_
  rintro en w1 ⟨rfl, hw⟩; rw [hw]; clear hw w1
  go_wp2_with fail
  refine (ex_tenth _ HE.out).mono ?_
  rintro en w1 ⟨rfl, hw⟩; rw [hw]; clear hw w1
  go_wp2_with fail
  go_ret3
  exact ⟨rfl, rfl⟩
theorem pp_tenth (w : World) (hE : Env2 w) : Calls Tryz.prog 60 #[.string ⟨#[48, 46, 49]⟩, .int .i64 64] w fun en w' => en = .returned (.tuple #[.float .f64 4591870180066957722, .int .i64 3, .nilIface]) ∧ w' = w := by
  have HE := Lib.hid hE; clear hE
  go_enter Tryz.func60, Tryz.ntmps60
  go_wp2_with fail
  refine (at_tenth _ HE.out).mono ?_
  rintro en w1 ⟨rfl, hw⟩; rw [hw]; clear hw w1
  go_wp2_with fail
  go_ret3
  exact ⟨rfl, rfl⟩
theorem pf42_tenth (w : World) (hE : Env2 w) : Calls Tryz.prog 42 #[.string ⟨#[48, 46, 49]⟩, .int .i64 64] w fun en w' => en = .returned (.tuple #[.float .f64 4591870180066957722, .nilIface]) ∧ w' = w := by
  have HE := Lib.hid hE; clear hE
  go_enter Tryz.func42, Tryz.ntmps42
  go_wp2_with fail
  refine (pp_tenth _ HE.out).mono ?_
  rintro en w1 ⟨rfl, hw⟩; rw [hw]; clear hw w1
  go_wp2_with fail
  go_ret2
  exact ⟨rfl, rfl⟩
theorem pf_tenth (w : World) (hE : Env2 w) : Calls Tryz.prog 29 #[.string ⟨#[48, 46, 49]⟩, .int .i64 64] w fun en w' => en = .returned (.tuple #[.float .f64 4591870180066957722, .nilIface]) ∧ w' = w := by
  have HE := Lib.hid hE; clear hE
  go_enter Tryz.func29, Tryz.ntmps29
  go_wp2_with fail
  refine (pf42_tenth _ HE.out).mono ?_
  rintro en w1 ⟨rfl, hw⟩; rw [hw]; clear hw w1
  go_wp2_with fail
  go_ret2
  exact ⟨rfl, rfl⟩
theorem at_one (w : World) (hE : Env2 w) : Calls Tryz.prog 88 #[.string ⟨#[49, 46, 48]⟩] w fun en w' => en = .returned (.tuple #[.float .f64 4607182418800017408, .int .i64 3, .nilIface]) ∧ w' = w := by
  have HE := Lib.hid hE
  obtain ⟨h0, h1, h2, h3, b, o, h4, h5⟩ := hE
  clear h0 h1 h2 h4 h5
  go_enter Tryz.func88, Tryz.ntmps88
  go_wp2_with fail
  refine (sp_one w).mono ?_
  rintro en w1 ⟨rfl, hw⟩; rw [hw]; clear hw w1
  go_wp2_with fail
  refine (rf_one _).mono ?_
  rintro en w1 ⟨rfl, hw⟩; rw [hw]; clear hw w1
  go_wp2_with fail
  refine (b2_calls false _).mono ?_
  rintro en w1 ⟨rfl, hw⟩; rw [hw]; clear hw w1
  go_wp2_with fail
  refine (ex_one _ HE.out).mono ?_
  rintro en w1 ⟨rfl, hw⟩; rw [hw]; clear hw w1
  go_wp2_with fail
  go_ret3
  exact ⟨rfl, rfl⟩
theorem pp_one (w : World) (hE : Env2 w) : Calls Tryz.prog 60 #[.string ⟨#[49, 46, 48]⟩, .int .i64 64] w fun en w' => en = .returned (.tuple #[.float .f64 4607182418800017408, .int .i64 3, .nilIface]) ∧ w' = w := by
  have HE := Lib.hid hE; clear hE
  go_enter Tryz.func60, Tryz.ntmps60
  go_wp2_with fail
  refine (at_one _ HE.out).mono ?_
  rintro en w1 ⟨rfl, hw⟩; rw [hw]; clear hw w1
  go_wp2_with fail
  go_ret3
  exact ⟨rfl, rfl⟩
theorem pf42_one (w : World) (hE : Env2 w) : Calls Tryz.prog 42 #[.string ⟨#[49, 46, 48]⟩, .int .i64 64] w fun en w' => en = .returned (.tuple #[.float .f64 4607182418800017408, .nilIface]) ∧ w' = w := by
  have HE := Lib.hid hE; clear hE
  go_enter Tryz.func42, Tryz.ntmps42
  go_wp2_with fail
  refine (pp_one _ HE.out).mono ?_
  rintro en w1 ⟨rfl, hw⟩; rw [hw]; clear hw w1
  go_wp2_with fail
  go_ret2
  exact ⟨rfl, rfl⟩
theorem pf_one (w : World) (hE : Env2 w) : Calls Tryz.prog 29 #[.string ⟨#[49, 46, 48]⟩, .int .i64 64] w fun en w' => en = .returned (.tuple #[.float .f64 4607182418800017408, .nilIface]) ∧ w' = w := by
  have HE := Lib.hid hE; clear hE
  go_enter Tryz.func29, Tryz.ntmps29
  go_wp2_with fail
  refine (pf42_one _ HE.out).mono ?_
  rintro en w1 ⟨rfl, hw⟩; rw [hw]; clear hw w1
  go_wp2_with fail
  go_ret2
  exact ⟨rfl, rfl⟩
end Go.Proofs.YthjfdhkahmlolaaGreatDoor
