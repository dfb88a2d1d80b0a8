/- readFloat and special at "0.1" and "1.0". -/
import Derived.Test.YthjfdhkahmlolaaGreatDoorDec
import Derived.WalkMore
import Derived.LoopN
namespace Go.Proofs.YthjfdhkahmlolaaGreatDoor
open Go.RowKit
theorem results_tmp7 {fn : Func} {t u v x y z s : Tmp} (h : fn.results = #[.tmp t, .tmp u, .tmp v, .tmp x, .tmp y, .tmp z, .tmp s]) (tmps : Array Value) (P : Program) (w : World) :
    (results fn tmps).run P w = .ok (.tuple #[tmps.getD t undef, tmps.getD u undef, tmps.getD v undef, tmps.getD x undef, tmps.getD y undef, tmps.getD z undef, tmps.getD s undef]) w := by
  simp [results, h, Sem.run]
set_option maxRecDepth 1000000
set_option maxHeartbeats 4000000
theorem rf_tenth (w : World) : Calls Tryz.prog 117 #[.string ⟨#[48, 46, 49]⟩] w fun en w' => en = .returned (.tuple #[.int .u64 1, .int .i64 (-1), .bool false, .bool false, .bool false, .int .i64 3, .bool true]) ∧ w' = w := by
  have b0 : ((⟨#[48, 46, 49]⟩ : ByteArray)[0]'(by decide)).toNat = 48 := rfl
  have b1 : ((⟨#[48, 46, 49]⟩ : ByteArray)[1]'(by decide)).toNat = 46 := rfl
  have b2 : ((⟨#[48, 46, 49]⟩ : ByteArray)[2]'(by decide)).toNat = 49 := rfl
  go_enter Tryz.func117, Tryz.ntmps117
  go_wp2_with fail
  go_step3
  go_wp2_with fail
  refine (Tryz.internal_strconv_lower 46 w).mono ?_
  rintro en w1 ⟨rfl, hw⟩; rw [hw]; clear hw w1
  go_wp2_with fail
  go_step3
  go_wp2_with fail
  refine wp_loop_rounds 4 ?_
  rw [rounds_succ]; go_wp2_with fail
  rw [rounds_succ]; go_wp2_with fail
  rw [rounds_succ]; go_wp2_with fail
  rw [rounds_succ]; go_wp2_with fail
  rw [Exit.noGoto_ret]
  (try simp only [Exit.inBlock, Exit.then])
  refine bodyPost_ret (results_tmp7 rfl _ _ _) rfl ?_
  exact ⟨rfl, rfl⟩
theorem rf_one (w : World) : Calls Tryz.prog 117 #[.string ⟨#[49, 46, 48]⟩] w fun en w' => en = .returned (.tuple #[.int .u64 10, .int .i64 (-1), .bool false, .bool false, .bool false, .int .i64 3, .bool true]) ∧ w' = w := by
  have b0 : ((⟨#[49, 46, 48]⟩ : ByteArray)[0]'(by decide)).toNat = 49 := rfl
  have b1 : ((⟨#[49, 46, 48]⟩ : ByteArray)[1]'(by decide)).toNat = 46 := rfl
  have b2 : ((⟨#[49, 46, 48]⟩ : ByteArray)[2]'(by decide)).toNat = 48 := rfl
  go_enter Tryz.func117, Tryz.ntmps117
  go_wp2_with fail
  go_step3
  go_wp2_with fail
  go_step3
  go_wp2_with fail
  refine wp_loop_rounds 4 ?_
  rw [rounds_succ]; go_wp2_with fail
  rw [rounds_succ]; go_wp2_with fail
  rw [rounds_succ]; go_wp2_with fail
  rw [rounds_succ]; go_wp2_with fail
  rw [Exit.noGoto_ret]
  (try simp only [Exit.inBlock, Exit.then])
  refine bodyPost_ret (results_tmp7 rfl _ _ _) rfl ?_
  exact ⟨rfl, rfl⟩
theorem sp_tenth (w : World) : Calls Tryz.prog 116 #[.string ⟨#[48, 46, 49]⟩] w fun en w' => en = .returned (.tuple #[.float .f64 0, .int .i64 0, .bool false]) ∧ w' = w := by
  have b0 : ((⟨#[48, 46, 49]⟩ : ByteArray)[0]'(by decide)).toNat = 48 := rfl
  go_enter Tryz.func116, Tryz.ntmps116
  go_wp2_with fail
  go_ret3
  exact ⟨rfl, rfl⟩
theorem sp_one (w : World) : Calls Tryz.prog 116 #[.string ⟨#[49, 46, 48]⟩] w fun en w' => en = .returned (.tuple #[.float .f64 0, .int .i64 0, .bool false]) ∧ w' = w := by
  have b0 : ((⟨#[49, 46, 48]⟩ : ByteArray)[0]'(by decide)).toNat = 49 := rfl
  go_enter Tryz.func116, Tryz.ntmps116
  go_wp2_with fail
  go_ret3
  exact ⟨rfl, rfl⟩
end Go.Proofs.YthjfdhkahmlolaaGreatDoor
