/- The walks of Flip and Turn: nobody is left in the phase. -/
import Derived.Test.YtlipngdfhpaodaaGreatFlip
namespace Go.Proofs.YtlipngdfhpaodaaGreat
open Go.RowKit

section
variable {base sh ph : Nat} {act : Int} {rf : Nat → Int} {cur start : Int} {en : Nat → Int} {w w' : World}
theorem flipp_0 (h : RecAt base sh ph act rf cur start en w) (hp : phaseOf start = 0) (he : en 0 = start) :
    Calls Tryz.prog 98 #[.pointer (some ⟨ph, 0, none⟩), .pointer none] w fun e w' => e = .returned (.int .i64 0) ∧ Only (· = ph) w w' ∧ RecAt base sh ph act rf cur (-9223372036854775808) (upd en 1 (-9223372036854775808)) w' := by
  have K := Lib.hid (flip_0 h hp he)
  clear h hp he
  go_enter Tryz.func98, Tryz.ntmps98
  go_wp2_with fail
  refine K.out.mono ?_
  rintro e w1 ⟨rfl, O1, R1⟩
  have HR := Lib.hid R1; clear R1 K
  go_wp2_with fail
  go_ret
  exact ⟨rfl, O1, HR.out⟩
theorem turn_0 (h : RecAt base sh ph act rf 0 start en w) (hp : phaseOf start = 0) (he : en 0 = start) :
    Calls Tryz.prog 40 #[.pointer (some ⟨sh, 0, none⟩), .pointer none] w fun e w' => e = .returned (.tuple #[.int .i64 0, .int .i64 0]) ∧ Only (fun k => k = sh ∨ k = ph) w w' ∧ RecAt base sh ph 1 rf 1 (-9223372036854775808) (upd en 1 (-9223372036854775808)) w' := by
  have c0 : w.cell? ⟨sh, 4, none⟩ = some (.int .i64 0) := by rw [blk_cell h.sobj]; rfl
  have f0 : w.frozen? ⟨sh, 4, none⟩ = false := blk_free h.sobj _
  have H := Lib.hid h
  have HP := Lib.hid hp
  have HE := Lib.hid he
  clear h hp he
  go_enter Tryz.func40, Tryz.ntmps40
  go_upto_region 3 with fail
  have R1 := H.out.setNow 1
  have O1 : Only (fun k => k = sh ∨ k = ph) w (w.setCell ⟨sh, 4, none⟩ (.int .i64 1)) := (Only.refl (fun k => k = sh ∨ k = ph) w).setCell (p := ⟨sh, 4, none⟩) (.inr (.inl rfl)) _
  clear c0 f0 H
  generalize w.setCell ⟨sh, 4, none⟩ (.int .i64 1) = w1 at *
  have R1D : RecAt base sh ph act rf 1 start en w1.drew := R1.only (Only.refl (fun _ => False) w1).drew (by simp) (by simp)
  have c1 : w1.cell? ⟨sh, 4, none⟩ = some (.int .i64 1) := by rw [blk_cell R1.sobj]; rfl
  have c2 : w1.drew.cell? ⟨sh, 1, none⟩ = some (.int .i64 act) := by rw [blk_cell R1D.sobj]; rfl
  have f2 : w1.drew.frozen? ⟨sh, 1, none⟩ = false := blk_free R1D.sobj _
  have HR := Lib.hid R1D; have HO := Lib.hid O1
  clear R1 R1D O1
  go_region_law (first | (go_simp; go_at_call 47; refine (wstore _ _ _ _ c2 f2).mono ?_; rintro e w2 ⟨rfl, hw⟩; have R2 : RecAt base sh ph 1 rf 1 start en w2 := (by rw [hw]; exact HR.out.setAct _); have O2 : Only (fun k => k = sh ∨ k = ph) w w2 := (by rw [hw]; exact HO.out.drew.setCell (p := ⟨sh, 1, none⟩) (.inr (.inl rfl)) _); clear hw c1 c2 f2 HR HO))
  all_goals
    have c3 : w2.cell? ⟨sh, 0, none⟩ = some (.pointer (some ⟨ph, 0, none⟩)) := by rw [blk_cell R2.sobj]; rfl
    have HR := Lib.hid R2; have HO := Lib.hid O2
    clear R2 O2
    go_wp2_with fail
    refine (point_nil _).mono ?_
    rintro e w4 ⟨rfl, hw⟩; rw [hw]; clear hw w4
    go_wp2_with fail
    refine (flipp_0 HR.out HP.out HE.out).mono ?_
    rintro e w5 ⟨rfl, O5, R5⟩
    have HR5 := Lib.hid R5; clear R5
    go_wp2_with fail
    go_ret2
    exact ⟨rfl, HO.out.trans (O5.mono fun _ _ q => .inr q), HR5.out⟩
theorem flipp_1 (h : RecAt base sh ph act rf cur start en w) (hp : phaseOf start = 1) (he : en 1 = start) :
    Calls Tryz.prog 98 #[.pointer (some ⟨ph, 0, none⟩), .pointer none] w fun e w' => e = .returned (.int .i64 0) ∧ Only (· = ph) w w' ∧ RecAt base sh ph act rf cur 0 (upd en 0 0) w' := by
  have K := Lib.hid (flip_1 h hp he)
  clear h hp he
  go_enter Tryz.func98, Tryz.ntmps98
  go_wp2_with fail
  refine K.out.mono ?_
  rintro e w1 ⟨rfl, O1, R1⟩
  have HR := Lib.hid R1; clear R1 K
  go_wp2_with fail
  go_ret
  exact ⟨rfl, O1, HR.out⟩
theorem turn_1 (h : RecAt base sh ph act rf 1 start en w) (hp : phaseOf start = 1) (he : en 1 = start) :
    Calls Tryz.prog 40 #[.pointer (some ⟨sh, 0, none⟩), .pointer none] w fun e w' => e = .returned (.tuple #[.int .i64 1, .int .i64 0]) ∧ Only (fun k => k = sh ∨ k = ph) w w' ∧ RecAt base sh ph 0 rf 0 0 (upd en 0 0) w' := by
  have c0 : w.cell? ⟨sh, 4, none⟩ = some (.int .i64 1) := by rw [blk_cell h.sobj]; rfl
  have f0 : w.frozen? ⟨sh, 4, none⟩ = false := blk_free h.sobj _
  have H := Lib.hid h
  have HP := Lib.hid hp
  have HE := Lib.hid he
  clear h hp he
  go_enter Tryz.func40, Tryz.ntmps40
  go_upto_region 3 with fail
  have R1 := H.out.setNow 0
  have O1 : Only (fun k => k = sh ∨ k = ph) w (w.setCell ⟨sh, 4, none⟩ (.int .i64 0)) := (Only.refl (fun k => k = sh ∨ k = ph) w).setCell (p := ⟨sh, 4, none⟩) (.inr (.inl rfl)) _
  clear c0 f0 H
  generalize w.setCell ⟨sh, 4, none⟩ (.int .i64 0) = w1 at *
  have R1D : RecAt base sh ph act rf 0 start en w1.drew := R1.only (Only.refl (fun _ => False) w1).drew (by simp) (by simp)
  have c1 : w1.cell? ⟨sh, 4, none⟩ = some (.int .i64 0) := by rw [blk_cell R1.sobj]; rfl
  have c2 : w1.drew.cell? ⟨sh, 1, none⟩ = some (.int .i64 act) := by rw [blk_cell R1D.sobj]; rfl
  have f2 : w1.drew.frozen? ⟨sh, 1, none⟩ = false := blk_free R1D.sobj _
  have HR := Lib.hid R1D; have HO := Lib.hid O1
  clear R1 R1D O1
  go_region_law (first | (go_simp; go_at_call 47; refine (wstore _ _ _ _ c2 f2).mono ?_; rintro e w2 ⟨rfl, hw⟩; have R2 : RecAt base sh ph 0 rf 0 start en w2 := (by rw [hw]; exact HR.out.setAct _); have O2 : Only (fun k => k = sh ∨ k = ph) w w2 := (by rw [hw]; exact HO.out.drew.setCell (p := ⟨sh, 1, none⟩) (.inr (.inl rfl)) _); clear hw c1 c2 f2 HR HO))
  all_goals
    have c3 : w2.cell? ⟨sh, 0, none⟩ = some (.pointer (some ⟨ph, 0, none⟩)) := by rw [blk_cell R2.sobj]; rfl
    have HR := Lib.hid R2; have HO := Lib.hid O2
    clear R2 O2
    go_wp2_with fail
    refine (point_nil _).mono ?_
    rintro e w4 ⟨rfl, hw⟩; rw [hw]; clear hw w4
    go_wp2_with fail
    refine (flipp_1 HR.out HP.out HE.out).mono ?_
    rintro e w5 ⟨rfl, O5, R5⟩
    have HR5 := Lib.hid R5; clear R5
    go_wp2_with fail
    go_ret2
    exact ⟨rfl, HO.out.trans (O5.mono fun _ _ q => .inr q), HR5.out⟩
end
end Go.Proofs.YtlipngdfhpaodaaGreat
