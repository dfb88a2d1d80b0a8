/- The walks of flip, Flip and Turn: nobody is left in the phase. -/
import Derived.Test.YtlipngdfhpaodaaGreatRec2
namespace Go.Proofs.YtlipngdfhpaodaaGreat
open Go.RowKit

theorem swapped_calls (x : Int) (w : World) : Calls Tryz.prog 160 #[.int .i64 x] w fun e w' => e = .returned (.tuple #[]) ∧ w' = w := by
  go_enter Tryz.func160, Tryz.ntmps160
  go_wp2_with fail
  go_end0
  exact ⟨rfl, rfl⟩
section
variable {base sh ph : Nat} {act : Int} {rf : Nat → Int} {cur start : Int} {en : Nat → Int} {w w' : World}
theorem flip_0 (h : RecAt base sh ph act rf cur start en w) (hp : phaseOf start = 0) (he : en 0 = start) :
    Calls Tryz.prog 159 #[.pointer (some ⟨ph, 0, none⟩), .pointer none, .func (.func 160) #[] #[]] w fun e w' => e = .returned (.int .i64 0) ∧ Only (· = ph) w w' ∧ RecAt base sh ph act rf cur (-9223372036854775808) (upd en 1 (-9223372036854775808)) w' := by
  have c0 : w.cell? ⟨ph, 0, none⟩ = some (.int .i64 start) := by rw [blk_cell h.pobj]; rfl
  have hD : RecAt base sh ph act rf cur start en w.drew := h.only (Only.refl (fun _ => False) w).drew (by simp) (by simp)
  have c1 : w.drew.cell? ⟨ph, 2, none⟩ = some (.int .i64 (en 1)) := by rw [blk_cell hD.pobj]; rfl
  have f1 : w.drew.frozen? ⟨ph, 2, none⟩ = false := blk_free hD.pobj _
  have HD := Lib.hid hD
  have K := Lib.hid (fun w => phaseOf_calls start w)
  have HE := Lib.hid he
  rw [hp] at K
  clear h hD hp he
  go_enter Tryz.func159, Tryz.ntmps159
  go_wp2_with fail
  refine (wload _ _ _ c0).mono ?_
  rintro e w1 ⟨rfl, hw⟩; rw [hw]; clear hw w1
  go_wp2_with fail
  refine (K.out _).mono ?_
  rintro e w1 ⟨rfl, hw⟩; rw [hw]; clear hw w1
  clear c0
  go_wp2_with fail
  go_region_law (first | (go_simp; go_at_call 99; refine (begins_1 _).mono ?_; rintro e w2 ⟨rfl, hw⟩; rw [hw]; clear hw w2) | (go_simp; go_at_call 47; refine (wstore _ _ _ _ c1 f1).mono ?_; rintro e w2 ⟨rfl, hw⟩; have R1 : RecAt base sh ph act rf cur start (upd en 1 (-9223372036854775808)) w2 := (by rw [hw]; exact HD.out.setEnd 1 (by decide) _); have O1 : Only (fun x => x = ph) w w2 := (by rw [hw]; exact (Only.refl (fun x => x = ph) w).drew.setCell (p := ⟨ph, 2, none⟩) (.inr rfl) _); clear hw c1 f1 HD))
  all_goals
    have R1D : RecAt base sh ph act rf cur start (upd en 1 (-9223372036854775808)) w2.drew := R1.only (Only.refl (fun _ => False) w2).drew (by simp) (by simp)
    have c2 : w2.drew.cell? ⟨ph, 0, none⟩ = some (.int .i64 start) := by rw [blk_cell R1D.pobj]; rfl
    have f2 : w2.drew.frozen? ⟨ph, 0, none⟩ = false := blk_free R1D.pobj _
    have HR := Lib.hid R1D; have HO := Lib.hid O1
    clear R1 R1D O1
    go_wp2_with fail
    go_region_law (first | (go_simp; go_at_call 99; refine (begins_1 _).mono ?_; rintro e w3 ⟨rfl, hw⟩; rw [hw]; clear hw w3) | (go_simp; go_at_call 57; refine (wswap _ _ _ _ c2 f2).mono ?_; rintro e w3 ⟨rfl, hw⟩; have R2 : RecAt base sh ph act rf cur (-9223372036854775808) (upd en 1 (-9223372036854775808)) w3 := (by rw [hw]; exact HR.out.setStart _); have O2 : Only (fun x => x = ph) w w3 := (by rw [hw]; exact HO.out.drew.setCell (p := ⟨ph, 0, none⟩) (.inr rfl) _); clear hw c2 f2 HR HO))
    all_goals
      have c3 : w3.cell? ⟨ph, 1, none⟩ = some (.int .i64 start) := by
        rw [blk_cell R2.pobj, ← HE.out]
        rw [show upd en 1 (-9223372036854775808) 0 = en 0 from upd_ne _ _ (by decide)]; rfl
      have HR := Lib.hid R2; have HO := Lib.hid O2
      clear R2 O2
      go_wp2_with fail
      refine (swapped_calls _ _).mono ?_
      rintro e w4 ⟨rfl, hw⟩; rw [hw]; clear hw w4
      go_wp2_with fail
      refine wp_loop_rounds 1 ?_
      rw [rounds_succ]
      go_wp2_with fail
      refine (wload _ _ _ c3).mono ?_
      rintro e w4 ⟨rfl, hw⟩; rw [hw]; clear hw w4
      go_wp2_with fail
      go_ret
      exact ⟨rfl, HO.out, HR.out⟩
theorem flip_1 (h : RecAt base sh ph act rf cur start en w) (hp : phaseOf start = 1) (he : en 1 = start) :
    Calls Tryz.prog 159 #[.pointer (some ⟨ph, 0, none⟩), .pointer none, .func (.func 160) #[] #[]] w fun e w' => e = .returned (.int .i64 0) ∧ Only (· = ph) w w' ∧ RecAt base sh ph act rf cur 0 (upd en 0 0) w' := by
  have c0 : w.cell? ⟨ph, 0, none⟩ = some (.int .i64 start) := by rw [blk_cell h.pobj]; rfl
  have hD : RecAt base sh ph act rf cur start en w.drew := h.only (Only.refl (fun _ => False) w).drew (by simp) (by simp)
  have c1 : w.drew.cell? ⟨ph, 1, none⟩ = some (.int .i64 (en 0)) := by rw [blk_cell hD.pobj]; rfl
  have f1 : w.drew.frozen? ⟨ph, 1, none⟩ = false := blk_free hD.pobj _
  have HD := Lib.hid hD
  have K := Lib.hid (fun w => phaseOf_calls start w)
  have HE := Lib.hid he
  rw [hp] at K
  clear h hD hp he
  go_enter Tryz.func159, Tryz.ntmps159
  go_wp2_with fail
  refine (wload _ _ _ c0).mono ?_
  rintro e w1 ⟨rfl, hw⟩; rw [hw]; clear hw w1
  go_wp2_with fail
  refine (K.out _).mono ?_
  rintro e w1 ⟨rfl, hw⟩; rw [hw]; clear hw w1
  clear c0
  go_wp2_with fail
  go_region_law (first | (go_simp; go_at_call 99; refine (begins_0 _).mono ?_; rintro e w2 ⟨rfl, hw⟩; rw [hw]; clear hw w2) | (go_simp; go_at_call 47; refine (wstore _ _ _ _ c1 f1).mono ?_; rintro e w2 ⟨rfl, hw⟩; have R1 : RecAt base sh ph act rf cur start (upd en 0 0) w2 := (by rw [hw]; exact HD.out.setEnd 0 (by decide) _); have O1 : Only (fun x => x = ph) w w2 := (by rw [hw]; exact (Only.refl (fun x => x = ph) w).drew.setCell (p := ⟨ph, 1, none⟩) (.inr rfl) _); clear hw c1 f1 HD))
  all_goals
    have R1D : RecAt base sh ph act rf cur start (upd en 0 0) w2.drew := R1.only (Only.refl (fun _ => False) w2).drew (by simp) (by simp)
    have c2 : w2.drew.cell? ⟨ph, 0, none⟩ = some (.int .i64 start) := by rw [blk_cell R1D.pobj]; rfl
    have f2 : w2.drew.frozen? ⟨ph, 0, none⟩ = false := blk_free R1D.pobj _
    have HR := Lib.hid R1D; have HO := Lib.hid O1
    clear R1 R1D O1
    go_wp2_with fail
    go_region_law (first | (go_simp; go_at_call 99; refine (begins_0 _).mono ?_; rintro e w3 ⟨rfl, hw⟩; rw [hw]; clear hw w3) | (go_simp; go_at_call 57; refine (wswap _ _ _ _ c2 f2).mono ?_; rintro e w3 ⟨rfl, hw⟩; have R2 : RecAt base sh ph act rf cur 0 (upd en 0 0) w3 := (by rw [hw]; exact HR.out.setStart _); have O2 : Only (fun x => x = ph) w w3 := (by rw [hw]; exact HO.out.drew.setCell (p := ⟨ph, 0, none⟩) (.inr rfl) _); clear hw c2 f2 HR HO))
    all_goals
      have c3 : w3.cell? ⟨ph, 2, none⟩ = some (.int .i64 start) := by
        rw [blk_cell R2.pobj, ← HE.out]
        rw [show upd en 0 0 1 = en 1 from upd_ne _ _ (by decide)]; rfl
      have HR := Lib.hid R2; have HO := Lib.hid O2
      clear R2 O2
      go_wp2_with fail
      refine (swapped_calls _ _).mono ?_
      rintro e w4 ⟨rfl, hw⟩; rw [hw]; clear hw w4
      go_wp2_with fail
      refine wp_loop_rounds 1 ?_
      rw [rounds_succ]
      go_wp2_with fail
      refine (wload _ _ _ c3).mono ?_
      rintro e w4 ⟨rfl, hw⟩; rw [hw]; clear hw w4
      go_wp2_with fail
      go_ret
      exact ⟨rfl, HO.out, HR.out⟩
end
end Go.Proofs.YtlipngdfhpaodaaGreat
