/- The walks of recorder.New, Recorder, Enter, Leave, Refused; what stores leave of what the recorders share. -/
import Derived.Test.YtlipngdfhpaodaaGreatRec1
import Derived.Defers
namespace Go.Proofs.YtlipngdfhpaodaaGreat
open Go.RowKit

section
variable {base sh ph : Nat} {act : Int} {rf : Nat → Int} {now start : Int} {en : Nat → Int} {w w' : World}
theorem RecAt.only {S : Nat → Prop} (h : RecAt base sh ph act rf now start en w) (O : Only S w w') (h1 : ¬ S sh) (h2 : ¬ S ph) : RecAt base sh ph act rf now start en w' :=
  ⟨h.sge, h.pge, O.blk h.sobj h1, O.blk h.pobj h2⟩
theorem RecAt.ne (h : RecAt base sh ph act rf now start en w) : ph ≠ sh := put_ne h.pobj h.sobj (by decide)
theorem RecAt.setAct (h : RecAt base sh ph act rf now start en w) (x : Int) : RecAt base sh ph x rf now start en (w.setCell ⟨sh, 1, none⟩ (.int .i64 x)) :=
  ⟨h.sge, h.pge, blk_set h.sobj 1 _, blk_set_ne h.pobj _ _ h.ne⟩
theorem RecAt.setNow (h : RecAt base sh ph act rf now start en w) (x : Int) : RecAt base sh ph act rf x start en (w.setCell ⟨sh, 4, none⟩ (.int .i64 x)) :=
  ⟨h.sge, h.pge, blk_set h.sobj 4 _, blk_set_ne h.pobj _ _ h.ne⟩
theorem RecAt.setRef (h : RecAt base sh ph act rf now start en w) (b : Nat) (hb : b < 2) (x : Int) : RecAt base sh ph act (upd rf b x) now start en (w.setCell ⟨sh, 2 + b, none⟩ (.int .i64 x)) := by
  refine ⟨h.sge, h.pge, ?_, blk_set_ne h.pobj _ _ h.ne⟩
  have hcs : b = 0 ∨ b = 1 := by omega
  rcases hcs with rfl | rfl
  · exact blk_set h.sobj 2 _
  · exact blk_set h.sobj 3 _
theorem RecAt.setStart (h : RecAt base sh ph act rf now start en w) (x : Int) : RecAt base sh ph act rf now x en (w.setCell ⟨ph, 0, none⟩ (.int .i64 x)) :=
  ⟨h.sge, h.pge, blk_set_ne h.sobj _ _ h.ne.symm, blk_set h.pobj 0 _⟩
theorem RecAt.setEnd (h : RecAt base sh ph act rf now start en w) (b : Nat) (hb : b < 2) (x : Int) : RecAt base sh ph act rf now start (upd en b x) (w.setCell ⟨ph, 1 + b, none⟩ (.int .i64 x)) := by
  refine ⟨h.sge, h.pge, blk_set_ne h.sobj _ _ h.ne.symm, ?_⟩
  have hcs : b = 0 ∨ b = 1 := by omega
  rcases hcs with rfl | rfl
  · exact blk_set h.pobj 1 _
  · exact blk_set h.pobj 2 _
theorem enter_calls (h : RecAt base sh ph act rf now start en w) (hx : -9223372036854775808 ≤ start ∧ start ≤ 9223372036854775807) :
    Calls Tryz.prog 154 #[.pointer (some ⟨ph, 0, none⟩), .pointer none] w fun e w' => e = .returned (.int .i64 start) ∧ w' = w.setCell ⟨ph, 0, none⟩ (.int .i64 (add64 start 1)) := by
  have c0 : w.cell? ⟨ph, 0, none⟩ = some (.int .i64 start) := by rw [blk_cell h.pobj]; rfl
  have f0 : w.frozen? ⟨ph, 0, none⟩ = false := blk_free h.pobj _
  have hb := Lib.hid (add64_back start 1 hx.1 hx.2)
  clear h hx
  go_enter Tryz.func154, Tryz.ntmps154
  go_wp2_with fail
  refine (wadd _ _ _ _ c0 f0).mono ?_
  rw [hb.out]
  rintro e w1 ⟨rfl, hw⟩; rw [hw]; clear hw w1
  go_wp2_with fail
  go_ret
  exact ⟨rfl, rfl⟩
theorem phaseOf_neg {x : Int} (h : x < 0) : phaseOf x = 1 := if_pos h
theorem phaseOf_pos {x : Int} (h : ¬ x < 0) : phaseOf x = 0 := if_neg h
/-- Leave, as a deferred call -/
theorem leave_deferred (u : FrameMode) (h : RecAt base sh ph act rf now start en w) (x : Int) (b : Nat) (hb : b < 2) (hp : phaseOf x = b) :
    CallsD Tryz.prog 155 #[.pointer (some ⟨ph, 0, none⟩), .pointer none, .int .i64 x] u w fun e u' w' => u' = u ∧ (e = .returned (.tuple #[]) ∧ w' = w.drew.setCell ⟨ph, 1 + b, none⟩ (.int .i64 (add64 (en b) 1))) := by
  have hD : RecAt base sh ph act rf now start en w.drew := h.only (Only.refl (fun _ => False) w).drew (by simp) (by simp)
  have c0 : w.drew.cell? ⟨ph, 1 + b, none⟩ = some (.int .i64 (en b)) := by
    rw [blk_cell hD.pobj]
    have hcs : b = 0 ∨ b = 1 := by omega
    rcases hcs with rfl | rfl <;> rfl
  have f0 : w.drew.frozen? ⟨ph, 1 + b, none⟩ = false := blk_free hD.pobj _
  have K := Lib.hid (fun w => phaseOf_calls x w)
  rw [hp] at K
  clear h hD hp
  have hcs : b = 0 ∨ b = 1 := by omega
  rcases hcs with rfl | rfl
  · go_enter_d Tryz.func155, Tryz.ntmps155
    go_wp2_with fail
    go_region_law (first | (go_simp; go_at_call 215; refine (K.out _).mono ?_; rintro e w2 ⟨rfl, hw⟩; rw [hw]; clear hw w2) | (go_simp; go_at_call 111; refine (wadd _ _ _ _ c0 f0).mono ?_; rintro e w2 ⟨rfl, hw⟩; rw [hw]; clear hw w2))
    all_goals
      go_wp2_with fail
      go_end0
      exact ⟨rfl, rfl⟩
  · go_enter_d Tryz.func155, Tryz.ntmps155
    go_wp2_with fail
    go_region_law (first | (go_simp; go_at_call 215; refine (K.out _).mono ?_; rintro e w2 ⟨rfl, hw⟩; rw [hw]; clear hw w2) | (go_simp; go_at_call 111; refine (wadd _ _ _ _ c0 f0).mono ?_; rintro e w2 ⟨rfl, hw⟩; rw [hw]; clear hw w2))
    all_goals
      go_wp2_with fail
      go_end0
      exact ⟨rfl, rfl⟩
/-- how many were refused: told, and begun anew -/
theorem refused_calls (h : RecAt base sh ph act rf now start en w) (b : Nat) (hb : b < 2) :
    Calls Tryz.prog 15 #[.pointer (some ⟨sh, 0, none⟩), .pointer none, .int .i64 b] w fun e w' => e = .returned (.int .u64 (IntKind.u64.wrap (rf b))) ∧ w' = w.setCell ⟨sh, 2 + b, none⟩ (.int .i64 0) := by
  have c0 : w.cell? ⟨sh, 2 + b, none⟩ = some (.int .i64 (rf b)) := by
    rw [blk_cell h.sobj]
    have hcs : b = 0 ∨ b = 1 := by omega
    rcases hcs with rfl | rfl <;> rfl
  have f0 : w.frozen? ⟨sh, 2 + b, none⟩ = false := blk_free h.sobj _
  clear h
  have hcs : b = 0 ∨ b = 1 := by omega
  rcases hcs with rfl | rfl
  · go_enter Tryz.func15, Tryz.ntmps15
    go_wp2_with fail
    refine (wswap _ _ _ _ c0 f0).mono ?_
    rintro e w1 ⟨rfl, hw⟩; rw [hw]; clear hw w1
    go_wp2_with fail
    go_ret
    exact ⟨rfl, rfl⟩
  · go_enter Tryz.func15, Tryz.ntmps15
    go_wp2_with fail
    refine (wswap _ _ _ _ c0 f0).mono ?_
    rintro e w1 ⟨rfl, hw⟩; rw [hw]; clear hw w1
    go_wp2_with fail
    go_ret
    exact ⟨rfl, rfl⟩
end
def RecNew (w : World) (e : Ending) (w' : World) : Prop := ∃ sh ph, e = .returned (.pointer (some ⟨sh, 0, none⟩)) ∧ Only (fun _ => False) w w' ∧ RecAt w.heap.size sh ph 0 (fun _ => 0) 0 0 (fun k => if k = 1 then -9223372036854775808 else 0) w'
theorem recnew_calls (w : World) : Calls Tryz.prog 10 #[] w (RecNew w) := by
  go_enter Tryz.func10, Tryz.ntmps10
  go_wp2_with fail
  refine (phnew_calls w).mono ?_
  rintro e w1 ⟨rfl, O1, hb⟩
  have Hb := Lib.hid hb; clear hb
  go_wp2_with fail
  go_ret
  exact ⟨w1.heap.size, w.heap.size, rfl, O1.alloc _, O1.size, Nat.le_refl _, blk_new w1 _, blk_alloc Hb.out _⟩
theorem recorder_calls (sh : Nat) (i : Int) (w : World) : Calls Tryz.prog 38 #[.pointer (some ⟨sh, 0, none⟩), .int .i64 i] w fun e w' => e = .returned (.pointer (some ⟨w.heap.size, 0, none⟩)) ∧ w' = w.alloc (.cells #[.pointer (some ⟨sh, 0, none⟩), .int .i64 i, .bool false] 250) := by
  go_enter Tryz.func38, Tryz.ntmps38
  go_wp2_with fail
  go_ret
  exact ⟨rfl, rfl⟩
end Go.Proofs.YtlipngdfhpaodaaGreat
