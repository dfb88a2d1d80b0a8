/- The walks of Recorder, slab, Add of a registry. -/
import Derived.Test.YtlipngdfhpaodaaGreatRgr
import Derived.Test.YtlipngdfhpaodaaGreatRadd3
namespace Go.Proofs.YtlipngdfhpaodaaGreat
open Go.RowKit
set_option maxRecDepth 1000000

def RrecRes (r sh pl mp : Nat) (cells : Int) (all : Nat → Value) (many : Int) (refused : Int) (x : Int) (w : World) (e : Ending) (w' : World) : Prop :=
  ∃ rb, e = .returned (.tuple #[.pointer (some ⟨rb, 0, none⟩), .int .i64 0]) ∧ w'.heap[rb]? = some (.cells #[.pointer (some ⟨sh, 0, none⟩), .int .i64 0, .bool false] 250 (0, 0)) ∧ Only (fun k => k = r ∨ k = pl) w w' ∧ w.heap.size ≤ rb ∧
    Fb w' r 267 176 (RF 1 1 100 (add64 x 1) (add64 x 1) sh pl mp cells all many refused)
set_option maxHeartbeats 4000000 in
theorem rrec_calls {w : World} {r sh pl mp : Nat} {cells : Int} {all : Nat → Value} {many refused x : Int} (h : Fb w r 267 176 (RF 1 1 100 x x sh pl mp cells all many refused)) (hp : w.heap[pl]? = some (.cells #[.int .i64 1, .int .u32 1] 273 (0, 0))) (hx : -9223372036854775808 ≤ x ∧ x ≤ 9223372036854775807) :
    Calls Tryz.prog 19 #[.pointer (some ⟨r, 0, none⟩), .pointer none] w (RrecRes r sh pl mp cells all many refused x w) := by
  have H := Lib.hid h; have HP := Lib.hid hp; have HX := Lib.hid hx
  clear h hp hx
  go_enter_defers Tryz.func19, Tryz.ntmps19
  go_wp2_with fail
  refine (take_calls H.out 3 (by decide) x rfl rfl HX.out).mono ?_
  rintro e w1 ⟨rfl, hO1, hF1⟩
  rw [RF_next] at hF1
  have HF1 := Lib.hid hF1
  have P1 := Lib.hid (hO1.blk HP.out (fun e => H.out.ne HP.out (by decide) e))
  have HO1 := Lib.hid hO1
  have NE := Lib.hid (show pl ≠ r from H.out.ne HP.out (by decide))
  have c6 : w1.cell? ⟨r, 6, none⟩ = some (.pointer (some ⟨pl, 0, none⟩)) := by rw [hF1.cell (by decide)]; rfl
  clear hO1 hF1 H HP
  go_wp2_with fail
  refine (pooltake_1 pl w1 P1.out).mono ?_
  rintro e w2 ⟨rfl, hO2⟩
  have HF2 := Lib.hid (HF1.out.only hO2 (fun e => NE.out e.symm))
  have HO2 : Hid (Only (fun k => k = r ∨ k = pl) w w2) := Lib.hid ((HO1.out.mono fun _ _ q => .inl q).trans (hO2.mono fun _ _ q => .inr q))
  have c5 : w2.cell? ⟨r, 5, none⟩ = some (.pointer (some ⟨sh, 0, none⟩)) := by rw [HF2.out.cell (by decide)]; rfl
  clear hO2 c6 HF1 HO1 P1
  go_wp2_with fail
  refine (recorder_calls sh 0 w2).mono ?_
  rintro e w3 ⟨rfl, hw⟩
  have O23 : Only (fun _ => False) w2 w3 := by rw [hw]; exact (Only.refl _ w2).alloc _
  have B3 : Hid (w3.heap[w2.heap.size]? = some (.cells #[.pointer (some ⟨sh, 0, none⟩), .int .i64 0, .bool false] 250 (0, 0))) := Lib.hid (by rw [hw]; exact blk_new _ _)
  have HF3 := Lib.hid (HF2.out.only O23 (by simp))
  have HO3 : Hid (Only (fun k => k = r ∨ k = pl) w w3) := Lib.hid (HO2.out.trans (O23.mono fun _ _ q => q.elim))
  have SZ := Lib.hid HO2.out.size
  clear hw O23 HF2 HO2 c5
  generalize w2.heap.size = rb at *
  go_wp2_with fail
  refine leaves_cons (f := 60) (args := #[.pointer (some ⟨r, 3, none⟩), .pointer none]) (by simp) (by simp [go_sem]) ?_
  refine (give_deferred .returning HF3.out 3 (by decide) x rfl).mono ?_
  rintro e u' w10 ⟨rfl, rfl, hw⟩
  have hF4 : Fb w10 r 267 176 (RF 1 1 100 (add64 x 1) (add64 x 1) sh pl mp cells all many refused) := by
    have h := HF3.out.set (3 + 1) (.int .i64 (add64 x 1))
    rw [RF_serving] at h; rw [hw]; exact h
  have O34 : Only (fun k => k = r) w3 w10 := by rw [hw]; exact Only.set1 r w3 4 _
  have hfin : RrecRes r sh pl mp cells all many refused x w (.returned (.tuple #[.pointer (some ⟨rb, 0, none⟩), .int .i64 0])) w10 :=
    ⟨rb, rfl, O34.blk B3.out (fun e => HF3.out.ne B3.out (by decide) e), HO3.out.trans (O34.mono fun _ _ q => .inl q), SZ.out, hF4⟩
  exact ⟨_, results_tmp2 (t := 4) (u := 5) rfl _ _ _, hfin⟩
theorem slab_0 {w : World} {r ib s : Nat} {F : Nat → Value} (h : Fb w r 267 176 F) (e1 : F 265 = .int .i64 1) (e0 : F 9 = .pointer (some ⟨ib, 0, none⟩)) (hi : w.cell? ⟨ib, 4, none⟩ = some (.pointer (some ⟨s, 0, none⟩))) :
    Calls Tryz.prog 76 #[.pointer (some ⟨r, 0, none⟩), .int .i64 0] w fun e w' => e = .returned (.tuple #[.pointer (some ⟨s, 0, none⟩), .bool true]) ∧ Still w w' := by
  have c265 : w.cell? ⟨r, 265, none⟩ = some (.int .i64 1) := by rw [h.cell (by decide), e1]
  have c9 : w.cell? ⟨r, 9, none⟩ = some (.pointer (some ⟨ib, 0, none⟩)) := by rw [h.cell (by decide), e0]
  clear h e1 e0
  go_enter Tryz.func76, Tryz.ntmps76
  go_wp2_with fail
  refine (aload _ _ _ c265).mono ?_
  rintro e w1 ⟨rfl, hw⟩; rw [hw]; clear hw w1
  go_wp2_with fail
  go_ret2
  exact ⟨rfl, Still.refl w⟩
set_option maxHeartbeats 1000000 in
theorem radd0_calls {w : World} {r ib s : Nat} {F : Nat → Value} (h : Fb w r 267 176 F) (e1 : F 265 = .int .i64 1) (e0 : F 9 = .pointer (some ⟨ib, 0, none⟩)) (hi : w.cell? ⟨ib, 4, none⟩ = some (.pointer (some ⟨s, 0, none⟩))) (rb : Nat) (n : Int) (Q : Ending → World → Prop)
    (K : ∀ w', Still w w' → Calls Tryz.prog 39 #[.pointer (some ⟨rb, 0, none⟩), .pointer none, .pointer (some ⟨s, 0, none⟩), .int .i64 n] w' fun e w'' => (∃ x : Int, e = .returned (.int .i64 x)) ∧ Q e w'') :
    Calls Tryz.prog 27 #[.pointer (some ⟨r, 0, none⟩), .pointer none, .pointer (some ⟨rb, 0, none⟩), .int .i64 0, .int .i64 n] w Q := by
  have HS := Lib.hid (slab_0 h e1 e0 hi); have HK := Lib.hid K
  clear h e1 e0 hi K
  go_enter Tryz.func27, Tryz.ntmps27
  go_wp2_with fail
  refine HS.out.mono ?_
  rintro e w1 ⟨rfl, hS⟩
  have K1 := Lib.hid (HK.out w1 hS); clear hS
  go_wp2_with fail
  refine K1.out.mono ?_
  rintro e w2 ⟨⟨x, rfl⟩, hQ⟩
  have HQ := Lib.hid hQ; clear hQ
  go_wp2_with fail
  exact HQ.out
end Go.Proofs.YtlipngdfhpaodaaGreat
