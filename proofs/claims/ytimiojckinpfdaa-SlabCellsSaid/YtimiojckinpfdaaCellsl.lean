/- The walk of SlabCells. -/
import Derived.Test.YtimiojckinpfdaaFixed
import Derived.Test.YtimiojckinpfdaaNew4
import Derived.Test.YtimiojckinpfdaaNew5
import Derived.Test.YtimiojckinpfdaaRnew
namespace Go.Proofs.Ytimiojckinpfdaa
open Go.RowKit

theorem newE_kind {kind st p : Int} (h : newE kind st p = 0) : (kind = 1 ∨ kind = 2 ∨ kind = 3) ∧ ∃ n : Nat, st = n ∧ 0 < n ∧ n ≤ 16 := by
  have h1 : wide kind 1 ≠ 0 := by intro q; unfold newE at h; rw [if_pos q] at h; cases h
  have hm : mayB st p = true := by
    cases hq : mayB st p with
    | true => rfl
    | false => unfold newE at h; rw [hq, if_neg h1] at h; cases h
  obtain ⟨a1, a2, _, _⟩ := mayB_of hm
  refine ⟨?_, st.toNat, by omega, by omega, by omega⟩
  by_cases k1 : kind = 1
  · exact .inl k1
  by_cases k2 : kind = 2
  · exact .inr (.inl k2)
  by_cases k3 : kind = 3
  · exact .inr (.inr k3)
  exact absurd (wide_out 1 k1 k2 k3) h1
theorem new_good (kind st p : Int) (w : World) (h : newE kind st p = 0) (n : Nat) (hn : st = n) : Calls Try.prog 10 #[.int .i64 kind, .int .i64 st, .int .i64 p] w (NewRes kind p n w) := by
  rcases (newE_kind h).1 with rfl | rfl | rfl
  · exact new_1 st p w h n hn
  · exact new_2 st p w h n hn
  · exact new_3 st p w h n hn
theorem run_nn24 (w : World) : Sem.run Try.prog (binOp .eql 24 (.pointer none) (.pointer none)) w = .ok (.bool true) w := by kernel_rfl

set_option maxHeartbeats 1000000 in
theorem cellsl (kind st p : Int) (w : World) : Calls Try.prog 3 #[.int .i64 kind, .int .i64 st, .int .i64 p] w fun e w' => e = .returned (.bool true) ∧ Only (fun _ => False) w w' := by
  have hp := run_pn24
  have hnn := run_nn24
  by_cases hE : newE kind st p = 0
  · obtain ⟨hk, n, hn, _, _⟩ := newE_kind hE
    have G := Lib.hid (fun w => new_good kind st p w hE n hn)
    have RG := Lib.hid (fun w => rnew_good kind st p w hE n hn)
    have HK := Lib.hid hk
    have C := Lib.hid (fun w => cells_calls kind st p w)
    have RC := Lib.hid (fun w => rcells_calls kind st p w)
    clear hE hk hn
    generalize cellsN kind st p = z at *
    go_enter Try.func3, Try.ntmps3
    go_wp2_with fail
    refine (fixed_calls w).mono ?_
    rintro e w1 ⟨rfl, O1⟩
    go_wp2_with fail
    refine (C.out _).mono ?_
    rintro e w2 ⟨rfl, hw⟩; rw [hw]; clear hw w2
    go_wp2_with fail
    refine (RC.out _).mono ?_
    rintro e w2 ⟨rfl, hw⟩; rw [hw]; clear hw w2
    go_wp2_with fail
    refine (G.out _).mono ?_
    rintro e w2 ⟨s, c, rfl, O2, u, L, R, V, hS, _⟩
    have HS := Lib.hid hS; clear hS
    go_wp2_with fail
    refine (RG.out _).mono ?_
    rintro e w3 ⟨s', rfl, O3⟩
    go_wp2_with fail
    refine (kind_calls s kind c p w3 HK.out (O3.blk HS.out.obj (by simp))).mono ?_
    rintro e w4 ⟨rfl, O4⟩
    go_wp2_with fail
    go_ret
    exact ⟨by simp, ((O1.trans O2).trans O3).trans O4⟩
  · have B := Lib.hid (fun w => new_bad kind st p w hE)
    have RB := Lib.hid (fun w => rnew_bad kind st p w hE)
    have C := Lib.hid (fun w => cells_calls kind st p w)
    have RC := Lib.hid (fun w => rcells_calls kind st p w)
    have hb : (newE kind st p != 0) = true := by rw [bne_iff_ne]; exact hE
    clear hE
    generalize cellsN kind st p = z at *
    generalize newE kind st p = ee at *
    go_enter Try.func3, Try.ntmps3
    go_wp2_with fail
    refine (fixed_calls w).mono ?_
    rintro e w1 ⟨rfl, O1⟩
    go_wp2_with fail
    refine (C.out _).mono ?_
    rintro e w2 ⟨rfl, hw⟩; rw [hw]; clear hw w2
    go_wp2_with fail
    refine (RC.out _).mono ?_
    rintro e w2 ⟨rfl, hw⟩; rw [hw]; clear hw w2
    go_wp2_with fail
    refine (B.out _).mono ?_
    rintro e w2 ⟨rfl, O2⟩
    go_wp2_with fail
    refine (RB.out _).mono ?_
    rintro e w3 ⟨rfl, O3⟩
    go_wp2_with fail
    go_ret
    exact ⟨rfl, (O1.trans O2).trans O3⟩
end Go.Proofs.Ytimiojckinpfdaa
