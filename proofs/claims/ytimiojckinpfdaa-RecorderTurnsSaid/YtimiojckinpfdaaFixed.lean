/- The walk of fixed: New, Add and Drain of a counter. -/
import Derived.Test.YtimiojckinpfdaaAddc
import Derived.Test.YtimiojckinpfdaaNew3
namespace Go.Proofs.Ytimiojckinpfdaa
open Go.RowKit

theorem sum_fixed (f : Nat → Nat → Int) (h00 : f 0 0 = 0) (h01 : f 0 1 = 0) (h10 : f 1 0 = 5) (h11 : f 1 1 = 0) : sumTo f 2 = (0, 5) := by
  simp only [sumTo, h00, h01, h10, h11]; kernel_rfl
theorem run_eq35 (w : World) : Sem.run Try.prog (binOp .eql 35 (.agg #[.int .i64 0, .int .u64 5]) (.agg #[.int .i64 0, .int .u64 5])) w = .ok (.bool true) w := by kernel_rfl
theorem run_pn24 (a : Addr) (w : World) : Sem.run Try.prog (binOp .eql 24 (.pointer (some a)) (.pointer none)) w = .ok (.bool false) w := by kernel_rfl
theorem rge_at {base s c : Nat} {kind p : Int} {st wd : Nat} {u : Nat → Value} {L : Nat → Nat} {R : Nat → Nat → Nat} {V : Nat → Nat → Nat → Int} {w : World} (h : SlabAt base s c kind p st wd u L R V w) {b i : Nat} (hb : b < 2) (hi : i < st) : base ≤ R b i := h.held.rge b hb i (by rw [h.len hb]; exact hi)
theorem addV_at (V : Nat → Nat → Nat → Int) (h : ∀ b i k, b < 2 → i < 2 → k < 2 → V b i k = 0) : addV V 0 1 5 0 0 0 = 0 ∧ addV V 0 1 5 0 0 1 = 0 ∧ addV V 0 1 5 0 1 0 = 5 ∧ addV V 0 1 5 0 1 1 = 0 := by
  have e0 := h 0 1 0 (by decide) (by decide) (by decide)
  have e1 := h 0 1 1 (by decide) (by decide) (by decide)
  refine ⟨?_, ?_, ?_, ?_⟩
  · unfold addV; rw [upd2_ne _ _ (by omega)]; exact h _ _ _ (by decide) (by decide) (by decide)
  · unfold addV; rw [upd2_ne _ _ (by omega)]; exact h _ _ _ (by decide) (by decide) (by decide)
  · unfold addV; rw [upd2_same, upd_ne _ _ (by decide), upd_same, e0]; kernel_rfl
  · unfold addV; rw [upd2_same, upd_same, e0, e1]; decide

set_option maxHeartbeats 1000000 in
theorem fixed_calls (w : World) : Calls Try.prog 7 #[] w fun e w' => e = .returned (.bool true) ∧ Only (fun _ => False) w w' := by
  have hr := run_eq35
  have hp := run_pn24
  have hN := new_1 2 1 w (by decide) 2 rfl
  have HN := Lib.hid hN; clear hN
  go_enter Try.func7, Try.ntmps7
  go_wp2_with fail
  refine HN.out.mono ?_
  rintro e w1 ⟨s, c, rfl, O1, u, L, R, V, hS, hV⟩
  have hV' : ∀ b i k, b < 2 → i < 2 → k < 2 → V b i k = 0 := fun b i k h1 h2 h3 => by
    rw [hV b i k h1 h2 h3 (.inl h1), first_1]
  have HS : Hid (SlabAt w.heap.size s c 1 1 2 2 u L R V w1) := Lib.hid hS
  have HV := Lib.hid hV'
  clear hS hV hV' HN
  go_wp2_with fail
  refine (cells_calls _ _ _ _).mono ?_
  rintro e w2 ⟨rfl, hw⟩; rw [hw]; clear hw w2
  rw [show cellsN 1 2 1 = 8 from by decide]
  go_wp2_with fail
  have K : Calls Try.prog 34 #[.pointer (some ⟨s, 0, none⟩), .pointer none, .int .i64 0, .int .i64 1, .int .i64 5] w1 (AddcRes w.heap.size s c 1 2 u L R V 0 1 5 w1) :=
    addc_calls w1 HS.out (by decide) (by decide) 0 1 (by decide) (by decide) 5 (by rw [HV.out 0 1 0 (by decide) (by decide) (by decide)]; decide)
  refine K.mono ?_
  clear K
  intro e w2 q
  unfold AddcRes at q
  rw [if_pos (by decide)] at q
  obtain ⟨rfl, O2, S2⟩ := q
  have HS2 := Lib.hid S2
  clear S2
  go_wp2_with fail
  have K : Calls Try.prog 32 #[.pointer (some ⟨s, 0, none⟩), .pointer none, .int .i64 0] w2 (DraincRes w.heap.size s c 1 2 u L R (addV V 0 1 5) 0 w2) :=
    drainc_calls w.heap.size s c 1 2 u L R _ w2 HS2.out (by decide) (by decide) 0 (by decide)
  refine K.mono ?_
  clear K
  rintro e w3 ⟨rfl, O3, _⟩
  obtain ⟨a1, a2, a3, a4⟩ := addV_at V HV.out
  rw [sum_fixed _ a1 a2 a3 a4]
  have O : Only (fun _ => False) w w3 := by
    refine (O1.seq2 O2 ?_).seq2 O3 ?_
    · rintro i rfl; exact .inl (rge_at HS.out (by decide) (by decide))
    · rintro i ⟨j, hj, rfl⟩; exact .inl (rge_at HS.out (by decide) hj)
  clear O1 O2 O3 a1 a2 a3 a4
  have ks1 := run_stf
  have ks2 := run_stc
  unfold partc
  go_wp2_with fail
  go_ret
  exact ⟨rfl, O.alloc _⟩
end Go.Proofs.Ytimiojckinpfdaa
