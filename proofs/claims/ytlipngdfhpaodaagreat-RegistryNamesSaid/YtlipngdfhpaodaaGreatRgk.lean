/- The walk of awake: an approved registry hands out its start state. -/
import Derived.Test.YtlipngdfhpaodaaGreatRgx
namespace Go.Proofs.YtlipngdfhpaodaaGreat
open Go.RowKit
set_option maxRecDepth 1000000
theorem sum_seven (f : Nat → Nat → Int) (h0 : f 0 0 = 7) (h1 : f 0 1 = 0) : sumTo f 1 = (0, 7) := by
  show (hiSum 0 0 (f 0 1) (IntKind.u64.wrap (f 0 0)), ((loSum 0 (IntKind.u64.wrap (f 0 0)) : Nat) : Int)) = (0, 7)
  rw [h0, h1]; kernel_rfl
theorem run_eq7 (w : World) : Sem.run Tryz.prog (binOp .eql 105 (.agg #[.int .i64 0, .int .u64 7]) (.agg #[.int .i64 0, .int .u64 7])) w = .ok (.bool true) w := by kernel_rfl
theorem run_eqc (w : World) : Sem.run Tryz.prog (binOp .eql 9 (.string ⟨#[99]⟩) (.string ⟨#[99]⟩)) w = .ok (.bool true) w := by kernel_rfl
theorem run_pn78 (a : Addr) (w : World) : Sem.run Tryz.prog (binOp .eql 55 (.pointer (some a)) (.pointer none)) w = .ok (.bool false) w := by kernel_rfl
theorem run_pnr (a : Addr) (w : World) : Sem.run Tryz.prog (binOp .eql 48 (.pointer (some a)) (.pointer none)) w = .ok (.bool false) w := by kernel_rfl
theorem run_pnn (a : Addr) (w : World) : Sem.run Tryz.prog (binOp .neq 48 (.pointer (some a)) (.pointer none)) w = .ok (.bool true) w := by kernel_rfl
set_option maxHeartbeats 4000000 in
theorem awake18 (w : World) : Calls Tryz.prog 18 #[] w fun e w' => e = .returned (.bool true) ∧ Only (fun _ => False) w w' := by
  have q1 := run_eq7
  have q2 := run_eqc
  have q3 := run_pnr
  have q4 := run_pn78
  go_enter Tryz.func18, Tryz.ntmps18
  go_wp2_with fail
  refine (regnew_ok 1 1 100 1 w (by decide) (by decide) poolnew_1).mono ?_
  rintro e w1 ⟨r, sh, ph, mp, pl, rfl, O1, N1⟩
  have HN1 := Lib.hid N1; have HO1 := Lib.hid O1
  clear N1 O1
  go_wp2_with fail
  refine (reg_c HN1.out).mono ?_
  rintro e w2 ⟨ib, s, cb, u, L, R, V, rfl, h2⟩
  have H2 := Lib.hid h2
  have HO2 : Hid (Only (fun k => w.heap.size ≤ k) w w2) := Lib.hid ((HO1.out.mono fun _ _ q => q.elim).trans (h2.only.mono fun k _ e => by
    rcases e with e | e
    · subst e; exact HN1.out.rge
    · subst e; exact HN1.out.mge))
  have HS1 := Lib.hid HO1.out.size
  have HPG := Lib.hid HN1.out.pge
  have HRG := Lib.hid HN1.out.rge
  clear h2 HN1 HO1
  go_wp2_with fail
  refine (rrec_calls H2.out.blk H2.out.pool (by decide)).mono ?_
  rintro e w3 ⟨rb, rfl, hb3, hO3, hr3, hF3⟩
  rw [show add64 1 1 = 2 by kernel_rfl] at hF3
  have HF3 := Lib.hid hF3; have HB3 := Lib.hid hb3
  have HO3 : Hid (Only (fun k => w.heap.size ≤ k) w w3) := Lib.hid (HO2.out.trans (hO3.mono fun k _ e => by
    rcases e with e | e
    · subst e; exact HRG.out
    · subst e; exact HPG.out))
  have hK : ∀ (k : Nat) (cs : Array Value) (t' : TypeId) (f : Nat × Nat), t' ≠ 176 → t' ≠ 273 → w2.heap[k]? = some (.cells cs t' f) → w3.heap[k]? = some (.cells cs t' f) := fun k cs t' f ht hp q => hO3.blk q (by
    rintro (e | e)
    · exact H2.out.blk.ne q ht e
    · exact put_ne q H2.out.pool hp e)
  have HR3 : Hid (RecAt w.heap.size sh ph 0 (fun _ => 0) 0 0 (fun k => if k = 1 then -9223372036854775808 else 0) w3) := Lib.hid ⟨H2.out.shr.sge, H2.out.shr.pge, hK _ _ _ _ (by decide) (by decide) H2.out.shr.sobj, hK _ _ _ _ (by decide) (by decide) H2.out.shr.pobj⟩
  have HI3 := Lib.hid (hK _ _ _ _ (by decide) (by decide) H2.out.inst)
  have HS3 : Hid (SlabAt w.heap.size s cb 1 1 1 2 u L R V w3) := Lib.hid ((H2.out.slab.low HS1.out).keepT (fun k cs f q => hK k cs _ f (by decide) (by decide) q) (fun k cs f q => hK k cs _ f (by decide) (by decide) q) (fun k cs f q => hK k cs _ f (by decide) (by decide) q) (fun k cs f q => hK k cs _ f (by decide) (by decide) q))
  have HIG : Hid (w.heap.size ≤ ib) := Lib.hid (Nat.le_trans HS1.out H2.out.ige)
  have HV := Lib.hid H2.out.zero
  clear hF3 hb3 hO3 hK hr3 H2 HO2 HPG
  go_wp2_with fail
  have K : Calls Tryz.prog 27 #[.pointer (some ⟨r, 0, none⟩), .pointer none, .pointer (some ⟨rb, 0, none⟩), .int .i64 0, .int .i64 7] w3 (RaddRes w.heap.size sh ph s cb 1 1 u L R V 0 0 0 7 (fun _ => 0) 0 0 (fun k => if k = 1 then -9223372036854775808 else 0) w3) := by
    refine radd0_calls HF3.out rfl rfl (by rw [blk_cell HI3.out]; rfl) rb 7 _ ?_
    intro w' hs
    have O := hs.only (fun _ => False)
    refine (radd_calls (n := 7) (i := 0) (O.blk HB3.out (by simp)) (HS3.out.only O) 0 (HR3.out.only O (by simp) (by simp)) (by decide) (by decide) (by decide) (by decide) 0 (by decide) (by decide) (by rw [HV.out 0 0 0 (by decide) (by decide) (by decide)]; decide) (by decide)).mono ?_
    intro e w'' hq
    exact ⟨⟨_, hq.val⟩, hq.back O⟩
  refine K.mono ?_
  clear K
  intro e w4 hq
  unfold RaddRes at hq
  rw [if_pos (by decide)] at hq
  obtain ⟨rfl, R4, S4, O4⟩ := hq
  have R4' : RecAt w.heap.size sh ph 0 (fun _ => 0) 0 (add64 0 1) (upd (fun k => if k = 1 then -9223372036854775808 else 0) 0 (add64 0 1)) w4 := R4
  rw [show add64 0 1 = 1 by kernel_rfl] at R4'
  have nI : ∀ (k : Nat) (cs : Array Value) (t' : TypeId) (f : Nat × Nat), t' ≠ 258 → t' ≠ 120 → w3.heap[k]? = some (.cells cs t' f) → w4.heap[k]? = some (.cells cs t' f) := fun k cs t' f h1 h2 q => O4.blk q (by
    rintro (e | e)
    · exact put_ne q HR3.out.pobj h1 e
    · obtain ⟨cs', q1, _⟩ := HS3.out.held.wrd 0 (by decide) 0 (by rw [HS3.out.len (by decide)]; decide)
      exact put_ne q q1 h2 e)
  have HF4 : Hid (Fb w4 r 267 176 (RF 1 1 100 2 2 sh pl mp 4 (fun j => if j = 0 then .pointer (some ⟨ib, 0, none⟩) else .pointer none) 1 0)) := Lib.hid (HF3.out.keep (fun k cs f q => nI k cs _ f (by decide) (by decide) q))
  have HO4 : Hid (Only (fun k => w.heap.size ≤ k) w w4) := Lib.hid (HO3.out.trans (O4.mono fun k _ e => by
    rcases e with e | e
    · rw [e]; exact HR3.out.pge
    · rw [e]; exact rge_at HS3.out (by decide) (by decide)))
  have HU : Hid (RgUp w.heap.size r sh ph mp pl ib s cb 2 2 0 (fun _ => 0) 0 1 (upd (fun k => if k = 1 then -9223372036854775808 else 0) 0 1) 0 0 u L R (addV V 0 0 7) w4) := Lib.hid ⟨HRG.out, HIG.out, HF4.out, R4', nI _ _ _ _ (by decide) (by decide) HI3.out, S4⟩
  clear R4 R4' S4 O4 nI HF3 HO3 HR3 HS3 HI3 HB3 HF4
  go_wp2_with fail
  have hsum : sumTo (addV V 0 0 7 0) 1 = (0, 7) := by
    have e0 : addV V 0 0 7 0 0 0 = 7 := by unfold addV; rw [upd2_same, upd_ne _ _ (by decide), upd_same, HV.out 0 0 0 (by decide) (by decide) (by decide)]; kernel_rfl
    have e1 : addV V 0 0 7 0 0 1 = 0 := by unfold addV; rw [upd2_same, upd_same, HV.out 0 0 0 (by decide) (by decide) (by decide), HV.out 0 0 1 (by decide) (by decide) (by decide)]; kernel_rfl
    exact sum_seven _ e0 e1
  refine (reset_1 HO4.out.size HU.out (upd_same _ _ _) hsum (by decide) (by constructor <;> kernel_rfl)).mono ?_
  clear hsum
  rintro e w5 ⟨v5, rfl, O5, g5, cap5, rfl, hc5⟩
  have HO5 := Lib.hid (HO4.out.trans O5)
  have HC5 := Lib.hid hc5
  clear O5 hc5 HO4 HU HV
  have c1 := HC5.out 1 _ rfl
  have c4 := HC5.out 4 _ rfl
  have c5 := HC5.out 5 _ rfl
  have hg := cell_lt c1
  have O6 := (HO5.out.alloc (.cells #[.int .i64 1, .slice (some ⟨g5, 0, none⟩) 1 cap5, .int .u64 0] 69))
  have HO6 := Lib.hid (show Only (fun _ => False) w (w5.alloc (.cells #[.int .i64 1, .slice (some ⟨g5, 0, none⟩) 1 cap5, .int .u64 0] 69)) from (Only.refl _ w).seq2 O6 (fun k q => .inl q))
  clear O6
  unfold snapv
  go_wp2_with fail
  go_ret
  exact ⟨rfl, HO6.out⟩
end Go.Proofs.YtlipngdfhpaodaaGreat
