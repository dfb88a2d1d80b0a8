/- The walk of awake (recorder). -/
import Derived.Test.YtimiojckinpfdaaRadd3
namespace Go.Proofs.Ytimiojckinpfdaa
open Go.RowKit

section
variable {base base' s c : Nat} {kind p : Int} {st wd : Nat} {u : Nat → Value} {L : Nat → Nat} {R : Nat → Nat → Nat} {V : Nat → Nat → Nat → Int} {w w' : World}
theorem own_lower {e size n : Nat} {v : Value} {xs : List Value} (h : w.ownsRow base e size v n xs) (hb : base' ≤ base) : w.ownsRow base' e size v n xs := by
  refine ⟨h.1, ?_⟩
  rcases h.2 with ⟨r1, r2⟩ | ⟨g, cap, cur, rfl, r2, r3, r⟩
  · exact .inl ⟨r1, r2⟩
  · exact .inr ⟨g, cap, cur, rfl, Nat.le_trans hb r2, r3, r⟩
theorem SlabAt.lower (h : SlabAt base s c kind p st wd u L R V w) (hb : base' ≤ base) : SlabAt base' s c kind p st wd u L R V w :=
  ⟨Nat.le_trans hb h.sge, h.obj, h.l0, h.l1, Nat.le_trans hb h.held.cge, h.held.obj, fun b q => own_lower (h.held.own b q) hb, h.held.wrd, fun b q i r => Nat.le_trans hb (h.held.rge b q i r), h.held.inj, h.held.heads⟩
end
theorem Only.keep2 {w w' : World} {x y : Nat} (O : Only (fun k => k = x ∨ k = y) w w') {cs cs2 : Array Value} {t1 t2 : TypeId} {f f2 : Nat × Nat} (hx : w.heap[x]? = some (.cells cs t1 f)) (hy : w.heap[y]? = some (.cells cs2 t2 f2)) (t : TypeId) (h1 : t1 ≠ t) (h2 : t2 ≠ t) : Keep t w w' := fun k cs' f' q => O.blk q (by
  rintro (e | e)
  · subst e; rw [hx] at q; injection q with q; injection q with _ q _; exact h1 q
  · subst e; rw [hy] at q; injection q with q; injection q with _ q _; exact h2 q)
theorem SlabAt.rec2 {base sh ph s c : Nat} {kind p : Int} {st wd : Nat} {u : Nat → Value} {L : Nat → Nat} {R : Nat → Nat → Nat} {V : Nat → Nat → Nat → Int} {w w' : World} {act : Int} {rf : Nat → Int} {now start : Int} {en : Nat → Int}
    (h : SlabAt base s c kind p st wd u L R V w) (hR : RecAt base sh ph act rf now start en w) (O : Only (fun k => k = sh ∨ k = ph) w w') : SlabAt base s c kind p st wd u L R V w' :=
  h.keepT (O.keep2 hR.sobj hR.pobj 97 (by decide) (by decide)) (O.keep2 hR.sobj hR.pobj 103 (by decide) (by decide)) (O.keep2 hR.sobj hR.pobj 107 (by decide) (by decide)) (O.keep2 hR.sobj hR.pobj 114 (by decide) (by decide))
theorem RecAt.rows {base sh ph s c : Nat} {kind p : Int} {st wd : Nat} {u : Nat → Value} {L : Nat → Nat} {R : Nat → Nat → Nat} {V : Nat → Nat → Nat → Int} {w w' : World} {act : Int} {rf : Nat → Int} {now start : Int} {en : Nat → Int}
    (h : RecAt base sh ph act rf now start en w) (hS : SlabAt base s c kind p st wd u L R V w) {b : Nat} (hb : b < 2) (O : Only (fun k => ∃ j, j < st ∧ k = R b j) w w') : RecAt base sh ph act rf now start en w' := by
  refine h.only O ?_ ?_
  · rintro ⟨j, hj, e⟩
    obtain ⟨cs, q1, _⟩ := hS.held.wrd b hb j (by rw [hS.len hb]; exact hj)
    exact put_ne h.sobj q1 (by decide) e
  · rintro ⟨j, hj, e⟩
    obtain ⟨cs, q1, _⟩ := hS.held.wrd b hb j (by rw [hS.len hb]; exact hj)
    exact put_ne h.pobj q1 (by decide) e
theorem sum_one (f : Nat → Nat → Int) (h0 : f 0 0 = 5) (h1 : f 0 1 = 0) : sumTo f 1 = (0, 5) := by
  show (hiSum 0 0 (f 0 1) (IntKind.u64.wrap (f 0 0)), ((loSum 0 (IntKind.u64.wrap (f 0 0)) : Nat) : Int)) = (0, 5)
  rw [h0, h1]; kernel_rfl
theorem run_pn76 (a : Addr) (w : World) : Sem.run Try.prog (binOp .eql 76 (.pointer (some a)) (.pointer none)) w = .ok (.bool false) w := by kernel_rfl
theorem run_pn78 (a : Addr) (w : World) : Sem.run Try.prog (binOp .eql 78 (.pointer (some a)) (.pointer none)) w = .ok (.bool false) w := by kernel_rfl

set_option maxRecDepth 100000 in
set_option maxHeartbeats 2000000 in
theorem awake_calls (w : World) : Calls Try.prog 27 #[] w fun e w' => e = .returned (.bool true) ∧ Only (fun _ => False) w w' := by
  have hr := run_eq35
  have hp := run_pn24
  have hp2 := run_pn76
  have hp3 := run_pn78
  go_enter Try.func27, Try.ntmps27
  go_wp2_with fail
  refine (recnew_calls w).mono ?_
  rintro e w1 ⟨sh, ph, rfl, O1, R1⟩
  have HR1 := Lib.hid R1; clear R1
  have HN := Lib.hid (new_1 1 1 w1 (by decide) 1 rfl)
  go_wp2_with fail
  refine HN.out.mono ?_
  rintro e w2 ⟨s, c, rfl, O2, u, L, R, V, hS, hV⟩
  have hV' : ∀ b i k, b < 2 → i < 1 → k < 2 → V b i k = 0 := fun b i k h1 h2 h3 => by
    rw [hV b i k h1 h2 h3 (.inl h1), first_1]
  have HS : Hid (SlabAt w.heap.size s c 1 1 1 2 u L R V w2) := Lib.hid (hS.lower O1.size)
  have HV := Lib.hid hV'
  have HR2 := Lib.hid (HR1.out.only O2 (by simp) (by simp))
  have HO2 := Lib.hid (O1.trans O2)
  clear hS hV hV' HN O1 O2 HR1
  go_wp2_with fail
  refine (recorder_calls sh 0 w2).mono ?_
  rintro e w3 ⟨rfl, hw⟩
  have O3 : Only (fun _ => False) w2 w3 := by rw [hw]; exact (Only.refl _ w2).alloc _
  have B3 : Hid (w3.heap[w2.heap.size]? = some (.cells #[.pointer (some ⟨sh, 0, none⟩), .int .i64 ((0 : Nat) : Int), .bool false] 140 (0, 0))) := Lib.hid (by rw [hw]; exact blk_new _ _)
  have HS3 := Lib.hid (HS.out.only O3)
  have HR3 := Lib.hid (HR2.out.only O3 (by simp) (by simp))
  have HO3 := Lib.hid (HO2.out.trans O3)
  clear hw O3 HO2 HR2 HS
  generalize hrb : w2.heap.size = rb at *
  have Hrb := Lib.hid hrb; clear hrb
  go_wp2_with fail
  have K : Calls Try.prog 30 #[.pointer (some ⟨rb, 0, none⟩), .pointer none, .pointer (some ⟨s, 0, none⟩), .int .i64 5] w3 _ :=
    radd_calls (n := 5) (i := 0) B3.out HS3.out 0 HR3.out (by decide) (by decide) (by decide) (by decide) 0 (by decide) (by decide) (by rw [HV.out 0 0 0 (by decide) (by decide) (by decide)]; decide) (by decide)
  refine K.mono ?_
  clear K
  intro e w4 hq
  unfold RaddRes at hq
  rw [if_pos (by decide)] at hq
  obtain ⟨rfl, R4, S4, O4⟩ := hq
  have B4 := Lib.hid (O4.blk B3.out (by
    rintro (e | e)
    · exact put_ne B3.out HR3.out.pobj (by decide) e
    · obtain ⟨cs, q1, _⟩ := HS3.out.held.wrd 0 (by decide) 0 (by rw [HS3.out.len (by decide)]; decide)
      exact put_ne B3.out q1 (by decide) e))
  have O4' : Only (fun _ => False) w w4 := HO3.out.seq2 O4 (by
    rintro k (e | e)
    · exact .inl (by rw [e]; exact HR3.out.pge)
    · exact .inl (by rw [e]; exact rge_at HS3.out (by decide) (by decide)))
  have HR4 := Lib.hid R4; have HS4 := Lib.hid S4; have HO4 := Lib.hid O4'
  clear R4 S4 O4 O4' HR3 HS3 HO3 B3
  go_wp2_with fail
  have K : Calls Try.prog 30 #[.pointer (some ⟨rb, 0, none⟩), .pointer none, .pointer (some ⟨s, 0, none⟩), .int .i64 (-1)] w4 _ :=
    radd_calls (n := -1) (i := 0) B4.out HS4.out 0 HR4.out (by decide) (by decide) (by decide) (by decide) 0 (by decide) (by kernel_rfl) (by
      have e : addV V 0 0 5 0 0 0 = 5 := by unfold addV; rw [upd2_same, upd_ne _ _ (by decide), upd_same, HV.out 0 0 0 (by decide) (by decide) (by decide)]; kernel_rfl
      rw [e]; decide) (by rw [show add64 0 1 = 1 from by kernel_rfl]; decide)
  refine K.mono ?_
  clear K
  intro e w5 hq
  unfold RaddRes at hq
  rw [if_neg (by decide)] at hq
  obtain ⟨rfl, R5, S5, O5⟩ := hq
  have O5' : Only (fun _ => False) w w5 := HO4.out.seq2 O5 (by
    rintro k (e | e)
    · exact .inl (by rw [e]; exact HR4.out.pge)
    · exact .inl (by rw [e]; exact HR4.out.sge))
  have HR5 := Lib.hid R5; have HS5 := Lib.hid S5; have HO5 := Lib.hid O5'
  clear R5 S5 O5 O5' HR4 HS4 HO4 B4
  go_wp2_with fail
  refine (turn_0 HR5.out (by show phaseOf (add64 (add64 0 1) 1) = 0; kernel_rfl) (by show _ = add64 (add64 0 1) 1; kernel_rfl)).mono ?_
  rintro e w6 ⟨rfl, O6, R6⟩
  have HS6 := Lib.hid (HS5.out.rec2 HR5.out O6)
  have O6' : Only (fun _ => False) w w6 := HO5.out.seq2 O6 (by
    rintro k (e | e)
    · exact .inl (by rw [e]; exact HR5.out.sge)
    · exact .inl (by rw [e]; exact HR5.out.pge))
  have HR6 := Lib.hid R6; have HO6 := Lib.hid O6'
  clear R6 O6 O6' HR5 HS5 HO5
  go_wp2_with fail
  have K : Calls Try.prog 32 #[.pointer (some ⟨s, 0, none⟩), .pointer none, .int .i64 0] w6 (DraincRes w.heap.size s c 1 1 u L R (addV V 0 0 5) 0 w6) :=
    drainc_calls w.heap.size s c 1 1 u L R _ w6 HS6.out (by decide) (by decide) 0 (by decide)
  refine K.mono ?_
  clear K
  rintro e w7 ⟨rfl, O7, _⟩
  have hsum : sumTo (addV V 0 0 5 0) 1 = (0, 5) := by
    have e0 : addV V 0 0 5 0 0 0 = 5 := by unfold addV; rw [upd2_same, upd_ne _ _ (by decide), upd_same, HV.out 0 0 0 (by decide) (by decide) (by decide)]; kernel_rfl
    have e1 : addV V 0 0 5 0 0 1 = 0 := by unfold addV; rw [upd2_same, upd_same, HV.out 0 0 0 (by decide) (by decide) (by decide), HV.out 0 0 1 (by decide) (by decide) (by decide)]; kernel_rfl
    exact sum_one _ e0 e1
  rw [hsum]
  have HR7 := Lib.hid (HR6.out.rows HS6.out (by decide) O7)
  have HO7 := Lib.hid (HO6.out.seq2 O7 (by
    rintro k ⟨j, hj, e⟩
    exact .inl (by rw [e]; exact rge_at HS6.out (by decide) hj)))
  clear O7 hsum HR6 HS6 HO6
  have ks1 := run_stf
  have ks2 := run_stc
  unfold partc
  go_wp2_with fail
  have K : Calls Try.prog 33 #[.pointer (some ⟨sh, 0, none⟩), .pointer none, .int .i64 0] (w7.alloc (.cells #[.int .i64 0, .int .u64 5, .slice none 0 0, .int .u64 0, .complex .f64 0 0, .float .f64 0, .float .f64 0] 42)) _ :=
    refused_calls (HR7.out.only ((Only.refl (fun _ => False) w7).alloc (.cells #[.int .i64 0, .int .u64 5, .slice none 0 0, .int .u64 0, .complex .f64 0 0, .float .f64 0, .float .f64 0] 42)) (by simp) (by simp)) 0 (by decide)
  refine K.mono ?_
  clear K
  rintro e w8 ⟨rfl, hw⟩
  have O8 : Only (fun _ => False) w w8 := by rw [hw]; exact (HO7.out.alloc _).setCell (.inl HR7.out.sge) _
  clear hw
  rw [show IntKind.u64.wrap (upd (fun _ : Nat => (0 : Int)) 0 (add64 0 1) 0) = 1 from by kernel_rfl]
  go_wp2_with fail
  go_ret
  exact ⟨rfl, O8⟩
end Go.Proofs.Ytimiojckinpfdaa
