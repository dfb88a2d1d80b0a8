/- atof64, at any text: it ends; the float lies in the range, the error is one of three. -/
import Derived.Test.YthjfdhkahmlolaaGreatDoorJF41
import Derived.Test.YthjfdhkahmlolaaGreatDoorJF43
import Derived.Test.YthjfdhkahmlolaaGreatDoorJF44
import Derived.Test.YthjfdhkahmlolaaGreatDoorJF45
namespace Go.Proofs.YthjfdhkahmlolaaGreatDoor
open Go.RowKit Usc
set_option maxRecDepth 100000
theorem zero_list : Tryz.zeroCells127.toList = (List.range 804).map (dcF (fun _ => 0) 0 0 false false) := by kernel_rfl
theorem zero_size : Tryz.zeroCells127.size = 804 := by kernel_rfl
theorem dec_new (X : World) : DecB (X.alloc (.cells Tryz.zeroCells127 127)) X.heap.size (fun _ => 0) 0 0 false false := by
  refine ⟨_, blk_new X _, zero_size, fun k hk => ?_⟩
  rw [← Array.getElem?_toList, zero_list]
  simp [hk]
/-- all that the parser reads -/
structure EnvZ (w : World) : Prop where
  e : Env w
  e3 : Env3 w
  ki : Kinds w
  eb : ∃ bb oo bp op, EnvB w bb oo bp op
theorem EnvZ.still {w w' : World} (h : EnvZ w) (O : Only (fun _ => False) w w') : EnvZ w' := by
  obtain ⟨bb, oo, bp, op, hb⟩ := h.eb
  exact ⟨h.e.still O (fun _ _ h => h), h.e3.still O, h.ki.only O id id, bb, oo, bp, op, hb.only O id id id id id⟩
theorem EnvB.apart {w : World} {bb oo bp op : Nat} (h : EnvB w bb oo bp op) (k : Nat) (hk : w.heap.size ≤ k) : Apart k bb bp := by
  have f : ∀ {b o : Nat} {v : Value}, w.cell? ⟨b, o, none⟩ = some v → b < w.heap.size := fun {b o v} hv => World.block_lt_of_cell? w ⟨b, o, none⟩ hv
  have h1 := f h.i0; have h2 := f h.pv; have h3 := f h.ch.var; have h4 := f (h.ch.dlt 0 (by decide)); have h5 := f (h.pc 0 (by decide))
  exact ⟨by omega, by omega, by omega, by omega, by omega⟩
/-- no error, the range's, the form's -/
def ErrT (v : Value) : Prop := v = .nilIface ∨ v = .iface 83 (.int .i64 1) ∨ v = .iface 83 (.int .i64 2)
theorem ErrV.t {v : Value} (h : ErrV v) : ErrT v := h.imp id .inl
def AtAny (w0 : World) (e : Ending) (w : World) : Prop := (∃ (f : Nat) (n : Nat) (v : Value), f < 18446744073709551616 ∧ ErrT v ∧ e = .returned (.tuple #[.float .f64 f, .int .i64 (n : Int), v])) ∧ Only (fun _ => False) w0 w
theorem Only.own {w w1 : World} (O : Only (· = w.heap.size) (w.alloc (.cells Tryz.zeroCells127 127)) w1) : Only (fun _ => False) w w1 :=
  ((Only.refl (fun _ => False) w).alloc _).seq2 O (by rintro i rfl; exact .inl (Nat.le_refl _))
set_option maxHeartbeats 4000000 in
theorem at_any (s : ByteArray) (w : World) (hs : s.size ≤ 140737488355328) (hE : EnvZ w) : Calls Tryz.prog 88 #[.string s] w (AtAny w) := by
  have SP := Lib.hid (sp_any s w (by omega))
  have RF := Lib.hid (rf_any s w hs)
  have HE := Lib.hid hE
  have opt := hE.e3.opt
  clear hE
  go_enter Tryz.func88, Tryz.ntmps88
  go_wp2_with fail
  refine SP.out.mono ?_
  rintro en w1 ⟨⟨f0, n0, ok0, hf0, hn0, rfl⟩, hw⟩; rw [hw]; clear hw w1
  cases ok0
  rotate_left
  · go_wp2_with fail
    go_ret3
    exact ⟨⟨f0, n0, _, hf0, .inl rfl, rfl⟩, Only.refl _ _⟩
  clear hf0 hn0
  go_wp2_with fail
  refine RF.out.mono ?_
  rintro en w1 ⟨⟨x, p, ng, tr, hx, ok, i, rfl, ⟨hx0, hx1⟩, hx2, ⟨hp1, hp2⟩, hi⟩, hw⟩; rw [hw]; clear hw w1
  clear SP RF
  cases ok
  · go_wp2_with fail
    go_ret3
    exact ⟨⟨0, i, _, by decide, .inr (.inr rfl), rfl⟩, Only.refl _ _⟩
  obtain ⟨d, rfl⟩ : ∃ d : Nat, x = d := ⟨x.toNat, by omega⟩
  have hd : d < 18446744073709551616 := by omega
  cases hx
  rotate_left
  · obtain ⟨bb, oo, bp, op, hb⟩ := HE.out.eb
    have HX := Lib.hid (hx_any (s.extract 0 i) d p ng tr w hd HE.out.ki hb.i0 hb.i1 hb.i2)
    clear hb
    go_wp2_with fail
    refine HX.out.mono ?_
    rintro en w1 ⟨⟨f, v, hf, hv, rfl⟩, q, hw⟩; rw [hw]; clear hw w1
    have HF := Lib.hid hf; have HV := Lib.hid hv
    clear hf hv
    go_wp2_with fail
    go_ret3
    exact ⟨⟨f, i, _, HF.out, HV.out.t, rfl⟩, (Only.refl _ _).drewN _⟩
  have hd19 := hx2 rfl
  clear hx2
  cases ng
  · have k0 : ∀ w, Sem.run Tryz.prog (callFunc 126 #[.int .u64 (bits BinOp.or IntKind.u64 0 0)]) w = .ok (.value (.float .f64 0)) w := fun w => by kernel_rfl
    have k1 : ∀ w, Sem.run Tryz.prog (callFunc 126 #[.int .u64 (bits BinOp.or IntKind.u64 0 9218868437227405312)]) w = .ok (.value (.float .f64 9218868437227405312)) w := fun w => by kernel_rfl
    go_wp2_with fail
    refine (b2_calls false _).mono ?_
    rintro en w1 ⟨rfl, hw⟩; rw [hw]; clear hw w1
    by_cases hd0 : d = 0
    · subst hd0
      go_wp2_with fail
      go_ret3
      exact ⟨⟨0, i, _, by decide, .inl rfl, rfl⟩, Only.refl _ _⟩
    have t0 : ((d : Int) == 0) = false := by rw [beq_eq_false_iff_ne]; omega
    by_cases hpb : p > 310
    · have t1 : decide (p > 310) = true := decide_eq_true hpb
      go_wp2_with fail
      go_ret3
      exact ⟨⟨9218868437227405312, i, _, by decide, .inr (.inl rfl), rfl⟩, Only.refl _ _⟩
    have t1 : decide (p > 310) = false := decide_eq_false hpb
    by_cases hps : p < -345
    · have t2 : decide (p < -345) = true := decide_eq_true hps
      go_wp2_with fail
      go_ret3
      exact ⟨⟨0, i, _, by decide, .inl rfl, rfl⟩, Only.refl _ _⟩
    have t2 : decide (p < -345) = false := decide_eq_false hps
    have PA := Lib.hid (fun (e : Nat) (h1 : 1 ≤ e) (h2 : e < 18446744073709551616) (w : World) (h : EnvZ w) => pa_any e p 0 w h.e.1 h1 h2 (by omega) (.inl rfl))
    have XA := Lib.hid (ex_any d p false w HE.out.e3 (by omega) hd (by omega))
    clear k0 k1
    cases tr
    · go_wp2_with fail
      refine XA.out.mono ?_
      rintro en w1 ⟨⟨f, ok, hf, rfl⟩, hw⟩; rw [hw]; clear hw w1
      have HF := Lib.hid hf; clear hf XA
      cases ok
      · go_wp2_with fail
        refine (PA.out d (by omega) hd w HE.out).mono ?_
        rintro en w1 ⟨_, y, rfl, ⟨⟨f1, hf1, rfl⟩, hy⟩, hO⟩
        have HF1 := Lib.hid hf1; have HY := Lib.hid hy; have HO := Lib.hid hO
        clear hf1 hy hO PA
        go_wp2_with fail
        go_ret3
        exact ⟨⟨f1, i, _, HF1.out, HY.out.t, rfl⟩, HO.out⟩
      · go_wp2_with fail
        go_ret3
        exact ⟨⟨f, i, _, HF.out, .inl rfl, rfl⟩, Only.refl _ _⟩
    clear XA
    go_wp2_with fail
    refine (PA.out d (by omega) hd w HE.out).mono ?_
    rintro en w1 ⟨_, y, rfl, ⟨⟨f1, hf1, rfl⟩, hy⟩, hO⟩
    have HF1 := Lib.hid hf1; have HY := Lib.hid hy; have HO := Lib.hid hO
    clear hf1 hy hO
    go_wp2_with fail
    refine (PA.out (d + 1) (by omega) (by omega) w1 (HE.out.still HO.out)).mono ?_
    rintro en w2 ⟨_, y2, rfl, ⟨⟨f2, hf2, rfl⟩, hy2⟩, hO2⟩
    have HO2 := Lib.hid (HO.out.trans hO2)
    clear hf2 hy2 hO2 PA HO
    go_upto_if 121 with fail
    cases hq : (FloatKind.f64.format.order f1 f2 == some Ordering.eq)
    rotate_left
    · go_wp2_with fail
      go_ret3
      exact ⟨⟨f1, i, _, HF1.out, HY.out.t, rfl⟩, HO2.out⟩
    have HE2 := Lib.hid (HE.out.still HO2.out)
    clear HF1 HY
    go_wp2_with fail
    have HB := Lib.hid (dec_new w2)
    have DW : Dw w2.heap.size 0 (w2.alloc (.cells Tryz.zeroCells127 127)) := ⟨_, _, _, _, _, HB.out, fun _ h => absurd h (by omega), by decide, fun h => absurd rfl h, by decide, by decide⟩
    refine (set_any (s.extract 0 i) w2.heap.size _ (by simp [ByteArray.size_extract]; omega) DW).mono ?_
    rintro en w3 ⟨⟨ok, rfl⟩, hO3, hD3⟩
    have HO3 := Lib.hid (HO2.out.trans (Only.own hO3))
    obtain ⟨bb, oo, bp, op, hb⟩ := HE2.out.eb
    have hb3 := (hb.only ((Only.refl (fun _ => False) w2).alloc (.cells Tryz.zeroCells127 127)) id id id id id).keep (hb.apart w2.heap.size (Nat.le_refl _)) hO3
    have HB3 := Lib.hid hb3; have HA3 := Lib.hid (hb.apart w2.heap.size (Nat.le_refl _)); have OO3 := Lib.hid hO3
    clear hO3 hb hb3 DW HB
    obtain ⟨g, nd, dp, ng2, tr2, hB, hg, hn, hl, hq1, hq2⟩ := hD3
    have FB := Lib.hid (fb_calls HB3.out HA3.out hB (fun h => ⟨⟨tr2, hB⟩, hg, by omega, hn, hl h⟩) (by omega))
    clear hB hg hl
    cases ok
    · go_wp2_with fail
      go_ret3
      exact ⟨⟨0, i, _, by decide, .inr (.inr rfl), rfl⟩, HO3.out⟩
    go_wp2_with fail
    refine FB.out.mono ?_
    rintro en w4 ⟨⟨m, ov, hm, rfl⟩, hO4⟩
    have HO4 := Lib.hid (HO2.out.trans (Only.own (OO3.out.trans hO4)))
    have HM := Lib.hid hm
    have k2 := run_frb126 m
    clear hO4 hm FB
    cases ov
    · go_wp2_with fail
      go_ret3
      exact ⟨⟨m, i, _, HM.out, .inl rfl, rfl⟩, HO4.out⟩
    · go_wp2_with fail
      go_ret3
      exact ⟨⟨m, i, _, HM.out, .inr (.inl rfl), rfl⟩, HO4.out⟩
  · have k0 : ∀ w, Sem.run Tryz.prog (callFunc 126 #[.int .u64 (bits BinOp.or IntKind.u64 9223372036854775808 0)]) w = .ok (.value (.float .f64 9223372036854775808)) w := fun w => by kernel_rfl
    have k1 : ∀ w, Sem.run Tryz.prog (callFunc 126 #[.int .u64 (bits BinOp.or IntKind.u64 9223372036854775808 9218868437227405312)]) w = .ok (.value (.float .f64 18442240474082181120)) w := fun w => by kernel_rfl
    go_wp2_with fail
    refine (b2_calls true _).mono ?_
    rintro en w1 ⟨rfl, hw⟩; rw [hw]; clear hw w1
    by_cases hd0 : d = 0
    · subst hd0
      go_wp2_with fail
      go_ret3
      exact ⟨⟨9223372036854775808, i, _, by decide, .inl rfl, rfl⟩, Only.refl _ _⟩
    have t0 : ((d : Int) == 0) = false := by rw [beq_eq_false_iff_ne]; omega
    by_cases hpb : p > 310
    · have t1 : decide (p > 310) = true := decide_eq_true hpb
      go_wp2_with fail
      go_ret3
      exact ⟨⟨18442240474082181120, i, _, by decide, .inr (.inl rfl), rfl⟩, Only.refl _ _⟩
    have t1 : decide (p > 310) = false := decide_eq_false hpb
    by_cases hps : p < -345
    · have t2 : decide (p < -345) = true := decide_eq_true hps
      go_wp2_with fail
      go_ret3
      exact ⟨⟨9223372036854775808, i, _, by decide, .inl rfl, rfl⟩, Only.refl _ _⟩
    have t2 : decide (p < -345) = false := decide_eq_false hps
    have PA := Lib.hid (fun (e : Nat) (h1 : 1 ≤ e) (h2 : e < 18446744073709551616) (w : World) (h : EnvZ w) => pa_any e p 9223372036854775808 w h.e.1 h1 h2 (by omega) (.inr rfl))
    have XA := Lib.hid (ex_any d p true w HE.out.e3 (by omega) hd (by omega))
    clear k0 k1
    cases tr
    · go_wp2_with fail
      refine XA.out.mono ?_
      rintro en w1 ⟨⟨f, ok, hf, rfl⟩, hw⟩; rw [hw]; clear hw w1
      have HF := Lib.hid hf; clear hf XA
      cases ok
      · go_wp2_with fail
        refine (PA.out d (by omega) hd w HE.out).mono ?_
        rintro en w1 ⟨_, y, rfl, ⟨⟨f1, hf1, rfl⟩, hy⟩, hO⟩
        have HF1 := Lib.hid hf1; have HY := Lib.hid hy; have HO := Lib.hid hO
        clear hf1 hy hO PA
        go_wp2_with fail
        go_ret3
        exact ⟨⟨f1, i, _, HF1.out, HY.out.t, rfl⟩, HO.out⟩
      · go_wp2_with fail
        go_ret3
        exact ⟨⟨f, i, _, HF.out, .inl rfl, rfl⟩, Only.refl _ _⟩
    clear XA
    go_wp2_with fail
    refine (PA.out d (by omega) hd w HE.out).mono ?_
    rintro en w1 ⟨_, y, rfl, ⟨⟨f1, hf1, rfl⟩, hy⟩, hO⟩
    have HF1 := Lib.hid hf1; have HY := Lib.hid hy; have HO := Lib.hid hO
    clear hf1 hy hO
    go_wp2_with fail
    refine (PA.out (d + 1) (by omega) (by omega) w1 (HE.out.still HO.out)).mono ?_
    rintro en w2 ⟨_, y2, rfl, ⟨⟨f2, hf2, rfl⟩, hy2⟩, hO2⟩
    have HO2 := Lib.hid (HO.out.trans hO2)
    clear hf2 hy2 hO2 PA HO
    go_upto_if 121 with fail
    cases hq : (FloatKind.f64.format.order f1 f2 == some Ordering.eq)
    rotate_left
    · go_wp2_with fail
      go_ret3
      exact ⟨⟨f1, i, _, HF1.out, HY.out.t, rfl⟩, HO2.out⟩
    have HE2 := Lib.hid (HE.out.still HO2.out)
    clear HF1 HY
    go_wp2_with fail
    have HB := Lib.hid (dec_new w2)
    have DW : Dw w2.heap.size 0 (w2.alloc (.cells Tryz.zeroCells127 127)) := ⟨_, _, _, _, _, HB.out, fun _ h => absurd h (by omega), by decide, fun h => absurd rfl h, by decide, by decide⟩
    refine (set_any (s.extract 0 i) w2.heap.size _ (by simp [ByteArray.size_extract]; omega) DW).mono ?_
    rintro en w3 ⟨⟨ok, rfl⟩, hO3, hD3⟩
    have HO3 := Lib.hid (HO2.out.trans (Only.own hO3))
    obtain ⟨bb, oo, bp, op, hb⟩ := HE2.out.eb
    have hb3 := (hb.only ((Only.refl (fun _ => False) w2).alloc (.cells Tryz.zeroCells127 127)) id id id id id).keep (hb.apart w2.heap.size (Nat.le_refl _)) hO3
    have HB3 := Lib.hid hb3; have HA3 := Lib.hid (hb.apart w2.heap.size (Nat.le_refl _)); have OO3 := Lib.hid hO3
    clear hO3 hb hb3 DW HB
    obtain ⟨g, nd, dp, ng2, tr2, hB, hg, hn, hl, hq1, hq2⟩ := hD3
    have FB := Lib.hid (fb_calls HB3.out HA3.out hB (fun h => ⟨⟨tr2, hB⟩, hg, by omega, hn, hl h⟩) (by omega))
    clear hB hg hl
    cases ok
    · go_wp2_with fail
      go_ret3
      exact ⟨⟨0, i, _, by decide, .inr (.inr rfl), rfl⟩, HO3.out⟩
    go_wp2_with fail
    refine FB.out.mono ?_
    rintro en w4 ⟨⟨m, ov, hm, rfl⟩, hO4⟩
    have HO4 := Lib.hid (HO2.out.trans (Only.own (OO3.out.trans hO4)))
    have HM := Lib.hid hm
    have k2 := run_frb126 m
    clear hO4 hm FB
    cases ov
    · go_wp2_with fail
      go_ret3
      exact ⟨⟨m, i, _, HM.out, .inl rfl, rfl⟩, HO4.out⟩
    · go_wp2_with fail
      go_ret3
      exact ⟨⟨m, i, _, HM.out, .inr (.inl rfl), rfl⟩, HO4.out⟩
end Go.Proofs.YthjfdhkahmlolaaGreatDoor
