/- atof64, at any text: it ends; the float lies in the range, the error is one of three. -/
import Derived.Test.YthjfdhkahmlolaaGreatDoorJQ25
import Derived.Test.YthjfdhkahmlolaaGreatDoorJQ26
import Derived.Test.YthjfdhkahmlolaaGreatDoorJQ27
import Derived.Test.YthjfdhkahmlolaaGreatDoorJQ28
import Derived.Shelf.Strconv.ToError
import Derived.Shelf.Strconv.ToErrorRange
import Derived.Shelf.LaysC
import Derived.Test.YthjfdhkahmlolaaGreatDoorProg
import Derived.Test.YthjfdhkahmlolaaGreatDoorJQ14
import Derived.Test.YthjfdhkahmlolaaGreatDoorJQ18
namespace Go.Proofs.YthjfdhkahmlolaaGreatDoor
open Go.RowKit Usc
set_option maxRecDepth 100000
theorem zero_list : Tryz.zeroCells127.toList = (List.range 804).map (dcF (fun _ => 0) 0 0 false false) := by kernel_rfl
theorem zero_size : Tryz.zeroCells127.size = 804 := by kernel_rfl
theorem dec_new (X : World) : DecB (X.alloc (.cells Tryz.zeroCells127 127)) X.heap.size (fun _ => 0) 0 0 false false := by
  refine ⟨_, blk_new X _, zero_size, fun k hk => ?_⟩
  rw [← Array.getElem?_toList, zero_list]
  simp [hk]
/-- all that the parser reads -/
structure EnvZ (w : World) : Prop where
  e : Env w
  e3 : Env3 w
  ki : Kinds w
  eb : ∃ bb oo bp op, EnvB w bb oo bp op
theorem EnvZ.still {w w' : World} (h : EnvZ w) (O : Only (fun _ => False) w w') : EnvZ w' := by
  obtain ⟨bb, oo, bp, op, hb⟩ := h.eb
  exact ⟨h.e.still O (fun _ _ h => h), h.e3.still O, h.ki.only O id id, bb, oo, bp, op, hb.only O id id id id id⟩
theorem EnvB.apart {w : World} {bb oo bp op : Nat} (h : EnvB w bb oo bp op) (k : Nat) (hk : w.heap.size ≤ k) : Apart k bb bp := by
  have f : ∀ {b o : Nat} {v : Value}, w.cell? ⟨b, o, none⟩ = some v → b < w.heap.size := fun {b o v} hv => World.block_lt_of_cell? w ⟨b, o, none⟩ hv
  have h1 := f h.i0; have h2 := f h.pv; have h3 := f h.ch.var; have h4 := f (h.ch.dlt 0 (by decide)); have h5 := f (h.pc 0 (by decide))
  exact ⟨by omega, by omega, by omega, by omega, by omega⟩
/-- no error, the range's, the form's -/
def ErrT (v : Value) : Prop := v = .nilIface ∨ v = .iface 83 (.int .i64 1) ∨ v = .iface 83 (.int .i64 2)
theorem ErrV.t {v : Value} (h : ErrV v) : ErrT v := h.imp id .inl
def AtAny (w0 : World) (e : Ending) (w : World) : Prop := (∃ (f : Nat) (n : Nat) (v : Value), f < 18446744073709551616 ∧ ErrT v ∧ e = .returned (.tuple #[.float .f64 f, .int .i64 (n : Int), v])) ∧ Only (fun _ => False) w0 w
theorem Only.own {w w1 : World} (O : Only (· = w.heap.size) (w.alloc (.cells Tryz.zeroCells127 127)) w1) : Only (fun _ => False) w w1 :=
  ((Only.refl (fun _ => False) w).alloc _).seq2 O (by rintro i rfl; exact .inl (Nat.le_refl _))
set_option maxHeartbeats 4000000 in
theorem at_any (s : ByteArray) (w : World) (hs : s.size ≤ 140737488355328) (hE : EnvZ w) : Calls Tryz.prog 88 #[.string s] w (AtAny w) := by
  have SP := Lib.hid (sp_any s w (by omega))
  have RF := Lib.hid (rf_any s w hs)
  have HE := Lib.hid hE
  have opt := hE.e3.opt
  clear hE
  go_enter Tryz.func88, Tryz.ntmps88
  go_wp2_with fail
  refine SP.out.mono ?_
  rintro en w1 ⟨⟨f0, n0, ok0, hf0, hn0, rfl⟩, hw⟩; rw [hw]; clear hw w1
  cases ok0
  rotate_left
  · go_wp2_with fail
    go_ret3
    exact ⟨⟨f0, n0, _, hf0, .inl rfl, rfl⟩, Only.refl _ _⟩
  clear hf0 hn0
  go_wp2_with fail
  refine RF.out.mono ?_
  rintro en w1 ⟨⟨x, p, ng, tr, hx, ok, i, rfl, ⟨hx0, hx1⟩, hx2, ⟨hp1, hp2⟩, hi⟩, hw⟩; rw [hw]; clear hw w1
  clear SP RF
  cases ok
  · go_wp2_with fail
    go_ret3
    exact ⟨⟨0, i, _, by decide, .inr (.inr rfl), rfl⟩, Only.refl _ _⟩
  obtain ⟨d, rfl⟩ : ∃ d : Nat, x = d := ⟨x.toNat, by omega⟩
  have hd : d < 18446744073709551616 := by omega
  cases hx
  rotate_left
  · obtain ⟨bb, oo, bp, op, hb⟩ := HE.out.eb
    have HX := Lib.hid (hx_any (s.extract 0 i) d p ng tr w hd HE.out.ki hb.i0 hb.i1 hb.i2)
    clear hb
    go_wp2_with fail
    refine HX.out.mono ?_
    rintro en w1 ⟨⟨f, v, hf, hv, rfl⟩, q, hw⟩; rw [hw]; clear hw w1
    have HF := Lib.hid hf; have HV := Lib.hid hv
    clear hf hv
    go_wp2_with fail
    go_ret3
    exact ⟨⟨f, i, _, HF.out, HV.out.t, rfl⟩, (Only.refl _ _).drewN _⟩
  have hd19 := hx2 rfl
  clear hx2
  cases ng
  · have k0 : ∀ w, Sem.run Tryz.prog (callFunc 126 #[.int .u64 (bits BinOp.or IntKind.u64 0 0)]) w = .ok (.value (.float .f64 0)) w := fun w => by kernel_rfl
    have k1 : ∀ w, Sem.run Tryz.prog (callFunc 126 #[.int .u64 (bits BinOp.or IntKind.u64 0 9218868437227405312)]) w = .ok (.value (.float .f64 9218868437227405312)) w := fun w => by kernel_rfl
    go_wp2_with fail
    refine (b2_calls false _).mono ?_
    rintro en w1 ⟨rfl, hw⟩; rw [hw]; clear hw w1
    by_cases hd0 : d = 0
    · subst hd0
      go_wp2_with fail
      go_ret3
      exact ⟨⟨0, i, _, by decide, .inl rfl, rfl⟩, Only.refl _ _⟩
    have t0 : ((d : Int) == 0) = false := by rw [beq_eq_false_iff_ne]; omega
    by_cases hpb : p > 310
    · have t1 : decide (p > 310) = true := decide_eq_true hpb
      go_wp2_with fail
      go_ret3
      exact ⟨⟨9218868437227405312, i, _, by decide, .inr (.inl rfl), rfl⟩, Only.refl _ _⟩
    have t1 : decide (p > 310) = false := decide_eq_false hpb
    by_cases hps : p < -345
    · have t2 : decide (p < -345) = true := decide_eq_true hps
      go_wp2_with fail
      go_ret3
      exact ⟨⟨0, i, _, by decide, .inl rfl, rfl⟩, Only.refl _ _⟩
    have t2 : decide (p < -345) = false := decide_eq_false hps
    have PA := Lib.hid (fun (e : Nat) (h1 : 1 ≤ e) (h2 : e < 18446744073709551616) (w : World) (h : EnvZ w) => pa_any e p 0 w h.e.1 h1 h2 (by omega) (.inl rfl))
    have XA := Lib.hid (ex_any d p false w HE.out.e3 (by omega) hd (by omega))
    clear k0 k1
    cases tr
    · go_wp2_with fail
      refine XA.out.mono ?_
      rintro en w1 ⟨⟨f, ok, hf, rfl⟩, hw⟩; rw [hw]; clear hw w1
      have HF := Lib.hid hf; clear hf XA
      cases ok
      · go_wp2_with fail
        refine (PA.out d (by omega) hd w HE.out).mono ?_
        rintro en w1 ⟨_, y, rfl, ⟨⟨f1, hf1, rfl⟩, hy⟩, hO⟩
        have HF1 := Lib.hid hf1; have HY := Lib.hid hy; have HO := Lib.hid hO
        clear hf1 hy hO PA
        go_wp2_with fail
        go_ret3
        exact ⟨⟨f1, i, _, HF1.out, HY.out.t, rfl⟩, HO.out⟩
      · go_wp2_with fail
        go_ret3
        exact ⟨⟨f, i, _, HF.out, .inl rfl, rfl⟩, Only.refl _ _⟩
    clear XA
    go_wp2_with fail
    refine (PA.out d (by omega) hd w HE.out).mono ?_
    rintro en w1 ⟨_, y, rfl, ⟨⟨f1, hf1, rfl⟩, hy⟩, hO⟩
    have HF1 := Lib.hid hf1; have HY := Lib.hid hy; have HO := Lib.hid hO
    clear hf1 hy hO
    go_wp2_with fail
    refine (PA.out (d + 1) (by omega) (by omega) w1 (HE.out.still HO.out)).mono ?_
    rintro en w2 ⟨_, y2, rfl, ⟨⟨f2, hf2, rfl⟩, hy2⟩, hO2⟩
    have HO2 := Lib.hid (HO.out.trans hO2)
    clear hf2 hy2 hO2 PA HO
    go_upto_if 121 with fail
    cases hq : (FloatKind.f64.format.order f1 f2 == some Ordering.eq)
    rotate_left
    · go_wp2_with fail
      go_ret3
      exact ⟨⟨f1, i, _, HF1.out, HY.out.t, rfl⟩, HO2.out⟩
    have HE2 := Lib.hid (HE.out.still HO2.out)
    clear HF1 HY
    go_wp2_with fail
    have HB := Lib.hid (dec_new w2)
    have DW : Dw w2.heap.size 0 (w2.alloc (.cells Tryz.zeroCells127 127)) := ⟨_, _, _, _, _, HB.out, fun _ h => absurd h (by omega), by decide, fun h => absurd rfl h, by decide, by decide⟩
    refine (set_any (s.extract 0 i) w2.heap.size _ (by simp [ByteArray.size_extract]; omega) DW).mono ?_
    rintro en w3 ⟨⟨ok, rfl⟩, hO3, hD3⟩
    have HO3 := Lib.hid (HO2.out.trans (Only.own hO3))
    obtain ⟨bb, oo, bp, op, hb⟩ := HE2.out.eb
    have hb3 := (hb.only ((Only.refl (fun _ => False) w2).alloc (.cells Tryz.zeroCells127 127)) id id id id id).keep (hb.apart w2.heap.size (Nat.le_refl _)) hO3
    have HB3 := Lib.hid hb3; have HA3 := Lib.hid (hb.apart w2.heap.size (Nat.le_refl _)); have OO3 := Lib.hid hO3
    clear hO3 hb hb3 DW HB
    obtain ⟨g, nd, dp, ng2, tr2, hB, hg, hn, hl, hq1, hq2⟩ := hD3
    have FB := Lib.hid (fb_calls HB3.out HA3.out hB (fun h => ⟨⟨tr2, hB⟩, hg, by omega, hn, hl h⟩) (by omega))
    clear hB hg hl
    cases ok
    · go_wp2_with fail
      go_ret3
      exact ⟨⟨0, i, _, by decide, .inr (.inr rfl), rfl⟩, HO3.out⟩
    go_wp2_with fail
    refine FB.out.mono ?_
    rintro en w4 ⟨⟨m, ov, hm, rfl⟩, hO4⟩
    have HO4 := Lib.hid (HO2.out.trans (Only.own (OO3.out.trans hO4)))
    have HM := Lib.hid hm
    have k2 := run_frb126 m
    clear hO4 hm FB
    cases ov
    · go_wp2_with fail
      go_ret3
      exact ⟨⟨m, i, _, HM.out, .inl rfl, rfl⟩, HO4.out⟩
    · go_wp2_with fail
      go_ret3
      exact ⟨⟨m, i, _, HM.out, .inr (.inl rfl), rfl⟩, HO4.out⟩
  · have k0 : ∀ w, Sem.run Tryz.prog (callFunc 126 #[.int .u64 (bits BinOp.or IntKind.u64 9223372036854775808 0)]) w = .ok (.value (.float .f64 9223372036854775808)) w := fun w => by kernel_rfl
    have k1 : ∀ w, Sem.run Tryz.prog (callFunc 126 #[.int .u64 (bits BinOp.or IntKind.u64 9223372036854775808 9218868437227405312)]) w = .ok (.value (.float .f64 18442240474082181120)) w := fun w => by kernel_rfl
    go_wp2_with fail
    refine (b2_calls true _).mono ?_
    rintro en w1 ⟨rfl, hw⟩; rw [hw]; clear hw w1
    by_cases hd0 : d = 0
    · subst hd0
      go_wp2_with fail
      go_ret3
      exact ⟨⟨9223372036854775808, i, _, by decide, .inl rfl, rfl⟩, Only.refl _ _⟩
    have t0 : ((d : Int) == 0) = false := by rw [beq_eq_false_iff_ne]; omega
    by_cases hpb : p > 310
    · have t1 : decide (p > 310) = true := decide_eq_true hpb
      go_wp2_with fail
      go_ret3
      exact ⟨⟨18442240474082181120, i, _, by decide, .inr (.inl rfl), rfl⟩, Only.refl _ _⟩
    have t1 : decide (p > 310) = false := decide_eq_false hpb
    by_cases hps : p < -345
    · have t2 : decide (p < -345) = true := decide_eq_true hps
      go_wp2_with fail
      go_ret3
      exact ⟨⟨9223372036854775808, i, _, by decide, .inl rfl, rfl⟩, Only.refl _ _⟩
    have t2 : decide (p < -345) = false := decide_eq_false hps
    have PA := Lib.hid (fun (e : Nat) (h1 : 1 ≤ e) (h2 : e < 18446744073709551616) (w : World) (h : EnvZ w) => pa_any e p 9223372036854775808 w h.e.1 h1 h2 (by omega) (.inr rfl))
    have XA := Lib.hid (ex_any d p true w HE.out.e3 (by omega) hd (by omega))
    clear k0 k1
    cases tr
    · go_wp2_with fail
      refine XA.out.mono ?_
      rintro en w1 ⟨⟨f, ok, hf, rfl⟩, hw⟩; rw [hw]; clear hw w1
      have HF := Lib.hid hf; clear hf XA
      cases ok
      · go_wp2_with fail
        refine (PA.out d (by omega) hd w HE.out).mono ?_
        rintro en w1 ⟨_, y, rfl, ⟨⟨f1, hf1, rfl⟩, hy⟩, hO⟩
        have HF1 := Lib.hid hf1; have HY := Lib.hid hy; have HO := Lib.hid hO
        clear hf1 hy hO PA
        go_wp2_with fail
        go_ret3
        exact ⟨⟨f1, i, _, HF1.out, HY.out.t, rfl⟩, HO.out⟩
      · go_wp2_with fail
        go_ret3
        exact ⟨⟨f, i, _, HF.out, .inl rfl, rfl⟩, Only.refl _ _⟩
    clear XA
    go_wp2_with fail
    refine (PA.out d (by omega) hd w HE.out).mono ?_
    rintro en w1 ⟨_, y, rfl, ⟨⟨f1, hf1, rfl⟩, hy⟩, hO⟩
    have HF1 := Lib.hid hf1; have HY := Lib.hid hy; have HO := Lib.hid hO
    clear hf1 hy hO
    go_wp2_with fail
    refine (PA.out (d + 1) (by omega) (by omega) w1 (HE.out.still HO.out)).mono ?_
    rintro en w2 ⟨_, y2, rfl, ⟨⟨f2, hf2, rfl⟩, hy2⟩, hO2⟩
    have HO2 := Lib.hid (HO.out.trans hO2)
    clear hf2 hy2 hO2 PA HO
    go_upto_if 121 with fail
    cases hq : (FloatKind.f64.format.order f1 f2 == some Ordering.eq)
    rotate_left
    · go_wp2_with fail
      go_ret3
      exact ⟨⟨f1, i, _, HF1.out, HY.out.t, rfl⟩, HO2.out⟩
    have HE2 := Lib.hid (HE.out.still HO2.out)
    clear HF1 HY
    go_wp2_with fail
    have HB := Lib.hid (dec_new w2)
    have DW : Dw w2.heap.size 0 (w2.alloc (.cells Tryz.zeroCells127 127)) := ⟨_, _, _, _, _, HB.out, fun _ h => absurd h (by omega), by decide, fun h => absurd rfl h, by decide, by decide⟩
    refine (set_any (s.extract 0 i) w2.heap.size _ (by simp [ByteArray.size_extract]; omega) DW).mono ?_
    rintro en w3 ⟨⟨ok, rfl⟩, hO3, hD3⟩
    have HO3 := Lib.hid (HO2.out.trans (Only.own hO3))
    obtain ⟨bb, oo, bp, op, hb⟩ := HE2.out.eb
    have hb3 := (hb.only ((Only.refl (fun _ => False) w2).alloc (.cells Tryz.zeroCells127 127)) id id id id id).keep (hb.apart w2.heap.size (Nat.le_refl _)) hO3
    have HB3 := Lib.hid hb3; have HA3 := Lib.hid (hb.apart w2.heap.size (Nat.le_refl _)); have OO3 := Lib.hid hO3
    clear hO3 hb hb3 DW HB
    obtain ⟨g, nd, dp, ng2, tr2, hB, hg, hn, hl, hq1, hq2⟩ := hD3
    have FB := Lib.hid (fb_calls HB3.out HA3.out hB (fun h => ⟨⟨tr2, hB⟩, hg, by omega, hn, hl h⟩) (by omega))
    clear hB hg hl
    cases ok
    · go_wp2_with fail
      go_ret3
      exact ⟨⟨0, i, _, by decide, .inr (.inr rfl), rfl⟩, HO3.out⟩
    go_wp2_with fail
    refine FB.out.mono ?_
    rintro en w4 ⟨⟨m, ov, hm, rfl⟩, hO4⟩
    have HO4 := Lib.hid (HO2.out.trans (Only.own (OO3.out.trans hO4)))
    have HM := Lib.hid hm
    have k2 := run_frb126 m
    clear hO4 hm FB
    cases ov
    · go_wp2_with fail
      go_ret3
      exact ⟨⟨m, i, _, HM.out, .inl rfl, rfl⟩, HO4.out⟩
    · go_wp2_with fail
      go_ret3
      exact ⟨⟨m, i, _, HM.out, .inr (.inl rfl), rfl⟩, HO4.out⟩
end Go.Proofs.YthjfdhkahmlolaaGreatDoor

/-
  DERIVED: THE SHELF's CONTRACTS AT THIS DUMP, IN PLAIN WORDS (tools/lay-plain.mjs out of 'TryzShelfk.lean', which tools/lay-shelf.mjs wrote): THE SAME DECLARATIONS UNDER THE SAME NAMES: 'import', 'namespace', 'open', 'def', 'theorem' AND NOTHING ELSE: no command of the shelf's: FOR A HAND-IN. Each laying: the table of numbers ('.._ren') and one theorem, a field a fact of the dump's own or the kernel's comparison; each contract: ONE APPLICATION.
-/
namespace Go.Proofs
open Go.Shelf
def Tryz.laysC245_ren : Go.Shelf.Ren := ⟨fun | 245 => 43 | 279 => 61 | 280 => 62 | 281 => 63 | 282 => 64 | 316 => 89 | 171 => 38 | 205 => 90 | 243 => 57 | 246 => 80 | 283 => 112 | 284 => 99 | 285 => 113 | 286 => 114 | 129 => 96 | 317 => 100 | 318 => 140 | 319 => 151 | 320 => 152 | 337 => 161 | 338 => 162 | n => n, fun | 9 => 9 | 3 => 3 | 75 => 49 | 167 => 83 | 4 => 4 | 168 => 84 | 210 => 112 | 37 => 67 | 0 => 0 | 127 => 93 | 145 => 164 | 143 => 162 | 2 => 2 | 171 => 122 | 53 => 24 | 5 => 5 | 173 => 139 | 212 => 177 | 51 => 94 | 20 => 20 | 213 => 183 | 46 => 74 | 232 => 118 | 233 => 202 | 80 => 73 | n => n, fun | 15 => 1 | 16 => 2 | 17 => 9 | 18 => 15 | 19 => 16 | n => n⟩
theorem Tryz.laysC245 : Go.Proofs.LaysC.n245 Tryz.prog Tryz.laysC245_ren := {
  mixed := by kernel_rfl
  f129 := Tryz.func96.trans (congrArg some (by kernel_rfl))
  f171 := Tryz.func38.trans (congrArg some (by kernel_rfl))
  f205 := Tryz.func90.trans (congrArg some (by kernel_rfl))
  f243 := Tryz.func57.trans (congrArg some (by kernel_rfl))
  f245 := Tryz.func43.trans (congrArg some (by kernel_rfl))
  f246 := Tryz.func80.trans (congrArg some (by kernel_rfl))
  f279 := Tryz.func61.trans (congrArg some (by kernel_rfl))
  f280 := Tryz.func62.trans (congrArg some (by kernel_rfl))
  f281 := Tryz.func63.trans (congrArg some (by kernel_rfl))
  f282 := Tryz.func64.trans (congrArg some (by kernel_rfl))
  f283 := Tryz.func112.trans (congrArg some (by kernel_rfl))
  f284 := Tryz.func99.trans (congrArg some (by kernel_rfl))
  f285 := Tryz.func113.trans (congrArg some (by kernel_rfl))
  f286 := Tryz.func114.trans (congrArg some (by kernel_rfl))
  f316 := Tryz.func89.trans (congrArg some (by kernel_rfl))
  f317 := Tryz.func100.trans (congrArg some (by kernel_rfl))
  f318 := Tryz.func140.trans (congrArg some (by kernel_rfl))
  f319 := Tryz.func151.trans (congrArg some (by kernel_rfl))
  f320 := Tryz.func152.trans (congrArg some (by kernel_rfl))
  f337 := Tryz.func161.trans (congrArg some (by kernel_rfl))
  f338 := Tryz.func162.trans (congrArg some (by kernel_rfl))
  t0 := Tryz.underlying0
  a0 := Tryz.isAgg0
  z0 := Tryz.sizeOf0
  v0 := Tryz.zeroValue0
  t2 := Tryz.underlying2
  a2 := Tryz.isAgg2
  z2 := Tryz.sizeOf2
  v2 := Tryz.zeroValue2
  t3 := Tryz.underlying3
  a3 := Tryz.isAgg3
  z3 := Tryz.sizeOf3
  v3 := Tryz.zeroValue3
  t4 := Tryz.underlying4
  a4 := Tryz.isAgg4
  z4 := Tryz.sizeOf4
  v4 := Tryz.zeroValue4
  t5 := Tryz.underlying5
  a5 := Tryz.isAgg5
  z5 := Tryz.sizeOf5
  v5 := Tryz.zeroValue5
  t9 := Tryz.underlying9
  a9 := Tryz.isAgg9
  z9 := Tryz.sizeOf9
  v9 := Tryz.zeroValue9
  t20 := Tryz.underlying20
  a20 := Tryz.isAgg20
  z20 := Tryz.sizeOf20
  v20 := Tryz.zeroValue20
  t37 := Tryz.underlying67
  a37 := Tryz.isAgg67
  z37 := Tryz.sizeOf67
  v37 := Tryz.zeroValue67
  t46 := Tryz.underlying74
  a46 := Tryz.isAgg74
  z46 := Tryz.sizeOf74
  v46 := Tryz.zeroValue74
  t51 := Tryz.underlying94
  a51 := Tryz.isAgg94
  z51 := Tryz.sizeOf94
  v51 := Tryz.zeroValue94
  t53 := Tryz.underlying24
  a53 := Tryz.isAgg24
  z53 := Tryz.sizeOf24
  v53 := Tryz.zeroValue24
  t75 := Tryz.underlying49
  a75 := Tryz.isAgg49
  z75 := Tryz.sizeOf49
  v75 := Tryz.zeroValue49
  t127 := Tryz.underlying93
  a127 := Tryz.isAgg93
  z127 := Tryz.sizeOf93
  v127 := Tryz.zeroValue93
  t143 := Tryz.underlying162
  a143 := Tryz.isAgg162
  z143 := Tryz.sizeOf162
  v143 := Tryz.zeroValue162
  t145 := Tryz.underlying164
  a145 := Tryz.isAgg164
  z145 := Tryz.sizeOf164
  v145 := Tryz.zeroValue164
  t167 := Tryz.underlying83
  a167 := Tryz.isAgg83
  z167 := Tryz.sizeOf83
  v167 := Tryz.zeroValue83
  t168 := Tryz.underlying84
  a168 := Tryz.isAgg84
  z168 := Tryz.sizeOf84
  v168 := Tryz.zeroValue84
  t171 := Tryz.underlying122
  a171 := Tryz.isAgg122
  z171 := Tryz.sizeOf122
  v171 := Tryz.zeroValue122
  t173 := Tryz.underlying139
  a173 := Tryz.isAgg139
  z173 := Tryz.sizeOf139
  v173 := Tryz.zeroValue139
  t210 := Tryz.underlying112
  a210 := Tryz.isAgg112
  z210 := Tryz.sizeOf112
  v210 := Tryz.zeroValue112
  t212 := Tryz.underlying177
  a212 := Tryz.isAgg177
  z212 := Tryz.sizeOf177
  v212 := Tryz.zeroValue177
  t213 := Tryz.underlying183
  a213 := Tryz.isAgg183
  z213 := Tryz.sizeOf183
  t232 := Tryz.underlying118
  a232 := Tryz.isAgg118
  z232 := Tryz.sizeOf118
  v232 := Tryz.zeroValue118
  t233 := Tryz.underlying202
  a233 := Tryz.isAgg202
  z233 := Tryz.sizeOf202
  v233 := Tryz.zeroValue202
  g15 := by kernel_rfl
  g16 := by kernel_rfl
  g17 := by kernel_rfl
  g18 := by kernel_rfl
  g19 := by kernel_rfl
  t80 := Tryz.underlying73
  a80 := Tryz.isAgg73
  z80 := Tryz.sizeOf73
  v80 := Tryz.zeroValue73
  i0 := by kernel_rfl
  i2 := by kernel_rfl
  i3 := by kernel_rfl
  i4 := by kernel_rfl
  i5 := by kernel_rfl
  i9 := by kernel_rfl
  i20 := by kernel_rfl
  i37 := by kernel_rfl
  i46 := by kernel_rfl
  i51 := by kernel_rfl
  i53 := by kernel_rfl
  i75 := by kernel_rfl
  i80 := by kernel_rfl
  i127 := by kernel_rfl
  i143 := by kernel_rfl
  i145 := by kernel_rfl
  i167 := by kernel_rfl
  i168 := by kernel_rfl
  i171 := by kernel_rfl
  i173 := by kernel_rfl
  i210 := by kernel_rfl
  i212 := by kernel_rfl
  i232 := by kernel_rfl
  i233 := by kernel_rfl
  m15 := by kernel_rfl
  m16 := by kernel_rfl
  m17 := by kernel_rfl
  m18 := by kernel_rfl
  m19 := by kernel_rfl
  c0 := by kernel_rfl
  c2 := by kernel_rfl
  c3 := by kernel_rfl
  c4 := by kernel_rfl
  c5 := by kernel_rfl
  c9 := by kernel_rfl
  c20 := by kernel_rfl
  c37 := by kernel_rfl
  c46 := by kernel_rfl
  c51 := by kernel_rfl
  c53 := by kernel_rfl
  c75 := by kernel_rfl
  c80 := by kernel_rfl
  c127 := by kernel_rfl
  c143 := by kernel_rfl
  c145 := by kernel_rfl
  c167 := by kernel_rfl
  c168 := by kernel_rfl
  c171 := by kernel_rfl
  c173 := by kernel_rfl
  c210 := by kernel_rfl
  c212 := by kernel_rfl
  c213 := by kernel_rfl
  c232 := by kernel_rfl
  c233 := by kernel_rfl }
open Go.RowKit in
/-- strconv.toError, at the inner package's ErrSyntax: 'syntaxError(fn, s)' as an error: A *NumError IN A NEW BLOCK. (LAID: no walk: one application.) -/
theorem Tryz.strconv_toError_syntax (fn s : ByteArray) (base bits : Int) (ev : Value) (w : World) (hlim : s.size ≤ 281474976710656) (hv : w.cell? ⟨1, 0, none⟩ = some ev) (hev : ev = .nilIface ∨ ∃ te pe, ev = .iface te pe) :
    Calls Tryz.prog 43 #[.string fn, .string s, .int .i64 base, .int .i64 bits, .iface 83 (.int .i64 2)] w fun e w' => ∃ N, e = .returned (.iface 84 (.pointer (some ⟨N, 0, none⟩))) ∧ w.heap.size ≤ N ∧ w'.heap[N]? = some (.cells #[.string fn, .string s, ev] 112 (0, 0)) ∧ Below w.heap.size w w' := Any.strconv_toError_syntax Tryz.laysC245 fn s base bits ev w hlim hv hev
open Go.RowKit in
/-- strconv.toError, at the inner package's ErrRange: 'rangeError(fn, s)' as an error: A *NumError IN A NEW BLOCK. (LAID: no walk: one application.) -/
theorem Tryz.strconv_toError_range (fn s : ByteArray) (base bits : Int) (ev : Value) (w : World) (hlim : s.size ≤ 281474976710656) (hv : w.cell? ⟨2, 0, none⟩ = some ev) (hev : ev = .nilIface ∨ ∃ te pe, ev = .iface te pe) :
    Calls Tryz.prog 43 #[.string fn, .string s, .int .i64 base, .int .i64 bits, .iface 83 (.int .i64 1)] w fun e w' => ∃ N, e = .returned (.iface 84 (.pointer (some ⟨N, 0, none⟩))) ∧ w.heap.size ≤ N ∧ w'.heap[N]? = some (.cells #[.string fn, .string s, ev] 112 (0, 0)) ∧ Below w.heap.size w w' := Any.strconv_toError_range Tryz.laysC245 fn s base bits ev w hlim hv hev
end Go.Proofs

/- A float less itself. -/
namespace Go.Proofs.YthjfdhkahmlolaaGreatDoor.Pq
open Go.RowKit Flt
theorem flip_nan {x : Nat} (hx : x < 18446744073709551616) : Flt.nan (Flt.flip x) = Flt.nan x := by unfold Flt.nan; rw [mag_flip x hx]
theorem cut_nan (x y t : Nat) : Flt.nan ((Question.nanBits .f64 x y).cut t) = true ∧ (Question.nanBits .f64 x y).cut t < 18446744073709551616 := by
  have e : (Question.nanBits .f64 x y).cut t = (t % 2) * 9223372036854775808 + 9218868437227405312 + 1 + (t / 2) % 4503599627370495 := rfl
  rw [e]
  unfold Flt.nan mag
  rw [decide_eq_true_iff]
  have hr : t / 2 % 4503599627370495 < 4503599627370495 := Nat.mod_lt _ (by omega)
  generalize t / 2 % 4503599627370495 = r at *
  rcases (show t % 2 = 0 ∨ t % 2 = 1 by omega) with q | q <;> rw [q] <;> omega
theorem read_flip (y : Nat) (hy : y < 18446744073709551616) : (D.read y).opposite = D.read (Flt.flip y) ∨ Flt.nan y = true := by
  cases hn : Flt.nan y
  · left
    have hm : mag y ≤ 9218868437227405312 := by unfold Flt.nan at hn; simpa using hn
    by_cases h : mag y < 9218868437227405312
    · rw [read_fin y h, read_fin (Flt.flip y) (by rw [mag_flip y hy]; exact h), mag_flip y hy, neg_flip y hy]; rfl
    · rw [read_inf y (by omega), read_inf (Flt.flip y) (by rw [mag_flip y hy]; omega), neg_flip y hy]; rfl
  · exact .inr rfl
theorem sub_eq (x y : Nat) (hy : y < 18446744073709551616) : D.sub x y = D.add x (Flt.flip y) := by
  rcases read_flip y hy with h | h
  · unfold Ieee.Format.sub Ieee.Format.add; rw [h]
  · rw [add_nan x (Flt.flip y) (.inr (by rw [flip_nan hy]; exact h))]
    obtain ⟨s, t, e⟩ := read_nan y h
    unfold Ieee.Format.sub
    rw [e, sum_comm]; rfl
theorem sub_self_fin (x : Nat) (hx : x < 18446744073709551616) (h : mag x < 9218868437227405312) : D.sub x x = some 0 := by
  rw [sub_eq x x hx]
  have hm := mag_flip x hx
  have hn := neg_flip x hx
  have h1 := radd_diff x (Flt.flip x) h (by rw [hm]; exact Nat.le_refl _) (by rw [hn]; cases neg x <;> decide)
  rw [hm, Int.sub_self, show (0 : Int).toNat = 0 from rfl, stk_zero, if_pos rfl] at h1
  unfold radd at h1
  cases h2 : D.add x (Flt.flip x) with
  | none => rw [h2] at h1; exact absurd h1 (by decide)
  | some r => rw [h2] at h1; rw [show r = 0 from h1]
theorem sub_self_inf (x : Nat) (hx : x < 18446744073709551616) (h : mag x = 9218868437227405312) : D.sub x x = none := by
  rw [sub_eq x x hx, add_inf_inf x (Flt.flip x) h (by rw [mag_flip x hx]; exact h), neg_flip x hx, if_neg (by cases neg x <;> decide)]
end Go.Proofs.YthjfdhkahmlolaaGreatDoor.Pq
namespace Go.Proofs.YthjfdhkahmlolaaGreatDoor
open Go.RowKit
theorem run_fsub_fin (x : Nat) (hx : x < 18446744073709551616) (h : x % 9223372036854775808 < 9218868437227405312) (w : World) : Sem.run Tryz.prog (binOp .sub 25 (.float .f64 x) (.float .f64 x)) w = .ok (.float .f64 0) w := by
  have h2 : Ieee.double.sub x x = some 0 := Pq.sub_self_fin x hx h
  simp [binOp, Op.floatArith, FloatKind.format, h2]
theorem run_fsub_inf (x : Nat) (hx : x < 18446744073709551616) (h : x % 9223372036854775808 = 9218868437227405312) (w : World) : ∃ v, Pq.Flt.nan v = true ∧ Sem.run Tryz.prog (binOp .sub 25 (.float .f64 x) (.float .f64 x)) w = .ok (.float .f64 v) w.drew := by
  have h2 : Ieee.double.sub x x = none := Pq.sub_self_inf x hx h
  refine ⟨(Question.nanBits .f64 x x).cut (w.tape w.drawn (Question.nanBits .f64 x x)), (Pq.cut_nan x x _).1, ?_⟩
  simp [binOp, Op.floatArith, FloatKind.format, h2, choose]
  rfl
end Go.Proofs.YthjfdhkahmlolaaGreatDoor

/- The value of a text, and that unlike floats have unlike texts. Plain. -/
namespace Go.Proofs.YthjfdhkahmlolaaGreatDoor
open Go.RowKit Usc
def isD (b : UInt8) : Bool := decide (48 ≤ b.toNat) && decide (b.toNat ≤ 57)
def numF (a : Nat) (l : List UInt8) : Nat := l.foldl (fun a b => 10 * a + (b.toNat - 48)) a
theorem numF_append (a : Nat) (l m : List UInt8) : numF a (l ++ m) = numF (numF a l) m := List.foldl_append ..
theorem numF_zeros (a j : Nat) : numF a (List.replicate j 48) = a * 10 ^ j := by
  induction j generalizing a with
  | zero => simp [numF]
  | succ j ih =>
    rw [List.replicate_succ]
    show numF (10 * a + ((48 : UInt8).toNat - 48)) (List.replicate j 48) = _
    rw [show (48 : UInt8).toNat - 48 = 0 from rfl, Nat.add_zero, ih, Nat.pow_succ, Nat.mul_comm 10 a, Nat.mul_assoc, Nat.mul_comm 10]
theorem num_dec (c : Nat) : numF 0 (Lib.decDigits c) = c := by
  induction c using Nat.strongRecOn with
  | _ c ih =>
    rw [Lib.decDigits]
    split
    · next h =>
      show 10 * 0 + ((UInt8.ofNat (48 + c)).toNat - 48) = c
      rw [UInt8.toNat_ofNat']; omega
    · next h =>
      rw [numF_append, ih (c / 10) (by omega)]
      show 10 * (c / 10) + ((UInt8.ofNat (48 + c % 10)).toNat - 48) = c
      rw [UInt8.toNat_ofNat']; omega
theorem dec_isD (c : Nat) : ∀ d ∈ Lib.decDigits c, isD d = true := fun d hd => by
  have := dec_byte c d hd
  unfold isD; simp; omega
theorem zeros_isD (j : Nat) : ∀ d ∈ List.replicate j (48 : UInt8), isD d = true := fun d hd => by
  rw [(List.mem_replicate.1 hd).2]; rfl
theorem isD_not {d : UInt8} (h : isD d = true) : d ≠ 101 ∧ d ≠ 46 ∧ d ≠ 45 ∧ d ≠ 43 ∧ d ≠ 78 ∧ d ≠ 73 := by
  refine ⟨?_, ?_, ?_, ?_, ?_, ?_⟩ <;> (rintro rfl; exact absurd h (by decide))
/-- ahead of the letter e, and from it on -/
def headT (t : List UInt8) : List UInt8 := t.takeWhile (· != 101)
def restT (t : List UInt8) : List UInt8 := t.dropWhile (· != 101)
def valN (t : List UInt8) : Nat := numF 0 ((headT t).filter isD)
def fracT (t : List UInt8) : Nat := (((headT t).dropWhile (· != 46)).filter isD).length
def expT (t : List UInt8) : Int := match restT t with | [] => 0 | _ :: r => (Lib.atoi r).getD 0
def valE (t : List UInt8) : Int := expT t - fracT t
theorem cut101 {A R : List UInt8} (h : (101 : UInt8) ∉ A) (hR : R = [] ∨ ∃ r, R = 101 :: r) : headT (A ++ R) = A ∧ restT (A ++ R) = R := by
  have hp : ∀ a ∈ A, (a != 101) = true := fun a ha => by rw [bne_iff_ne]; rintro rfl; exact h ha
  unfold headT restT
  rw [List.takeWhile_append_of_pos hp, List.dropWhile_append_of_pos hp]
  rcases hR with rfl | ⟨r, rfl⟩
  · simp
  · simp
theorem cut46 {P Q : List UInt8} (h : (46 : UInt8) ∉ P) (hQ : Q = [] ∨ ∃ q, Q = 46 :: q) : (P ++ Q).dropWhile (· != 46) = Q := by
  have hp : ∀ a ∈ P, (a != 46) = true := fun a ha => by rw [bne_iff_ne]; rintro rfl; exact h ha
  rw [List.dropWhile_append_of_pos hp]
  rcases hQ with rfl | ⟨r, rfl⟩
  · simp
  · simp
theorem no101 {l : List UInt8} (h : ∀ d ∈ l, isD d = true) : (101 : UInt8) ∉ l := fun m => (isD_not (h _ m)).1 rfl
theorem no46 {l : List UInt8} (h : ∀ d ∈ l, isD d = true) : (46 : UInt8) ∉ l := fun m => (isD_not (h _ m)).2.1 rfl
theorem filt {l : List UInt8} (h : ∀ d ∈ l, isD d = true) : l.filter isD = l := List.filter_eq_self.2 h
theorem filt46 (q : List UInt8) : (46 :: q).filter isD = q.filter isD := by
  rw [List.filter_cons, if_neg (by decide)]
/-- digits, a point, digits, an exponent: what such a text is worth -/
theorem val_of {P q R : List UInt8} (hP : ∀ d ∈ P, isD d = true) (hq : ∀ d ∈ q, isD d = true) (hR : R = [] ∨ ∃ r, R = 101 :: r) :
    valN (P ++ 46 :: q ++ R) = numF 0 (P ++ q) ∧ fracT (P ++ 46 :: q ++ R) = q.length ∧ restT (P ++ 46 :: q ++ R) = R := by
  have h1 : (101 : UInt8) ∉ P ++ 46 :: q := by
    intro m
    rcases List.mem_append.1 m with m | m
    · exact no101 hP m
    · rcases List.mem_cons.1 m with m | m
      · exact absurd m (by decide)
      · exact no101 hq m
  obtain ⟨e1, e2⟩ := cut101 h1 hR
  unfold valN fracT
  rw [e1, e2, cut46 (no46 hP) (.inr ⟨q, rfl⟩), List.filter_append, filt46, filt hP, filt hq]
  exact ⟨rfl, rfl, rfl⟩
theorem val_of0 {P R : List UInt8} (hP : ∀ d ∈ P, isD d = true) (hR : R = [] ∨ ∃ r, R = 101 :: r) :
    valN (P ++ R) = numF 0 P ∧ fracT (P ++ R) = 0 ∧ restT (P ++ R) = R := by
  obtain ⟨e1, e2⟩ := cut101 (no101 hP) hR
  unfold valN fracT
  rw [e1, e2, filt hP]
  have := cut46 (P := P) (Q := []) (no46 hP) (.inl rfl)
  rw [List.append_nil] at this
  rw [this]
  exact ⟨rfl, rfl, rfl⟩
theorem atoi_fin : ∀ n : Fin 1000, Lib.atoi (Lib.decDigits n.val) = some (n.val : Int) ∧ Lib.atoi (45 :: Lib.decDigits n.val) = some (-(n.val : Int)) := by decide +kernel
theorem atoi_itoa (e : Int) (h : -999 ≤ e ∧ e ≤ 999) : Lib.atoi (Lib.itoa e) = some e := by
  have := atoi_fin ⟨e.natAbs, by omega⟩
  simp only at this
  unfold Lib.itoa
  split
  · rw [this.2]; congr 1; omega
  · rw [show e.toNat = e.natAbs by omega, this.1]; congr 1; omega
theorem laid_val (c : Nat) (e : Int) (hx : -999 ≤ e ∧ e ≤ 999) : ∃ j : Nat, valN (laidB c e) = 10 ^ j * c ∧ valE (laidB c e) = e + 1 - (Lib.nDigits c : Int) - j := by
  have hD := dec_isD c
  have hl := Lib.decDigits_length c
  have hn := num_dec c
  have n0 := Lib.nDigits_pos c
  unfold laidB
  by_cases he : 0 ≤ e ∧ e ≤ 20
  · rw [if_pos he]
    by_cases h1 : (Lib.nDigits c : Int) ≤ e + 1
    · rw [if_pos h1]
      have hP : ∀ d ∈ Lib.decDigits c ++ List.replicate (e + 1 - (Lib.nDigits c : Int)).toNat 48, isD d = true := fun d hd => by
        rcases List.mem_append.1 hd with m | m
        · exact hD d m
        · exact zeros_isD _ d m
      obtain ⟨a, b, r⟩ := val_of0 hP (R := []) (.inl rfl)
      rw [List.append_nil] at a b r
      refine ⟨(e + 1 - (Lib.nDigits c : Int)).toNat, ?_, ?_⟩
      · rw [a, numF_append, hn, numF_zeros, Nat.mul_comm]
      · unfold valE expT; rw [b, r]; simp only; omega
    · rw [if_neg h1]
      have hP : ∀ d ∈ (Lib.decDigits c).take (e + 1).toNat, isD d = true := fun d hd => hD d (List.mem_of_mem_take hd)
      have hq : ∀ d ∈ (Lib.decDigits c).drop (e + 1).toNat, isD d = true := fun d hd => hD d (List.mem_of_mem_drop hd)
      obtain ⟨a, b, r⟩ := val_of hP hq (R := []) (.inl rfl)
      rw [List.append_nil] at a b r
      refine ⟨0, ?_, ?_⟩
      · rw [a, List.take_append_drop, hn]; simp
      · unfold valE expT; rw [b, r, List.length_drop, hl]; simp only; omega
  · rw [if_neg he]
    by_cases he2 : -6 ≤ e ∧ e < 0
    · rw [if_pos he2]
      have hq : ∀ d ∈ List.replicate (-e - 1).toNat 48 ++ Lib.decDigits c, isD d = true := fun d hd => by
        rcases List.mem_append.1 hd with m | m
        · exact zeros_isD _ d m
        · exact hD d m
      have hP : ∀ d ∈ [(48 : UInt8)], isD d = true := fun d hd => by rw [List.mem_singleton.1 hd]; rfl
      obtain ⟨a, b, r⟩ := val_of hP hq (R := []) (.inl rfl)
      have e1 : [(48 : UInt8)] ++ 46 :: (List.replicate (-e - 1).toNat 48 ++ Lib.decDigits c) ++ [] = [48, 46] ++ List.replicate (-e - 1).toNat 48 ++ Lib.decDigits c := by simp
      rw [e1] at a b r
      refine ⟨0, ?_, ?_⟩
      · rw [a, numF_append, numF_append, numF_zeros]
        show numF (0 * _) _ = _
        rw [Nat.zero_mul, hn]; simp
      · unfold valE expT; rw [b, r, List.length_append, List.length_replicate, hl]; simp only; omega
    · rw [if_neg he2]
      have hx' := atoi_itoa e hx
      by_cases h1 : Lib.nDigits c = 1
      · rw [pointB_one h1]
        obtain ⟨a, b, r⟩ := val_of0 hD (R := 101 :: Lib.itoa e) (.inr ⟨_, rfl⟩)
        refine ⟨0, ?_, ?_⟩
        · rw [a, hn]; simp
        · unfold valE expT; rw [b, r]; simp only [hx', Option.getD_some]; omega
      · obtain ⟨x, l, d1, d2, d3⟩ := pointB_many h1
        rw [d2]
        rw [d1] at hD hl hn
        have hP : ∀ d ∈ [x], isD d = true := fun d hd => hD d (by rw [List.mem_singleton.1 hd]; exact List.mem_cons_self)
        have hq : ∀ d ∈ l, isD d = true := fun d hd => hD d (List.mem_cons_of_mem _ hd)
        obtain ⟨a, b, r⟩ := val_of hP hq (R := 101 :: Lib.itoa e) (.inr ⟨_, rfl⟩)
        have e1 : [x] ++ 46 :: l ++ 101 :: Lib.itoa e = x :: 46 :: l ++ 101 :: Lib.itoa e := by simp
        rw [e1] at a b r
        refine ⟨0, ?_, ?_⟩
        · rw [a]; simpa using hn
        · unfold valE expT; rw [b, r]; simp only [hx', Option.getD_some]; simp at hl; omega
/-- the digits of a decimal are told by its text -/
theorem laid_inj {c c' : Nat} {s s' : Int} (H : Shb c s) (H' : Shb c' s') (h10 : c % 10 ≠ 0) (h10' : c' % 10 ≠ 0) (h : laidB c (exp10 c s) = laidB c' (exp10 c' s')) : c = c' ∧ s = s' := by
  have q : ∀ {c s}, Shb c s → -999 ≤ exp10 c s ∧ exp10 c s ≤ 999 := fun H => by
    have := H.n0; have := H.n1; have := H.s0; have := H.s1; unfold exp10; omega
  obtain ⟨j, a1, a2⟩ := laid_val c (exp10 c s) (q H)
  obtain ⟨j', b1, b2⟩ := laid_val c' (exp10 c' s') (q H')
  rw [h] at a1 a2
  obtain ⟨rfl, rfl⟩ := pow10_split (a1.symm.trans b1) h10 h10'
  refine ⟨rfl, ?_⟩
  have := a2.symm.trans b2
  unfold exp10 at this
  omega
end Go.Proofs.YthjfdhkahmlolaaGreatDoor
