/- The law RealShort. -/
import Derived.Test.YthjfdhkahmlolaaGreatDoorJF47
import Derived.Test.YthjfdhkahmlolaaGreatDoorJF50
import Derived.Test.YthjfdhkahmlolaaGreatDoorJF08
import Derived.Test.YthjfdhkahmlolaaGreatDoorJF46
import Derived.Test.YthjfdhkahmlolaaGreatDoorJF31
namespace Go.Proofs.YthjfdhkahmlolaaGreatDoor
open Go.RowKit Usc
theorem run_frb (x : Nat) (w : World) : Sem.run Tryz.prog (callFunc 10 #[.int .u64 (x : Nat)]) w = .ok (.value (.float .f64 x)) w := by kernel_rfl
theorem ba_ne {s t : List UInt8} (h : s ≠ t) : (⟨s.toArray⟩ : ByteArray) ≠ ⟨t.toArray⟩ := fun e => h (by
  have := congrArg (fun b : ByteArray => b.data.toList) e
  simpa using this)
theorem ba_list_ne {a b : ByteArray} (h : a ≠ b) : (a.toList == b.toList) = false := by
  rw [ByteArray.toList_eq, ByteArray.toList_eq, beq_eq_false_iff_ne]
  intro e
  exact h (by
    apply ByteArray.ext
    have := congrArg List.toArray e
    simpa using this)
set_option maxRecDepth 100000
set_option maxHeartbeats 4000000 in
theorem short_nan (a : Nat) (w : World) (hE : Env w) (hE2 : Env2 w) (h : 9218868437227405312 < a % 9223372036854775808) : Calls Tryz.prog 8 #[.int .u64 a] w fun en w' => en = .returned (.bool true) ∧ Only (fun _ => False) w w' := by
  have K := Lib.hid (awake_calls w hE hE2); clear hE hE2
  have k1 := run_frb a
  have k2 : (FloatKind.f64.format.order a a != some Ordering.eq) = true := by
    have := fnan_of a
    rw [decide_eq_true h] at this; exact this
  clear h
  go_enter Tryz.func8, Tryz.ntmps8
  go_wp2_with fail
  refine K.out.mono ?_
  rintro en w1 ⟨rfl, hO⟩
  have O1 := Lib.hid hO; clear hO K
  go_wp2_with fail
  go_ret
  exact ⟨rfl, O1.out⟩
set_option maxHeartbeats 4000000 in
theorem short_inf (a : Nat) (ha : a < 18446744073709551616) (w : World) (hE : Env w) (hE2 : Env2 w) (h : a % 9223372036854775808 = 9218868437227405312) : Calls Tryz.prog 8 #[.int .u64 a] w fun en w' => en = .returned (.bool true) ∧ Only (fun _ => False) w w' := by
  have K := Lib.hid (awake_calls w hE hE2); clear hE hE2
  have k1 := run_frb a
  have k2 : (FloatKind.f64.format.order a a != some Ordering.eq) = false := by
    have := fnan_of a
    rw [decide_eq_false (by omega)] at this; exact this
  have KI := Lib.hid (run_fsub_inf a ha h)
  clear h
  go_enter Tryz.func8, Tryz.ntmps8
  go_wp2_with fail
  refine K.out.mono ?_
  rintro en w1 ⟨rfl, hO⟩
  have O1 := Lib.hid hO; clear hO K
  obtain ⟨v, hv, k3⟩ := KI.out w1
  have k4 : (FloatKind.f64.format.order v 0 != some Ordering.eq) = true := by
    rw [show FloatKind.f64.format.order v 0 = none from Pq.Flt.order_nan v 0 (.inl hv)]; rfl
  have k5 : (FloatKind.f64.format.order v 0 == some Ordering.eq) = false := by
    rw [show FloatKind.f64.format.order v 0 = none from Pq.Flt.order_nan v 0 (.inl hv)]; rfl
  clear hv
  go_wp2_with fail
  go_ret
  exact ⟨rfl, O1.out.drew⟩
set_option maxHeartbeats 4000000 in
theorem short_fin (a : Nat) (ha : a < 18446744073709551616) (w : World) (hE : Env w) (hE2 : Env2 w) (h : a % 9223372036854775808 < 9218868437227405312) : Calls Tryz.prog 8 #[.int .u64 a] w fun en w' => en = .returned (.bool true) ∧ Only (fun _ => False) w w' := by
  have K := Lib.hid (awake_calls w hE hE2)
  have HE := Lib.hid hE
  clear hE hE2
  have k1 := run_frb
  have k2 : (FloatKind.f64.format.order a a != some Ordering.eq) = false := by
    have := fnan_of a
    rw [decide_eq_false (by omega)] at this; exact this
  have k3 := run_fsub_fin a ha h
  have k4 : (FloatKind.f64.format.order 0 0 != some Ordering.eq) = false := by decide +kernel
  obtain ⟨t, ht⟩ := pr_ex a
  obtain ⟨Y1, e1, y1, n1⟩ : ∃ Y : Nat, IntKind.u64.wrap ((a : Int) + 1) = (Y : Int) ∧ Y < 18446744073709551616 ∧ a ≠ Y := by
    by_cases hm : a = 18446744073709551615
    · exact ⟨0, by rw [hm]; decide, by decide, by omega⟩
    · exact ⟨a + 1, by rw [wrap_u64 (by omega) (by omega)]; rfl, by omega, by omega⟩
  obtain ⟨Y2, e2, y2, n2⟩ : ∃ Y : Nat, IntKind.u64.wrap ((a : Int) - 1) = (Y : Int) ∧ Y < 18446744073709551616 ∧ a ≠ Y := by
    by_cases hm : a = 0
    · exact ⟨18446744073709551615, by rw [hm]; decide, by decide, by omega⟩
    · exact ⟨a - 1, by rw [wrap_u64 (by omega) (by omega)]; omega, by omega, by omega⟩
  obtain ⟨t1, ht1⟩ := pr_ex Y1
  obtain ⟨t2, ht2⟩ := pr_ex Y2
  have d1 : t ≠ t1 := fun e => n1 (pr_inj ha y1 h ht (e ▸ ht1))
  have d2 : t ≠ t2 := fun e => n2 (pr_inj ha y2 h ht (e ▸ ht2))
  obtain ⟨l1, l2⟩ := pr_short h ht
  have P0 := Lib.hid (fun w hE => print_calls a t w ha ht hE)
  have P1 := Lib.hid (fun w hE => print_calls Y1 t1 w y1 ht1 hE)
  have P2 := Lib.hid (fun w hE => print_calls Y2 t2 w y2 ht2 hE)
  obtain ⟨S, hS⟩ : ∃ S : ByteArray, S = ⟨t.toArray⟩ := ⟨_, rfl⟩
  obtain ⟨U, hU⟩ : ∃ S : ByteArray, S = ⟨t1.toArray⟩ := ⟨_, rfl⟩
  obtain ⟨V, hV⟩ : ∃ S : ByteArray, S = ⟨t2.toArray⟩ := ⟨_, rfl⟩
  have c1 : (S.toList == U.toList) = false := ba_list_ne (by rw [hS, hU]; exact ba_ne d1)
  have c2 : (S.toList == V.toList) = false := ba_list_ne (by rw [hS, hV]; exact ba_ne d2)
  have hz : S.size ≤ 25 := by rw [hS, ba_size]; exact l1
  have hd : S.data.toList = t := by rw [hS]
  have DG := Lib.hid (fun w => digits20 S w (by omega))
  rw [hd] at DG
  rw [← hS] at P0; rw [← hU] at P1; rw [← hV] at P2
  generalize dres (dfold (headT t)) = q at *
  clear hS hU hV d1 d2 ht ht1 ht2 n1 n2 hd l1 h
  go_enter Tryz.func8, Tryz.ntmps8
  go_wp2_with fail
  refine K.out.mono ?_
  rintro en w1 ⟨rfl, hO⟩
  have O1 := Lib.hid hO; clear hO K
  go_wp2_with fail
  refine (P0.out w1 (HE.out.still O1.out (fun _ _ h => h))).mono ?_
  rintro en w2 ⟨rfl, hO⟩
  have O2 := Lib.hid (O1.out.trans hO); clear hO P0
  go_wp2_with fail
  refine (P1.out w2 (HE.out.still O2.out (fun _ _ h => h))).mono ?_
  rintro en w3 ⟨rfl, hO⟩
  have O3 := Lib.hid (O2.out.trans hO); clear hO P1
  go_wp2_with fail
  refine (P2.out w3 (HE.out.still O3.out (fun _ _ h => h))).mono ?_
  rintro en w4 ⟨rfl, hO⟩
  have O4 := Lib.hid (O3.out.trans hO); clear hO P2
  go_wp2_with fail
  refine (DG.out _).mono ?_
  rintro en w5 ⟨rfl, hw⟩; rw [hw]; clear hw w5 DG
  go_wp2_with fail
  go_ret
  exact ⟨ret_eq (congrArg Value.bool (decide_eq_true (by omega))), O4.out⟩
/-- the law -/
theorem rshort_calls (a : Nat) (w : World) (ha : a < 18446744073709551616) (hE : Env w) (hE2 : Env2 w) : Calls Tryz.prog 8 #[.int .u64 a] w fun en w' => en = .returned (.bool true) ∧ Only (fun _ => False) w w' := by
  by_cases h1 : 9218868437227405312 < a % 9223372036854775808
  · exact short_nan a w hE hE2 h1
  · by_cases h2 : a % 9223372036854775808 = 9218868437227405312
    · exact short_inf a ha w hE hE2 h2
    · exact short_fin a ha w hE hE2 (by omega)
end Go.Proofs.YthjfdhkahmlolaaGreatDoor

/- ParseFloat and Parse, at any text; the law RealOneForm. -/
namespace Go.Proofs.YthjfdhkahmlolaaGreatDoor
open Go.RowKit Usc
set_option maxRecDepth 100000
/-- the public package's two errors -/
structure Errs (w : World) : Prop where
  s : ∃ v, w.cell? ⟨1, 0, none⟩ = some v ∧ (v = .nilIface ∨ ∃ te pe, v = .iface te pe)
  r : ∃ v, w.cell? ⟨2, 0, none⟩ = some v ∧ (v = .nilIface ∨ ∃ te pe, v = .iface te pe)
theorem Errs.still {w w' : World} (h : Errs w) (O : Only (fun _ => False) w w') : Errs w' := by
  obtain ⟨⟨v, hv, h1⟩, ⟨u, hu, h2⟩⟩ := h
  exact ⟨⟨v, cell_only hv O id, h1⟩, ⟨u, cell_only hu O id, h2⟩⟩
def PfAny (w0 : World) (e : Ending) (w : World) : Prop := (∃ (f : Nat) (v : Value), f < 18446744073709551616 ∧ ErrT v ∧ e = .returned (.tuple #[.float .f64 f, v])) ∧ Only (fun _ => False) w0 w
set_option maxHeartbeats 1000000 in
theorem pp_any (s : ByteArray) (w : World) (hs : s.size ≤ 140737488355328) (hE : EnvZ w) : Calls Tryz.prog 60 #[.string s, .int .i64 64] w (AtAny w) := by
  have HC := Lib.hid (at_any s w hs hE)
  clear hE
  go_enter Tryz.func60, Tryz.ntmps60
  go_wp2_with fail
  refine HC.out.mono ?_
  rintro en w1 ⟨⟨f, n, v, hf, hv, rfl⟩, hO⟩
  have HF := Lib.hid hf; have HV := Lib.hid hv; have HO := Lib.hid hO; clear hf hv hO HC
  go_wp2_with fail
  go_ret3
  exact ⟨⟨f, n, v, HF.out, HV.out, rfl⟩, HO.out⟩
set_option maxHeartbeats 1000000 in
theorem pf42_any (s : ByteArray) (w : World) (hs : s.size ≤ 140737488355328) (hE : EnvZ w) : Calls Tryz.prog 42 #[.string s, .int .i64 64] w (PfAny w) := by
  have HC := Lib.hid (pp_any s w hs hE)
  clear hE
  go_enter Tryz.func42, Tryz.ntmps42
  go_wp2_with fail
  refine HC.out.mono ?_
  rintro en w1 ⟨⟨f, n, v, hf, hv, rfl⟩, hO⟩
  have HF := Lib.hid hf; have HV := Lib.hid hv; have HO := Lib.hid hO; clear hf hv hO HC
  by_cases hn : n = s.size
  · subst hn
    go_wp2_with fail
    go_ret2
    exact ⟨⟨f, v, HF.out, HV.out, rfl⟩, HO.out⟩
  · have t0 : ((n : Int) != (s.size : Int)) = true := by rw [bne_iff_ne]; omega
    go_wp2_with fail
    go_ret2
    exact ⟨⟨0, _, by decide, .inr (.inr rfl), rfl⟩, HO.out⟩
/-- a float, or an error -/
def PsAny (w0 : World) (e : Ending) (w : World) : Prop := (∃ (f : Nat) (v : Value), f < 18446744073709551616 ∧ (v = .nilIface ∨ ∃ a, v = .iface 84 a) ∧ e = .returned (.tuple #[.float .f64 f, v])) ∧ Only (fun _ => False) w0 w
set_option maxHeartbeats 1000000 in
theorem pf29_any (s : ByteArray) (w : World) (hs : s.size ≤ 140737488355328) (hE : EnvZ w) (hR : Errs w) : Calls Tryz.prog 29 #[.string s, .int .i64 64] w (PsAny w) := by
  have HC := Lib.hid (pf42_any s w hs hE)
  have HR := Lib.hid hR
  clear hE hR
  have n1 : ∀ w, Sem.run Tryz.prog (binOp .neq 49 (.iface 83 (.int .i64 1)) .nilIface) w = .ok (.bool true) w := fun w => by kernel_rfl
  have n2 : ∀ w, Sem.run Tryz.prog (binOp .neq 49 (.iface 83 (.int .i64 2)) .nilIface) w = .ok (.bool true) w := fun w => by kernel_rfl
  go_enter Tryz.func29, Tryz.ntmps29
  go_wp2_with fail
  refine HC.out.mono ?_
  rintro en w1 ⟨⟨f, v, hf, hv, rfl⟩, hO⟩
  have HF := Lib.hid hf; have HO := Lib.hid hO
  have hR1 := HR.out.still hO
  clear hf hO HC
  rcases hv with rfl | rfl | rfl
  · clear hR1
    go_wp2_with fail
    go_ret2
    exact ⟨⟨f, _, HF.out, .inl rfl, rfl⟩, HO.out⟩
  · obtain ⟨v, hv, h1⟩ := hR1.r
    have TE := Lib.hid (Tryz.strconv_toError_range ⟨#[80, 97, 114, 115, 101, 70, 108, 111, 97, 116]⟩ s 0 64 v w1 (by omega) hv h1)
    clear hv h1 hR1
    go_wp2_with fail
    refine TE.out.mono ?_
    rintro en w2 ⟨N, rfl, _, _, hB⟩
    have HB := Lib.hid (HO.out.trans (Only.ofB hB)); clear hB TE
    go_wp2_with fail
    go_ret2
    exact ⟨⟨f, _, HF.out, .inr ⟨_, rfl⟩, rfl⟩, HB.out⟩
  · obtain ⟨v, hv, h1⟩ := hR1.s
    have TE := Lib.hid (Tryz.strconv_toError_syntax ⟨#[80, 97, 114, 115, 101, 70, 108, 111, 97, 116]⟩ s 0 64 v w1 (by omega) hv h1)
    clear hv h1 hR1
    go_wp2_with fail
    refine TE.out.mono ?_
    rintro en w2 ⟨N, rfl, _, _, hB⟩
    have HB := Lib.hid (HO.out.trans (Only.ofB hB)); clear hB TE
    go_wp2_with fail
    go_ret2
    exact ⟨⟨f, _, HF.out, .inr ⟨_, rfl⟩, rfl⟩, HB.out⟩
/-- Parse: an error and nought, or the float whose text it is -/
def PaAny (s : ByteArray) (w0 : World) (e : Ending) (w : World) : Prop :=
  (e = .returned (.tuple #[.float .f64 0, .int .i64 5]) ∨ ∃ (f : Nat) (t : List UInt8), f < 18446744073709551616 ∧ Pr f t ∧ s = ⟨t.toArray⟩ ∧ e = .returned (.tuple #[.float .f64 f, .int .i64 0])) ∧ Only (fun _ => False) w0 w
set_option maxHeartbeats 1000000 in
theorem parse_any (s : ByteArray) (w : World) (hs : s.size ≤ 140737488355328) (hE : EnvZ w) (hR : Errs w) : Calls Tryz.prog 15 #[.string s] w (PaAny s w) := by
  have HC := Lib.hid (pf29_any s w hs hE hR)
  have HE := Lib.hid hE
  clear hE hR
  go_enter Tryz.func15, Tryz.ntmps15
  go_wp2_with fail
  refine HC.out.mono ?_
  rintro en w1 ⟨⟨f, v, hf, hv, rfl⟩, hO⟩
  obtain ⟨t, ht⟩ := pr_ex f
  have HP := Lib.hid (print_calls f t w1 hf ht (HE.out.still hO).e)
  have HF := Lib.hid hf; have HO := Lib.hid hO; have HT := Lib.hid ht
  clear hf hO HC ht
  rcases hv with rfl | ⟨a, rfl⟩
  · go_wp2_with fail
    refine HP.out.mono ?_
    rintro en w2 ⟨rfl, hO2⟩
    have HO2 := Lib.hid (HO.out.trans hO2); clear hO2 HP
    by_cases hst : t = s.data.toList
    · have hs2 : s = ⟨t.toArray⟩ := by rw [hst]
      have HS2 := Lib.hid hs2
      rw [← hs2]
      clear hs2 hst
      go_wp2_with fail
      go_ret2
      exact ⟨.inr ⟨f, t, HF.out, HT.out, HS2.out, rfl⟩, HO2.out⟩
    · have hne : (t == s.toList) = false := by
        rw [beq_eq_false_iff_ne, ByteArray.toList_eq]
        exact hst
      go_wp2_with fail
      go_ret2
      exact ⟨.inl rfl, HO2.out⟩
  · have n3 : ∀ w, Sem.run Tryz.prog (binOp .neq 49 (.iface 84 a) .nilIface) w = .ok (.bool true) w := fun w => by kernel_rfl
    clear HP
    go_wp2_with fail
    go_ret2
    exact ⟨.inl rfl, HO.out⟩
set_option maxHeartbeats 4000000 in
/-- the law RealOneForm -/
theorem one_calls (s : ByteArray) (w : World) (hs : s.size ≤ 140737488355328) (hE : EnvZ w) (hE2 : Env2 w) (hR : Errs w) : Calls Tryz.prog 7 #[.string s] w fun en w' => en = .returned (.bool true) ∧ Only (fun _ => False) w w' := by
  have K := Lib.hid (awake_calls w hE.e hE2)
  have HE := Lib.hid hE; have HR := Lib.hid hR
  clear hE hE2 hR
  have r0 := run_tobits 0
  go_enter Tryz.func7, Tryz.ntmps7
  go_wp2_with fail
  refine K.out.mono ?_
  rintro en w1 ⟨rfl, hO⟩
  have O1 := Lib.hid hO; clear hO K
  go_wp2_with fail
  refine (parse_any s w1 hs (HE.out.still O1.out) (HR.out.still O1.out)).mono ?_
  rintro en w2 ⟨h, hO⟩
  have O2 := Lib.hid (O1.out.trans hO); clear hO
  rcases h with rfl | ⟨f, t, hf, ht, rfl, rfl⟩
  · go_wp2_with fail
    go_ret
    exact ⟨rfl, O2.out⟩
  · have HP := Lib.hid (print_calls f t w2 hf ht (HE.out.still O2.out).e)
    clear hf ht
    go_wp2_with fail
    refine HP.out.mono ?_
    rintro en w3 ⟨rfl, hO⟩
    have O3 := Lib.hid (O2.out.trans hO); clear hO HP
    go_wp2_with fail
    go_ret
    exact ⟨rfl, O3.out⟩
end Go.Proofs.YthjfdhkahmlolaaGreatDoor
