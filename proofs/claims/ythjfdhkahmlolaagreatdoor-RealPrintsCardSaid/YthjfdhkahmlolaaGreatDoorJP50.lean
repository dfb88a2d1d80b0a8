/- The law RealShort. -/
import Derived.Test.YthjfdhkahmlolaaGreatDoorJP45
import Derived.Test.YthjfdhkahmlolaaGreatDoorJP49
import Derived.Test.YthjfdhkahmlolaaGreatDoorJP11
namespace Go.Proofs.YthjfdhkahmlolaaGreatDoor
open Go.RowKit Usc
theorem run_frb (x : Nat) (w : World) : Sem.run Tryz.prog (callFunc 10 #[.int .u64 (x : Nat)]) w = .ok (.value (.float .f64 x)) w := by kernel_rfl
theorem ba_ne {s t : List UInt8} (h : s ≠ t) : (⟨s.toArray⟩ : ByteArray) ≠ ⟨t.toArray⟩ := fun e => h (by
  have := congrArg (fun b : ByteArray => b.data.toList) e
  simpa using this)
theorem ba_list_ne {a b : ByteArray} (h : a ≠ b) : (a.toList == b.toList) = false := by
  rw [ByteArray.toList_eq, ByteArray.toList_eq, beq_eq_false_iff_ne]
  intro e
  exact h (by
    apply ByteArray.ext
    have := congrArg List.toArray e
    simpa using this)
set_option maxRecDepth 100000
set_option maxHeartbeats 4000000 in
theorem short_nan (a : Nat) (w : World) (hE : Env w) (hE2 : Env2 w) (h : 9218868437227405312 < a % 9223372036854775808) : Calls Tryz.prog 8 #[.int .u64 a] w fun en w' => en = .returned (.bool true) ∧ Only (fun _ => False) w w' := by
  have K := Lib.hid (awake_calls w hE hE2); clear hE hE2
  have k1 := run_frb a
  have k2 : (FloatKind.f64.format.order a a != some Ordering.eq) = true := by
    have := fnan_of a
    rw [decide_eq_true h] at this; exact this
  clear h
  go_enter Tryz.func8, Tryz.ntmps8
  go_wp2_with fail
  refine K.out.mono ?_
  rintro en w1 ⟨rfl, hO⟩
  have O1 := Lib.hid hO; clear hO K
  go_wp2_with fail
  go_ret
  exact ⟨rfl, O1.out⟩
set_option maxHeartbeats 4000000 in
theorem short_inf (a : Nat) (ha : a < 18446744073709551616) (w : World) (hE : Env w) (hE2 : Env2 w) (h : a % 9223372036854775808 = 9218868437227405312) : Calls Tryz.prog 8 #[.int .u64 a] w fun en w' => en = .returned (.bool true) ∧ Only (fun _ => False) w w' := by
  have K := Lib.hid (awake_calls w hE hE2); clear hE hE2
  have k1 := run_frb a
  have k2 : (FloatKind.f64.format.order a a != some Ordering.eq) = false := by
    have := fnan_of a
    rw [decide_eq_false (by omega)] at this; exact this
  have KI := Lib.hid (run_fsub_inf a ha h)
  clear h
  go_enter Tryz.func8, Tryz.ntmps8
  go_wp2_with fail
  refine K.out.mono ?_
  rintro en w1 ⟨rfl, hO⟩
  have O1 := Lib.hid hO; clear hO K
  obtain ⟨v, hv, k3⟩ := KI.out w1
  have k4 : (FloatKind.f64.format.order v 0 != some Ordering.eq) = true := by
    rw [show FloatKind.f64.format.order v 0 = none from Pq.Flt.order_nan v 0 (.inl hv)]; rfl
  have k5 : (FloatKind.f64.format.order v 0 == some Ordering.eq) = false := by
    rw [show FloatKind.f64.format.order v 0 = none from Pq.Flt.order_nan v 0 (.inl hv)]; rfl
  clear hv
  go_wp2_with fail
  go_ret
  exact ⟨rfl, O1.out.drew⟩
set_option maxHeartbeats 4000000 in
theorem short_fin (a : Nat) (ha : a < 18446744073709551616) (w : World) (hE : Env w) (hE2 : Env2 w) (h : a % 9223372036854775808 < 9218868437227405312) : Calls Tryz.prog 8 #[.int .u64 a] w fun en w' => en = .returned (.bool true) ∧ Only (fun _ => False) w w' := by
  have K := Lib.hid (awake_calls w hE hE2)
  have HE := Lib.hid hE
  clear hE hE2
  have k1 := run_frb
  have k2 : (FloatKind.f64.format.order a a != some Ordering.eq) = false := by
    have := fnan_of a
    rw [decide_eq_false (by omega)] at this; exact this
  have k3 := run_fsub_fin a ha h
  have k4 : (FloatKind.f64.format.order 0 0 != some Ordering.eq) = false := by decide +kernel
  obtain ⟨t, ht⟩ := pr_ex a
  obtain ⟨Y1, e1, y1, n1⟩ : ∃ Y : Nat, IntKind.u64.wrap ((a : Int) + 1) = (Y : Int) ∧ Y < 18446744073709551616 ∧ a ≠ Y := by
    by_cases hm : a = 18446744073709551615
    · exact ⟨0, by rw [hm]; decide, by decide, by omega⟩
    · exact ⟨a + 1, by rw [wrap_u64 (by omega) (by omega)]; rfl, by omega, by omega⟩
  obtain ⟨Y2, e2, y2, n2⟩ : ∃ Y : Nat, IntKind.u64.wrap ((a : Int) - 1) = (Y : Int) ∧ Y < 18446744073709551616 ∧ a ≠ Y := by
    by_cases hm : a = 0
    · exact ⟨18446744073709551615, by rw [hm]; decide, by decide, by omega⟩
    · exact ⟨a - 1, by rw [wrap_u64 (by omega) (by omega)]; omega, by omega, by omega⟩
  obtain ⟨t1, ht1⟩ := pr_ex Y1
  obtain ⟨t2, ht2⟩ := pr_ex Y2
  have d1 : t ≠ t1 := fun e => n1 (pr_inj ha y1 h ht (e ▸ ht1))
  have d2 : t ≠ t2 := fun e => n2 (pr_inj ha y2 h ht (e ▸ ht2))
  obtain ⟨l1, l2⟩ := pr_short h ht
  have P0 := Lib.hid (fun w hE => print_calls a t w ha ht hE)
  have P1 := Lib.hid (fun w hE => print_calls Y1 t1 w y1 ht1 hE)
  have P2 := Lib.hid (fun w hE => print_calls Y2 t2 w y2 ht2 hE)
  obtain ⟨S, hS⟩ : ∃ S : ByteArray, S = ⟨t.toArray⟩ := ⟨_, rfl⟩
  obtain ⟨U, hU⟩ : ∃ S : ByteArray, S = ⟨t1.toArray⟩ := ⟨_, rfl⟩
  obtain ⟨V, hV⟩ : ∃ S : ByteArray, S = ⟨t2.toArray⟩ := ⟨_, rfl⟩
  have c1 : (S.toList == U.toList) = false := ba_list_ne (by rw [hS, hU]; exact ba_ne d1)
  have c2 : (S.toList == V.toList) = false := ba_list_ne (by rw [hS, hV]; exact ba_ne d2)
  have hz : S.size ≤ 25 := by rw [hS, ba_size]; exact l1
  have hd : S.data.toList = t := by rw [hS]
  have DG := Lib.hid (fun w => digits20 S w (by omega))
  rw [hd] at DG
  rw [← hS] at P0; rw [← hU] at P1; rw [← hV] at P2
  generalize dres (dfold (headT t)) = q at *
  clear hS hU hV d1 d2 ht ht1 ht2 n1 n2 hd l1 h
  go_enter Tryz.func8, Tryz.ntmps8
  go_wp2_with fail
  refine K.out.mono ?_
  rintro en w1 ⟨rfl, hO⟩
  have O1 := Lib.hid hO; clear hO K
  go_wp2_with fail
  refine (P0.out w1 (HE.out.still O1.out (fun _ _ h => h))).mono ?_
  rintro en w2 ⟨rfl, hO⟩
  have O2 := Lib.hid (O1.out.trans hO); clear hO P0
  go_wp2_with fail
  refine (P1.out w2 (HE.out.still O2.out (fun _ _ h => h))).mono ?_
  rintro en w3 ⟨rfl, hO⟩
  have O3 := Lib.hid (O2.out.trans hO); clear hO P1
  go_wp2_with fail
  refine (P2.out w3 (HE.out.still O3.out (fun _ _ h => h))).mono ?_
  rintro en w4 ⟨rfl, hO⟩
  have O4 := Lib.hid (O3.out.trans hO); clear hO P2
  go_wp2_with fail
  refine (DG.out _).mono ?_
  rintro en w5 ⟨rfl, hw⟩; rw [hw]; clear hw w5 DG
  go_wp2_with fail
  go_ret
  exact ⟨ret_eq (congrArg Value.bool (decide_eq_true (by omega))), O4.out⟩
/-- the law -/
theorem rshort_calls (a : Nat) (w : World) (ha : a < 18446744073709551616) (hE : Env w) (hE2 : Env2 w) : Calls Tryz.prog 8 #[.int .u64 a] w fun en w' => en = .returned (.bool true) ∧ Only (fun _ => False) w w' := by
  by_cases h1 : 9218868437227405312 < a % 9223372036854775808
  · exact short_nan a w hE hE2 h1
  · by_cases h2 : a % 9223372036854775808 = 9218868437227405312
    · exact short_inf a ha w hE hE2 h2
    · exact short_fin a ha w hE hE2 (by omega)
end Go.Proofs.YthjfdhkahmlolaaGreatDoor
