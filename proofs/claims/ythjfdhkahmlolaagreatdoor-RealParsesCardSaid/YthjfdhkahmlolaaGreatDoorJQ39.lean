/- The reference's ratio: a float against 10^s. Printed by gen_nth.py. -/
import Derived.Test.YthjfdhkahmlolaaGreatDoorJQ37
namespace Go.Proofs.YthjfdhkahmlolaaGreatDoor
open Go.RowKit Usc
set_option maxRecDepth 100000
theorem cmp3_ge {x t : Nat} (h : t ≤ x) : 0 ≤ cmp3 x t := by unfold cmp3; rw [if_neg (by omega)]; split <;> decide
theorem cmp3_lt {x t : Nat} (h : x < t) : cmp3 x t < 0 := by unfold cmp3; rw [if_pos h]; decide
theorem or_pow {q i : Nat} (h : 2 ^ (i + 1) ∣ q) : q ||| 2 ^ i = q + 2 ^ i := by
  obtain ⟨a, rfl⟩ := h
  exact (Nat.two_pow_add_eq_or_of_lt (Nat.pow_lt_pow_right (by decide) (by omega)) a).symm
def RtR (w0 : World) (X Y : Nat) (v8 v10 v11 : Value) (w : World) : Prop :=
  ∃ (j x q : Nat), v11 = .int .i64 ((j : Int) - 1) ∧ v10 = .int .u64 (q : Int) ∧ j ≤ 63 ∧ q < 9223372036854775808 ∧ 2 ^ j ∣ q ∧ Nt w v8 x ∧ x < 2 ^ j * Y ∧ X = q * Y + x ∧ Only (fun _ => False) w0 w
theorem rt_yes {X Y q x i : Nat} (h : X = q * Y + x) (hx : x < 2 ^ (i + 1) * Y) (hge : Y * 2 ^ i ≤ x) (hd : 2 ^ (i + 1) ∣ q) (hX : X < 2 ^ 63 * Y) :
    X = (q + 2 ^ i) * Y + (x - Y * 2 ^ i) ∧ x - Y * 2 ^ i < 2 ^ i * Y ∧ 2 ^ i ∣ q + 2 ^ i ∧ q + 2 ^ i < 9223372036854775808 := by
  have e1 : 2 ^ (i + 1) * Y = Y * 2 ^ i + Y * 2 ^ i := by rw [Nat.pow_succ, Nat.mul_comm (2 ^ i * 2), ← Nat.mul_assoc, Nat.mul_two]
  have e2 : 2 ^ i * Y = Y * 2 ^ i := Nat.mul_comm _ _
  refine ⟨?_, by omega, ?_, ?_⟩
  · rw [Nat.add_mul]; omega
  · exact Nat.dvd_add (Nat.dvd_trans (Nat.pow_dvd_pow 2 (by omega)) hd) (Nat.dvd_refl _)
  · have h1 : (q + 2 ^ i) * Y ≤ X := by rw [Nat.add_mul]; omega
    have h2 : (q + 2 ^ i) * Y < 2 ^ 63 * Y := Nat.lt_of_le_of_lt h1 hX
    have h3 := Nat.lt_of_mul_lt_mul_right h2
    rw [show (2 : Nat) ^ 63 = 9223372036854775808 by decide] at h3
    exact h3
theorem rt_no {q x i Y : Nat} (hlt : x < Y * 2 ^ i) (hd : 2 ^ (i + 1) ∣ q) : x < 2 ^ i * Y ∧ 2 ^ i ∣ q :=
  ⟨by rw [Nat.mul_comm]; exact hlt, Nat.dvd_trans (Nat.pow_dvd_pow 2 (by omega)) hd⟩
theorem rt_end {X Y q x : Nat} (h : X = q * Y + x) (hx : x < 2 ^ 0 * Y) : q = X / Y ∧ x = X % Y := by
  rw [Nat.pow_zero, Nat.one_mul] at hx
  subst h
  constructor
  · rw [Nat.add_comm, Nat.add_mul_div_right _ _ (by omega), Nat.div_eq_of_lt hx, Nat.zero_add]
  · rw [Nat.add_comm, Nat.add_mul_mod_self_right, Nat.mod_eq_of_lt hx]
set_option maxHeartbeats 8000000 in
theorem ratio_pp (b m n j X Y : Nat) (w : World) (hXe : m * 2 ^ j = X) (hYe : 1 * 10 ^ n = Y) (hm : m < 18446744073709551616) (hn : n ≤ 5000) (_hj5 : j ≤ 5000)
    (hP : ∀ w, Calls Tryz.prog 65 #[.int .u64 (b : Int)] w fun en w' => en = .returned (.tuple #[.int .u64 (m : Int), .int .i64 (j : Int)]) ∧ w' = w)
    (hb1 : X < Big) (hb2 : Y * 2 ^ 63 < Big) (hb3 : m * 2 ^ j < Big) (hb4 : 1 * 2 ^ j < Big) (hb5 : Y < Big) (hX : X < 2 ^ 63 * Y) :
    Calls Tryz.prog 59 #[.int .u64 (b : Int), .int .i64 (n : Int)] w fun en w' => en = .returned (.tuple #[.int .u64 ((X / Y : Nat) : Int), .int .i64 (cmp3 (X % Y * 2) Y)]) ∧ Only (fun _ => False) w w' := by
  have HXE := Lib.hid hXe; have HYE := Lib.hid hYe; clear hXe hYe
  have HP := Lib.hid hP; have HB1 := Lib.hid hb1; have HB2 := Lib.hid hb2; have HB3 := Lib.hid hb3; have HB4 := Lib.hid hb4; have HB5 := Lib.hid hb5; have HX := Lib.hid hX
  clear hP hb1 hb2 hb3 hb4 hb5 hX
  go_enter Tryz.func59, Tryz.ntmps59
  go_wp2_with fail
  refine (HP.out _).mono ?_; rintro en w1 ⟨rfl, hw⟩; rw [hw]; clear hw w1
  go_wp2_with fail
  refine (of_calls m _ hm).mono ?_; rintro en w1 ⟨v1, rfl, hv1, ho1⟩; have HN1 := Lib.hid hv1; have HO1 := Lib.hid ho1; clear hv1 ho1
  go_wp2_with fail
  refine (of_calls 1 _ (by decide)).mono ?_; rintro en w2 ⟨v2, rfl, hv2, ho2⟩; have HY2 := Lib.hid hv2; have HX2 := Lib.hid (HN1.out.still ho2); have HO2 := Lib.hid (HO1.out.trans ho2); clear hv2 ho2 HN1 HO1
  go_wp2_with fail
  refine (shift_calls _ _ j _ HX2.out HB3.out).mono ?_; rintro en w3 ⟨v3, rfl, hv3, ho3⟩; have HX3 := Lib.hid hv3; have HY3 := Lib.hid (HY2.out.still ho3); have HO3 := Lib.hid (HO2.out.trans ho3); clear hv3 ho3 HX2 HY2 HO2
  go_wp2_with fail
  refine (tens_calls _ _ n _ HY3.out (HYE.out.symm ▸ HB5.out) (by omega)).mono ?_; rintro en w4 ⟨v4, rfl, hv4, ho4⟩; have HY4 := Lib.hid hv4; have HX4 := Lib.hid (HX3.out.still ho4); have HO4 := Lib.hid (HO3.out.trans ho4); clear hv4 ho4 HX3 HY3 HO3
  clear HB3 HB4 HP
  rw [HXE.out] at HX4; rw [HYE.out] at HY4
  go_wp2_with fail
  go_loopw [8, 10, 11] (fun v8 v10 v11 wr => RtR w4 X Y v8 v10 v11 wr) (fun _ _ v11 _ => (intOf v11 + 1).toNat)
  case atStart => exact ⟨63, X, 0, rfl, rfl, Nat.le_refl _, by decide, Nat.dvd_zero _, HX4.out, HX.out, by omega, Only.refl _ _⟩
  case round =>
    obtain ⟨j, x, q, rfl, rfl, hj, hq, hd, hN, hx, he, hO⟩ := hrel
    have HN := Lib.hid hN; have HO := Lib.hid hO; have HD := Lib.hid hd; have HXX := Lib.hid hx; have HE := Lib.hid he
    clear hN hO hd hx he
    by_cases h0 : j = 0
    · subst h0
      have hr := rt_end HE.out HXX.out
      have HR := Lib.hid hr; clear hr
      go_wp2_with fail
      refine (times_calls _ x 2 _ HN.out (by decide) (Nat.lt_of_le_of_lt (by rw [HE.out]; exact Nat.le_add_left _ _) HB1.out)).mono ?_; rintro en w5 ⟨v5, rfl, hv5, ho5⟩; have HX5 := Lib.hid hv5; have HY5 := Lib.hid ((HY4.out.still HO.out).still ho5); have HO5 := Lib.hid ((HO4.out.trans HO.out).trans ho5); clear hv5 ho5
      go_wp2_with fail
      refine (cmpn_calls _ _ _ _ _ HX5.out HY5.out).mono ?_; rintro en w6 ⟨rfl, hs6⟩; have HS6 := Lib.hid hs6; clear hs6
      go_wp2_with fail
      go_ret2
      rw [HR.out.1, HR.out.2]
      exact ⟨rfl, HO5.out.trans (HS6.out.only _)⟩
    · obtain ⟨i, rfl⟩ : ∃ i, j = i + 1 := ⟨j - 1, by omega⟩
      have ej : (((i + 1 : Nat) : Int) - 1) = (i : Int) := by omega
      rw [ej]
      have hYB : Y * 2 ^ i < Big := by
        refine Nat.lt_of_le_of_lt (Nat.mul_le_mul_left _ (Nat.pow_le_pow_right (by decide) ?_)) HB2.out
        omega
      obtain ⟨P, hPP⟩ : ∃ P, P = 2 ^ i := ⟨_, rfl⟩
      have hPb : P < 9223372036854775808 := by
        rw [hPP, show (9223372036854775808 : Nat) = 2 ^ 63 by decide]
        exact Nat.pow_lt_pow_right (by decide) (by omega)
      have e1 : IntKind.u64.wrap ((2 : Int) ^ i) = (P : Int) := by
        have : ((2 : Int) ^ i) = ((2 ^ i : Nat) : Int) := by rw [Int.natCast_pow]; rfl
        rw [this, ← hPP]; exact wrap_u64 (by omega) (by omega)
      have e2 : bits BinOp.or IntKind.u64 (q : Int) (P : Int) = ((q + P : Nat) : Int) := by
        rw [u64_or_nat q P (by omega) (by omega), hPP, or_pow HD.out]
      have HP2 := Lib.hid hPP; have HYB := Lib.hid hYB; clear hPP hYB
      go_wp2_with fail
      refine (shift_calls _ _ i _ (HY4.out.still HO.out) HYB.out).mono ?_; rintro en w5 ⟨v5, rfl, hv5, ho5⟩; have HT5 := Lib.hid hv5; have HX5 := Lib.hid (HN.out.still ho5); have HO5 := Lib.hid (HO.out.trans ho5); clear hv5 ho5
      go_wp2_with fail
      refine (cmpn_calls _ _ _ _ _ HX5.out HT5.out).mono ?_; rintro en w6 ⟨rfl, hs6⟩; have HS6 := Lib.hid hs6; clear hs6
      rcases Nat.lt_or_ge x (Y * 2 ^ i) with hlt | hge
      · have hc := cmp3_lt hlt
        have hr := rt_no hlt HD.out
        have HR := Lib.hid hr; clear hr hlt
        generalize cmp3 x (Y * 2 ^ i) = C at *
        have tC : decide (0 ≤ C) = false := decide_eq_false (by omega)
        go_wp2_with fail
        have O6 := HS6.out.only (fun _ => False)
        refine ⟨⟨i, x, q, rfl, rfl, by omega, hq, HR.out.2, HX5.out.still O6, HR.out.1, HE.out, HO5.out.trans O6⟩, by simp only [intOf]; omega⟩
      · have hc := cmp3_ge hge
        have hr := rt_yes HE.out HXX.out hge HD.out HX.out
        have HG := Lib.hid hge; have HR := Lib.hid hr; clear hr hge
        generalize cmp3 x (Y * 2 ^ i) = C at *
        have tC : decide (0 ≤ C) = true := decide_eq_true (by omega)
        have O6 := HS6.out.only (fun _ => False)
        go_wp2_with fail
        refine (less_calls _ _ _ _ _ (HX5.out.still O6) (HT5.out.still O6) HG.out (Nat.lt_of_le_of_lt (by rw [HE.out]; exact Nat.le_add_left _ _) HB1.out)).mono ?_; rintro en w7 ⟨v7, rfl, hv7, ho7⟩; have HX7 := Lib.hid hv7; have HO7 := Lib.hid ((HO5.out.trans O6).trans ho7); clear hv7 ho7
        go_wp2_with fail
        rw [HP2.out]
        exact ⟨⟨i, _, q + 2 ^ i, rfl, rfl, by omega, HR.out.2.2.2, HR.out.2.2.1, HX7.out, HR.out.2.1, HR.out.1, HO7.out⟩, by simp only [intOf]; omega⟩
set_option maxHeartbeats 8000000 in
theorem ratio_pn (b m n j X Y : Nat) (w : World) (hXe : m * 2 ^ j * 10 ^ n = X) (hYe : 1 = Y) (hm : m < 18446744073709551616) (hn : n ≤ 5000) (_hj5 : j ≤ 5000) (h1n : 1 ≤ n)
    (hP : ∀ w, Calls Tryz.prog 65 #[.int .u64 (b : Int)] w fun en w' => en = .returned (.tuple #[.int .u64 (m : Int), .int .i64 (j : Int)]) ∧ w' = w)
    (hb1 : X < Big) (hb2 : Y * 2 ^ 63 < Big) (hb3 : m * 2 ^ j < Big) (hb4 : 1 * 2 ^ j < Big) (hb5 : Y < Big) (hX : X < 2 ^ 63 * Y) :
    Calls Tryz.prog 59 #[.int .u64 (b : Int), .int .i64 (-(n : Int))] w fun en w' => en = .returned (.tuple #[.int .u64 ((X / Y : Nat) : Int), .int .i64 (cmp3 (X % Y * 2) Y)]) ∧ Only (fun _ => False) w w' := by
  have HXE := Lib.hid hXe; have HYE := Lib.hid hYe; clear hXe hYe
  have HP := Lib.hid hP; have HB1 := Lib.hid hb1; have HB2 := Lib.hid hb2; have HB3 := Lib.hid hb3; have HB4 := Lib.hid hb4; have HB5 := Lib.hid hb5; have HX := Lib.hid hX
  clear hP hb1 hb2 hb3 hb4 hb5 hX
  go_enter Tryz.func59, Tryz.ntmps59
  go_wp2_with fail
  refine (HP.out _).mono ?_; rintro en w1 ⟨rfl, hw⟩; rw [hw]; clear hw w1
  go_wp2_with fail
  refine (of_calls m _ hm).mono ?_; rintro en w1 ⟨v1, rfl, hv1, ho1⟩; have HN1 := Lib.hid hv1; have HO1 := Lib.hid ho1; clear hv1 ho1
  go_wp2_with fail
  refine (of_calls 1 _ (by decide)).mono ?_; rintro en w2 ⟨v2, rfl, hv2, ho2⟩; have HY2 := Lib.hid hv2; have HX2 := Lib.hid (HN1.out.still ho2); have HO2 := Lib.hid (HO1.out.trans ho2); clear hv2 ho2 HN1 HO1
  go_wp2_with fail
  refine (shift_calls _ _ j _ HX2.out HB3.out).mono ?_; rintro en w3 ⟨v3, rfl, hv3, ho3⟩; have HX3 := Lib.hid hv3; have HY3 := Lib.hid (HY2.out.still ho3); have HO3 := Lib.hid (HO2.out.trans ho3); clear hv3 ho3 HX2 HY2 HO2
  go_wp2_with fail
  refine (tens_calls _ _ n _ HX3.out (HXE.out.symm ▸ HB1.out) (by omega)).mono ?_; rintro en w4 ⟨v4, rfl, hv4, ho4⟩; have HX4 := Lib.hid hv4; have HY4 := Lib.hid (HY3.out.still ho4); have HO4 := Lib.hid (HO3.out.trans ho4); clear hv4 ho4 HX3 HY3 HO3
  clear HB3 HB4 HP
  rw [HXE.out] at HX4; rw [HYE.out] at HY4
  go_wp2_with fail
  go_loopw [8, 10, 11] (fun v8 v10 v11 wr => RtR w4 X Y v8 v10 v11 wr) (fun _ _ v11 _ => (intOf v11 + 1).toNat)
  case atStart => exact ⟨63, X, 0, rfl, rfl, Nat.le_refl _, by decide, Nat.dvd_zero _, HX4.out, HX.out, by omega, Only.refl _ _⟩
  case round =>
    obtain ⟨j, x, q, rfl, rfl, hj, hq, hd, hN, hx, he, hO⟩ := hrel
    have HN := Lib.hid hN; have HO := Lib.hid hO; have HD := Lib.hid hd; have HXX := Lib.hid hx; have HE := Lib.hid he
    clear hN hO hd hx he
    by_cases h0 : j = 0
    · subst h0
      have hr := rt_end HE.out HXX.out
      have HR := Lib.hid hr; clear hr
      go_wp2_with fail
      refine (times_calls _ x 2 _ HN.out (by decide) (Nat.lt_of_le_of_lt (by rw [HE.out]; exact Nat.le_add_left _ _) HB1.out)).mono ?_; rintro en w5 ⟨v5, rfl, hv5, ho5⟩; have HX5 := Lib.hid hv5; have HY5 := Lib.hid ((HY4.out.still HO.out).still ho5); have HO5 := Lib.hid ((HO4.out.trans HO.out).trans ho5); clear hv5 ho5
      go_wp2_with fail
      refine (cmpn_calls _ _ _ _ _ HX5.out HY5.out).mono ?_; rintro en w6 ⟨rfl, hs6⟩; have HS6 := Lib.hid hs6; clear hs6
      go_wp2_with fail
      go_ret2
      rw [HR.out.1, HR.out.2]
      exact ⟨rfl, HO5.out.trans (HS6.out.only _)⟩
    · obtain ⟨i, rfl⟩ : ∃ i, j = i + 1 := ⟨j - 1, by omega⟩
      have ej : (((i + 1 : Nat) : Int) - 1) = (i : Int) := by omega
      rw [ej]
      have hYB : Y * 2 ^ i < Big := by
        refine Nat.lt_of_le_of_lt (Nat.mul_le_mul_left _ (Nat.pow_le_pow_right (by decide) ?_)) HB2.out
        omega
      obtain ⟨P, hPP⟩ : ∃ P, P = 2 ^ i := ⟨_, rfl⟩
      have hPb : P < 9223372036854775808 := by
        rw [hPP, show (9223372036854775808 : Nat) = 2 ^ 63 by decide]
        exact Nat.pow_lt_pow_right (by decide) (by omega)
      have e1 : IntKind.u64.wrap ((2 : Int) ^ i) = (P : Int) := by
        have : ((2 : Int) ^ i) = ((2 ^ i : Nat) : Int) := by rw [Int.natCast_pow]; rfl
        rw [this, ← hPP]; exact wrap_u64 (by omega) (by omega)
      have e2 : bits BinOp.or IntKind.u64 (q : Int) (P : Int) = ((q + P : Nat) : Int) := by
        rw [u64_or_nat q P (by omega) (by omega), hPP, or_pow HD.out]
      have HP2 := Lib.hid hPP; have HYB := Lib.hid hYB; clear hPP hYB
      go_wp2_with fail
      refine (shift_calls _ _ i _ (HY4.out.still HO.out) HYB.out).mono ?_; rintro en w5 ⟨v5, rfl, hv5, ho5⟩; have HT5 := Lib.hid hv5; have HX5 := Lib.hid (HN.out.still ho5); have HO5 := Lib.hid (HO.out.trans ho5); clear hv5 ho5
      go_wp2_with fail
      refine (cmpn_calls _ _ _ _ _ HX5.out HT5.out).mono ?_; rintro en w6 ⟨rfl, hs6⟩; have HS6 := Lib.hid hs6; clear hs6
      rcases Nat.lt_or_ge x (Y * 2 ^ i) with hlt | hge
      · have hc := cmp3_lt hlt
        have hr := rt_no hlt HD.out
        have HR := Lib.hid hr; clear hr hlt
        generalize cmp3 x (Y * 2 ^ i) = C at *
        have tC : decide (0 ≤ C) = false := decide_eq_false (by omega)
        go_wp2_with fail
        have O6 := HS6.out.only (fun _ => False)
        refine ⟨⟨i, x, q, rfl, rfl, by omega, hq, HR.out.2, HX5.out.still O6, HR.out.1, HE.out, HO5.out.trans O6⟩, by simp only [intOf]; omega⟩
      · have hc := cmp3_ge hge
        have hr := rt_yes HE.out HXX.out hge HD.out HX.out
        have HG := Lib.hid hge; have HR := Lib.hid hr; clear hr hge
        generalize cmp3 x (Y * 2 ^ i) = C at *
        have tC : decide (0 ≤ C) = true := decide_eq_true (by omega)
        have O6 := HS6.out.only (fun _ => False)
        go_wp2_with fail
        refine (less_calls _ _ _ _ _ (HX5.out.still O6) (HT5.out.still O6) HG.out (Nat.lt_of_le_of_lt (by rw [HE.out]; exact Nat.le_add_left _ _) HB1.out)).mono ?_; rintro en w7 ⟨v7, rfl, hv7, ho7⟩; have HX7 := Lib.hid hv7; have HO7 := Lib.hid ((HO5.out.trans O6).trans ho7); clear hv7 ho7
        go_wp2_with fail
        rw [HP2.out]
        exact ⟨⟨i, _, q + 2 ^ i, rfl, rfl, by omega, HR.out.2.2.2, HR.out.2.2.1, HX7.out, HR.out.2.1, HR.out.1, HO7.out⟩, by simp only [intOf]; omega⟩
set_option maxHeartbeats 8000000 in
theorem ratio_np (b m n j X Y : Nat) (w : World) (hXe : m = X) (hYe : 1 * 2 ^ j * 10 ^ n = Y) (hm : m < 18446744073709551616) (hn : n ≤ 5000) (_hj5 : j ≤ 5000) (h1j : 1 ≤ j)
    (hP : ∀ w, Calls Tryz.prog 65 #[.int .u64 (b : Int)] w fun en w' => en = .returned (.tuple #[.int .u64 (m : Int), .int .i64 (-(j : Int))]) ∧ w' = w)
    (hb1 : X < Big) (hb2 : Y * 2 ^ 63 < Big) (hb3 : m * 2 ^ j < Big) (hb4 : 1 * 2 ^ j < Big) (hb5 : Y < Big) (hX : X < 2 ^ 63 * Y) :
    Calls Tryz.prog 59 #[.int .u64 (b : Int), .int .i64 (n : Int)] w fun en w' => en = .returned (.tuple #[.int .u64 ((X / Y : Nat) : Int), .int .i64 (cmp3 (X % Y * 2) Y)]) ∧ Only (fun _ => False) w w' := by
  have HXE := Lib.hid hXe; have HYE := Lib.hid hYe; clear hXe hYe
  have HP := Lib.hid hP; have HB1 := Lib.hid hb1; have HB2 := Lib.hid hb2; have HB3 := Lib.hid hb3; have HB4 := Lib.hid hb4; have HB5 := Lib.hid hb5; have HX := Lib.hid hX
  clear hP hb1 hb2 hb3 hb4 hb5 hX
  go_enter Tryz.func59, Tryz.ntmps59
  go_wp2_with fail
  refine (HP.out _).mono ?_; rintro en w1 ⟨rfl, hw⟩; rw [hw]; clear hw w1
  go_wp2_with fail
  refine (of_calls m _ hm).mono ?_; rintro en w1 ⟨v1, rfl, hv1, ho1⟩; have HN1 := Lib.hid hv1; have HO1 := Lib.hid ho1; clear hv1 ho1
  go_wp2_with fail
  refine (of_calls 1 _ (by decide)).mono ?_; rintro en w2 ⟨v2, rfl, hv2, ho2⟩; have HY2 := Lib.hid hv2; have HX2 := Lib.hid (HN1.out.still ho2); have HO2 := Lib.hid (HO1.out.trans ho2); clear hv2 ho2 HN1 HO1
  go_wp2_with fail
  refine (shift_calls _ _ j _ HY2.out HB4.out).mono ?_; rintro en w3 ⟨v3, rfl, hv3, ho3⟩; have HY3 := Lib.hid hv3; have HX3 := Lib.hid (HX2.out.still ho3); have HO3 := Lib.hid (HO2.out.trans ho3); clear hv3 ho3 HX2 HY2 HO2
  go_wp2_with fail
  refine (tens_calls _ _ n _ HY3.out (HYE.out.symm ▸ HB5.out) (by omega)).mono ?_; rintro en w4 ⟨v4, rfl, hv4, ho4⟩; have HY4 := Lib.hid hv4; have HX4 := Lib.hid (HX3.out.still ho4); have HO4 := Lib.hid (HO3.out.trans ho4); clear hv4 ho4 HX3 HY3 HO3
  clear HB3 HB4 HP
  rw [HXE.out] at HX4; rw [HYE.out] at HY4
  go_wp2_with fail
  go_loopw [8, 10, 11] (fun v8 v10 v11 wr => RtR w4 X Y v8 v10 v11 wr) (fun _ _ v11 _ => (intOf v11 + 1).toNat)
  case atStart => exact ⟨63, X, 0, rfl, rfl, Nat.le_refl _, by decide, Nat.dvd_zero _, HX4.out, HX.out, by omega, Only.refl _ _⟩
  case round =>
    obtain ⟨j, x, q, rfl, rfl, hj, hq, hd, hN, hx, he, hO⟩ := hrel
    have HN := Lib.hid hN; have HO := Lib.hid hO; have HD := Lib.hid hd; have HXX := Lib.hid hx; have HE := Lib.hid he
    clear hN hO hd hx he
    by_cases h0 : j = 0
    · subst h0
      have hr := rt_end HE.out HXX.out
      have HR := Lib.hid hr; clear hr
      go_wp2_with fail
      refine (times_calls _ x 2 _ HN.out (by decide) (Nat.lt_of_le_of_lt (by rw [HE.out]; exact Nat.le_add_left _ _) HB1.out)).mono ?_; rintro en w5 ⟨v5, rfl, hv5, ho5⟩; have HX5 := Lib.hid hv5; have HY5 := Lib.hid ((HY4.out.still HO.out).still ho5); have HO5 := Lib.hid ((HO4.out.trans HO.out).trans ho5); clear hv5 ho5
      go_wp2_with fail
      refine (cmpn_calls _ _ _ _ _ HX5.out HY5.out).mono ?_; rintro en w6 ⟨rfl, hs6⟩; have HS6 := Lib.hid hs6; clear hs6
      go_wp2_with fail
      go_ret2
      rw [HR.out.1, HR.out.2]
      exact ⟨rfl, HO5.out.trans (HS6.out.only _)⟩
    · obtain ⟨i, rfl⟩ : ∃ i, j = i + 1 := ⟨j - 1, by omega⟩
      have ej : (((i + 1 : Nat) : Int) - 1) = (i : Int) := by omega
      rw [ej]
      have hYB : Y * 2 ^ i < Big := by
        refine Nat.lt_of_le_of_lt (Nat.mul_le_mul_left _ (Nat.pow_le_pow_right (by decide) ?_)) HB2.out
        omega
      obtain ⟨P, hPP⟩ : ∃ P, P = 2 ^ i := ⟨_, rfl⟩
      have hPb : P < 9223372036854775808 := by
        rw [hPP, show (9223372036854775808 : Nat) = 2 ^ 63 by decide]
        exact Nat.pow_lt_pow_right (by decide) (by omega)
      have e1 : IntKind.u64.wrap ((2 : Int) ^ i) = (P : Int) := by
        have : ((2 : Int) ^ i) = ((2 ^ i : Nat) : Int) := by rw [Int.natCast_pow]; rfl
        rw [this, ← hPP]; exact wrap_u64 (by omega) (by omega)
      have e2 : bits BinOp.or IntKind.u64 (q : Int) (P : Int) = ((q + P : Nat) : Int) := by
        rw [u64_or_nat q P (by omega) (by omega), hPP, or_pow HD.out]
      have HP2 := Lib.hid hPP; have HYB := Lib.hid hYB; clear hPP hYB
      go_wp2_with fail
      refine (shift_calls _ _ i _ (HY4.out.still HO.out) HYB.out).mono ?_; rintro en w5 ⟨v5, rfl, hv5, ho5⟩; have HT5 := Lib.hid hv5; have HX5 := Lib.hid (HN.out.still ho5); have HO5 := Lib.hid (HO.out.trans ho5); clear hv5 ho5
      go_wp2_with fail
      refine (cmpn_calls _ _ _ _ _ HX5.out HT5.out).mono ?_; rintro en w6 ⟨rfl, hs6⟩; have HS6 := Lib.hid hs6; clear hs6
      rcases Nat.lt_or_ge x (Y * 2 ^ i) with hlt | hge
      · have hc := cmp3_lt hlt
        have hr := rt_no hlt HD.out
        have HR := Lib.hid hr; clear hr hlt
        generalize cmp3 x (Y * 2 ^ i) = C at *
        have tC : decide (0 ≤ C) = false := decide_eq_false (by omega)
        go_wp2_with fail
        have O6 := HS6.out.only (fun _ => False)
        refine ⟨⟨i, x, q, rfl, rfl, by omega, hq, HR.out.2, HX5.out.still O6, HR.out.1, HE.out, HO5.out.trans O6⟩, by simp only [intOf]; omega⟩
      · have hc := cmp3_ge hge
        have hr := rt_yes HE.out HXX.out hge HD.out HX.out
        have HG := Lib.hid hge; have HR := Lib.hid hr; clear hr hge
        generalize cmp3 x (Y * 2 ^ i) = C at *
        have tC : decide (0 ≤ C) = true := decide_eq_true (by omega)
        have O6 := HS6.out.only (fun _ => False)
        go_wp2_with fail
        refine (less_calls _ _ _ _ _ (HX5.out.still O6) (HT5.out.still O6) HG.out (Nat.lt_of_le_of_lt (by rw [HE.out]; exact Nat.le_add_left _ _) HB1.out)).mono ?_; rintro en w7 ⟨v7, rfl, hv7, ho7⟩; have HX7 := Lib.hid hv7; have HO7 := Lib.hid ((HO5.out.trans O6).trans ho7); clear hv7 ho7
        go_wp2_with fail
        rw [HP2.out]
        exact ⟨⟨i, _, q + 2 ^ i, rfl, rfl, by omega, HR.out.2.2.2, HR.out.2.2.1, HX7.out, HR.out.2.1, HR.out.1, HO7.out⟩, by simp only [intOf]; omega⟩
set_option maxHeartbeats 8000000 in
theorem ratio_nn (b m n j X Y : Nat) (w : World) (hXe : m * 10 ^ n = X) (hYe : 1 * 2 ^ j = Y) (hm : m < 18446744073709551616) (hn : n ≤ 5000) (_hj5 : j ≤ 5000) (h1j : 1 ≤ j) (h1n : 1 ≤ n)
    (hP : ∀ w, Calls Tryz.prog 65 #[.int .u64 (b : Int)] w fun en w' => en = .returned (.tuple #[.int .u64 (m : Int), .int .i64 (-(j : Int))]) ∧ w' = w)
    (hb1 : X < Big) (hb2 : Y * 2 ^ 63 < Big) (hb3 : m * 2 ^ j < Big) (hb4 : 1 * 2 ^ j < Big) (hb5 : Y < Big) (hX : X < 2 ^ 63 * Y) :
    Calls Tryz.prog 59 #[.int .u64 (b : Int), .int .i64 (-(n : Int))] w fun en w' => en = .returned (.tuple #[.int .u64 ((X / Y : Nat) : Int), .int .i64 (cmp3 (X % Y * 2) Y)]) ∧ Only (fun _ => False) w w' := by
  have HXE := Lib.hid hXe; have HYE := Lib.hid hYe; clear hXe hYe
  have HP := Lib.hid hP; have HB1 := Lib.hid hb1; have HB2 := Lib.hid hb2; have HB3 := Lib.hid hb3; have HB4 := Lib.hid hb4; have HB5 := Lib.hid hb5; have HX := Lib.hid hX
  clear hP hb1 hb2 hb3 hb4 hb5 hX
  go_enter Tryz.func59, Tryz.ntmps59
  go_wp2_with fail
  refine (HP.out _).mono ?_; rintro en w1 ⟨rfl, hw⟩; rw [hw]; clear hw w1
  go_wp2_with fail
  refine (of_calls m _ hm).mono ?_; rintro en w1 ⟨v1, rfl, hv1, ho1⟩; have HN1 := Lib.hid hv1; have HO1 := Lib.hid ho1; clear hv1 ho1
  go_wp2_with fail
  refine (of_calls 1 _ (by decide)).mono ?_; rintro en w2 ⟨v2, rfl, hv2, ho2⟩; have HY2 := Lib.hid hv2; have HX2 := Lib.hid (HN1.out.still ho2); have HO2 := Lib.hid (HO1.out.trans ho2); clear hv2 ho2 HN1 HO1
  go_wp2_with fail
  refine (shift_calls _ _ j _ HY2.out HB4.out).mono ?_; rintro en w3 ⟨v3, rfl, hv3, ho3⟩; have HY3 := Lib.hid hv3; have HX3 := Lib.hid (HX2.out.still ho3); have HO3 := Lib.hid (HO2.out.trans ho3); clear hv3 ho3 HX2 HY2 HO2
  go_wp2_with fail
  refine (tens_calls _ _ n _ HX3.out (HXE.out.symm ▸ HB1.out) (by omega)).mono ?_; rintro en w4 ⟨v4, rfl, hv4, ho4⟩; have HX4 := Lib.hid hv4; have HY4 := Lib.hid (HY3.out.still ho4); have HO4 := Lib.hid (HO3.out.trans ho4); clear hv4 ho4 HX3 HY3 HO3
  clear HB3 HB4 HP
  rw [HXE.out] at HX4; rw [HYE.out] at HY4
  go_wp2_with fail
  go_loopw [8, 10, 11] (fun v8 v10 v11 wr => RtR w4 X Y v8 v10 v11 wr) (fun _ _ v11 _ => (intOf v11 + 1).toNat)
  case atStart => exact ⟨63, X, 0, rfl, rfl, Nat.le_refl _, by decide, Nat.dvd_zero _, HX4.out, HX.out, by omega, Only.refl _ _⟩
  case round =>
    obtain ⟨j, x, q, rfl, rfl, hj, hq, hd, hN, hx, he, hO⟩ := hrel
    have HN := Lib.hid hN; have HO := Lib.hid hO; have HD := Lib.hid hd; have HXX := Lib.hid hx; have HE := Lib.hid he
    clear hN hO hd hx he
    by_cases h0 : j = 0
    · subst h0
      have hr := rt_end HE.out HXX.out
      have HR := Lib.hid hr; clear hr
      go_wp2_with fail
      refine (times_calls _ x 2 _ HN.out (by decide) (Nat.lt_of_le_of_lt (by rw [HE.out]; exact Nat.le_add_left _ _) HB1.out)).mono ?_; rintro en w5 ⟨v5, rfl, hv5, ho5⟩; have HX5 := Lib.hid hv5; have HY5 := Lib.hid ((HY4.out.still HO.out).still ho5); have HO5 := Lib.hid ((HO4.out.trans HO.out).trans ho5); clear hv5 ho5
      go_wp2_with fail
      refine (cmpn_calls _ _ _ _ _ HX5.out HY5.out).mono ?_; rintro en w6 ⟨rfl, hs6⟩; have HS6 := Lib.hid hs6; clear hs6
      go_wp2_with fail
      go_ret2
      rw [HR.out.1, HR.out.2]
      exact ⟨rfl, HO5.out.trans (HS6.out.only _)⟩
    · obtain ⟨i, rfl⟩ : ∃ i, j = i + 1 := ⟨j - 1, by omega⟩
      have ej : (((i + 1 : Nat) : Int) - 1) = (i : Int) := by omega
      rw [ej]
      have hYB : Y * 2 ^ i < Big := by
        refine Nat.lt_of_le_of_lt (Nat.mul_le_mul_left _ (Nat.pow_le_pow_right (by decide) ?_)) HB2.out
        omega
      obtain ⟨P, hPP⟩ : ∃ P, P = 2 ^ i := ⟨_, rfl⟩
      have hPb : P < 9223372036854775808 := by
        rw [hPP, show (9223372036854775808 : Nat) = 2 ^ 63 by decide]
        exact Nat.pow_lt_pow_right (by decide) (by omega)
      have e1 : IntKind.u64.wrap ((2 : Int) ^ i) = (P : Int) := by
        have : ((2 : Int) ^ i) = ((2 ^ i : Nat) : Int) := by rw [Int.natCast_pow]; rfl
        rw [this, ← hPP]; exact wrap_u64 (by omega) (by omega)
      have e2 : bits BinOp.or IntKind.u64 (q : Int) (P : Int) = ((q + P : Nat) : Int) := by
        rw [u64_or_nat q P (by omega) (by omega), hPP, or_pow HD.out]
      have HP2 := Lib.hid hPP; have HYB := Lib.hid hYB; clear hPP hYB
      go_wp2_with fail
      refine (shift_calls _ _ i _ (HY4.out.still HO.out) HYB.out).mono ?_; rintro en w5 ⟨v5, rfl, hv5, ho5⟩; have HT5 := Lib.hid hv5; have HX5 := Lib.hid (HN.out.still ho5); have HO5 := Lib.hid (HO.out.trans ho5); clear hv5 ho5
      go_wp2_with fail
      refine (cmpn_calls _ _ _ _ _ HX5.out HT5.out).mono ?_; rintro en w6 ⟨rfl, hs6⟩; have HS6 := Lib.hid hs6; clear hs6
      rcases Nat.lt_or_ge x (Y * 2 ^ i) with hlt | hge
      · have hc := cmp3_lt hlt
        have hr := rt_no hlt HD.out
        have HR := Lib.hid hr; clear hr hlt
        generalize cmp3 x (Y * 2 ^ i) = C at *
        have tC : decide (0 ≤ C) = false := decide_eq_false (by omega)
        go_wp2_with fail
        have O6 := HS6.out.only (fun _ => False)
        refine ⟨⟨i, x, q, rfl, rfl, by omega, hq, HR.out.2, HX5.out.still O6, HR.out.1, HE.out, HO5.out.trans O6⟩, by simp only [intOf]; omega⟩
      · have hc := cmp3_ge hge
        have hr := rt_yes HE.out HXX.out hge HD.out HX.out
        have HG := Lib.hid hge; have HR := Lib.hid hr; clear hr hge
        generalize cmp3 x (Y * 2 ^ i) = C at *
        have tC : decide (0 ≤ C) = true := decide_eq_true (by omega)
        have O6 := HS6.out.only (fun _ => False)
        go_wp2_with fail
        refine (less_calls _ _ _ _ _ (HX5.out.still O6) (HT5.out.still O6) HG.out (Nat.lt_of_le_of_lt (by rw [HE.out]; exact Nat.le_add_left _ _) HB1.out)).mono ?_; rintro en w7 ⟨v7, rfl, hv7, ho7⟩; have HX7 := Lib.hid hv7; have HO7 := Lib.hid ((HO5.out.trans O6).trans ho7); clear hv7 ho7
        go_wp2_with fail
        rw [HP2.out]
        exact ⟨⟨i, _, q + 2 ^ i, rfl, rfl, by omega, HR.out.2.2.2, HR.out.2.2.1, HX7.out, HR.out.2.1, HR.out.1, HO7.out⟩, by simp only [intOf]; omega⟩
def xV (b : Nat) (s : Int) : Nat := mantB b * 2 ^ ((exB b : Int) - 1075).toNat * 10 ^ (-s).toNat
def yV (b : Nat) (s : Int) : Nat := 2 ^ (1075 - (exB b : Int)).toNat * 10 ^ s.toNat
theorem nat_or_neg (s : Int) : (∃ n : Nat, s = (n : Int)) ∨ ∃ n : Nat, 1 ≤ n ∧ s = -(n : Int) := by
  rcases Int.lt_or_le s 0 with h | h
  · exact .inr ⟨(-s).toNat, by omega, by omega⟩
  · exact .inl ⟨s.toNat, by omega⟩
theorem ratio_calls (b : Nat) (s : Int) (w : World) (h0 : 1 ≤ b) (hb : b < 9218868437227405312) (hs : -5000 ≤ s ∧ s ≤ 5000) (hX : xV b s < 2 ^ 63 * yV b s) :
    Calls Tryz.prog 59 #[.int .u64 (b : Int), .int .i64 s] w fun en w' => en = .returned (.tuple #[.int .u64 ((xV b s / yV b s : Nat) : Int), .int .i64 (cmp3 (xV b s % yV b s * 2) (yV b s))]) ∧ Only (fun _ => False) w w' := by
  have H := parts b h0 hb
  have hm : mantB b < 18446744073709551616 := by have := H.m2; omega
  have he1 := H.e1; have he2 := H.e2
  have hP := fun w => parts_calls b w hb
  have B2 := fun (x : Nat) (hx : x < 18446744073709551616) (n : Nat) (hn : n ≤ 10000) (j : Nat) (hj : j ≤ 10000) => (small_Big (c := x) (n := n) (k := j) hx hn hj)
  have B1 := fun (x : Nat) (hx : x < 18446744073709551616) (j : Nat) (hj : j ≤ 10000) => (show x * 2 ^ j < Big by have := B2 x hx 0 (by omega) j hj; rwa [Nat.pow_zero, Nat.mul_one] at this)
  have b1 : xV b s < Big := by
    have := B2 (mantB b) hm (-s).toNat (by omega) ((exB b : Int) - 1075).toNat (by omega)
    rw [Nat.mul_right_comm] at this
    exact this
  have b2 : yV b s * 2 ^ 63 < Big := by
    have := B2 1 (by decide) s.toNat (by omega) ((1075 - (exB b : Int)).toNat + 63) (by omega)
    rw [Nat.one_mul, Nat.pow_add, ← Nat.mul_assoc, Nat.mul_comm (10 ^ s.toNat)] at this
    exact this
  have b5 : yV b s < Big := Nat.lt_of_le_of_lt (Nat.le_mul_of_pos_right _ (Nat.two_pow_pos _)) b2
  have hk : -5000 ≤ (exB b : Int) - 1075 ∧ (exB b : Int) - 1075 ≤ 5000 := by omega
  have xe : xV b s = mantB b * 2 ^ ((exB b : Int) - 1075).toNat * 10 ^ (-s).toNat := rfl
  have ye : yV b s = 2 ^ (-((exB b : Int) - 1075)).toNat * 10 ^ s.toNat := by rw [show -((exB b : Int) - 1075) = 1075 - (exB b : Int) by omega]; rfl
  generalize xV b s = X at *
  generalize yV b s = Y at *
  generalize (exB b : Int) - 1075 = k at *
  rcases nat_or_neg k with ⟨j, rfl⟩ | ⟨j, hj, rfl⟩
  · rw [show (-(j : Int)).toNat = 0 by omega, Nat.pow_zero] at ye
    rw [show ((j : Int)).toNat = j by omega] at xe
    rcases nat_or_neg s with ⟨n, rfl⟩ | ⟨n, hn, rfl⟩
    · rw [show (-(n : Int)).toNat = 0 by omega, Nat.pow_zero, Nat.mul_one] at xe
      rw [show ((n : Int)).toNat = n by omega] at ye
      exact ratio_pp b _ n j X Y w xe.symm ye.symm hm (by omega) (by omega) hP b1 b2 (B1 _ hm j (by omega)) (B1 1 (by decide) j (by omega)) b5 hX
    · rw [show (-(-(n : Int))).toNat = n by omega] at xe
      rw [show (-(n : Int)).toNat = 0 by omega, Nat.pow_zero, Nat.mul_one] at ye
      exact ratio_pn b _ n j X Y w xe.symm ye.symm hm (by omega) (by omega) hn hP b1 b2 (B1 _ hm j (by omega)) (B1 1 (by decide) j (by omega)) b5 hX
  · rw [show (-(-(j : Int))).toNat = j by omega] at ye
    rw [show (-(j : Int)).toNat = 0 by omega, Nat.pow_zero, Nat.mul_one] at xe
    rcases nat_or_neg s with ⟨n, rfl⟩ | ⟨n, hn, rfl⟩
    · rw [show (-(n : Int)).toNat = 0 by omega, Nat.pow_zero, Nat.mul_one] at xe
      rw [show ((n : Int)).toNat = n by omega] at ye
      exact ratio_np b _ n j X Y w xe.symm (by rw [Nat.one_mul]; exact ye.symm) hm (by omega) (by omega) hj hP b1 b2 (B1 _ hm j (by omega)) (B1 1 (by decide) j (by omega)) b5 hX
    · rw [show (-(-(n : Int))).toNat = n by omega] at xe
      rw [show (-(n : Int)).toNat = 0 by omega, Nat.pow_zero, Nat.mul_one] at ye
      exact ratio_nn b _ n j X Y w xe.symm (by rw [Nat.one_mul]; exact ye.symm) hm (by omega) (by omega) hj hn hP b1 b2 (B1 _ hm j (by omega)) (B1 1 (by decide) j (by omega)) b5 hX
end Go.Proofs.YthjfdhkahmlolaaGreatDoor
