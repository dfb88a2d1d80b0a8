/- The reference's parts of a float; how c 10^s and l 2^k stand. -/
import Derived.Test.YthjfdhkahmlolaaGreatDoorJQ36
import Derived.Test.YthjfdhkahmlolaaGreatDoorJQ17
namespace Go.Proofs.YthjfdhkahmlolaaGreatDoor
open Go.RowKit Usc
set_option maxRecDepth 100000
set_option maxHeartbeats 2000000 in
theorem parts_calls (b : Nat) (w : World) (hb : b < 9218868437227405312) :
    Calls Tryz.prog 65 #[.int .u64 (b : Int)] w fun en w' => en = .returned (.tuple #[.int .u64 ((mantB b : Nat) : Int), .int .i64 ((exB b : Int) - 1075)]) ∧ w' = w := by
  obtain ⟨E, hE⟩ : ∃ E, E = b / 4503599627370496 := ⟨_, rfl⟩
  obtain ⟨F, hF⟩ : ∃ F, F = b % 4503599627370496 := ⟨_, rfl⟩
  have a2 : bits BinOp.and IntKind.u64 (b : Int) 4503599627370495 = F := by rw [hF]; exact and_mask 52 b (by omega) (by decide)
  have a1 : (b : Int) / 4503599627370496 = (E : Int) := by omega
  by_cases h0 : E = 0
  · have em : mantB b = F := by unfold mantB; rw [if_pos (by omega), hF]
    have ee : exB b = 1 := by unfold exB; rw [if_pos (by omega)]
    subst h0
    rw [em, ee]
    replace a1 : (b : Int) / 4503599627370496 = 0 := a1
    clear hE hF em ee
    go_enter Tryz.func65, Tryz.ntmps65
    go_wp2_with fail
    go_ret2
    exact ⟨rfl, rfl⟩
  · have em : mantB b = F + 4503599627370496 := by unfold mantB; rw [if_neg (by omega), hF]
    have ee : exB b = E := by unfold exB; rw [if_neg (by omega), hE]
    have a3 := or_52 F (by omega)
    have e1 : ((E : Int) == 0) = false := by rw [beq_eq_false_iff_ne]; omega
    rw [em, ee]
    have hE2 : E ≤ 2046 := by omega
    clear hE hF em ee
    go_enter Tryz.func65, Tryz.ntmps65
    go_wp2_with fail
    go_ret2
    exact ⟨rfl, rfl⟩
/-- 10^n by its bits -/
theorem ten_two (n : Nat) : 10 ^ n ≤ 2 ^ (4 * n) := by
  rw [Nat.pow_mul]
  exact Nat.pow_le_pow_left (by decide) n
theorem small_Big {c n k : Nat} (hc : c < 18446744073709551616) (hn : n ≤ 10000) (hk : k ≤ 10000) : c * 10 ^ n * 2 ^ k < Big := by
  refine lt_Big (k := 64 + 4 * n + k) ?_ (by omega)
  rw [Nat.pow_add, Nat.pow_add]
  refine Nat.mul_lt_mul_of_pos_right ?_ (Nat.two_pow_pos _)
  refine Nat.lt_of_lt_of_le (Nat.mul_lt_mul_of_pos_right (show c < 2 ^ 64 by rw [show (2 : Nat) ^ 64 = 18446744073709551616 by decide]; exact hc) (Nat.pow_pos (by decide))) ?_
  exact Nat.mul_le_mul_left _ (ten_two n)
theorem NtPost.keep {a : Nat} {w : World} {e : Ending} {w' : World} (h : NtPost a w e w') : ∃ v, e = .returned v ∧ Nt w' v a ∧ Only (fun _ => False) w w' := h
/-- two numbers, then one of them turned -/
theorem Big_of_le {a b : Nat} (h : b < Big) (k : a ≤ b) : a < Big := Nat.lt_of_le_of_lt k h
set_option maxHeartbeats 4000000 in
theorem against_pp (c l n j : Nat) (w : World) (hc : c < 18446744073709551616) (hl : l < 18446744073709551616) (hn : n ≤ 5000) (_hj : j ≤ 5000)
    (hb1 : c * 10 ^ n * 2 ^ j < Big) (hb2 : l * 2 ^ j < Big) (hb3 : c * 10 ^ n < Big) (hb4 : l * 10 ^ n < Big) :
    Calls Tryz.prog 66 #[.int .u64 (c : Int), .int .i64 (n : Int), .int .u64 (l : Int), .int .i64 (j : Int)] w fun en w' =>
      en = .returned (.int .i64 (cmp3 (c * 10 ^ n) (l * 2 ^ j))) ∧ Only (fun _ => False) w w' := by
  have HB1 := Lib.hid hb1; have HB2 := Lib.hid hb2; have HB3 := Lib.hid hb3; have HB4 := Lib.hid hb4
  clear hb1 hb2 hb3 hb4
  go_enter Tryz.func66, Tryz.ntmps66
  go_wp2_with fail
  refine (of_calls c _ hc).mono ?_; rintro en w1 ⟨v1, rfl, hv1, ho1⟩; have HN1 := Lib.hid hv1; have HO1 := Lib.hid ho1; clear hv1 ho1
  go_wp2_with fail
  refine (of_calls l _ hl).mono ?_; rintro en w2 ⟨v2, rfl, hv2, ho2⟩; have HN2 := Lib.hid hv2; have HA2 := Lib.hid (HN1.out.still ho2); have HO2 := Lib.hid (HO1.out.trans ho2); clear hv2 ho2 HN1 HO1
  go_wp2_with fail
  refine (tens_calls _ c n _ HA2.out HB3.out (by omega)).mono ?_; rintro en w3 ⟨v3, rfl, hv3, ho3⟩; have HA3 := Lib.hid hv3; have HN3 := Lib.hid (HN2.out.still ho3); have HO3 := Lib.hid (HO2.out.trans ho3); clear hv3 ho3 HN2 HA2 HO2
  go_wp2_with fail
  refine (shift_calls _ _ j _ HN3.out HB2.out).mono ?_; rintro en w4 ⟨v4, rfl, hv4, ho4⟩; have HN4 := Lib.hid hv4; have HA4 := Lib.hid (HA3.out.still ho4); have HO4 := Lib.hid (HO3.out.trans ho4); clear hv4 ho4 HN3 HA3 HO3
  go_wp2_with fail
  refine (cmpn_calls _ _ _ _ _ HA4.out HN4.out).mono ?_; rintro en w5 ⟨rfl, hs5⟩; have HS5 := Lib.hid hs5; clear hs5
  go_wp2_with fail
  go_ret
  exact ⟨rfl, HO4.out.trans (HS5.out.only _)⟩
set_option maxHeartbeats 4000000 in
theorem against_pn (c l n j : Nat) (w : World) (hc : c < 18446744073709551616) (hl : l < 18446744073709551616) (hn : n ≤ 5000) (hj : j ≤ 5000) (h1j : 1 ≤ j)
    (hb1 : c * 10 ^ n * 2 ^ j < Big) (hb2 : l * 2 ^ j < Big) (hb3 : c * 10 ^ n < Big) (hb4 : l * 10 ^ n < Big) :
    Calls Tryz.prog 66 #[.int .u64 (c : Int), .int .i64 (n : Int), .int .u64 (l : Int), .int .i64 (-(j : Int))] w fun en w' =>
      en = .returned (.int .i64 (cmp3 (c * 10 ^ n * 2 ^ j) (l))) ∧ Only (fun _ => False) w w' := by
  have HB1 := Lib.hid hb1; have HB2 := Lib.hid hb2; have HB3 := Lib.hid hb3; have HB4 := Lib.hid hb4
  clear hb1 hb2 hb3 hb4
  go_enter Tryz.func66, Tryz.ntmps66
  go_wp2_with fail
  refine (of_calls c _ hc).mono ?_; rintro en w1 ⟨v1, rfl, hv1, ho1⟩; have HN1 := Lib.hid hv1; have HO1 := Lib.hid ho1; clear hv1 ho1
  go_wp2_with fail
  refine (of_calls l _ hl).mono ?_; rintro en w2 ⟨v2, rfl, hv2, ho2⟩; have HN2 := Lib.hid hv2; have HA2 := Lib.hid (HN1.out.still ho2); have HO2 := Lib.hid (HO1.out.trans ho2); clear hv2 ho2 HN1 HO1
  go_wp2_with fail
  refine (tens_calls _ c n _ HA2.out HB3.out (by omega)).mono ?_; rintro en w3 ⟨v3, rfl, hv3, ho3⟩; have HA3 := Lib.hid hv3; have HN3 := Lib.hid (HN2.out.still ho3); have HO3 := Lib.hid (HO2.out.trans ho3); clear hv3 ho3 HN2 HA2 HO2
  go_wp2_with fail
  refine (shift_calls _ _ j _ HA3.out HB1.out).mono ?_; rintro en w4 ⟨v4, rfl, hv4, ho4⟩; have HA4 := Lib.hid hv4; have HN4 := Lib.hid (HN3.out.still ho4); have HO4 := Lib.hid (HO3.out.trans ho4); clear hv4 ho4 HN3 HA3 HO3
  go_wp2_with fail
  refine (cmpn_calls _ _ _ _ _ HA4.out HN4.out).mono ?_; rintro en w5 ⟨rfl, hs5⟩; have HS5 := Lib.hid hs5; clear hs5
  go_wp2_with fail
  go_ret
  exact ⟨rfl, HO4.out.trans (HS5.out.only _)⟩
set_option maxHeartbeats 4000000 in
theorem against_np (c l n j : Nat) (w : World) (hc : c < 18446744073709551616) (hl : l < 18446744073709551616) (hn : n ≤ 5000) (_hj : j ≤ 5000) (h1n : 1 ≤ n)
    (hb1 : c * 2 ^ j < Big) (hb2 : l * 10 ^ n * 2 ^ j < Big) (hb3 : c * 10 ^ n < Big) (hb4 : l * 10 ^ n < Big) :
    Calls Tryz.prog 66 #[.int .u64 (c : Int), .int .i64 (-(n : Int)), .int .u64 (l : Int), .int .i64 (j : Int)] w fun en w' =>
      en = .returned (.int .i64 (cmp3 (c) (l * 10 ^ n * 2 ^ j))) ∧ Only (fun _ => False) w w' := by
  have HB1 := Lib.hid hb1; have HB2 := Lib.hid hb2; have HB3 := Lib.hid hb3; have HB4 := Lib.hid hb4
  clear hb1 hb2 hb3 hb4
  go_enter Tryz.func66, Tryz.ntmps66
  go_wp2_with fail
  refine (of_calls c _ hc).mono ?_; rintro en w1 ⟨v1, rfl, hv1, ho1⟩; have HN1 := Lib.hid hv1; have HO1 := Lib.hid ho1; clear hv1 ho1
  go_wp2_with fail
  refine (of_calls l _ hl).mono ?_; rintro en w2 ⟨v2, rfl, hv2, ho2⟩; have HN2 := Lib.hid hv2; have HA2 := Lib.hid (HN1.out.still ho2); have HO2 := Lib.hid (HO1.out.trans ho2); clear hv2 ho2 HN1 HO1
  go_wp2_with fail
  refine (tens_calls _ l n _ HN2.out HB4.out (by omega)).mono ?_; rintro en w3 ⟨v3, rfl, hv3, ho3⟩; have HN3 := Lib.hid hv3; have HA3 := Lib.hid (HA2.out.still ho3); have HO3 := Lib.hid (HO2.out.trans ho3); clear hv3 ho3 HN2 HA2 HO2
  go_wp2_with fail
  refine (shift_calls _ _ j _ HN3.out HB2.out).mono ?_; rintro en w4 ⟨v4, rfl, hv4, ho4⟩; have HN4 := Lib.hid hv4; have HA4 := Lib.hid (HA3.out.still ho4); have HO4 := Lib.hid (HO3.out.trans ho4); clear hv4 ho4 HN3 HA3 HO3
  go_wp2_with fail
  refine (cmpn_calls _ _ _ _ _ HA4.out HN4.out).mono ?_; rintro en w5 ⟨rfl, hs5⟩; have HS5 := Lib.hid hs5; clear hs5
  go_wp2_with fail
  go_ret
  exact ⟨rfl, HO4.out.trans (HS5.out.only _)⟩
set_option maxHeartbeats 4000000 in
theorem against_nn (c l n j : Nat) (w : World) (hc : c < 18446744073709551616) (hl : l < 18446744073709551616) (hn : n ≤ 5000) (hj : j ≤ 5000) (h1n : 1 ≤ n) (h1j : 1 ≤ j)
    (hb1 : c * 2 ^ j < Big) (hb2 : l * 10 ^ n * 2 ^ j < Big) (hb3 : c * 10 ^ n < Big) (hb4 : l * 10 ^ n < Big) :
    Calls Tryz.prog 66 #[.int .u64 (c : Int), .int .i64 (-(n : Int)), .int .u64 (l : Int), .int .i64 (-(j : Int))] w fun en w' =>
      en = .returned (.int .i64 (cmp3 (c * 2 ^ j) (l * 10 ^ n))) ∧ Only (fun _ => False) w w' := by
  have HB1 := Lib.hid hb1; have HB2 := Lib.hid hb2; have HB3 := Lib.hid hb3; have HB4 := Lib.hid hb4
  clear hb1 hb2 hb3 hb4
  go_enter Tryz.func66, Tryz.ntmps66
  go_wp2_with fail
  refine (of_calls c _ hc).mono ?_; rintro en w1 ⟨v1, rfl, hv1, ho1⟩; have HN1 := Lib.hid hv1; have HO1 := Lib.hid ho1; clear hv1 ho1
  go_wp2_with fail
  refine (of_calls l _ hl).mono ?_; rintro en w2 ⟨v2, rfl, hv2, ho2⟩; have HN2 := Lib.hid hv2; have HA2 := Lib.hid (HN1.out.still ho2); have HO2 := Lib.hid (HO1.out.trans ho2); clear hv2 ho2 HN1 HO1
  go_wp2_with fail
  refine (tens_calls _ l n _ HN2.out HB4.out (by omega)).mono ?_; rintro en w3 ⟨v3, rfl, hv3, ho3⟩; have HN3 := Lib.hid hv3; have HA3 := Lib.hid (HA2.out.still ho3); have HO3 := Lib.hid (HO2.out.trans ho3); clear hv3 ho3 HN2 HA2 HO2
  go_wp2_with fail
  refine (shift_calls _ _ j _ HA3.out HB1.out).mono ?_; rintro en w4 ⟨v4, rfl, hv4, ho4⟩; have HA4 := Lib.hid hv4; have HN4 := Lib.hid (HN3.out.still ho4); have HO4 := Lib.hid (HO3.out.trans ho4); clear hv4 ho4 HN3 HA3 HO3
  go_wp2_with fail
  refine (cmpn_calls _ _ _ _ _ HA4.out HN4.out).mono ?_; rintro en w5 ⟨rfl, hs5⟩; have HS5 := Lib.hid hs5; clear hs5
  go_wp2_with fail
  go_ret
  exact ⟨rfl, HO4.out.trans (HS5.out.only _)⟩
theorem against_calls (c l : Nat) (s k : Int) (w : World) (hc : c < 18446744073709551616) (hl : l < 18446744073709551616) (hs : -5000 ≤ s ∧ s ≤ 5000) (hk : -5000 ≤ k ∧ k ≤ 5000) :
    Calls Tryz.prog 66 #[.int .u64 (c : Int), .int .i64 s, .int .u64 (l : Int), .int .i64 k] w fun en w' =>
      en = .returned (.int .i64 (cmp3 (c * 10 ^ s.toNat * 2 ^ (-k).toNat) (l * 10 ^ (-s).toNat * 2 ^ k.toNat))) ∧ Only (fun _ => False) w w' := by
  have B0 := fun (x : Nat) (hx : x < 18446744073709551616) (n : Nat) (hn : n ≤ 5000) => (show x * 10 ^ n < Big by have := small_Big (c := x) (n := n) (k := 0) hx (by omega) (by omega); rwa [Nat.pow_zero, Nat.mul_one] at this)
  have B1 := fun (x : Nat) (hx : x < 18446744073709551616) (j : Nat) (hj : j ≤ 5000) => (show x * 2 ^ j < Big by have := small_Big (c := x) (n := 0) (k := j) hx (by omega) (by omega); rwa [Nat.pow_zero, Nat.mul_one] at this)
  have B2 := fun (x : Nat) (hx : x < 18446744073709551616) (n : Nat) (hn : n ≤ 5000) (j : Nat) (hj : j ≤ 5000) => (small_Big (c := x) (n := n) (k := j) hx (by omega) (by omega))
  rcases (show (∃ n : Nat, s = (n : Int)) ∨ ∃ n : Nat, 1 ≤ n ∧ s = -(n : Int) by
    rcases Int.lt_or_le s 0 with h | h
    · exact .inr ⟨(-s).toNat, by omega, by omega⟩
    · exact .inl ⟨s.toNat, by omega⟩) with ⟨n, rfl⟩ | ⟨n, hn, rfl⟩
  · have e1 : (-(n : Int)).toNat = 0 := by omega
    have e2 : ((n : Int)).toNat = n := by omega
    rcases (show (∃ n : Nat, k = (n : Int)) ∨ ∃ n : Nat, 1 ≤ n ∧ k = -(n : Int) by
      rcases Int.lt_or_le k 0 with h | h
      · exact .inr ⟨(-k).toNat, by omega, by omega⟩
      · exact .inl ⟨k.toNat, by omega⟩) with ⟨j, rfl⟩ | ⟨j, hj, rfl⟩
    · have e3 : (-(j : Int)).toNat = 0 := by omega
      have e4 : ((j : Int)).toNat = j := by omega
      rw [e1, e2, e3, e4]; simp only [Nat.pow_zero, Nat.mul_one]
      exact against_pp c l n j w hc hl (by omega) (by omega) (B2 c hc n (by omega) j (by omega)) (B1 l hl j (by omega)) (B0 c hc n (by omega)) (B0 l hl n (by omega))
    · have e3 : (-(-(j : Int))).toNat = j := by omega
      have e4 : (-(j : Int)).toNat = 0 := by omega
      rw [e1, e2, e3, e4]; simp only [Nat.pow_zero, Nat.mul_one]
      exact against_pn c l n j w hc hl (by omega) (by omega) hj (B2 c hc n (by omega) j (by omega)) (B1 l hl j (by omega)) (B0 c hc n (by omega)) (B0 l hl n (by omega))
  · have e1 : (-(-(n : Int))).toNat = n := by omega
    have e2 : (-(n : Int)).toNat = 0 := by omega
    rcases (show (∃ n : Nat, k = (n : Int)) ∨ ∃ n : Nat, 1 ≤ n ∧ k = -(n : Int) by
      rcases Int.lt_or_le k 0 with h | h
      · exact .inr ⟨(-k).toNat, by omega, by omega⟩
      · exact .inl ⟨k.toNat, by omega⟩) with ⟨j, rfl⟩ | ⟨j, hj, rfl⟩
    · have e3 : (-(j : Int)).toNat = 0 := by omega
      have e4 : ((j : Int)).toNat = j := by omega
      rw [e1, e2, e3, e4]; simp only [Nat.pow_zero, Nat.mul_one]
      exact against_np c l n j w hc hl (by omega) (by omega) hn (B1 c hc j (by omega)) (B2 l hl n (by omega) j (by omega)) (B0 c hc n (by omega)) (B0 l hl n (by omega))
    · have e3 : (-(-(j : Int))).toNat = j := by omega
      have e4 : (-(j : Int)).toNat = 0 := by omega
      rw [e1, e2, e3, e4]; simp only [Nat.pow_zero, Nat.mul_one]
      exact against_nn c l n j w hc hl (by omega) (by omega) hn hj (B1 c hc j (by omega)) (B2 l hl n (by omega) j (by omega)) (B0 c hc n (by omega)) (B0 l hl n (by omega))
end Go.Proofs.YthjfdhkahmlolaaGreatDoor
