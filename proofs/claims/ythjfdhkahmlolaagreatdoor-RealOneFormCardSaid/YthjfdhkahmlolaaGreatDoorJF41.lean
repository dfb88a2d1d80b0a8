/- atof64exact, pack64, parseFloat64 at any number: what they tell lies in the range. -/
import Derived.Test.YthjfdhkahmlolaaGreatDoorJF32
import Derived.Test.YthjfdhkahmlolaaGreatDoorJF40
import Derived.Laws.FloatBits
namespace Go.Proofs.YthjfdhkahmlolaaGreatDoor.Usc
open Pq.Flt Ieee
set_option maxRecDepth 100000
theorem rung_le (M : Nat) (q : Int) : rung M q ≤ 9218868437227405312 := by
  unfold rung
  split
  · decide
  · exact Nat.min_le_right _ _
/-- a product, or a quotient, with a power of ten: no NaN -/
theorem arith_some {s : Bool} {r j : Nat} (hr : r ≤ 9218868437227405312) (hj : j < 23) :
    (∃ s' r', r' ≤ 9218868437227405312 ∧ D.mul (D.word s r) (p10 j) = some (D.word s' r')) ∧ (∃ s' r', r' ≤ 9218868437227405312 ∧ D.div (D.word s r) (p10 j) = some (D.word s' r')) := by
  obtain ⟨a1, a2, a3, a4, a5⟩ := p10_at hj
  obtain ⟨m1, m2, m3⟩ := word_parts s r (by omega)
  have hs0 : sig (p10 j) ≠ 0 := by omega
  unfold Format.mul Format.div
  rw [read_p10 hj]
  rcases Nat.lt_or_ge r 9218868437227405312 with h | h
  · rw [read_fin _ (by rw [m1]; exact h), m1, m2]
    simp only [Datum.product, Datum.quotient, if_neg hs0, Option.map_some, Format.write, nearest_eq, Bool.bne_false]
    exact ⟨⟨_, _, rung_le _ _, rfl⟩, ⟨_, _, rung_le _ _, rfl⟩⟩
  · obtain rfl : r = 9218868437227405312 := by omega
    rw [read_inf _ m1, m2]
    simp only [Datum.product, Datum.quotient, if_neg hs0, Option.map_some, Format.write, ir, Bool.bne_false]
    exact ⟨⟨_, _, Nat.le_refl _, rfl⟩, ⟨_, _, Nat.le_refl _, rfl⟩⟩
theorem word_lt64 {s : Bool} {r : Nat} (hr : r ≤ 9218868437227405312) : D.word s r < 18446744073709551616 := (word_parts s r (by omega)).2.2
end Go.Proofs.YthjfdhkahmlolaaGreatDoor.Usc
namespace Go.Proofs.YthjfdhkahmlolaaGreatDoor
open Go.RowKit Usc
set_option maxRecDepth 100000
def ExAny (w : World) (e : Ending) (w' : World) : Prop := (∃ (x : Nat) (ok : Bool), x < 18446744073709551616 ∧ e = .returned (.tuple #[.float .f64 x, .bool ok])) ∧ w' = w
set_option maxHeartbeats 4000000 in
theorem ex_any (d : Nat) (p : Int) (neg : Bool) (w : World) (hE : Env3 w) (h0 : 1 ≤ d) (hd : d < 18446744073709551616) (hp : -400 ≤ p ∧ p ≤ 400) : Calls Tryz.prog 127 #[.int .u64 d, .int .i64 p, .bool neg] w (ExAny w) := by
  by_cases h : 4503599627370496 ≤ d
  · have i0 := hE.i0
    clear hE
    have t1 : ((d : Int) / 4503599627370496 != 0) = true := by rw [bne_iff_ne]; omega
    go_enter Tryz.func127, Tryz.ntmps127
    go_wp2_with fail
    all_goals (go_ret2; exact ⟨⟨0, false, by decide, rfl⟩, rfl⟩)
  have X1 : wd false d < 18446744073709551616 := word_lt64 (rung_le _ _)
  have Y1 : wd true d < 18446744073709551616 := word_lt64 (rung_le _ _)
  have HX := Lib.hid X1; have HY := Lib.hid Y1
  clear X1 Y1
  by_cases hz : p = 0
  · subst hz
    have i0 := hE.i0
    have t1 : ((d : Int) / 4503599627370496 != 0) = false := by rw [bne_eq_false_iff_eq]; omega
    have k1 := of_int d
    have k2 := run_fneg (wd false d)
    rw [neg_wd h0 (by omega)] at k2
    clear hE
    generalize wd false d = X at *
    generalize wd true d = Y at *
    cases neg
    · go_enter Tryz.func127, Tryz.ntmps127
      go_wp2_with fail
      all_goals (go_ret2; first | exact ⟨⟨_, _, HX.out, rfl⟩, rfl⟩ | exact ⟨⟨_, _, HY.out, rfl⟩, rfl⟩)
    · go_enter Tryz.func127, Tryz.ntmps127
      go_wp2_with fail
      all_goals (go_ret2; first | exact ⟨⟨_, _, HX.out, rfl⟩, rfl⟩ | exact ⟨⟨_, _, HY.out, rfl⟩, rfl⟩)
  by_cases h1 : 1 ≤ p ∧ p ≤ 22
  · obtain ⟨j, rfl⟩ : ∃ j : Nat, p = j := ⟨p.toNat, by omega⟩
    have i0 := hE.i0
    have t1 : ((d : Int) / 4503599627370496 != 0) = false := by rw [bne_eq_false_iff_eq]; omega
    have k1 := of_int d
    have k2 := run_fneg (wd false d)
    rw [neg_wd h0 (by omega)] at k2
    have t2 : ((j : Int) == 0) = false := by rw [beq_eq_false_iff_ne]; omega
    obtain ⟨bb, oo, c12, ct⟩ := hE.tab
    have cj := ct j (by omega)
    clear hE ct
    obtain ⟨⟨s1, r1, e1, q1⟩, _⟩ := arith_some (s := false) (r := Pq.Flt.rung d 0) (rung_le _ _) (show j < 23 by omega)
    obtain ⟨⟨s2, r2, e2, q2⟩, _⟩ := arith_some (s := true) (r := Pq.Flt.rung d 0) (rung_le _ _) (show j < 23 by omega)
    have k3 := run_mul (show Ieee.double.mul (wd false d) (p10 j) = _ from q1)
    have k4 := run_mul (show Ieee.double.mul (wd true d) (p10 j) = _ from q2)
    have H1 := Lib.hid (word_lt64 (s := s1) e1); have H2 := Lib.hid (word_lt64 (s := s2) e2)
    clear q1 q2 e1 e2
    generalize Pq.Flt.D.word s1 r1 = Z1 at *
    generalize Pq.Flt.D.word s2 r2 = Z2 at *
    generalize wd false d = X at *
    generalize wd true d = Y at *
    generalize p10 j = T at *
    cases neg
    · go_enter Tryz.func127, Tryz.ntmps127
      go_wp2_with fail
      all_goals (go_ret2; first | exact ⟨⟨_, _, H1.out, rfl⟩, rfl⟩ | exact ⟨⟨_, _, H2.out, rfl⟩, rfl⟩ | exact ⟨⟨_, _, HX.out, rfl⟩, rfl⟩ | exact ⟨⟨_, _, HY.out, rfl⟩, rfl⟩)
    · go_enter Tryz.func127, Tryz.ntmps127
      go_wp2_with fail
      all_goals (go_ret2; first | exact ⟨⟨_, _, H1.out, rfl⟩, rfl⟩ | exact ⟨⟨_, _, H2.out, rfl⟩, rfl⟩ | exact ⟨⟨_, _, HX.out, rfl⟩, rfl⟩ | exact ⟨⟨_, _, HY.out, rfl⟩, rfl⟩)
  by_cases h2 : 23 ≤ p ∧ p ≤ 37
  · obtain ⟨j, rfl⟩ : ∃ j : Nat, p = j := ⟨p.toNat, by omega⟩
    have i0 := hE.i0
    have t1 : ((d : Int) / 4503599627370496 != 0) = false := by rw [bne_eq_false_iff_eq]; omega
    have k1 := of_int d
    have k2 := run_fneg (wd false d)
    rw [neg_wd h0 (by omega)] at k2
    have t2 : ((j : Int) == 0) = false := by rw [beq_eq_false_iff_ne]; omega
    have t3 : ((j : Int) - 22).toNat = j - 22 := by omega
    obtain ⟨bb, oo, c12, ct⟩ := hE.tab
    have cj := ct 22 (by omega)
    have ci := ct (j - 22) (by omega)
    clear hE ct
    obtain ⟨⟨s1, r1, e1, q1⟩, _⟩ := arith_some (s := false) (r := Pq.Flt.rung d 0) (rung_le _ _) (show j - 22 < 23 by omega)
    obtain ⟨⟨s2, r2, e2, q2⟩, _⟩ := arith_some (s := true) (r := Pq.Flt.rung d 0) (rung_le _ _) (show j - 22 < 23 by omega)
    obtain ⟨⟨s3, r3, e3, q3⟩, _⟩ := arith_some (s := s1) (r := r1) e1 (show 22 < 23 by omega)
    obtain ⟨⟨s4, r4, e4, q4⟩, _⟩ := arith_some (s := s2) (r := r2) e2 (show 22 < 23 by omega)
    have k3 := run_mul (show Ieee.double.mul (wd false d) (p10 (j - 22)) = _ from q1)
    have k4 := run_mul (show Ieee.double.mul (wd true d) (p10 (j - 22)) = _ from q2)
    have k5 := run_mul q3
    have k6 := run_mul q4
    have H1 := Lib.hid (word_lt64 (s := s1) e1); have H2 := Lib.hid (word_lt64 (s := s2) e2); have H3 := Lib.hid (word_lt64 (s := s3) e3); have H4 := Lib.hid (word_lt64 (s := s4) e4)
    clear q1 q2 q3 q4 e1 e2 e3 e4
    generalize Pq.Flt.D.word s1 r1 = Z1 at *
    generalize Pq.Flt.D.word s2 r2 = Z2 at *
    generalize Pq.Flt.D.word s3 r3 = Z3 at *
    generalize Pq.Flt.D.word s4 r4 = Z4 at *
    generalize wd false d = X at *
    generalize wd true d = Y at *
    generalize p10 (j - 22) = Tj at *
    generalize p10 22 = T at *
    cases neg
    · go_enter Tryz.func127, Tryz.ntmps127
      go_wp2_with fail
      all_goals (go_ret2; first | exact ⟨⟨_, _, H3.out, rfl⟩, rfl⟩ | exact ⟨⟨_, _, H4.out, rfl⟩, rfl⟩ | exact ⟨⟨_, _, H1.out, rfl⟩, rfl⟩ | exact ⟨⟨_, _, H2.out, rfl⟩, rfl⟩)
    · go_enter Tryz.func127, Tryz.ntmps127
      go_wp2_with fail
      all_goals (go_ret2; first | exact ⟨⟨_, _, H3.out, rfl⟩, rfl⟩ | exact ⟨⟨_, _, H4.out, rfl⟩, rfl⟩ | exact ⟨⟨_, _, H1.out, rfl⟩, rfl⟩ | exact ⟨⟨_, _, H2.out, rfl⟩, rfl⟩)
  by_cases h3 : -22 ≤ p ∧ p < 0
  · obtain ⟨j, rfl⟩ : ∃ j : Nat, p = -(j : Int) := ⟨(-p).toNat, by omega⟩
    have i0 := hE.i0
    have t1 : ((d : Int) / 4503599627370496 != 0) = false := by rw [bne_eq_false_iff_eq]; omega
    have k1 := of_int d
    have k2 := run_fneg (wd false d)
    rw [neg_wd h0 (by omega)] at k2
    have t2 : (-(j : Int) == 0) = false := by rw [beq_eq_false_iff_ne]; omega
    obtain ⟨bb, oo, c12, ct⟩ := hE.tab
    have cj := ct j (by omega)
    clear hE ct
    obtain ⟨_, ⟨s1, r1, e1, q1⟩⟩ := arith_some (s := false) (r := Pq.Flt.rung d 0) (rung_le _ _) (show j < 23 by omega)
    obtain ⟨_, ⟨s2, r2, e2, q2⟩⟩ := arith_some (s := true) (r := Pq.Flt.rung d 0) (rung_le _ _) (show j < 23 by omega)
    have k3 := run_quo (show Ieee.double.div (wd false d) (p10 j) = _ from q1)
    have k4 := run_quo (show Ieee.double.div (wd true d) (p10 j) = _ from q2)
    have H1 := Lib.hid (word_lt64 (s := s1) e1); have H2 := Lib.hid (word_lt64 (s := s2) e2)
    clear q1 q2 e1 e2
    generalize Pq.Flt.D.word s1 r1 = Z1 at *
    generalize Pq.Flt.D.word s2 r2 = Z2 at *
    generalize wd false d = X at *
    generalize wd true d = Y at *
    generalize p10 j = T at *
    cases neg
    · go_enter Tryz.func127, Tryz.ntmps127
      go_wp2_with fail
      all_goals (go_ret2; first | exact ⟨⟨_, _, H1.out, rfl⟩, rfl⟩ | exact ⟨⟨_, _, H2.out, rfl⟩, rfl⟩ | exact ⟨⟨_, _, HX.out, rfl⟩, rfl⟩ | exact ⟨⟨_, _, HY.out, rfl⟩, rfl⟩)
    · go_enter Tryz.func127, Tryz.ntmps127
      go_wp2_with fail
      all_goals (go_ret2; first | exact ⟨⟨_, _, H1.out, rfl⟩, rfl⟩ | exact ⟨⟨_, _, H2.out, rfl⟩, rfl⟩ | exact ⟨⟨_, _, HX.out, rfl⟩, rfl⟩ | exact ⟨⟨_, _, HY.out, rfl⟩, rfl⟩)
  have hoff : p < -22 ∨ 37 < p := by omega
  have i0 := hE.i0
  have t1 : ((d : Int) / 4503599627370496 != 0) = false := by rw [bne_eq_false_iff_eq]; omega
  have k1 := of_int d
  have k2 := run_fneg (wd false d)
  rw [neg_wd h0 (by omega)] at k2
  have t2 : (p == 0) = false := by rw [beq_eq_false_iff_ne]; omega
  clear hE
  generalize wd false d = X at *
  generalize wd true d = Y at *
  rcases hoff with hoff | hoff
  · cases neg
    · go_enter Tryz.func127, Tryz.ntmps127
      go_wp2_with fail
      all_goals (go_ret2; first | exact ⟨⟨_, _, HX.out, rfl⟩, rfl⟩ | exact ⟨⟨_, _, HY.out, rfl⟩, rfl⟩)
    · go_enter Tryz.func127, Tryz.ntmps127
      go_wp2_with fail
      all_goals (go_ret2; first | exact ⟨⟨_, _, HX.out, rfl⟩, rfl⟩ | exact ⟨⟨_, _, HY.out, rfl⟩, rfl⟩)
  · cases neg
    · go_enter Tryz.func127, Tryz.ntmps127
      go_wp2_with fail
      all_goals (go_ret2; first | exact ⟨⟨_, _, HX.out, rfl⟩, rfl⟩ | exact ⟨⟨_, _, HY.out, rfl⟩, rfl⟩)
    · go_enter Tryz.func127, Tryz.ntmps127
      go_wp2_with fail
      all_goals (go_ret2; first | exact ⟨⟨_, _, HX.out, rfl⟩, rfl⟩ | exact ⟨⟨_, _, HY.out, rfl⟩, rfl⟩)
def PkAny (x y : Value) : Prop := (∃ f : Nat, f < 18446744073709551616 ∧ x = .float .f64 f) ∧ ErrV y
theorem pk_any (m : Nat) (e : Int) (w : World) (hm : m < 18446744073709551616) : Calls Tryz.prog 158 #[.int .u64 m, .int .i64 e] w fun en w' => ∃ x y, en = .returned (.tuple #[x, y]) ∧ PkAny x y ∧ w' = w := by
  have k1 := run_frb126 m
  obtain ⟨a, ha, ea⟩ := bits_some BinOp.or (bits BinOp.and IntKind.u64 (m : Int) 9223372036854775808) 9218868437227405312
  have k2 := run_frb126 a
  rw [← ea] at k2
  obtain ⟨b, hb, eb⟩ := bits_some BinOp.or (bits BinOp.andNot IntKind.u64 (m : Int) 4503599627370496) (IntKind.u64.wrap (IntKind.u64.wrap (wrap64 (1075 + e)) * 4503599627370496))
  have k3 := run_frb126 b
  rw [← eb] at k3
  have HA := Lib.hid ha; have HB := Lib.hid hb; have HM := Lib.hid hm
  clear ea eb ha hb hm
  go_enter Tryz.func158, Tryz.ntmps158
  go_wp2_with fail
  all_goals go_ret2
  all_goals first
    | exact ⟨_, _, rfl, ⟨⟨m, HM.out, rfl⟩, .inl rfl⟩, rfl⟩
    | exact ⟨_, _, rfl, ⟨⟨a, HA.out, rfl⟩, .inr rfl⟩, rfl⟩
    | exact ⟨_, _, rfl, ⟨⟨b, HB.out, rfl⟩, .inl rfl⟩, rfl⟩
theorem pa_any (d : Nat) (p : Int) (sg : Nat) (w : World) (hT : Tab w) (h0 : 1 ≤ d) (h1 : d < 18446744073709551616) (hp : -345 ≤ p ∧ p ≤ 310) (hsg : sg = 0 ∨ sg = 9223372036854775808) :
    Calls Tryz.prog 128 #[.int .u64 d, .int .i64 p, .int .u64 sg] w fun e w' => ∃ x y, e = .returned (.tuple #[x, y]) ∧ PkAny x y ∧ Only (fun _ => False) w w' := by
  refine parse_calls d p sg w hT h0 h1 hp hsg PkAny (fun _ => ⟨⟨sg, by omega, rfl⟩, .inl rfl⟩) (fun _ w => pk_any _ _ w ?_)
  have hul := pfu_lt (p := p) h0 h1
  have hr : pfr d p < 18446744073709551616 := by
    show rndm (if 36028797018963966 ≤ pfu d p then (pfu d p / 2) ||| (pfu d p % 2) else pfu d p) < _
    have h2 : (pfu d p / 2) ||| (pfu d p % 2) < 144115188075855872 := by
      have := Nat.or_lt_two_pow (n := 57) (x := pfu d p / 2) (y := pfu d p % 2) (by rw [show (2 : Nat) ^ 57 = 144115188075855872 by decide]; omega) (by rw [show (2 : Nat) ^ 57 = 144115188075855872 by decide]; omega)
      rw [show (2 : Nat) ^ 57 = 144115188075855872 by decide] at this
      exact this
    unfold rndm
    split <;> omega
  have := Nat.or_lt_two_pow (n := 64) (x := sg) (y := pfr d p) (by rw [show (2 : Nat) ^ 64 = 18446744073709551616 by decide]; omega) (by rw [show (2 : Nat) ^ 64 = 18446744073709551616 by decide]; omega)
  rw [show (2 : Nat) ^ 64 = 18446744073709551616 by decide] at this
  exact this
end Go.Proofs.YthjfdhkahmlolaaGreatDoor
