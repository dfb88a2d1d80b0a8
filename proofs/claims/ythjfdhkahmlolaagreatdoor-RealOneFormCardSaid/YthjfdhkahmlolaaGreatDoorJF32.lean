/- The walk of atof64exact, where the decimal reads back as a float. -/
import Derived.Test.YthjfdhkahmlolaaGreatDoorJF25
import Derived.Test.YthjfdhkahmlolaaGreatDoorJF08
import Derived.Test.YthjfdhkahmlolaaGreatDoorJF31
namespace Go.Proofs.YthjfdhkahmlolaaGreatDoor
open Go.RowKit Usc
/-- what the parser reads of the laid variables -/
structure Env3 (w : World) : Prop where
  i0 : w.cell? ⟨8, 0, none⟩ = some (.int .u64 52)
  opt : w.cell? ⟨3, 0, none⟩ = some (.bool true)
  tab : ∃ (b o : Nat), w.cell? ⟨12, 0, none⟩ = some (.slice (some ⟨b, o, none⟩) 23 23) ∧ ∀ k, k < 23 → w.cell? ⟨b, o + k, none⟩ = some (.float .f64 (p10 k))
theorem Env3.still {w w' : World} (h : Env3 w) (O : Only (fun _ => False) w w') : Env3 w' := by
  have c : ∀ {b o : Nat} {v : Value}, w.cell? ⟨b, o, none⟩ = some v → w'.cell? ⟨b, o, none⟩ = some v := fun {b o v} hv => by
    rw [O.cellAt (World.block_lt_of_cell? w ⟨b, o, none⟩ hv) id, hv]
  obtain ⟨b, o, h1, h2⟩ := h.tab
  exact ⟨c h.i0, c h.opt, b, o, c h1, fun k hk => c (h2 k hk)⟩
theorem of_int (d : Nat) : floatOfInt FloatKind.f64 (d : Int) = wd false d := by
  have h : floatOfInt FloatKind.f64 (d : Int) = Ieee.double.nearest (decide ((d : Int) < 0)) (d : Int).natAbs 0 := rfl
  rw [h, Pq.Flt.nearest_eq, decide_eq_false (by omega), Int.natAbs_natCast]
  rfl
theorem neg_wd {d : Nat} (h0 : 1 ≤ d) (h1 : d < 9007199254740992) : fnegf (wd false d) = wd true d := by
  obtain ⟨hl, hr, q1, q2⟩ := rung_small h0 h1
  have hlt : Pq.Flt.rung d 0 < 9218868437227405312 := by rw [hr]; omega
  have e1 : wd false d = Pq.Flt.rung d 0 := by unfold wd; rw [Pq.Flt.word_eq]; simp
  have e2 : wd true d = 9223372036854775808 + Pq.Flt.rung d 0 := by unfold wd; rw [Pq.Flt.word_eq]; simp
  rw [e2, e1, fnegf_eq _ (by omega), if_pos (by omega), Nat.add_comm]
theorem run_mul {x y z : Nat} (h : Ieee.double.mul x y = some z) (w : World) : Sem.run Tryz.prog (binOp .mul 25 (.float .f64 x) (.float .f64 y)) w = .ok (.float .f64 z) w := by
  simp [binOp, Op.floatArith, FloatKind.format, h]
theorem run_quo {x y z : Nat} (h : Ieee.double.div x y = some z) (w : World) : Sem.run Tryz.prog (binOp .quo 25 (.float .f64 x) (.float .f64 y)) w = .ok (.float .f64 z) w := by
  simp [binOp, Op.floatArith, FloatKind.format, h]
def ExPost (b : Nat) (neg : Bool) (w : World) (e : Ending) (w' : World) : Prop := ∃ x ok, e = .returned (.tuple #[.float .f64 x, .bool ok]) ∧ (ok = true → x = Ieee.double.word neg b) ∧ w' = w
set_option maxRecDepth 100000
set_option maxHeartbeats 4000000 in
theorem exact_far (d : Nat) (p : Int) (neg : Bool) (b : Nat) (w : World) (hE : Env3 w) (hd : d < 18446744073709551616) (h : 4503599627370496 ≤ d) : Calls Tryz.prog 127 #[.int .u64 d, .int .i64 p, .bool neg] w (ExPost b neg w) := by
  have h0 := hE.i0
  clear hE
  have t1 : ((d : Int) / 4503599627370496 != 0) = true := by rw [bne_iff_ne]; omega
  go_enter Tryz.func127, Tryz.ntmps127
  go_wp2_with fail
  go_ret2
  exact ⟨_, _, rfl, fun h => by simp at h, rfl⟩
set_option maxHeartbeats 4000000 in
theorem exact_zero (d : Nat) (neg : Bool) (b : Nat) (w : World) (hE : Env3 w) (h0 : 1 ≤ d) (h : d < 4503599627370496) (hb : 1 ≤ b) (hb2 : b < 9218868437227405312) (hR : Rd b d 0) : Calls Tryz.prog 127 #[.int .u64 d, .int .i64 0, .bool neg] w (ExPost b neg w) := by
  have i0 := hE.i0
  clear hE
  have t1 : ((d : Int) / 4503599627370496 != 0) = false := by rw [bne_eq_false_iff_eq]; omega
  have k1 := of_int d
  have k2 := run_fneg (wd false d)
  rw [neg_wd h0 (by omega)] at k2
  have hr : Pq.Flt.rung d 0 = b := by
    refine rung_is hb hb2 h0 (Y := 1) (by decide) (.inl (Nat.mul_one _).symm) ?_
    rw [rd_near] at hR
    have e1 : ((0 : Int) + 1075).toNat = kbig := rfl
    have e2 : (-((0 : Int) + 1075)).toNat = 0 := rfl
    have e3 : (0 : Int).toNat = 0 := rfl
    have e4 : (-(0 : Int)).toNat = 0 := rfl
    rw [e1, e2]
    rw [e3, e4] at hR
    rw [Nat.pow_zero, Nat.mul_one] at *
    exact hR
  have HF := Lib.hid (show wd false d = Ieee.double.word false b by unfold wd; rw [hr])
  have HT := Lib.hid (show wd true d = Ieee.double.word true b by unfold wd; rw [hr])
  clear hr hR
  generalize wd false d = X at *
  generalize wd true d = Y at *
  cases neg
  · go_enter Tryz.func127, Tryz.ntmps127
    go_wp2_with fail
    go_ret2
    exact ⟨_, _, rfl, fun _ => HF.out, rfl⟩
  · go_enter Tryz.func127, Tryz.ntmps127
    go_wp2_with fail
    go_ret2
    exact ⟨_, _, rfl, fun _ => HT.out, rfl⟩
set_option maxHeartbeats 4000000 in
theorem exact_mul (d j : Nat) (neg : Bool) (b : Nat) (w : World) (hE : Env3 w) (h0 : 1 ≤ d) (h : d < 4503599627370496) (hj : 1 ≤ j ∧ j ≤ 22) (hb : 1 ≤ b) (hb2 : b < 9218868437227405312) (hR : Rd b d j) : Calls Tryz.prog 127 #[.int .u64 d, .int .i64 (j : Int), .bool neg] w (ExPost b neg w) := by
  have i0 := hE.i0
  obtain ⟨bb, oo, c12, ct⟩ := hE.tab
  have cj := ct j (by omega)
  clear hE ct
  have t1 : ((d : Int) / 4503599627370496 != 0) = false := by rw [bne_eq_false_iff_eq]; omega
  have t2 : ((j : Int) == 0) = false := by rw [beq_eq_false_iff_ne]; omega
  have k1 := of_int d
  have k2 := run_fneg (wd false d)
  rw [neg_wd h0 (by omega)] at k2
  have k3 := run_mul (mul_is (s := false) hb hb2 h0 (by omega) (by omega) hR)
  have k4 := run_mul (mul_is (s := true) hb hb2 h0 (by omega) (by omega) hR)
  clear hR
  generalize wd false d = X at *
  generalize wd true d = Y at *
  generalize p10 j = T at *
  cases neg
  · go_enter Tryz.func127, Tryz.ntmps127
    go_wp2_with fail
    all_goals (go_ret2; first | exact ⟨_, _, rfl, fun _ => rfl, rfl⟩ | exact ⟨_, _, rfl, fun h => absurd h (by decide), rfl⟩)
  · go_enter Tryz.func127, Tryz.ntmps127
    go_wp2_with fail
    all_goals (go_ret2; first | exact ⟨_, _, rfl, fun _ => rfl, rfl⟩ | exact ⟨_, _, rfl, fun h => absurd h (by decide), rfl⟩)
set_option maxHeartbeats 4000000 in
theorem exact_quo (d j : Nat) (neg : Bool) (b : Nat) (w : World) (hE : Env3 w) (h0 : 1 ≤ d) (h : d < 4503599627370496) (hj : 1 ≤ j ∧ j ≤ 22) (hb : 1 ≤ b) (hb2 : b < 9218868437227405312) (hR : Rd b d (-(j : Int))) : Calls Tryz.prog 127 #[.int .u64 d, .int .i64 (-(j : Int)), .bool neg] w (ExPost b neg w) := by
  have i0 := hE.i0
  obtain ⟨bb, oo, c12, ct⟩ := hE.tab
  have cj := ct j (by omega)
  clear hE ct
  have t1 : ((d : Int) / 4503599627370496 != 0) = false := by rw [bne_eq_false_iff_eq]; omega
  have t2 : (-(j : Int) == 0) = false := by rw [beq_eq_false_iff_ne]; omega
  have k1 := of_int d
  have k2 := run_fneg (wd false d)
  rw [neg_wd h0 (by omega)] at k2
  have k3 := run_quo (div_is (s := false) hb hb2 h0 (by omega) (by omega) hR)
  have k4 := run_quo (div_is (s := true) hb hb2 h0 (by omega) (by omega) hR)
  clear hR
  generalize wd false d = X at *
  generalize wd true d = Y at *
  generalize p10 j = T at *
  cases neg
  · go_enter Tryz.func127, Tryz.ntmps127
    go_wp2_with fail
    all_goals (go_ret2; first | exact ⟨_, _, rfl, fun _ => rfl, rfl⟩ | exact ⟨_, _, rfl, fun h => absurd h (by decide), rfl⟩)
  · go_enter Tryz.func127, Tryz.ntmps127
    go_wp2_with fail
    all_goals (go_ret2; first | exact ⟨_, _, rfl, fun _ => rfl, rfl⟩ | exact ⟨_, _, rfl, fun h => absurd h (by decide), rfl⟩)
set_option maxHeartbeats 4000000 in
theorem exact_off (d : Nat) (p : Int) (neg : Bool) (b : Nat) (w : World) (hE : Env3 w) (h0 : 1 ≤ d) (h : d < 4503599627370496) (hp : p < -22 ∨ 37 < p) (hp2 : -400 ≤ p ∧ p ≤ 400) : Calls Tryz.prog 127 #[.int .u64 d, .int .i64 p, .bool neg] w (ExPost b neg w) := by
  have i0 := hE.i0
  clear hE
  have t1 : ((d : Int) / 4503599627370496 != 0) = false := by rw [bne_eq_false_iff_eq]; omega
  have t2 : (p == 0) = false := by rw [beq_eq_false_iff_ne]; omega
  have k1 := of_int d
  have k2 := run_fneg (wd false d)
  rw [neg_wd h0 (by omega)] at k2
  generalize wd false d = X at *
  generalize wd true d = Y at *
  rcases hp with hp | hp
  · cases neg
    · go_enter Tryz.func127, Tryz.ntmps127
      go_wp2_with fail
      all_goals (go_ret2; exact ⟨_, _, rfl, fun h => by simp at h, rfl⟩)
    · go_enter Tryz.func127, Tryz.ntmps127
      go_wp2_with fail
      all_goals (go_ret2; exact ⟨_, _, rfl, fun h => by simp at h, rfl⟩)
  · cases neg
    · go_enter Tryz.func127, Tryz.ntmps127
      go_wp2_with fail
      all_goals (go_ret2; exact ⟨_, _, rfl, fun h => by simp at h, rfl⟩)
    · go_enter Tryz.func127, Tryz.ntmps127
      go_wp2_with fail
      all_goals (go_ret2; exact ⟨_, _, rfl, fun h => by simp at h, rfl⟩)
end Go.Proofs.YthjfdhkahmlolaaGreatDoor

/- atof64exact at exponents 23 to 37; and at every exponent together. -/
namespace Go.Proofs.YthjfdhkahmlolaaGreatDoor
namespace Usc
open Pq.Flt Ieee
set_option maxRecDepth 100000
theorem rung_big {M : Nat} {q : Int} (h : 53 ≤ q + (M.log2 : Int)) (h0 : M ≠ 0) : 4841369599423283200 ≤ rung M q ∧ rung M q ≤ 9218868437227405312 := by
  unfold rung
  rw [if_neg h0]
  simp only
  have hl : max (q + (M.log2 : Int) - 52) (-1074) = q + (M.log2 : Int) - 52 := by omega
  rw [hl]
  generalize rne _ _ = t
  omega
/-- the product of a whole number below 2^52 and a power of ten, where it reaches 2^53 -/
theorem mul_big {s : Bool} {d j : Nat} (h0 : 1 ≤ d) (h1 : d < 9007199254740992) (hj : j < 23) (hv : 9007199254740992 ≤ d * 10 ^ j) : ∃ r, D.mul (wd s d) (p10 j) = some (D.word s r) ∧ 4841369599423283200 ≤ r ∧ r ≤ 9218868437227405312 := by
  obtain ⟨a1, a2, a3, a4, a5⟩ := p10_at hj
  obtain ⟨hl, _, q1, _⟩ := rung_small h0 h1
  have hM : d * 2 ^ (52 - d.log2) * sig (p10 j) ≠ 0 := Nat.pos_iff_ne_zero.1 (Nat.mul_pos (by omega) (by omega))
  refine ⟨_, mul_wd h0 h1 hj, rung_big ?_ hM⟩
  have e1 : 2 ^ (ex (p10 j) + 1075).toNat = 2 ^ (52 - d.log2) * 2 ^ (-((52 - d.log2 : Nat) : Int) + ex (p10 j) + 1075).toNat := by rw [← Nat.pow_add]; congr 1; omega
  rw [e1] at a2
  have hk : big = 2 ^ kbig := rfl
  have hk2 : kbig = 1075 := rfl
  have h3 : 9007199254740992 * big ≤ d * 2 ^ (52 - d.log2) * sig (p10 j) * 2 ^ (-((52 - d.log2 : Nat) : Int) + ex (p10 j) + 1075).toNat := by
    have h4 := Nat.mul_le_mul_right big hv
    rw [Nat.mul_assoc d, ← a2] at h4
    refine Nat.le_trans h4 (Nat.le_of_eq ?_)
    generalize 2 ^ (52 - d.log2) = A
    generalize 2 ^ (-((52 - d.log2 : Nat) : Int) + ex (p10 j) + 1075).toNat = B
    generalize sig (p10 j) = C
    grind
  have h5 : (53 + 1075) ≤ (d * 2 ^ (52 - d.log2) * sig (p10 j)).log2 + (-((52 - d.log2 : Nat) : Int) + ex (p10 j) + 1075).toNat := by
    have g2 := @Nat.lt_log2_self (d * 2 ^ (52 - d.log2) * sig (p10 j))
    have g3 := Nat.mul_lt_mul_of_pos_right g2 (Nat.two_pow_pos (-((52 - d.log2 : Nat) : Int) + ex (p10 j) + 1075).toNat)
    have g4 := Nat.lt_of_le_of_lt h3 g3
    rw [hk, show (9007199254740992 : Nat) = 2 ^ 53 by decide, ← Nat.pow_add, ← Nat.pow_add] at g4
    have := (Nat.pow_lt_pow_iff_right (by decide : 1 < 2)).1 g4
    rw [hk2] at this
    omega
  omega
theorem big_gt {r : Nat} (h1 : 4841369599423283200 ≤ r) (h2 : r ≤ 9218868437227405312) : D.order (D.word false r) 4831355200913801216 = some .gt := by
  have hw : D.word false r = r := by rw [word_eq]; simp
  rw [hw, order_eq _ _ (by unfold nan mag; rw [decide_eq_false_iff_not]; omega) (by decide)]
  have k1 : key r = (r : Int) := by unfold key neg mag; rw [if_neg (by rw [beq_iff_eq]; omega), Nat.mod_eq_of_lt (by omega)]
  have k2 : key 4831355200913801216 = 4831355200913801216 := by decide
  rw [k1, k2]
  exact congrArg some (Int.compare_eq_gt.2 (by omega))
theorem big_lt {r : Nat} (h1 : 4841369599423283200 ≤ r) (h2 : r ≤ 9218868437227405312) : D.order (D.word true r) 4831355200913801216 = some .lt ∧ D.order (D.word true r) 14054727237768577024 = some .lt := by
  have hw : D.word true r = 9223372036854775808 + r := by rw [word_eq]; simp
  have hn : nan (9223372036854775808 + r) = false := by unfold nan mag; rw [decide_eq_false_iff_not]; omega
  have k1 : key (9223372036854775808 + r) = -(r : Int) := by
    unfold key neg mag; rw [if_pos (by rw [beq_iff_eq]; omega), show (9223372036854775808 + r) % 9223372036854775808 = r by omega]
  have k2 : key 4831355200913801216 = 4831355200913801216 := by decide
  have k3 : key 14054727237768577024 = -4831355200913801216 := by decide
  rw [hw, order_eq _ _ hn (by decide), order_eq _ _ hn (by decide), k1, k2, k3]
  exact ⟨congrArg some (Int.compare_eq_lt.2 (by omega)), congrArg some (Int.compare_eq_lt.2 (by omega))⟩
/-- below 2^53 the product is the whole number -/
theorem mul_low {s : Bool} {d j : Nat} (h0 : 1 ≤ d) (hj : j < 23) (hv : d * 10 ^ j < 9007199254740992) : D.mul (wd s d) (p10 j) = some (wd s (d * 10 ^ j)) := by
  have hp : 0 < 10 ^ j := Nat.pow_pos (by decide)
  have hd : d < 9007199254740992 := Nat.lt_of_le_of_lt (Nat.le_mul_of_pos_right d hp) hv
  have hv0 : 1 ≤ d * 10 ^ j := Nat.mul_pos (by omega) hp
  obtain ⟨hl, hr, q1, q2⟩ := rung_small hv0 hv
  have hN : Rd (rung (d * 10 ^ j) 0) (d * 10 ^ j) 0 := by
    rw [rd_near]
    have := rung_near (d * 10 ^ j) 0 (by omega) (by rw [hr]; omega) (by rw [hr]; omega)
    have e1 : ((0 : Int) + 1075).toNat = kbig := rfl
    have e2 : (-((0 : Int) + 1075)).toNat = 0 := rfl
    have e3 : (0 : Int).toNat = 0 := rfl
    have e4 : (-(0 : Int)).toNat = 0 := rfl
    rw [e1, e2] at this
    rw [e3, e4]
    rw [Nat.pow_zero, Nat.mul_one] at *
    exact this
  have hN2 : Rd (rung (d * 10 ^ j) 0) d (j : Int) := by
    have := (Rd.tens (rung (d * 10 ^ j) 0) j d 0).1 (by rw [Nat.mul_comm]; rw [Nat.mul_comm] at hN; exact hN)
    rwa [Int.zero_add] at this
  exact mul_is (by rw [hr]; omega) (by rw [hr]; omega) h0 hd hj hN2
end Usc
open Go.RowKit Usc
set_option maxRecDepth 100000
set_option maxHeartbeats 4000000 in
theorem exact_wide (d j : Nat) (neg : Bool) (b : Nat) (w : World) (hE : Env3 w) (h0 : 1 ≤ d) (h : d < 4503599627370496) (hj : 23 ≤ j ∧ j ≤ 37) (hb : 1 ≤ b) (hb2 : b < 9218868437227405312) (hR : Rd b d j) : Calls Tryz.prog 127 #[.int .u64 d, .int .i64 (j : Int), .bool neg] w (ExPost b neg w) := by
  have i0 := hE.i0
  obtain ⟨bb, oo, c12, ct⟩ := hE.tab
  have cj := ct 22 (by omega)
  have ci := ct (j - 22) (by omega)
  clear hE ct
  have t1 : ((d : Int) / 4503599627370496 != 0) = false := by rw [bne_eq_false_iff_eq]; omega
  have t2 : ((j : Int) == 0) = false := by rw [beq_eq_false_iff_ne]; omega
  have t3 : ((j : Int) - 22).toNat = j - 22 := by omega
  have k1 := of_int d
  have k2 := run_fneg (wd false d)
  rw [neg_wd h0 (by omega)] at k2
  by_cases hv : d * 10 ^ (j - 22) < 9007199254740992
  · have hv0 : 1 ≤ d * 10 ^ (j - 22) := Nat.mul_pos (by omega) (Nat.pow_pos (by decide))
    have hR2 : Rd b (d * 10 ^ (j - 22)) ((22 : Nat) : Int) := by
      rw [Nat.mul_comm]
      refine (Rd.tens b (j - 22) d _).2 ?_
      rw [show ((22 : Nat) : Int) + ((j - 22 : Nat) : Int) = (j : Int) by omega]
      exact hR
    have k3 := run_mul (mul_low (s := false) h0 (show j - 22 < 23 by omega) hv)
    have k4 := run_mul (mul_low (s := true) h0 (show j - 22 < 23 by omega) hv)
    have k5 := run_mul (mul_is (s := false) hb hb2 hv0 hv (by omega) hR2)
    have k6 := run_mul (mul_is (s := true) hb hb2 hv0 hv (by omega) hR2)
    clear hR hR2 hv hv0
    generalize wd false (d * 10 ^ (j - 22)) = Xv at *
    generalize wd true (d * 10 ^ (j - 22)) = Yv at *
    generalize wd false d = X at *
    generalize wd true d = Y at *
    generalize p10 (j - 22) = Tj at *
    generalize p10 22 = T at *
    cases neg
    · go_enter Tryz.func127, Tryz.ntmps127
      go_wp2_with fail
      all_goals (go_ret2; first | exact ⟨_, _, rfl, fun _ => rfl, rfl⟩ | exact ⟨_, _, rfl, fun h => absurd h (by decide), rfl⟩)
    · go_enter Tryz.func127, Tryz.ntmps127
      go_wp2_with fail
      all_goals (go_ret2; first | exact ⟨_, _, rfl, fun _ => rfl, rfl⟩ | exact ⟨_, _, rfl, fun h => absurd h (by decide), rfl⟩)
  · obtain ⟨r, m1, r1, r2⟩ := mul_big (s := neg) h0 (by omega) (show j - 22 < 23 by omega) (by omega)
    clear hR hv
    have k3 := run_mul m1
    cases neg
    · have o1 : FloatKind.f64.format.order (Pq.Flt.D.word false r) 4831355200913801216 = some .gt := big_gt r1 r2
      clear m1 r1 r2
      generalize Pq.Flt.D.word false r = Z at *
      generalize wd false d = X at *
      generalize wd true d = Y at *
      generalize p10 (j - 22) = Tj at *
      go_enter Tryz.func127, Tryz.ntmps127
      go_wp2_with fail
      all_goals (go_ret2; first | exact ⟨_, _, rfl, fun _ => rfl, rfl⟩ | exact ⟨_, _, rfl, fun h => absurd h (by decide), rfl⟩)
    · obtain ⟨o1, o2⟩ := big_lt r1 r2
      have o1 : FloatKind.f64.format.order (Pq.Flt.D.word true r) 4831355200913801216 = some .lt := o1
      have o2 : FloatKind.f64.format.order (Pq.Flt.D.word true r) 14054727237768577024 = some .lt := o2
      clear m1 r1 r2
      generalize Pq.Flt.D.word true r = Z at *
      generalize wd false d = X at *
      generalize wd true d = Y at *
      generalize p10 (j - 22) = Tj at *
      go_enter Tryz.func127, Tryz.ntmps127
      go_wp2_with fail
      all_goals (go_ret2; first | exact ⟨_, _, rfl, fun _ => rfl, rfl⟩ | exact ⟨_, _, rfl, fun h => absurd h (by decide), rfl⟩)
/-- atof64exact, where the decimal reads back as b: if it answers, it answers b -/
theorem exact_calls (d : Nat) (p : Int) (neg : Bool) (b : Nat) (w : World) (hE : Env3 w) (h0 : 1 ≤ d) (hd : d < 18446744073709551616) (hp : -400 ≤ p ∧ p ≤ 400) (hb : 1 ≤ b) (hb2 : b < 9218868437227405312) (hR : Rd b d p) : Calls Tryz.prog 127 #[.int .u64 d, .int .i64 p, .bool neg] w (ExPost b neg w) := by
  by_cases h1 : 4503599627370496 ≤ d
  · exact exact_far d p neg b w hE hd h1
  · by_cases h2 : p < -22 ∨ 37 < p
    · exact exact_off d p neg b w hE h0 (by omega) h2 hp
    · rcases Int.lt_or_le p 0 with h3 | h3
      · obtain ⟨j, rfl⟩ : ∃ j : Nat, p = -(j : Int) := ⟨(-p).toNat, by omega⟩
        exact exact_quo d j neg b w hE h0 (by omega) (by omega) hb hb2 hR
      · obtain ⟨j, rfl⟩ : ∃ j : Nat, p = (j : Int) := ⟨p.toNat, by omega⟩
        by_cases h4 : j = 0
        · subst h4; exact exact_zero d neg b w hE h0 (by omega) hb hb2 hR
        · by_cases h5 : j ≤ 22
          · exact exact_mul d j neg b w hE h0 (by omega) (by omega) hb hb2 hR
          · exact exact_wide d j neg b w hE h0 (by omega) (by omega) hb hb2 hR
end Go.Proofs.YthjfdhkahmlolaaGreatDoor
