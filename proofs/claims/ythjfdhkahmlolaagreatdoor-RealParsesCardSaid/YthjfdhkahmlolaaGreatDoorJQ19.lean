/- The walk of atof64exact, where the decimal reads back as a float. -/
import Derived.Test.YthjfdhkahmlolaaGreatDoorJQ15
import Derived.Test.YthjfdhkahmlolaaGreatDoorJQ06
import Derived.Test.YthjfdhkahmlolaaGreatDoorJQ18
import Derived.Test.YthjfdhkahmlolaaGreatDoorJQ14
import Derived.Test.YthjfdhkahmlolaaGreatDoorJQ16
import Derived.Test.YthjfdhkahmlolaaGreatDoorJQ17
namespace Go.Proofs.YthjfdhkahmlolaaGreatDoor
open Go.RowKit Usc
/-- what the parser reads of the laid variables -/
structure Env3 (w : World) : Prop where
  i0 : w.cell? ⟨8, 0, none⟩ = some (.int .u64 52)
  opt : w.cell? ⟨3, 0, none⟩ = some (.bool true)
  tab : ∃ (b o : Nat), w.cell? ⟨12, 0, none⟩ = some (.slice (some ⟨b, o, none⟩) 23 23) ∧ ∀ k, k < 23 → w.cell? ⟨b, o + k, none⟩ = some (.float .f64 (p10 k))
theorem Env3.still {w w' : World} (h : Env3 w) (O : Only (fun _ => False) w w') : Env3 w' := by
  have c : ∀ {b o : Nat} {v : Value}, w.cell? ⟨b, o, none⟩ = some v → w'.cell? ⟨b, o, none⟩ = some v := fun {b o v} hv => by
    rw [O.cellAt (World.block_lt_of_cell? w ⟨b, o, none⟩ hv) id, hv]
  obtain ⟨b, o, h1, h2⟩ := h.tab
  exact ⟨c h.i0, c h.opt, b, o, c h1, fun k hk => c (h2 k hk)⟩
theorem of_int (d : Nat) : floatOfInt FloatKind.f64 (d : Int) = wd false d := by
  have h : floatOfInt FloatKind.f64 (d : Int) = Ieee.double.nearest (decide ((d : Int) < 0)) (d : Int).natAbs 0 := rfl
  rw [h, Pq.Flt.nearest_eq, decide_eq_false (by omega), Int.natAbs_natCast]
  rfl
theorem neg_wd {d : Nat} (h0 : 1 ≤ d) (h1 : d < 9007199254740992) : fnegf (wd false d) = wd true d := by
  obtain ⟨hl, hr, q1, q2⟩ := rung_small h0 h1
  have hlt : Pq.Flt.rung d 0 < 9218868437227405312 := by rw [hr]; omega
  have e1 : wd false d = Pq.Flt.rung d 0 := by unfold wd; rw [Pq.Flt.word_eq]; simp
  have e2 : wd true d = 9223372036854775808 + Pq.Flt.rung d 0 := by unfold wd; rw [Pq.Flt.word_eq]; simp
  rw [e2, e1, fnegf_eq _ (by omega), if_pos (by omega), Nat.add_comm]
theorem run_mul {x y z : Nat} (h : Ieee.double.mul x y = some z) (w : World) : Sem.run Tryz.prog (binOp .mul 25 (.float .f64 x) (.float .f64 y)) w = .ok (.float .f64 z) w := by
  simp [binOp, Op.floatArith, FloatKind.format, h]
theorem run_quo {x y z : Nat} (h : Ieee.double.div x y = some z) (w : World) : Sem.run Tryz.prog (binOp .quo 25 (.float .f64 x) (.float .f64 y)) w = .ok (.float .f64 z) w := by
  simp [binOp, Op.floatArith, FloatKind.format, h]
def ExPost (b : Nat) (neg : Bool) (w : World) (e : Ending) (w' : World) : Prop := ∃ x ok, e = .returned (.tuple #[.float .f64 x, .bool ok]) ∧ (ok = true → x = Ieee.double.word neg b) ∧ w' = w
set_option maxRecDepth 100000
set_option maxHeartbeats 4000000 in
theorem exact_far (d : Nat) (p : Int) (neg : Bool) (b : Nat) (w : World) (hE : Env3 w) (hd : d < 18446744073709551616) (h : 4503599627370496 ≤ d) : Calls Tryz.prog 127 #[.int .u64 d, .int .i64 p, .bool neg] w (ExPost b neg w) := by
  have h0 := hE.i0
  clear hE
  have t1 : ((d : Int) / 4503599627370496 != 0) = true := by rw [bne_iff_ne]; omega
  go_enter Tryz.func127, Tryz.ntmps127
  go_wp2_with fail
  go_ret2
  exact ⟨_, _, rfl, fun h => by simp at h, rfl⟩
set_option maxHeartbeats 4000000 in
theorem exact_zero (d : Nat) (neg : Bool) (b : Nat) (w : World) (hE : Env3 w) (h0 : 1 ≤ d) (h : d < 4503599627370496) (hb : 1 ≤ b) (hb2 : b < 9218868437227405312) (hR : Rd b d 0) : Calls Tryz.prog 127 #[.int .u64 d, .int .i64 0, .bool neg] w (ExPost b neg w) := by
  have i0 := hE.i0
  clear hE
  have t1 : ((d : Int) / 4503599627370496 != 0) = false := by rw [bne_eq_false_iff_eq]; omega
  have k1 := of_int d
  have k2 := run_fneg (wd false d)
  rw [neg_wd h0 (by omega)] at k2
  have hr : Pq.Flt.rung d 0 = b := by
    refine rung_is hb hb2 h0 (Y := 1) (by decide) (.inl (Nat.mul_one _).symm) ?_
    rw [rd_near] at hR
    have e1 : ((0 : Int) + 1075).toNat = kbig := rfl
    have e2 : (-((0 : Int) + 1075)).toNat = 0 := rfl
    have e3 : (0 : Int).toNat = 0 := rfl
    have e4 : (-(0 : Int)).toNat = 0 := rfl
    rw [e1, e2]
    rw [e3, e4] at hR
    rw [Nat.pow_zero, Nat.mul_one] at *
    exact hR
  have HF := Lib.hid (show wd false d = Ieee.double.word false b by unfold wd; rw [hr])
  have HT := Lib.hid (show wd true d = Ieee.double.word true b by unfold wd; rw [hr])
  clear hr hR
  generalize wd false d = X at *
  generalize wd true d = Y at *
  cases neg
  · go_enter Tryz.func127, Tryz.ntmps127
    go_wp2_with fail
    go_ret2
    exact ⟨_, _, rfl, fun _ => HF.out, rfl⟩
  · go_enter Tryz.func127, Tryz.ntmps127
    go_wp2_with fail
    go_ret2
    exact ⟨_, _, rfl, fun _ => HT.out, rfl⟩
set_option maxHeartbeats 4000000 in
theorem exact_mul (d j : Nat) (neg : Bool) (b : Nat) (w : World) (hE : Env3 w) (h0 : 1 ≤ d) (h : d < 4503599627370496) (hj : 1 ≤ j ∧ j ≤ 22) (hb : 1 ≤ b) (hb2 : b < 9218868437227405312) (hR : Rd b d j) : Calls Tryz.prog 127 #[.int .u64 d, .int .i64 (j : Int), .bool neg] w (ExPost b neg w) := by
  have i0 := hE.i0
  obtain ⟨bb, oo, c12, ct⟩ := hE.tab
  have cj := ct j (by omega)
  clear hE ct
  have t1 : ((d : Int) / 4503599627370496 != 0) = false := by rw [bne_eq_false_iff_eq]; omega
  have t2 : ((j : Int) == 0) = false := by rw [beq_eq_false_iff_ne]; omega
  have k1 := of_int d
  have k2 := run_fneg (wd false d)
  rw [neg_wd h0 (by omega)] at k2
  have k3 := run_mul (mul_is (s := false) hb hb2 h0 (by omega) (by omega) hR)
  have k4 := run_mul (mul_is (s := true) hb hb2 h0 (by omega) (by omega) hR)
  clear hR
  generalize wd false d = X at *
  generalize wd true d = Y at *
  generalize p10 j = T at *
  cases neg
  · go_enter Tryz.func127, Tryz.ntmps127
    go_wp2_with fail
    all_goals (go_ret2; first | exact ⟨_, _, rfl, fun _ => rfl, rfl⟩ | exact ⟨_, _, rfl, fun h => absurd h (by decide), rfl⟩)
  · go_enter Tryz.func127, Tryz.ntmps127
    go_wp2_with fail
    all_goals (go_ret2; first | exact ⟨_, _, rfl, fun _ => rfl, rfl⟩ | exact ⟨_, _, rfl, fun h => absurd h (by decide), rfl⟩)
set_option maxHeartbeats 4000000 in
theorem exact_quo (d j : Nat) (neg : Bool) (b : Nat) (w : World) (hE : Env3 w) (h0 : 1 ≤ d) (h : d < 4503599627370496) (hj : 1 ≤ j ∧ j ≤ 22) (hb : 1 ≤ b) (hb2 : b < 9218868437227405312) (hR : Rd b d (-(j : Int))) : Calls Tryz.prog 127 #[.int .u64 d, .int .i64 (-(j : Int)), .bool neg] w (ExPost b neg w) := by
  have i0 := hE.i0
  obtain ⟨bb, oo, c12, ct⟩ := hE.tab
  have cj := ct j (by omega)
  clear hE ct
  have t1 : ((d : Int) / 4503599627370496 != 0) = false := by rw [bne_eq_false_iff_eq]; omega
  have t2 : (-(j : Int) == 0) = false := by rw [beq_eq_false_iff_ne]; omega
  have k1 := of_int d
  have k2 := run_fneg (wd false d)
  rw [neg_wd h0 (by omega)] at k2
  have k3 := run_quo (div_is (s := false) hb hb2 h0 (by omega) (by omega) hR)
  have k4 := run_quo (div_is (s := true) hb hb2 h0 (by omega) (by omega) hR)
  clear hR
  generalize wd false d = X at *
  generalize wd true d = Y at *
  generalize p10 j = T at *
  cases neg
  · go_enter Tryz.func127, Tryz.ntmps127
    go_wp2_with fail
    all_goals (go_ret2; first | exact ⟨_, _, rfl, fun _ => rfl, rfl⟩ | exact ⟨_, _, rfl, fun h => absurd h (by decide), rfl⟩)
  · go_enter Tryz.func127, Tryz.ntmps127
    go_wp2_with fail
    all_goals (go_ret2; first | exact ⟨_, _, rfl, fun _ => rfl, rfl⟩ | exact ⟨_, _, rfl, fun h => absurd h (by decide), rfl⟩)
set_option maxHeartbeats 4000000 in
theorem exact_off (d : Nat) (p : Int) (neg : Bool) (b : Nat) (w : World) (hE : Env3 w) (h0 : 1 ≤ d) (h : d < 4503599627370496) (hp : p < -22 ∨ 37 < p) (hp2 : -400 ≤ p ∧ p ≤ 400) : Calls Tryz.prog 127 #[.int .u64 d, .int .i64 p, .bool neg] w (ExPost b neg w) := by
  have i0 := hE.i0
  clear hE
  have t1 : ((d : Int) / 4503599627370496 != 0) = false := by rw [bne_eq_false_iff_eq]; omega
  have t2 : (p == 0) = false := by rw [beq_eq_false_iff_ne]; omega
  have k1 := of_int d
  have k2 := run_fneg (wd false d)
  rw [neg_wd h0 (by omega)] at k2
  generalize wd false d = X at *
  generalize wd true d = Y at *
  rcases hp with hp | hp
  · cases neg
    · go_enter Tryz.func127, Tryz.ntmps127
      go_wp2_with fail
      all_goals (go_ret2; exact ⟨_, _, rfl, fun h => by simp at h, rfl⟩)
    · go_enter Tryz.func127, Tryz.ntmps127
      go_wp2_with fail
      all_goals (go_ret2; exact ⟨_, _, rfl, fun h => by simp at h, rfl⟩)
  · cases neg
    · go_enter Tryz.func127, Tryz.ntmps127
      go_wp2_with fail
      all_goals (go_ret2; exact ⟨_, _, rfl, fun h => by simp at h, rfl⟩)
    · go_enter Tryz.func127, Tryz.ntmps127
      go_wp2_with fail
      all_goals (go_ret2; exact ⟨_, _, rfl, fun h => by simp at h, rfl⟩)
end Go.Proofs.YthjfdhkahmlolaaGreatDoor

/- atof64exact at exponents 23 to 37; and at every exponent together. -/
namespace Go.Proofs.YthjfdhkahmlolaaGreatDoor
namespace Usc
open Pq.Flt Ieee
set_option maxRecDepth 100000
theorem rung_big {M : Nat} {q : Int} (h : 53 ≤ q + (M.log2 : Int)) (h0 : M ≠ 0) : 4841369599423283200 ≤ rung M q ∧ rung M q ≤ 9218868437227405312 := by
  unfold rung
  rw [if_neg h0]
  simp only
  have hl : max (q + (M.log2 : Int) - 52) (-1074) = q + (M.log2 : Int) - 52 := by omega
  rw [hl]
  generalize rne _ _ = t
  omega
/-- the product of a whole number below 2^52 and a power of ten, where it reaches 2^53 -/
theorem mul_big {s : Bool} {d j : Nat} (h0 : 1 ≤ d) (h1 : d < 9007199254740992) (hj : j < 23) (hv : 9007199254740992 ≤ d * 10 ^ j) : ∃ r, D.mul (wd s d) (p10 j) = some (D.word s r) ∧ 4841369599423283200 ≤ r ∧ r ≤ 9218868437227405312 := by
  obtain ⟨a1, a2, a3, a4, a5⟩ := p10_at hj
  obtain ⟨hl, _, q1, _⟩ := rung_small h0 h1
  have hM : d * 2 ^ (52 - d.log2) * sig (p10 j) ≠ 0 := Nat.pos_iff_ne_zero.1 (Nat.mul_pos (by omega) (by omega))
  refine ⟨_, mul_wd h0 h1 hj, rung_big ?_ hM⟩
  have e1 : 2 ^ (ex (p10 j) + 1075).toNat = 2 ^ (52 - d.log2) * 2 ^ (-((52 - d.log2 : Nat) : Int) + ex (p10 j) + 1075).toNat := by rw [← Nat.pow_add]; congr 1; omega
  rw [e1] at a2
  have hk : big = 2 ^ kbig := rfl
  have hk2 : kbig = 1075 := rfl
  have h3 : 9007199254740992 * big ≤ d * 2 ^ (52 - d.log2) * sig (p10 j) * 2 ^ (-((52 - d.log2 : Nat) : Int) + ex (p10 j) + 1075).toNat := by
    have h4 := Nat.mul_le_mul_right big hv
    rw [Nat.mul_assoc d, ← a2] at h4
    refine Nat.le_trans h4 (Nat.le_of_eq ?_)
    generalize 2 ^ (52 - d.log2) = A
    generalize 2 ^ (-((52 - d.log2 : Nat) : Int) + ex (p10 j) + 1075).toNat = B
    generalize sig (p10 j) = C
    grind
  have h5 : (53 + 1075) ≤ (d * 2 ^ (52 - d.log2) * sig (p10 j)).log2 + (-((52 - d.log2 : Nat) : Int) + ex (p10 j) + 1075).toNat := by
    have g2 := @Nat.lt_log2_self (d * 2 ^ (52 - d.log2) * sig (p10 j))
    have g3 := Nat.mul_lt_mul_of_pos_right g2 (Nat.two_pow_pos (-((52 - d.log2 : Nat) : Int) + ex (p10 j) + 1075).toNat)
    have g4 := Nat.lt_of_le_of_lt h3 g3
    rw [hk, show (9007199254740992 : Nat) = 2 ^ 53 by decide, ← Nat.pow_add, ← Nat.pow_add] at g4
    have := (Nat.pow_lt_pow_iff_right (by decide : 1 < 2)).1 g4
    rw [hk2] at this
    omega
  omega
theorem big_gt {r : Nat} (h1 : 4841369599423283200 ≤ r) (h2 : r ≤ 9218868437227405312) : D.order (D.word false r) 4831355200913801216 = some .gt := by
  have hw : D.word false r = r := by rw [word_eq]; simp
  rw [hw, order_eq _ _ (by unfold nan mag; rw [decide_eq_false_iff_not]; omega) (by decide)]
  have k1 : key r = (r : Int) := by unfold key neg mag; rw [if_neg (by rw [beq_iff_eq]; omega), Nat.mod_eq_of_lt (by omega)]
  have k2 : key 4831355200913801216 = 4831355200913801216 := by decide
  rw [k1, k2]
  exact congrArg some (Int.compare_eq_gt.2 (by omega))
theorem big_lt {r : Nat} (h1 : 4841369599423283200 ≤ r) (h2 : r ≤ 9218868437227405312) : D.order (D.word true r) 4831355200913801216 = some .lt ∧ D.order (D.word true r) 14054727237768577024 = some .lt := by
  have hw : D.word true r = 9223372036854775808 + r := by rw [word_eq]; simp
  have hn : nan (9223372036854775808 + r) = false := by unfold nan mag; rw [decide_eq_false_iff_not]; omega
  have k1 : key (9223372036854775808 + r) = -(r : Int) := by
    unfold key neg mag; rw [if_pos (by rw [beq_iff_eq]; omega), show (9223372036854775808 + r) % 9223372036854775808 = r by omega]
  have k2 : key 4831355200913801216 = 4831355200913801216 := by decide
  have k3 : key 14054727237768577024 = -4831355200913801216 := by decide
  rw [hw, order_eq _ _ hn (by decide), order_eq _ _ hn (by decide), k1, k2, k3]
  exact ⟨congrArg some (Int.compare_eq_lt.2 (by omega)), congrArg some (Int.compare_eq_lt.2 (by omega))⟩
/-- below 2^53 the product is the whole number -/
theorem mul_low {s : Bool} {d j : Nat} (h0 : 1 ≤ d) (hj : j < 23) (hv : d * 10 ^ j < 9007199254740992) : D.mul (wd s d) (p10 j) = some (wd s (d * 10 ^ j)) := by
  have hp : 0 < 10 ^ j := Nat.pow_pos (by decide)
  have hd : d < 9007199254740992 := Nat.lt_of_le_of_lt (Nat.le_mul_of_pos_right d hp) hv
  have hv0 : 1 ≤ d * 10 ^ j := Nat.mul_pos (by omega) hp
  obtain ⟨hl, hr, q1, q2⟩ := rung_small hv0 hv
  have hN : Rd (rung (d * 10 ^ j) 0) (d * 10 ^ j) 0 := by
    rw [rd_near]
    have := rung_near (d * 10 ^ j) 0 (by omega) (by rw [hr]; omega) (by rw [hr]; omega)
    have e1 : ((0 : Int) + 1075).toNat = kbig := rfl
    have e2 : (-((0 : Int) + 1075)).toNat = 0 := rfl
    have e3 : (0 : Int).toNat = 0 := rfl
    have e4 : (-(0 : Int)).toNat = 0 := rfl
    rw [e1, e2] at this
    rw [e3, e4]
    rw [Nat.pow_zero, Nat.mul_one] at *
    exact this
  have hN2 : Rd (rung (d * 10 ^ j) 0) d (j : Int) := by
    have := (Rd.tens (rung (d * 10 ^ j) 0) j d 0).1 (by rw [Nat.mul_comm]; rw [Nat.mul_comm] at hN; exact hN)
    rwa [Int.zero_add] at this
  exact mul_is (by rw [hr]; omega) (by rw [hr]; omega) h0 hd hj hN2
end Usc
open Go.RowKit Usc
set_option maxRecDepth 100000
set_option maxHeartbeats 4000000 in
theorem exact_wide (d j : Nat) (neg : Bool) (b : Nat) (w : World) (hE : Env3 w) (h0 : 1 ≤ d) (h : d < 4503599627370496) (hj : 23 ≤ j ∧ j ≤ 37) (hb : 1 ≤ b) (hb2 : b < 9218868437227405312) (hR : Rd b d j) : Calls Tryz.prog 127 #[.int .u64 d, .int .i64 (j : Int), .bool neg] w (ExPost b neg w) := by
  have i0 := hE.i0
  obtain ⟨bb, oo, c12, ct⟩ := hE.tab
  have cj := ct 22 (by omega)
  have ci := ct (j - 22) (by omega)
  clear hE ct
  have t1 : ((d : Int) / 4503599627370496 != 0) = false := by rw [bne_eq_false_iff_eq]; omega
  have t2 : ((j : Int) == 0) = false := by rw [beq_eq_false_iff_ne]; omega
  have t3 : ((j : Int) - 22).toNat = j - 22 := by omega
  have k1 := of_int d
  have k2 := run_fneg (wd false d)
  rw [neg_wd h0 (by omega)] at k2
  by_cases hv : d * 10 ^ (j - 22) < 9007199254740992
  · have hv0 : 1 ≤ d * 10 ^ (j - 22) := Nat.mul_pos (by omega) (Nat.pow_pos (by decide))
    have hR2 : Rd b (d * 10 ^ (j - 22)) ((22 : Nat) : Int) := by
      rw [Nat.mul_comm]
      refine (Rd.tens b (j - 22) d _).2 ?_
      rw [show ((22 : Nat) : Int) + ((j - 22 : Nat) : Int) = (j : Int) by omega]
      exact hR
    have k3 := run_mul (mul_low (s := false) h0 (show j - 22 < 23 by omega) hv)
    have k4 := run_mul (mul_low (s := true) h0 (show j - 22 < 23 by omega) hv)
    have k5 := run_mul (mul_is (s := false) hb hb2 hv0 hv (by omega) hR2)
    have k6 := run_mul (mul_is (s := true) hb hb2 hv0 hv (by omega) hR2)
    clear hR hR2 hv hv0
    generalize wd false (d * 10 ^ (j - 22)) = Xv at *
    generalize wd true (d * 10 ^ (j - 22)) = Yv at *
    generalize wd false d = X at *
    generalize wd true d = Y at *
    generalize p10 (j - 22) = Tj at *
    generalize p10 22 = T at *
    cases neg
    · go_enter Tryz.func127, Tryz.ntmps127
      go_wp2_with fail
      all_goals (go_ret2; first | exact ⟨_, _, rfl, fun _ => rfl, rfl⟩ | exact ⟨_, _, rfl, fun h => absurd h (by decide), rfl⟩)
    · go_enter Tryz.func127, Tryz.ntmps127
      go_wp2_with fail
      all_goals (go_ret2; first | exact ⟨_, _, rfl, fun _ => rfl, rfl⟩ | exact ⟨_, _, rfl, fun h => absurd h (by decide), rfl⟩)
  · obtain ⟨r, m1, r1, r2⟩ := mul_big (s := neg) h0 (by omega) (show j - 22 < 23 by omega) (by omega)
    clear hR hv
    have k3 := run_mul m1
    cases neg
    · have o1 : FloatKind.f64.format.order (Pq.Flt.D.word false r) 4831355200913801216 = some .gt := big_gt r1 r2
      clear m1 r1 r2
      generalize Pq.Flt.D.word false r = Z at *
      generalize wd false d = X at *
      generalize wd true d = Y at *
      generalize p10 (j - 22) = Tj at *
      go_enter Tryz.func127, Tryz.ntmps127
      go_wp2_with fail
      all_goals (go_ret2; first | exact ⟨_, _, rfl, fun _ => rfl, rfl⟩ | exact ⟨_, _, rfl, fun h => absurd h (by decide), rfl⟩)
    · obtain ⟨o1, o2⟩ := big_lt r1 r2
      have o1 : FloatKind.f64.format.order (Pq.Flt.D.word true r) 4831355200913801216 = some .lt := o1
      have o2 : FloatKind.f64.format.order (Pq.Flt.D.word true r) 14054727237768577024 = some .lt := o2
      clear m1 r1 r2
      generalize Pq.Flt.D.word true r = Z at *
      generalize wd false d = X at *
      generalize wd true d = Y at *
      generalize p10 (j - 22) = Tj at *
      go_enter Tryz.func127, Tryz.ntmps127
      go_wp2_with fail
      all_goals (go_ret2; first | exact ⟨_, _, rfl, fun _ => rfl, rfl⟩ | exact ⟨_, _, rfl, fun h => absurd h (by decide), rfl⟩)
/-- atof64exact, where the decimal reads back as b: if it answers, it answers b -/
theorem exact_calls (d : Nat) (p : Int) (neg : Bool) (b : Nat) (w : World) (hE : Env3 w) (h0 : 1 ≤ d) (hd : d < 18446744073709551616) (hp : -400 ≤ p ∧ p ≤ 400) (hb : 1 ≤ b) (hb2 : b < 9218868437227405312) (hR : Rd b d p) : Calls Tryz.prog 127 #[.int .u64 d, .int .i64 p, .bool neg] w (ExPost b neg w) := by
  by_cases h1 : 4503599627370496 ≤ d
  · exact exact_far d p neg b w hE hd h1
  · by_cases h2 : p < -22 ∨ 37 < p
    · exact exact_off d p neg b w hE h0 (by omega) h2 hp
    · rcases Int.lt_or_le p 0 with h3 | h3
      · obtain ⟨j, rfl⟩ : ∃ j : Nat, p = -(j : Int) := ⟨(-p).toNat, by omega⟩
        exact exact_quo d j neg b w hE h0 (by omega) (by omega) hb hb2 hR
      · obtain ⟨j, rfl⟩ : ∃ j : Nat, p = (j : Int) := ⟨p.toNat, by omega⟩
        by_cases h4 : j = 0
        · subst h4; exact exact_zero d neg b w hE h0 (by omega) hb hb2 hR
        · by_cases h5 : j ≤ 22
          · exact exact_mul d j neg b w hE h0 (by omega) (by omega) hb hb2 hR
          · exact exact_wide d j neg b w hE h0 (by omega) (by omega) hb hb2 hR
end Go.Proofs.YthjfdhkahmlolaaGreatDoor

/- The walk of parseFloat64 and pack64. -/
namespace Go.Proofs.YthjfdhkahmlolaaGreatDoor
open Go.RowKit Usc
theorem stick_le (n s : Nat) (q : Bool) (hn : n < 18446744073709551616) (hs : 8 ≤ s) : stick n s q < 144115188075855872 := by
  unfold stick
  have h1 : n / 2 ^ s < 2 ^ 57 := by
    rw [Nat.div_lt_iff_lt_mul (Nat.two_pow_pos s)]
    have : (2 : Nat) ^ 8 ≤ 2 ^ s := Nat.pow_le_pow_right (by decide) hs
    have h2 : 2 ^ 57 * 2 ^ 8 ≤ 2 ^ 57 * 2 ^ s := Nat.mul_le_mul_left _ this
    have h3 : (2 : Nat) ^ 57 * 2 ^ 8 = 36893488147419103232 := by decide
    omega
  have h2 : q.toNat < 2 ^ 57 := by cases q <;> decide
  have := Nat.or_lt_two_pow h1 h2
  rw [show (2 : Nat) ^ 57 = 144115188075855872 by decide] at this
  exact this
theorem uscaleN_lt {x hi lo s : Nat} (hx : x < 18446744073709551616) (hh : hi < 18446744073709551616) (hs : 8 ≤ s) : uscaleN x hi lo s < 144115188075855872 := by
  have hH := hiN_lt hx hh
  unfold uscaleN
  split
  · exact stick_le _ _ _ hH hs
  · exact stick_le _ _ _ (Nat.mod_lt _ (by decide)) hs
theorem pfu_lt {d : Nat} {p : Int} (h0 : 1 ≤ d) (h1 : d < 18446744073709551616) : pfu d p < 144115188075855872 := by
  obtain ⟨x1, x2, _, _⟩ := pfx_bounds h0 h1
  have := (pfs_ge (p := p) h0 h1).1
  exact uscaleN_lt x2 (th_lt _).1 (by omega)
theorem unmin_calls (w : World) : Calls Tryz.prog 141 #[.int .u64 9007199254740992] w fun e w' => e = .returned (.int .u64 36028797018963966) ∧ w' = w := by
  go_enter Tryz.func141, Tryz.ntmps141
  go_wp2_with fail
  go_ret
  exact ⟨rfl, rfl⟩
theorem b2i_calls (b : Bool) (w : World) : Calls Tryz.prog 140 #[.bool b] w fun e w' => e = .returned (.int .i64 (if b then 1 else 0)) ∧ w' = w := by
  cases b <;>
  · go_enter Tryz.func140, Tryz.ntmps140
    go_wp2_with fail
    go_ret
    exact ⟨rfl, rfl⟩
theorem run_frb126 (x : Nat) (w : World) : Sem.run Tryz.prog (callFunc 126 #[.int .u64 (x : Nat)]) w = .ok (.value (.float .f64 x)) w := by kernel_rfl
theorem or_nat (a b : Nat) (ha : a < 18446744073709551616) (hb : b < 18446744073709551616) : bits BinOp.or IntKind.u64 (a : Int) (b : Int) = ((a ||| b : Nat) : Int) := u64_or_nat a b ha hb
theorem clear52 (s f : Nat) (hs : s = 0 ∨ s = 9223372036854775808) (hf : f < 4503599627370496) : (s + (4503599627370496 + f)) &&& (18446744073709551615 - 4503599627370496) = s + f := by
  have h52 : (4503599627370496 : Nat) = 2 ^ 52 := by decide
  have j1 : 4503599627370496 + f = 2 ^ 52 ||| f := by rw [← h52]; exact (nat_join 52 4503599627370496 f (by decide) (by rw [← h52]; exact hf)).symm
  have j2 : ∀ g, g < 9223372036854775808 → s + g = s ||| g := fun g hg => by
    rcases hs with e | e
    · subst e; simp
    · subst e; exact (nat_join 63 9223372036854775808 g (by decide) (by rw [show (2 ^ 63 : Nat) = 9223372036854775808 from rfl]; exact hg)).symm
  rw [j2 (4503599627370496 + f) (by omega), j2 f (by omega), j1]
  have hC : (18446744073709551615 - 4503599627370496 : Nat) = 2 ^ 64 - (2 ^ 52 + 1) := by decide
  rw [hC]
  apply Nat.eq_of_testBit_eq
  intro i
  rw [Nat.testBit_and, Nat.testBit_two_pow_sub_succ (by decide), Nat.testBit_or, Nat.testBit_or, Nat.testBit_or, Nat.testBit_two_pow]
  have f52 : f.testBit 52 = false := Nat.testBit_lt_two_pow (by rw [← h52]; exact hf)
  have s52 : s.testBit 52 = false := by rcases hs with e | e <;> subst e <;> decide
  have hi : 64 ≤ i → s.testBit i = false ∧ f.testBit i = false := fun h => by
    have hp : 2 ^ 64 ≤ 2 ^ i := Nat.pow_le_pow_right (by decide) h
    rw [show (2 : Nat) ^ 64 = 18446744073709551616 by decide] at hp
    exact ⟨Nat.testBit_lt_two_pow (by rcases hs with e | e <;> omega), Nat.testBit_lt_two_pow (by omega)⟩
  by_cases h1 : 52 = i
  · subst h1; simp [f52, s52]
  · by_cases h2 : i < 64
    · simp [h1, h2]
    · obtain ⟨a, b⟩ := hi (by omega)
      simp [a, b, h1]
theorem or_high (s g E : Nat) (hs : s = 0 ∨ s = 9223372036854775808) (hg : g < 4503599627370496) (hE : E < 2048) : (s + g) ||| (E * 4503599627370496) = s + (E * 4503599627370496 + g) := by
  have j2 : ∀ g, g < 9223372036854775808 → s + g = s ||| g := fun g hg => by
    rcases hs with e | e
    · subst e; simp
    · subst e; exact (nat_join 63 9223372036854775808 g (by decide) (by rw [show (2 ^ 63 : Nat) = 9223372036854775808 from rfl]; exact hg)).symm
  rw [j2 g (by omega), j2 _ (by omega), Nat.or_assoc, Nat.or_comm g, nat_join 52 (E * 4503599627370496) g (by rw [show (2 ^ 52 : Nat) = 4503599627370496 from rfl, Nat.mul_mod_left]) (by rw [show (2 ^ 52 : Nat) = 4503599627370496 from rfl]; exact hg)]
set_option maxRecDepth 100000
/-- pack64, of a number below one binade -/
theorem pack_low (M : Nat) (e : Int) (w : World) (hM : M < 18446744073709551616) (h : M / 4503599627370496 % 2 = 0) : Calls Tryz.prog 158 #[.int .u64 M, .int .i64 e] w fun en w' => en = .returned (.tuple #[.float .f64 M, .nilIface]) ∧ w' = w := by
  have k1 : bits BinOp.and IntKind.u64 (M : Int) 4503599627370496 = 0 := by
    have h1 := u64_and_nat M 4503599627370496 hM (by omega)
    have h2 := nat_bit 52 M
    rw [show (2 ^ 52 : Nat) = 4503599627370496 from rfl] at h2
    rw [h2, h] at h1
    exact h1
  have k2 := run_frb126 M
  go_enter Tryz.func158, Tryz.ntmps158
  go_wp2_with fail
  go_ret2
  exact ⟨rfl, rfl⟩
/-- pack64, of a significand with its first bit, finite -/
theorem pack_high (s m : Nat) (e : Int) (w : World) (hs : s = 0 ∨ s = 9223372036854775808) (hm : 4503599627370496 ≤ m ∧ m < 9007199254740992) (he : -1074 ≤ e ∧ e ≤ 971) :
    Calls Tryz.prog 158 #[.int .u64 ((s ||| m : Nat) : Int), .int .i64 e] w fun en w' => en = .returned (.tuple #[.float .f64 (s + ((1074 + e).toNat * 4503599627370496 + m)), .nilIface]) ∧ w' = w := by
  have hsm : s ||| m = s + m := by
    rcases hs with e | e
    · subst e; simp
    · subst e
      have := nat_join 63 9223372036854775808 m (by decide) (by rw [show (2 ^ 63 : Nat) = 9223372036854775808 from rfl]; omega)
      exact this
  rw [hsm]
  have hM : s + m < 18446744073709551616 := by rcases hs with e | e <;> omega
  have k1 : bits BinOp.and IntKind.u64 ((s + m : Nat) : Int) 4503599627370496 = 4503599627370496 := by
    have h1 := u64_and_nat (s + m) 4503599627370496 hM (by omega)
    have h2 := nat_bit 52 (s + m)
    rw [show (2 ^ 52 : Nat) = 4503599627370496 from rfl] at h2
    rw [h2, show (s + m) / 4503599627370496 % 2 = 1 by rcases hs with e | e <;> omega] at h1
    exact h1
  have k3 : bits BinOp.andNot IntKind.u64 ((s + m : Nat) : Int) 4503599627370496 = ((s + (m - 4503599627370496) : Nat) : Int) := by
    have h1 := u64_andNot_nat (s + m) 4503599627370496 hM (by omega)
    have h2 := clear52 s (m - 4503599627370496) hs (by omega)
    rw [show 4503599627370496 + (m - 4503599627370496) = m by omega] at h2
    rw [h2] at h1
    exact h1
  obtain ⟨E, hE⟩ : ∃ E : Nat, (E : Int) = 1075 + e := ⟨(1075 + e).toNat, by omega⟩
  have k4 : bits BinOp.or IntKind.u64 ((s + (m - 4503599627370496) : Nat) : Int) ((E : Int) * 4503599627370496) = ((s + ((1074 + e).toNat * 4503599627370496 + m) : Nat) : Int) := by
    have h1 := u64_or_nat (s + (m - 4503599627370496)) (E * 4503599627370496) (by omega) (by omega)
    rw [or_high s (m - 4503599627370496) E hs (by omega) (by omega)] at h1
    have e1 : s + (E * 4503599627370496 + (m - 4503599627370496)) = s + ((1074 + e).toNat * 4503599627370496 + m) := by omega
    rw [e1] at h1
    exact h1
  have k2 := run_frb126 (s + ((1074 + e).toNat * 4503599627370496 + m))
  rw [hE] at k4
  generalize s + ((1074 + e).toNat * 4503599627370496 + m) = X at *
  generalize s + (m - 4503599627370496) = A at *
  generalize s + m = M at *
  clear hE
  go_enter Tryz.func158, Tryz.ntmps158
  go_wp2_with fail
  go_ret2
  exact ⟨rfl, rfl⟩
theorem or_low (u : Nat) : u ||| u % 2 = u := by
  rcases Nat.mod_two_eq_zero_or_one u with h | h
  · rw [h]; simp
  · rw [h, or_one_eq]; omega
set_option maxHeartbeats 4000000 in
/-- parseFloat64: what pack64 tells of the rounded number, or a signed nought -/
theorem parse_calls (d : Nat) (p : Int) (sg : Nat) (w : World) (hT : Tab w) (h0 : 1 ≤ d) (h1 : d < 18446744073709551616) (hp : -345 ≤ p ∧ p ≤ 310) (hsg : sg = 0 ∨ sg = 9223372036854775808) (P : Value → Value → Prop)
    (hbig : 64 ≤ pfs d p → P (.float .f64 sg) .nilIface)
    (hpk : pfs d p < 64 → ∀ w : World, Calls Tryz.prog 158 #[.int .u64 ((sg ||| pfr d p : Nat) : Int), .int .i64 (-(pfe d p - pfk d p))] w fun e w' => ∃ x y, e = .returned (.tuple #[x, y]) ∧ P x y ∧ w' = w) :
    Calls Tryz.prog 128 #[.int .u64 d, .int .i64 p, .int .u64 sg] w fun e w' => ∃ x y, e = .returned (.tuple #[x, y]) ∧ P x y ∧ Only (fun _ => False) w w' := by
  obtain ⟨x1, x2, b1, b2⟩ := pfx_bounds h0 h1
  have hs8 := (pfs_ge (p := p) h0 h1).1
  have hul := pfu_lt (p := p) h0 h1
  have HT := Lib.hid hT; have HB := Lib.hid hbig; have HP := Lib.hid hpk
  clear hT hbig hpk
  have hsg2 : sg < 18446744073709551616 := by rcases hsg with e | e <;> omega
  have n13 : w.heap.size ≠ 13 := by
    obtain ⟨x, _, h2, _⟩ := HT.out.row 0 (by omega)
    have := World.block_lt_of_cell? w ⟨13, 0 * 2, none⟩ h2
    have h3 : 13 < w.heap.size := this
    omega
  have e1 : min 1074 (53 - (Lib.bitLen d : Int) - plp p) = pfe d p := rfl
  have e2 : (64 : Int) - (Lib.bitLen d : Int) = pfz d := by unfold pfz; omega
  have e3 : IntKind.u64.wrap ((d : Int) * 2 ^ (64 - Lib.bitLen d)) = ((pfx d : Nat) : Int) := by
    have h3 : ((d : Int) * 2 ^ (64 - Lib.bitLen d)) = ((pfx d : Nat) : Int) := by unfold pfx pfz; push_cast; rfl
    rw [h3]
    exact wrap_u64 (by omega) (by omega)
  have L2 := Lib.hid (fun w => l2_calls p w (by omega) (by omega))
  rw [show p * 108853 / 32768 = plp p from rfl] at L2
  have hlp : -1500 ≤ plp p ∧ plp p ≤ 1500 := by unfold plp; omega
  have hpe : -2000 ≤ pfe d p ∧ pfe d p ≤ 1074 := by unfold pfe; omega
  have hpz : pfz d ≤ 63 := by unfold pfz; omega
  have hS := Lib.hid (show pfs d p = -(pfe d p - pfz d + plp p + 3) from rfl)
  have HU := Lib.hid (fun (a : Nat) (w : World) (ha : w.heap[a]? = some (.cells #[.int .u64 (th p), .int .u64 (tl p), .int .i64 ((pfs d p).toNat : Int)] 169 (0, 0))) (hl : pfs d p < 64) => uscale_calls (pfx d) (th p) (tl p) (pfs d p).toNat a w x2 (th_lt _).1 (th_lt _).2 (by omega) ha)
  have HUE := Lib.hid (show uscaleN (pfx d) (th p) (tl p) (pfs d p).toNat = pfu d p from rfl)
  have HR := Lib.hid (show pfr d p = rndm (if 36028797018963966 ≤ pfu d p then (pfu d p / 2) ||| (pfu d p % 2) else pfu d p) from rfl)
  have HK := Lib.hid (show pfk d p = if 36028797018963966 ≤ pfu d p then 1 else 0 from rfl)
  have HE1 := Lib.hid e1; have HE2 := Lib.hid e2; have HE3 := Lib.hid e3
  clear e1 e2 e3 x1 x2
  generalize hL : Lib.bitLen d = L at *
  have HL := Lib.hid hL
  clear hL
  go_enter Tryz.func128, Tryz.ntmps128
  go_wp2_with fail
  refine (Tryz.bits_Len64 d _ (by omega) (by omega)).mono ?_
  rintro en w1 ⟨rfl, hw⟩; rw [hw]; clear hw w1
  rw [Int.toNat_natCast, HL.out]
  go_wp2_with fail
  refine (L2.out _).mono ?_
  rintro en w1 ⟨rfl, hw⟩; rw [hw]; clear hw w1 L2
  generalize plp p = lp at *
  go_wp2_with fail
  rw [HE1.out, HE2.out]
  generalize pfe d p = e at *
  generalize pfz d = z at *
  refine (prescale_calls w.heap.size (e - (z : Int)) p lp _ _ _ _ (HT.out.still ((Only.refl (fun _ => False) w).alloc _) id) (by omega) (by omega) (by omega) (blk_new _ _) n13).mono ?_
  rintro en w1 ⟨rfl, B1, O1⟩
  have OO := Lib.hid (show Only (fun _ => False) w w1 from ((Only.refl (fun _ => False) w).alloc (.cells #[.int .u64 0, .int .u64 0, .int .i64 0] 169)).seq2 O1 (by rintro i rfl; exact .inl (Nat.le_refl _)))
  rw [← hS.out] at B1
  obtain ⟨sN, hsN⟩ : ∃ sN : Nat, pfs d p = sN := ⟨(pfs d p).toNat, by omega⟩
  rw [hsN] at B1 HU HP HB hs8 HUE
  rw [Int.toNat_natCast] at HU HUE
  have c2 := blk_cell B1 2
  simp at c2
  have HB1 := Lib.hid B1
  clear B1 O1 hsN hS
  have h13 : w.heap.size < w1.heap.size := blk_lt HB1.out
  by_cases h64 : 64 ≤ sN
  · have hb := Lib.hid (HB.out (by omega))
    have k1 := run_frb126 sg
    have k2 : bits BinOp.or IntKind.u64 (sg : Int) 0 = sg := by
      have := u64_or_nat sg 0 hsg2 (by decide)
      rw [Nat.or_zero] at this; exact this
    clear HP HB HU
    go_wp2_with fail
    go_ret2
    exact ⟨_, _, rfl, hb.out, OO.out⟩
  · have hl : sN < 64 := by omega
    clear h64
    have U1 := Lib.hid (fun w2 (h : w2.heap[w.heap.size]? = _) => HU.out w.heap.size w2 h (by omega))
    have PP := Lib.hid (HP.out (by omega))
    clear HB HP HU
    rw [HUE.out] at U1
    go_wp2_with fail
    rw [HE3.out]
    refine (U1.out w1 HB1.out).mono ?_
    rintro en w2 ⟨rfl, S2⟩
    have O2 := Lib.hid (OO.out.trans (S2.only _)); clear S2 U1
    have HRR := Lib.hid (show 0 ≤ pfr d p from Nat.zero_le _)
    generalize pfu d p = u at *
    have a1 := and_1 u (by omega)
    have hd2 : u / 2 < 18446744073709551616 := by omega
    have hm2 : u % 2 < 18446744073709551616 := by omega
    by_cases hu : 36028797018963966 ≤ u
    · have hR := HR.out; have hK := HK.out
      rw [if_pos hu] at hR hK
      have k1 : bits BinOp.or IntKind.u64 ((u : Int) / 2) ((u : Int) % 2) = ((u / 2 ||| u % 2 : Nat) : Int) := by
        have := u64_or_nat (u / 2) (u % 2) hd2 hm2
        rw [show (((u / 2 : Nat) : Nat) : Int) = (u : Int) / 2 by omega, show (((u % 2 : Nat) : Nat) : Int) = (u : Int) % 2 by omega] at this
        exact this
      have hv : u / 2 ||| u % 2 < 18446744073709551600 := by
        have := Nat.or_lt_two_pow (n := 57) (x := u / 2) (y := u % 2) (by rw [show (2 : Nat) ^ 57 = 144115188075855872 by decide]; omega) (by rw [show (2 : Nat) ^ 57 = 144115188075855872 by decide]; omega)
        rw [show (2 : Nat) ^ 57 = 144115188075855872 by decide] at this
        omega
      have RC := Lib.hid (fun w => round_calls (u / 2 ||| u % 2) w (by omega))
      generalize u / 2 ||| u % 2 = v at *
      rw [show (v + 1 + v / 4 % 2) / 4 = pfr d p from hR.symm] at RC
      rw [hK] at PP
      have hpr : pfr d p < 18446744073709551616 := by rw [hR]; unfold rndm; omega
      have k2 := or_nat sg (pfr d p) hsg2 hpr
      clear hR hK HR HK
      generalize pfr d p = m at *
      go_wp2_with fail
      refine (unmin_calls _).mono ?_
      rintro en w3 ⟨rfl, hw⟩; rw [hw]; clear hw w3
      go_wp2_with fail
      rw [show decide ((36028797018963966 : Int) ≤ (u : Int)) = true from decide_eq_true (by omega)]
      refine (b2i_calls true _).mono ?_
      rintro en w3 ⟨rfl, hw⟩; rw [hw]; clear hw w3
      rw [if_pos rfl]
      go_wp2_with fail
      refine (RC.out _).mono ?_
      rintro en w3 ⟨rfl, hw⟩; rw [hw]; clear hw w3
      go_wp2_with fail
      refine (PP.out _).mono ?_
      rintro en w3 ⟨x, y, rfl, hP, hw⟩; rw [hw]; clear hw w3 PP
      have HP := Lib.hid hP; clear hP
      go_wp2_with fail
      go_ret2
      exact ⟨_, _, rfl, HP.out, O2.out⟩
    · have hR := HR.out; have hK := HK.out
      rw [if_neg hu] at hR hK
      have k1 : bits BinOp.or IntKind.u64 (u : Int) ((u : Int) % 2) = (u : Int) := by
        have := u64_or_nat u (u % 2) (by omega) hm2
        rw [or_low, show (((u % 2 : Nat) : Nat) : Int) = (u : Int) % 2 by omega] at this
        exact this
      have RC := Lib.hid (fun w => round_calls u w (by omega))
      rw [show (u + 1 + u / 4 % 2) / 4 = pfr d p from hR.symm] at RC
      rw [hK, show e - ((0 : Nat) : Int) = e by simp] at PP
      have hpr : pfr d p < 18446744073709551616 := by rw [hR]; unfold rndm; omega
      have k2 := or_nat sg (pfr d p) hsg2 hpr
      clear hR hK HR HK
      generalize pfr d p = m at *
      go_wp2_with fail
      refine (unmin_calls _).mono ?_
      rintro en w3 ⟨rfl, hw⟩; rw [hw]; clear hw w3
      go_wp2_with fail
      rw [show decide ((36028797018963966 : Int) ≤ (u : Int)) = false from decide_eq_false (by omega)]
      refine (b2i_calls false _).mono ?_
      rintro en w3 ⟨rfl, hw⟩; rw [hw]; clear hw w3
      rw [if_neg (by decide)]
      go_wp2_with fail
      refine (RC.out _).mono ?_
      rintro en w3 ⟨rfl, hw⟩; rw [hw]; clear hw w3
      go_wp2_with fail
      refine (PP.out _).mono ?_
      rintro en w3 ⟨x, y, rfl, hP, hw⟩; rw [hw]; clear hw w3 PP
      have HP := Lib.hid hP; clear hP
      go_wp2_with fail
      go_ret2
      exact ⟨_, _, rfl, HP.out, O2.out⟩
end Go.Proofs.YthjfdhkahmlolaaGreatDoor
