/- The walk of atof64exact, where the decimal reads back as a float. -/
import Derived.Test.YthjfdhkahmlolaaGreatDoorJR45
import Derived.Test.YthjfdhkahmlolaaGreatDoorJR10
import Derived.Test.YthjfdhkahmlolaaGreatDoorJR36
namespace Go.Proofs.YthjfdhkahmlolaaGreatDoor
open Go.RowKit Usc
/-- what the parser reads of the laid variables -/
structure Env3 (w : World) : Prop where
  i0 : w.cell? ⟨8, 0, none⟩ = some (.int .u64 52)
  opt : w.cell? ⟨3, 0, none⟩ = some (.bool true)
  tab : ∃ (b o : Nat), w.cell? ⟨12, 0, none⟩ = some (.slice (some ⟨b, o, none⟩) 23 23) ∧ ∀ k, k < 23 → w.cell? ⟨b, o + k, none⟩ = some (.float .f64 (p10 k))
theorem Env3.still {w w' : World} (h : Env3 w) (O : Only (fun _ => False) w w') : Env3 w' := by
  have c : ∀ {b o : Nat} {v : Value}, w.cell? ⟨b, o, none⟩ = some v → w'.cell? ⟨b, o, none⟩ = some v := fun {b o v} hv => by
    rw [O.cellAt (World.block_lt_of_cell? w ⟨b, o, none⟩ hv) id, hv]
  obtain ⟨b, o, h1, h2⟩ := h.tab
  exact ⟨c h.i0, c h.opt, b, o, c h1, fun k hk => c (h2 k hk)⟩
theorem of_int (d : Nat) : floatOfInt FloatKind.f64 (d : Int) = wd false d := by
  have h : floatOfInt FloatKind.f64 (d : Int) = Ieee.double.nearest (decide ((d : Int) < 0)) (d : Int).natAbs 0 := rfl
  rw [h, Pq.Flt.nearest_eq, decide_eq_false (by omega), Int.natAbs_natCast]
  rfl
theorem neg_wd {d : Nat} (h0 : 1 ≤ d) (h1 : d < 9007199254740992) : fnegf (wd false d) = wd true d := by
  obtain ⟨hl, hr, q1, q2⟩ := rung_small h0 h1
  have hlt : Pq.Flt.rung d 0 < 9218868437227405312 := by rw [hr]; omega
  have e1 : wd false d = Pq.Flt.rung d 0 := by unfold wd; rw [Pq.Flt.word_eq]; simp
  have e2 : wd true d = 9223372036854775808 + Pq.Flt.rung d 0 := by unfold wd; rw [Pq.Flt.word_eq]; simp
  rw [e2, e1, fnegf_eq _ (by omega), if_pos (by omega), Nat.add_comm]
theorem run_mul {x y z : Nat} (h : Ieee.double.mul x y = some z) (w : World) : Sem.run Tryz.prog (binOp .mul 25 (.float .f64 x) (.float .f64 y)) w = .ok (.float .f64 z) w := by
  simp [binOp, Op.floatArith, FloatKind.format, h]
theorem run_quo {x y z : Nat} (h : Ieee.double.div x y = some z) (w : World) : Sem.run Tryz.prog (binOp .quo 25 (.float .f64 x) (.float .f64 y)) w = .ok (.float .f64 z) w := by
  simp [binOp, Op.floatArith, FloatKind.format, h]
def ExPost (b : Nat) (neg : Bool) (w : World) (e : Ending) (w' : World) : Prop := ∃ x ok, e = .returned (.tuple #[.float .f64 x, .bool ok]) ∧ (ok = true → x = Ieee.double.word neg b) ∧ w' = w
set_option maxRecDepth 100000
set_option maxHeartbeats 4000000 in
theorem exact_far (d : Nat) (p : Int) (neg : Bool) (b : Nat) (w : World) (hE : Env3 w) (hd : d < 18446744073709551616) (h : 4503599627370496 ≤ d) : Calls Tryz.prog 127 #[.int .u64 d, .int .i64 p, .bool neg] w (ExPost b neg w) := by
  have h0 := hE.i0
  clear hE
  have t1 : ((d : Int) / 4503599627370496 != 0) = true := by rw [bne_iff_ne]; omega
  go_enter Tryz.func127, Tryz.ntmps127
  go_wp2_with fail
  go_ret2
  exact ⟨_, _, rfl, fun h => by simp at h, rfl⟩
set_option maxHeartbeats 4000000 in
theorem exact_zero (d : Nat) (neg : Bool) (b : Nat) (w : World) (hE : Env3 w) (h0 : 1 ≤ d) (h : d < 4503599627370496) (hb : 1 ≤ b) (hb2 : b < 9218868437227405312) (hR : Rd b d 0) : Calls Tryz.prog 127 #[.int .u64 d, .int .i64 0, .bool neg] w (ExPost b neg w) := by
  have i0 := hE.i0
  clear hE
  have t1 : ((d : Int) / 4503599627370496 != 0) = false := by rw [bne_eq_false_iff_eq]; omega
  have k1 := of_int d
  have k2 := run_fneg (wd false d)
  rw [neg_wd h0 (by omega)] at k2
  have hr : Pq.Flt.rung d 0 = b := by
    refine rung_is hb hb2 h0 (Y := 1) (by decide) (.inl (Nat.mul_one _).symm) ?_
    rw [rd_near] at hR
    have e1 : ((0 : Int) + 1075).toNat = kbig := rfl
    have e2 : (-((0 : Int) + 1075)).toNat = 0 := rfl
    have e3 : (0 : Int).toNat = 0 := rfl
    have e4 : (-(0 : Int)).toNat = 0 := rfl
    rw [e1, e2]
    rw [e3, e4] at hR
    rw [Nat.pow_zero, Nat.mul_one] at *
    exact hR
  have HF := Lib.hid (show wd false d = Ieee.double.word false b by unfold wd; rw [hr])
  have HT := Lib.hid (show wd true d = Ieee.double.word true b by unfold wd; rw [hr])
  clear hr hR
  generalize wd false d = X at *
  generalize wd true d = Y at *
  cases neg
  · go_enter Tryz.func127, Tryz.ntmps127
    go_wp2_with fail
    go_ret2
    exact ⟨_, _, rfl, fun _ => HF.out, rfl⟩
  · go_enter Tryz.func127, Tryz.ntmps127
    go_wp2_with fail
    go_ret2
    exact ⟨_, _, rfl, fun _ => HT.out, rfl⟩
set_option maxHeartbeats 4000000 in
theorem exact_mul (d j : Nat) (neg : Bool) (b : Nat) (w : World) (hE : Env3 w) (h0 : 1 ≤ d) (h : d < 4503599627370496) (hj : 1 ≤ j ∧ j ≤ 22) (hb : 1 ≤ b) (hb2 : b < 9218868437227405312) (hR : Rd b d j) : Calls Tryz.prog 127 #[.int .u64 d, .int .i64 (j : Int), .bool neg] w (ExPost b neg w) := by
  have i0 := hE.i0
  obtain ⟨bb, oo, c12, ct⟩ := hE.tab
  have cj := ct j (by omega)
  clear hE ct
  have t1 : ((d : Int) / 4503599627370496 != 0) = false := by rw [bne_eq_false_iff_eq]; omega
  have t2 : ((j : Int) == 0) = false := by rw [beq_eq_false_iff_ne]; omega
  have k1 := of_int d
  have k2 := run_fneg (wd false d)
  rw [neg_wd h0 (by omega)] at k2
  have k3 := run_mul (mul_is (s := false) hb hb2 h0 (by omega) (by omega) hR)
  have k4 := run_mul (mul_is (s := true) hb hb2 h0 (by omega) (by omega) hR)
  clear hR
  generalize wd false d = X at *
  generalize wd true d = Y at *
  generalize p10 j = T at *
  cases neg
  · go_enter Tryz.func127, Tryz.ntmps127
    go_wp2_with fail
    all_goals (go_ret2; first | exact ⟨_, _, rfl, fun _ => rfl, rfl⟩ | exact ⟨_, _, rfl, fun h => absurd h (by decide), rfl⟩)
  · go_enter Tryz.func127, Tryz.ntmps127
    go_wp2_with fail
    all_goals (go_ret2; first | exact ⟨_, _, rfl, fun _ => rfl, rfl⟩ | exact ⟨_, _, rfl, fun h => absurd h (by decide), rfl⟩)
set_option maxHeartbeats 4000000 in
theorem exact_quo (d j : Nat) (neg : Bool) (b : Nat) (w : World) (hE : Env3 w) (h0 : 1 ≤ d) (h : d < 4503599627370496) (hj : 1 ≤ j ∧ j ≤ 22) (hb : 1 ≤ b) (hb2 : b < 9218868437227405312) (hR : Rd b d (-(j : Int))) : Calls Tryz.prog 127 #[.int .u64 d, .int .i64 (-(j : Int)), .bool neg] w (ExPost b neg w) := by
  have i0 := hE.i0
  obtain ⟨bb, oo, c12, ct⟩ := hE.tab
  have cj := ct j (by omega)
  clear hE ct
  have t1 : ((d : Int) / 4503599627370496 != 0) = false := by rw [bne_eq_false_iff_eq]; omega
  have t2 : (-(j : Int) == 0) = false := by rw [beq_eq_false_iff_ne]; omega
  have k1 := of_int d
  have k2 := run_fneg (wd false d)
  rw [neg_wd h0 (by omega)] at k2
  have k3 := run_quo (div_is (s := false) hb hb2 h0 (by omega) (by omega) hR)
  have k4 := run_quo (div_is (s := true) hb hb2 h0 (by omega) (by omega) hR)
  clear hR
  generalize wd false d = X at *
  generalize wd true d = Y at *
  generalize p10 j = T at *
  cases neg
  · go_enter Tryz.func127, Tryz.ntmps127
    go_wp2_with fail
    all_goals (go_ret2; first | exact ⟨_, _, rfl, fun _ => rfl, rfl⟩ | exact ⟨_, _, rfl, fun h => absurd h (by decide), rfl⟩)
  · go_enter Tryz.func127, Tryz.ntmps127
    go_wp2_with fail
    all_goals (go_ret2; first | exact ⟨_, _, rfl, fun _ => rfl, rfl⟩ | exact ⟨_, _, rfl, fun h => absurd h (by decide), rfl⟩)
set_option maxHeartbeats 4000000 in
theorem exact_off (d : Nat) (p : Int) (neg : Bool) (b : Nat) (w : World) (hE : Env3 w) (h0 : 1 ≤ d) (h : d < 4503599627370496) (hp : p < -22 ∨ 37 < p) (hp2 : -400 ≤ p ∧ p ≤ 400) : Calls Tryz.prog 127 #[.int .u64 d, .int .i64 p, .bool neg] w (ExPost b neg w) := by
  have i0 := hE.i0
  clear hE
  have t1 : ((d : Int) / 4503599627370496 != 0) = false := by rw [bne_eq_false_iff_eq]; omega
  have t2 : (p == 0) = false := by rw [beq_eq_false_iff_ne]; omega
  have k1 := of_int d
  have k2 := run_fneg (wd false d)
  rw [neg_wd h0 (by omega)] at k2
  generalize wd false d = X at *
  generalize wd true d = Y at *
  rcases hp with hp | hp
  · cases neg
    · go_enter Tryz.func127, Tryz.ntmps127
      go_wp2_with fail
      all_goals (go_ret2; exact ⟨_, _, rfl, fun h => by simp at h, rfl⟩)
    · go_enter Tryz.func127, Tryz.ntmps127
      go_wp2_with fail
      all_goals (go_ret2; exact ⟨_, _, rfl, fun h => by simp at h, rfl⟩)
  · cases neg
    · go_enter Tryz.func127, Tryz.ntmps127
      go_wp2_with fail
      all_goals (go_ret2; exact ⟨_, _, rfl, fun h => by simp at h, rfl⟩)
    · go_enter Tryz.func127, Tryz.ntmps127
      go_wp2_with fail
      all_goals (go_ret2; exact ⟨_, _, rfl, fun h => by simp at h, rfl⟩)
end Go.Proofs.YthjfdhkahmlolaaGreatDoor
