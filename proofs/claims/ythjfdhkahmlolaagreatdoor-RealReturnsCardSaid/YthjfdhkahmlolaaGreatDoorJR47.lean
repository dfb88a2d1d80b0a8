/- atof64exact at exponents 23 to 37; and at every exponent together. -/
import Derived.Test.YthjfdhkahmlolaaGreatDoorJR46
import Derived.Test.YthjfdhkahmlolaaGreatDoorJR43
import Derived.Test.YthjfdhkahmlolaaGreatDoorJR20
namespace Go.Proofs.YthjfdhkahmlolaaGreatDoor
namespace Usc
open Pq.Flt Ieee
set_option maxRecDepth 100000
theorem rung_big {M : Nat} {q : Int} (h : 53 ≤ q + (M.log2 : Int)) (h0 : M ≠ 0) : 4841369599423283200 ≤ rung M q ∧ rung M q ≤ 9218868437227405312 := by
  unfold rung
  rw [if_neg h0]
  simp only
  have hl : max (q + (M.log2 : Int) - 52) (-1074) = q + (M.log2 : Int) - 52 := by omega
  rw [hl]
  generalize rne _ _ = t
  omega
/-- the product of a whole number below 2^52 and a power of ten, where it reaches 2^53 -/
theorem mul_big {s : Bool} {d j : Nat} (h0 : 1 ≤ d) (h1 : d < 9007199254740992) (hj : j < 23) (hv : 9007199254740992 ≤ d * 10 ^ j) : ∃ r, D.mul (wd s d) (p10 j) = some (D.word s r) ∧ 4841369599423283200 ≤ r ∧ r ≤ 9218868437227405312 := by
  obtain ⟨a1, a2, a3, a4, a5⟩ := p10_at hj
  obtain ⟨hl, _, q1, _⟩ := rung_small h0 h1
  have hM : d * 2 ^ (52 - d.log2) * sig (p10 j) ≠ 0 := Nat.pos_iff_ne_zero.1 (Nat.mul_pos (by omega) (by omega))
  refine ⟨_, mul_wd h0 h1 hj, rung_big ?_ hM⟩
  have e1 : 2 ^ (ex (p10 j) + 1075).toNat = 2 ^ (52 - d.log2) * 2 ^ (-((52 - d.log2 : Nat) : Int) + ex (p10 j) + 1075).toNat := by rw [← Nat.pow_add]; congr 1; omega
  rw [e1] at a2
  have hk : big = 2 ^ kbig := rfl
  have hk2 : kbig = 1075 := rfl
  have h3 : 9007199254740992 * big ≤ d * 2 ^ (52 - d.log2) * sig (p10 j) * 2 ^ (-((52 - d.log2 : Nat) : Int) + ex (p10 j) + 1075).toNat := by
    have h4 := Nat.mul_le_mul_right big hv
    rw [Nat.mul_assoc d, ← a2] at h4
    refine Nat.le_trans h4 (Nat.le_of_eq ?_)
    generalize 2 ^ (52 - d.log2) = A
    generalize 2 ^ (-((52 - d.log2 : Nat) : Int) + ex (p10 j) + 1075).toNat = B
    generalize sig (p10 j) = C
    grind
  have h5 : (53 + 1075) ≤ (d * 2 ^ (52 - d.log2) * sig (p10 j)).log2 + (-((52 - d.log2 : Nat) : Int) + ex (p10 j) + 1075).toNat := by
    have g2 := @Nat.lt_log2_self (d * 2 ^ (52 - d.log2) * sig (p10 j))
    have g3 := Nat.mul_lt_mul_of_pos_right g2 (Nat.two_pow_pos (-((52 - d.log2 : Nat) : Int) + ex (p10 j) + 1075).toNat)
    have g4 := Nat.lt_of_le_of_lt h3 g3
    rw [hk, show (9007199254740992 : Nat) = 2 ^ 53 by decide, ← Nat.pow_add, ← Nat.pow_add] at g4
    have := (Nat.pow_lt_pow_iff_right (by decide : 1 < 2)).1 g4
    rw [hk2] at this
    omega
  omega
theorem big_gt {r : Nat} (h1 : 4841369599423283200 ≤ r) (h2 : r ≤ 9218868437227405312) : D.order (D.word false r) 4831355200913801216 = some .gt := by
  have hw : D.word false r = r := by rw [word_eq]; simp
  rw [hw, order_eq _ _ (by unfold nan mag; rw [decide_eq_false_iff_not]; omega) (by decide)]
  have k1 : key r = (r : Int) := by unfold key neg mag; rw [if_neg (by rw [beq_iff_eq]; omega), Nat.mod_eq_of_lt (by omega)]
  have k2 : key 4831355200913801216 = 4831355200913801216 := by decide
  rw [k1, k2]
  exact congrArg some (Int.compare_eq_gt.2 (by omega))
theorem big_lt {r : Nat} (h1 : 4841369599423283200 ≤ r) (h2 : r ≤ 9218868437227405312) : D.order (D.word true r) 4831355200913801216 = some .lt ∧ D.order (D.word true r) 14054727237768577024 = some .lt := by
  have hw : D.word true r = 9223372036854775808 + r := by rw [word_eq]; simp
  have hn : nan (9223372036854775808 + r) = false := by unfold nan mag; rw [decide_eq_false_iff_not]; omega
  have k1 : key (9223372036854775808 + r) = -(r : Int) := by
    unfold key neg mag; rw [if_pos (by rw [beq_iff_eq]; omega), show (9223372036854775808 + r) % 9223372036854775808 = r by omega]
  have k2 : key 4831355200913801216 = 4831355200913801216 := by decide
  have k3 : key 14054727237768577024 = -4831355200913801216 := by decide
  rw [hw, order_eq _ _ hn (by decide), order_eq _ _ hn (by decide), k1, k2, k3]
  exact ⟨congrArg some (Int.compare_eq_lt.2 (by omega)), congrArg some (Int.compare_eq_lt.2 (by omega))⟩
/-- below 2^53 the product is the whole number -/
theorem mul_low {s : Bool} {d j : Nat} (h0 : 1 ≤ d) (hj : j < 23) (hv : d * 10 ^ j < 9007199254740992) : D.mul (wd s d) (p10 j) = some (wd s (d * 10 ^ j)) := by
  have hp : 0 < 10 ^ j := Nat.pow_pos (by decide)
  have hd : d < 9007199254740992 := Nat.lt_of_le_of_lt (Nat.le_mul_of_pos_right d hp) hv
  have hv0 : 1 ≤ d * 10 ^ j := Nat.mul_pos (by omega) hp
  obtain ⟨hl, hr, q1, q2⟩ := rung_small hv0 hv
  have hN : Rd (rung (d * 10 ^ j) 0) (d * 10 ^ j) 0 := by
    rw [rd_near]
    have := rung_near (d * 10 ^ j) 0 (by omega) (by rw [hr]; omega) (by rw [hr]; omega)
    have e1 : ((0 : Int) + 1075).toNat = kbig := rfl
    have e2 : (-((0 : Int) + 1075)).toNat = 0 := rfl
    have e3 : (0 : Int).toNat = 0 := rfl
    have e4 : (-(0 : Int)).toNat = 0 := rfl
    rw [e1, e2] at this
    rw [e3, e4]
    rw [Nat.pow_zero, Nat.mul_one] at *
    exact this
  have hN2 : Rd (rung (d * 10 ^ j) 0) d (j : Int) := by
    have := (Rd.tens (rung (d * 10 ^ j) 0) j d 0).1 (by rw [Nat.mul_comm]; rw [Nat.mul_comm] at hN; exact hN)
    rwa [Int.zero_add] at this
  exact mul_is (by rw [hr]; omega) (by rw [hr]; omega) h0 hd hj hN2
end Usc
open Go.RowKit Usc
set_option maxRecDepth 100000
set_option maxHeartbeats 4000000 in
theorem exact_wide (d j : Nat) (neg : Bool) (b : Nat) (w : World) (hE : Env3 w) (h0 : 1 ≤ d) (h : d < 4503599627370496) (hj : 23 ≤ j ∧ j ≤ 37) (hb : 1 ≤ b) (hb2 : b < 9218868437227405312) (hR : Rd b d j) : Calls Tryz.prog 127 #[.int .u64 d, .int .i64 (j : Int), .bool neg] w (ExPost b neg w) := by
  have i0 := hE.i0
  obtain ⟨bb, oo, c12, ct⟩ := hE.tab
  have cj := ct 22 (by omega)
  have ci := ct (j - 22) (by omega)
  clear hE ct
  have t1 : ((d : Int) / 4503599627370496 != 0) = false := by rw [bne_eq_false_iff_eq]; omega
  have t2 : ((j : Int) == 0) = false := by rw [beq_eq_false_iff_ne]; omega
  have t3 : ((j : Int) - 22).toNat = j - 22 := by omega
  have k1 := of_int d
  have k2 := run_fneg (wd false d)
  rw [neg_wd h0 (by omega)] at k2
  by_cases hv : d * 10 ^ (j - 22) < 9007199254740992
  · have hv0 : 1 ≤ d * 10 ^ (j - 22) := Nat.mul_pos (by omega) (Nat.pow_pos (by decide))
    have hR2 : Rd b (d * 10 ^ (j - 22)) ((22 : Nat) : Int) := by
      rw [Nat.mul_comm]
      refine (Rd.tens b (j - 22) d _).2 ?_
      rw [show ((22 : Nat) : Int) + ((j - 22 : Nat) : Int) = (j : Int) by omega]
      exact hR
    have k3 := run_mul (mul_low (s := false) h0 (show j - 22 < 23 by omega) hv)
    have k4 := run_mul (mul_low (s := true) h0 (show j - 22 < 23 by omega) hv)
    have k5 := run_mul (mul_is (s := false) hb hb2 hv0 hv (by omega) hR2)
    have k6 := run_mul (mul_is (s := true) hb hb2 hv0 hv (by omega) hR2)
    clear hR hR2 hv hv0
    generalize wd false (d * 10 ^ (j - 22)) = Xv at *
    generalize wd true (d * 10 ^ (j - 22)) = Yv at *
    generalize wd false d = X at *
    generalize wd true d = Y at *
    generalize p10 (j - 22) = Tj at *
    generalize p10 22 = T at *
    cases neg
    · go_enter Tryz.func127, Tryz.ntmps127
      go_wp2_with fail
      all_goals (go_ret2; first | exact ⟨_, _, rfl, fun _ => rfl, rfl⟩ | exact ⟨_, _, rfl, fun h => absurd h (by decide), rfl⟩)
    · go_enter Tryz.func127, Tryz.ntmps127
      go_wp2_with fail
      all_goals (go_ret2; first | exact ⟨_, _, rfl, fun _ => rfl, rfl⟩ | exact ⟨_, _, rfl, fun h => absurd h (by decide), rfl⟩)
  · obtain ⟨r, m1, r1, r2⟩ := mul_big (s := neg) h0 (by omega) (show j - 22 < 23 by omega) (by omega)
    clear hR hv
    have k3 := run_mul m1
    cases neg
    · have o1 : FloatKind.f64.format.order (Pq.Flt.D.word false r) 4831355200913801216 = some .gt := big_gt r1 r2
      clear m1 r1 r2
      generalize Pq.Flt.D.word false r = Z at *
      generalize wd false d = X at *
      generalize wd true d = Y at *
      generalize p10 (j - 22) = Tj at *
      go_enter Tryz.func127, Tryz.ntmps127
      go_wp2_with fail
      all_goals (go_ret2; first | exact ⟨_, _, rfl, fun _ => rfl, rfl⟩ | exact ⟨_, _, rfl, fun h => absurd h (by decide), rfl⟩)
    · obtain ⟨o1, o2⟩ := big_lt r1 r2
      have o1 : FloatKind.f64.format.order (Pq.Flt.D.word true r) 4831355200913801216 = some .lt := o1
      have o2 : FloatKind.f64.format.order (Pq.Flt.D.word true r) 14054727237768577024 = some .lt := o2
      clear m1 r1 r2
      generalize Pq.Flt.D.word true r = Z at *
      generalize wd false d = X at *
      generalize wd true d = Y at *
      generalize p10 (j - 22) = Tj at *
      go_enter Tryz.func127, Tryz.ntmps127
      go_wp2_with fail
      all_goals (go_ret2; first | exact ⟨_, _, rfl, fun _ => rfl, rfl⟩ | exact ⟨_, _, rfl, fun h => absurd h (by decide), rfl⟩)
/-- atof64exact, where the decimal reads back as b: if it answers, it answers b -/
theorem exact_calls (d : Nat) (p : Int) (neg : Bool) (b : Nat) (w : World) (hE : Env3 w) (h0 : 1 ≤ d) (hd : d < 18446744073709551616) (hp : -400 ≤ p ∧ p ≤ 400) (hb : 1 ≤ b) (hb2 : b < 9218868437227405312) (hR : Rd b d p) : Calls Tryz.prog 127 #[.int .u64 d, .int .i64 p, .bool neg] w (ExPost b neg w) := by
  by_cases h1 : 4503599627370496 ≤ d
  · exact exact_far d p neg b w hE hd h1
  · by_cases h2 : p < -22 ∨ 37 < p
    · exact exact_off d p neg b w hE h0 (by omega) h2 hp
    · rcases Int.lt_or_le p 0 with h3 | h3
      · obtain ⟨j, rfl⟩ : ∃ j : Nat, p = -(j : Int) := ⟨(-p).toNat, by omega⟩
        exact exact_quo d j neg b w hE h0 (by omega) (by omega) hb hb2 hR
      · obtain ⟨j, rfl⟩ : ∃ j : Nat, p = (j : Int) := ⟨p.toNat, by omega⟩
        by_cases h4 : j = 0
        · subst h4; exact exact_zero d neg b w hE h0 (by omega) hb hb2 hR
        · by_cases h5 : j ≤ 22
          · exact exact_mul d j neg b w hE h0 (by omega) (by omega) hb hb2 hR
          · exact exact_wide d j neg b w hE h0 (by omega) (by omega) hb hb2 hR
end Go.Proofs.YthjfdhkahmlolaaGreatDoor

/- Where the decimal reads back as a float, the parser's shift is below 64. Plain. -/
namespace Go.Proofs.YthjfdhkahmlolaaGreatDoor.Usc
set_option maxRecDepth 100000
theorem shift_core {x B A S Q : Nat} (hA : 0 < A) (t2 : B ≤ A * 340282366920938463463374607431768211456) (hx : x < 18446744073709551616) (hS : 18446744073709551616 ≤ S) (hQ : Q = A * (S * 340282366920938463463374607431768211456)) (h : 2 * Q ≤ x * B) : False := by
  have h1 : x * B ≤ 18446744073709551616 * (A * 340282366920938463463374607431768211456) := Nat.mul_le_mul (by omega) t2
  have h2 : A * (18446744073709551616 * 340282366920938463463374607431768211456) ≤ A * (S * 340282366920938463463374607431768211456) := Nat.mul_le_mul_left _ (Nat.mul_le_mul_right _ hS)
  have h3 : 18446744073709551616 * (A * 340282366920938463463374607431768211456) = A * (18446744073709551616 * 340282366920938463463374607431768211456) := Nat.mul_left_comm ..
  have h4 : 0 < Q := by rw [hQ]; exact Nat.mul_pos hA (Nat.mul_pos (by omega) (by decide))
  rw [h3] at h1
  rw [← hQ] at h2
  omega
theorem pfs_lt {b d : Nat} {p : Int} (hb : 1 ≤ b) (hR : Rd b d p) (h0 : 1 ≤ d) (h1 : d < 18446744073709551616) (hp : -348 ≤ p ∧ p ≤ 347) : pfs d p < 64 := by
  rcases Int.lt_or_le (pfs d p) 64 with h | h
  · exact h
  exfalso
  obtain ⟨s1, s2⟩ := pfs_ge (p := p) h0 h1
  obtain ⟨x1, x2, _, _⟩ := pfx_bounds h0 h1
  obtain ⟨t1, t2⟩ := row_top (i := pfi p) (by unfold pfi; omega)
  have t2 : numOf (pfi p) ≤ denOf (pfi p) * 340282366920938463463374607431768211456 := Nat.le_trans t2 (Nat.mul_le_mul_left _ (by decide))
  have cr := parse_cross h0 h1 hp.1 (by omega)
  have he : pfe d p ≤ 1074 := by unfold pfe; omega
  have he2 : pfe d p = 1074 := by
    rcases Int.lt_or_le (pfe d p) 1074 with g | g
    · have := s2 g; omega
    · omega
  have hQ : 0 < denOf (pfi p) * (2 ^ (pfs d p).toNat * 340282366920938463463374607431768211456) := Nat.mul_pos (denOf_pos _) (Nat.mul_pos (Nat.two_pow_pos _) (by decide))
  rw [rd_near] at hR
  have hN := (near_cross (by omega) (Nat.pow_pos (by decide)) cr).2 hR
  have hpos := hN.pos hb (by omega)
  rw [he2] at hpos
  have e0 : ((1074 : Int) - 1074).toNat = 0 := rfl
  rw [e0, Nat.pow_zero, Nat.mul_one] at hpos
  have h64 : 18446744073709551616 ≤ 2 ^ (pfs d p).toNat := Nat.le_trans (by decide : 18446744073709551616 ≤ 2 ^ 64) (Nat.pow_le_pow_right (by decide) (by omega))
  have hA := denOf_pos (pfi p)
  clear hN cr hR hQ t1 x1 s1 s2
  generalize 2 ^ (pfs d p).toNat = S at *
  generalize denOf (pfi p) = A at *
  generalize numOf (pfi p) = B at *
  generalize pfx d = x at *
  obtain ⟨Q, hQ⟩ : ∃ Q, Q = A * (S * 340282366920938463463374607431768211456) := ⟨_, rfl⟩
  rw [← hQ] at hpos
  exact shift_core hA t2 x2 h64 hQ (Nat.le_of_lt hpos)
end Go.Proofs.YthjfdhkahmlolaaGreatDoor.Usc

/- The exponents of decimals that read back as floats. Plain. -/
namespace Go.Proofs.YthjfdhkahmlolaaGreatDoor.Usc
set_option maxRecDepth 100000
theorem ten_le {e k : Nat} (h : e ≤ k) : 10 ^ e ≤ 10 ^ k := Nat.pow_le_pow_right (by decide) h
def tenTo (e : Nat) : Nat := 10 ^ e
theorem tenTo_le {e k : Nat} (h : e ≤ k) : tenTo e ≤ 10 ^ k := ten_le h
theorem low_big : 100000000000000000 * big ≤ tenTo 346 := by decide +kernel
theorem rd_low {b c : Nat} {s : Int} (hb : 1 ≤ b) (hR : Rd b c s) (hc : c < 100000000000000000) : -345 ≤ s := by
  rcases Int.lt_or_le s (-345) with h | h
  · exfalso
    rw [rd_near, show s.toNat = 0 by omega, Nat.pow_zero, Nat.mul_one] at hR
    have h1 := hR.pos hb (Nat.pow_pos (by decide))
    have h2 : tenTo 346 ≤ 10 ^ (-s).toNat := tenTo_le (by omega)
    have h3 : c * big ≤ 100000000000000000 * big := Nat.mul_le_mul_right _ (by omega)
    exact absurd (Nat.lt_of_lt_of_le h1 h3) (Nat.not_lt.2 (Nat.le_trans low_big h2))
  · exact h
theorem mid_top : mid 9218868437227405311 < tenTo 311 * big := by decide +kernel
theorem rd_high {b c : Nat} {s : Int} (hb2 : b < 9218868437227405312) (hR : Rd b c s) (hc : 1 ≤ c) : s ≤ 310 := by
  rcases Int.lt_or_le 310 s with h | h
  · exfalso
    have h1 := hR.le.2
    rw [show (-s).toNat = 0 by omega, Nat.pow_zero, Nat.mul_one] at h1
    have h2 : tenTo 311 ≤ 10 ^ s.toNat := tenTo_le (by omega)
    have h3 : 1 * tenTo 311 ≤ c * 10 ^ s.toNat := Nat.mul_le_mul hc h2
    rw [Nat.one_mul] at h3
    have h4 := Nat.mul_le_mul_right big h3
    have h5 : mid b ≤ mid 9218868437227405311 := by
      rcases Nat.lt_or_ge b 9218868437227405311 with g | g
      · exact Nat.le_of_lt (mid_lt g)
      · rw [show b = 9218868437227405311 by omega]; exact Nat.le_refl _
    exact absurd (Nat.lt_of_le_of_lt (Nat.le_trans h4 (Nat.le_trans h1 h5)) mid_top) (Nat.lt_irrefl _)
  · exact h
/-- what readFloat makes of a printed number is exact for the parser -/
theorem pex_printed {b c j : Nat} {s p : Int} (hb : 1 ≤ b) (hb2 : b < 9218868437227405312) (hR : Rd b c s) (h0 : 1 ≤ c) (h1 : c < 100000000000000000) (hp : p = s - j) (hj : j = 0 ∨ 0 ≤ p) (hm : c * 10 ^ j < 10000000000000000000) :
    Rd b (c * 10 ^ j) p ∧ (-345 ≤ p ∧ p ≤ 310) ∧ pfs (c * 10 ^ j) p < 64 ∧ (p ≤ 24 → PEx (c * 10 ^ j) p) ∧ (j = 0 → PEx (c * 10 ^ j) p) := by
  have hR2 : Rd b (c * 10 ^ j) p := by
    rw [Nat.mul_comm]
    refine (Rd.tens b j c p).2 ?_
    rw [show p + (j : Int) = s by omega]
    exact hR
  have hl := rd_low hb hR h1
  have hh := rd_high hb2 hR h0
  have hm0 : 1 ≤ c * 10 ^ j := Nat.mul_pos h0 (Nat.pow_pos (by decide))
  have hs := pfs_lt hb hR2 hm0 (by omega) (p := p) (by omega)
  have small : j = 0 → PEx (c * 10 ^ j) p := fun h => by
    subst h
    exact pex_small hm0 (by rw [Nat.pow_zero, Nat.mul_one]; omega) (by omega) hs
  refine ⟨hR2, by omega, hs, fun h => ?_, small⟩
  by_cases hj0 : j = 0
  · exact small hj0
  · refine pex_whole hm0 (by omega) ?_ (by omega)
    obtain ⟨k, rfl⟩ : ∃ k, j = k + 1 := ⟨j - 1, by omega⟩
    rw [Nat.pow_succ, ← Nat.mul_assoc]
    omega
end Go.Proofs.YthjfdhkahmlolaaGreatDoor.Usc
