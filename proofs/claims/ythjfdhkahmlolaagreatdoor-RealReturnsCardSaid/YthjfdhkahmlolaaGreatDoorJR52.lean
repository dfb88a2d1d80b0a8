/- The law RealReturns. -/
import Derived.Test.YthjfdhkahmlolaaGreatDoorJR49
import Derived.Test.YthjfdhkahmlolaaGreatDoorJR51
namespace Go.Proofs.YthjfdhkahmlolaaGreatDoor
open Go.RowKit Usc
set_option maxRecDepth 100000
/-- the same float, or two NaNs -/
def sameN (a b : Nat) : Prop := a = b ∨ (9218868437227405312 < a % 9223372036854775808 ∧ 9218868437227405312 < b % 9223372036854775808)
theorem pr_same {a b : Nat} {s t : List UInt8} (ha : a < 18446744073709551616) (hb : b < 18446744073709551616) (hs : Pr a s) (ht : Pr b t) : s = t ↔ sameN a b := by
  constructor
  · rintro rfl
    by_cases ha1 : a % 9223372036854775808 < 9218868437227405312
    · exact .inl (pr_inj ha hb ha1 hs ht)
    by_cases hb1 : b % 9223372036854775808 < 9218868437227405312
    · exact .inl (pr_inj hb ha hb1 ht hs).symm
    by_cases ha2 : a % 9223372036854775808 = 9218868437227405312
    · have e1 := (pr_inf ha2 s).1 hs
      by_cases hb2 : b % 9223372036854775808 = 9218868437227405312
      · have e2 := (pr_inf hb2 s).1 ht
        rw [e1] at e2
        left
        by_cases g1 : a < 9223372036854775808 <;> by_cases g2 : b < 9223372036854775808
        · omega
        · rw [if_pos g1, if_neg g2] at e2; exact absurd e2 (by decide)
        · rw [if_neg g1, if_pos g2] at e2; exact absurd e2 (by decide)
        · omega
      · have e2 := (pr_nan (by omega) s).1 ht
        rw [e1] at e2
        by_cases g1 : a < 9223372036854775808
        · rw [if_pos g1] at e2; exact absurd e2 (by decide)
        · rw [if_neg g1] at e2; exact absurd e2 (by decide)
    · have e1 := (pr_nan (by omega) s).1 hs
      by_cases hb2 : b % 9223372036854775808 = 9218868437227405312
      · have e2 := (pr_inf hb2 s).1 ht
        rw [e1] at e2
        by_cases g1 : b < 9223372036854775808
        · rw [if_pos g1] at e2; exact absurd e2 (by decide)
        · rw [if_neg g1] at e2; exact absurd e2 (by decide)
      · exact .inr ⟨by omega, by omega⟩
  · rintro (rfl | ⟨h1, h2⟩)
    · exact Pr.unique hs ht
    · rw [(pr_nan h1 s).1 hs, (pr_nan h2 t).1 ht]
theorem fcmp_zero {a b : Nat} (ha : a < 18446744073709551616) (hb : b < 18446744073709551616) : (fcmp a b = 0) ↔ sameN a b := by
  rw [fcmp_rk a b ha hb]
  have h1 : cmpR (rk a) (rk b) = 0 ↔ rk a = rk b := by
    unfold cmpR
    constructor
    · intro h
      by_cases g1 : rk a < rk b
      · rw [if_pos g1] at h; omega
      · by_cases g2 : rk a > rk b
        · rw [if_neg g1, if_pos g2] at h; omega
        · omega
    · intro h; rw [if_neg (by omega), if_neg (by omega)]
  rw [h1]
  unfold sameN rk
  have na : Pq.Flt.nan a = decide (9218868437227405312 < a % 9223372036854775808) := rfl
  have nb : Pq.Flt.nan b = decide (9218868437227405312 < b % 9223372036854775808) := rfl
  have ga : Pq.Flt.neg a = decide (9223372036854775808 ≤ a) := by
    unfold Pq.Flt.neg; by_cases h : 9223372036854775808 ≤ a
    · rw [decide_eq_true h, beq_iff_eq]; omega
    · rw [decide_eq_false h, beq_eq_false_iff_ne]; omega
  have gb : Pq.Flt.neg b = decide (9223372036854775808 ≤ b) := by
    unfold Pq.Flt.neg; by_cases h : 9223372036854775808 ≤ b
    · rw [decide_eq_true h, beq_iff_eq]; omega
    · rw [decide_eq_false h, beq_eq_false_iff_ne]; omega
  rw [na, nb, ga, gb]
  simp only [decide_eq_true_eq]
  by_cases c1 : 9218868437227405312 < a % 9223372036854775808 <;> by_cases c2 : 9218868437227405312 < b % 9223372036854775808 <;> by_cases c3 : 9223372036854775808 ≤ a <;> by_cases c4 : 9223372036854775808 ≤ b <;> simp only [c1, c2, c3, c4, if_true, if_false, and_self, and_true, and_false, or_true, or_false] <;> omega
theorem same_calls (x y : Nat) (w : World) : Calls Tryz.prog 18 #[.float .f64 x, .float .f64 y] w fun en w' => en = .returned (.bool (fcmp x y == 0)) ∧ w' = w := by
  go_enter Tryz.func18, Tryz.ntmps18
  go_wp2_with fail
  refine (compare_calls x y w).mono ?_
  rintro en w1 ⟨rfl, hw⟩; rw [hw]; clear hw w1
  go_wp2_with fail
  go_ret
  exact ⟨rfl, rfl⟩
set_option maxHeartbeats 4000000 in
theorem ret_core (a b u : Nat) (S T : ByteArray) (w : World) (na nb sm : Bool) (hE : Env w) (hE2 : Env2 w) (hE3 : Env3 w)
    (ka : (FloatKind.f64.format.order a a != some Ordering.eq) = na) (kb : (FloatKind.f64.format.order b b != some Ordering.eq) = nb) (ku : (FloatKind.f64.format.order u u != some Ordering.eq) = na)
    (hu : na = false → u = a) (hab : ((a : Int) == b) = true → sm = true) (hsm : ((a : Int) == b) = false → sm = (na && nb)) (hst : (S.toList == T.toList) = sm)
    (h1 : (fcmp u a == 0) = true) (h2 : (fcmp a b == 0) = sm)
    (PA : ∀ w, Env w → Calls Tryz.prog 11 #[.float .f64 a] w fun en w' => en = .returned (.string S) ∧ Only (fun _ => False) w w')
    (PB : ∀ w, Env w → Calls Tryz.prog 11 #[.float .f64 b] w fun en w' => en = .returned (.string T) ∧ Only (fun _ => False) w w')
    (PR : ∀ w, Env w → Env3 w → Calls Tryz.prog 15 #[.string S] w fun en w' => en = .returned (.tuple #[.float .f64 u, .int .i64 0]) ∧ Only (fun _ => False) w w') :
    Calls Tryz.prog 6 #[.int .u64 a, .int .u64 b] w fun en w' => en = .returned (.bool true) ∧ Only (fun _ => False) w w' := by
  have K := Lib.hid (awake_calls w hE hE2); clear hE2
  have HE := Lib.hid hE; clear hE
  have HE3 := Lib.hid hE3; clear hE3
  have KA := Lib.hid PA; clear PA
  have KB := Lib.hid PB; clear PB
  have KR := Lib.hid PR; clear PR
  have r1 := run_frb a
  have r2 := run_frb b
  have r3 := run_tobits u
  have S1 : Hid (∀ w, Calls Tryz.prog 18 #[.float .f64 u, .float .f64 a] w fun en w' => en = .returned (.bool true) ∧ w' = w) := Lib.hid (fun w => by have := same_calls u a w; rw [h1] at this; exact this)
  have S2 : Hid (∀ w, Calls Tryz.prog 18 #[.float .f64 a, .float .f64 b] w fun en w' => en = .returned (.bool sm) ∧ w' = w) := Lib.hid (fun w => by have := same_calls a b w; rw [h2] at this; exact this)
  clear h1 h2
  have HU : na = false → ((u : Int) == a) = true := fun h => by rw [hu h, beq_iff_eq]
  clear hu
  generalize hq : ((a : Int) == b) = q at *
  cases q
  · have hs := hsm rfl
    clear hab hsm
    cases na <;> cases nb <;> subst hs
    all_goals (try have hu2 := HU rfl)
    all_goals clear HU
    all_goals go_enter Tryz.func6, Tryz.ntmps6
    all_goals go_wp2_with fail
    all_goals (refine K.out.mono ?_; rintro en w1 ⟨rfl, hO⟩; have O1 := Lib.hid hO; clear hO K)
    all_goals go_wp2_with fail
    all_goals (refine (KA.out _ (HE.out.still O1.out (fun _ _ h => h))).mono ?_; rintro en w2 ⟨rfl, hO⟩; have O2 := Lib.hid (O1.out.trans hO); clear hO)
    all_goals go_wp2_with fail
    all_goals (refine (KB.out _ (HE.out.still O2.out (fun _ _ h => h))).mono ?_; rintro en w3 ⟨rfl, hO⟩; have O3 := Lib.hid (O2.out.trans hO); clear hO)
    all_goals go_wp2_with fail
    all_goals (refine (KR.out _ (HE.out.still O3.out (fun _ _ h => h)) (HE3.out.still O3.out)).mono ?_; rintro en w4 ⟨rfl, hO⟩; have O4 := Lib.hid (O3.out.trans hO); clear hO)
    all_goals go_wp2_with fail
    all_goals (refine (S1.out _).mono ?_; rintro en w5 ⟨rfl, hw⟩; rw [hw]; clear hw w5)
    all_goals go_wp2_with fail
    all_goals (refine (S2.out _).mono ?_; rintro en w5 ⟨rfl, hw⟩; rw [hw]; clear hw w5)
    all_goals go_wp2_with fail
    all_goals go_ret
    all_goals exact ⟨rfl, O4.out⟩
  · have hs := hab rfl
    clear hab hsm
    subst hs
    cases na <;> cases nb
    all_goals (try have hu2 := HU rfl)
    all_goals clear HU
    all_goals go_enter Tryz.func6, Tryz.ntmps6
    all_goals go_wp2_with fail
    all_goals (refine K.out.mono ?_; rintro en w1 ⟨rfl, hO⟩; have O1 := Lib.hid hO; clear hO K)
    all_goals go_wp2_with fail
    all_goals (refine (KA.out _ (HE.out.still O1.out (fun _ _ h => h))).mono ?_; rintro en w2 ⟨rfl, hO⟩; have O2 := Lib.hid (O1.out.trans hO); clear hO)
    all_goals go_wp2_with fail
    all_goals (refine (KB.out _ (HE.out.still O2.out (fun _ _ h => h))).mono ?_; rintro en w3 ⟨rfl, hO⟩; have O3 := Lib.hid (O2.out.trans hO); clear hO)
    all_goals go_wp2_with fail
    all_goals (refine (KR.out _ (HE.out.still O3.out (fun _ _ h => h)) (HE3.out.still O3.out)).mono ?_; rintro en w4 ⟨rfl, hO⟩; have O4 := Lib.hid (O3.out.trans hO); clear hO)
    all_goals go_wp2_with fail
    all_goals (refine (S1.out _).mono ?_; rintro en w5 ⟨rfl, hw⟩; rw [hw]; clear hw w5)
    all_goals go_wp2_with fail
    all_goals (refine (S2.out _).mono ?_; rintro en w5 ⟨rfl, hw⟩; rw [hw]; clear hw w5)
    all_goals go_wp2_with fail
    all_goals go_ret
    all_goals exact ⟨rfl, O4.out⟩
theorem ret_calls (a b : Nat) (w : World) (ha : a < 18446744073709551616) (hb : b < 18446744073709551616) (hE : Env w) (hE2 : Env2 w) (hE3 : Env3 w) :
    Calls Tryz.prog 6 #[.int .u64 a, .int .u64 b] w fun en w' => en = .returned (.bool true) ∧ Only (fun _ => False) w w' := by
  obtain ⟨s, hs⟩ := pr_ex a
  obtain ⟨t, ht⟩ := pr_ex b
  have hp := pr_pback hs
  have hpl := pback_lt ha
  have hst := pr_same ha hb hs ht
  have hz := fcmp_zero ha hb
  have hz2 : fcmp (pback a) a = 0 := (fcmp_zero hpl ha).2 (by
    unfold sameN pback
    by_cases h : 9218868437227405312 < a % 9223372036854775808
    · rw [if_pos h]; exact .inr ⟨by decide, h⟩
    · rw [if_neg h]; exact .inl rfl)
  have e1 : ∀ x, (FloatKind.f64.format.order x x != some Ordering.eq) = decide (9218868437227405312 < x % 9223372036854775808) := fun x => fnan_of x
  refine ret_core a b (pback a) ⟨s.toArray⟩ ⟨t.toArray⟩ w (decide (9218868437227405312 < a % 9223372036854775808)) (decide (9218868437227405312 < b % 9223372036854775808)) (decide (s = t)) hE hE2 hE3 (e1 a) (e1 b) ?_ ?_ ?_ ?_ ?_ ?_ ?_ (fun w h => print_calls a s w ha hs h) (fun w h => print_calls b t w hb ht h) (fun w h h3 => parse_all ha hs w h h3)
  · rw [e1]
    unfold pback
    by_cases h : 9218868437227405312 < a % 9223372036854775808
    · rw [if_pos h, decide_eq_true h]; decide
    · rw [if_neg h]
  · intro h
    unfold pback
    rw [if_neg (of_decide_eq_false h)]
  · intro h
    rw [beq_iff_eq] at h
    exact decide_eq_true (hst.2 (.inl (by omega)))
  · intro h
    rw [beq_eq_false_iff_ne] at h
    rw [← Bool.decide_and]
    refine decide_eq_decide.2 (hst.trans ?_)
    unfold sameN
    constructor
    · rintro (e | e)
      · exact absurd (by omega) h
      · exact e
    · exact .inr
  · by_cases h : s = t
    · subst h; rw [decide_eq_true rfl, beq_iff_eq]
    · rw [decide_eq_false h]
      exact ba_list_ne (ba_ne h)
  · rw [hz2]; rfl
  · by_cases h : s = t
    · rw [decide_eq_true h, hz.2 (hst.1 h)]; rfl
    · rw [decide_eq_false h, beq_eq_false_iff_ne]
      exact fun e => h (hst.2 (hz.1 e))
end Go.Proofs.YthjfdhkahmlolaaGreatDoor
