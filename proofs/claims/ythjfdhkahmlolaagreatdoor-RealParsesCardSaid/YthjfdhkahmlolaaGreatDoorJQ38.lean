/- The reference's Side. -/
import Derived.Test.YthjfdhkahmlolaaGreatDoorJQ37
namespace Go.Proofs.YthjfdhkahmlolaaGreatDoor
open Go.RowKit Usc
set_option maxRecDepth 100000
def sideS (even : Bool) (x y : Int) : Int := if x < 0 ∨ (x = 0 ∧ even = false) then -1 else if 0 < y ∨ (y = 0 ∧ even = false) then 1 else 0
def lowB (b : Nat) : Nat := if mantB b = 4503599627370496 ∧ 1 < b / 4503599627370496 then 4 * mantB b - 1 else 4 * mantB b - 2
/-- how c 10^s and l 2^k stand -/
def agV (c l : Nat) (s k : Int) : Int := cmp3 (c * 10 ^ s.toNat * 2 ^ (-k).toNat) (l * 10 ^ (-s).toNat * 2 ^ k.toNat)
def sideV (b c : Nat) (s : Int) : Int := sideS (decide (mantB b % 2 = 0)) (agV c (lowB b) s ((exB b : Int) - 1077)) (agV c (4 * mantB b + 2) s ((exB b : Int) - 1077))
theorem agV_cases (c l : Nat) (s k : Int) : agV c l s k = -1 ∨ agV c l s k = 0 ∨ agV c l s k = 1 := by
  unfold agV cmp3
  split
  · exact .inl rfl
  · split
    · exact .inr (.inl rfl)
    · exact .inr (.inr rfl)
theorem ag_calls (c l : Nat) (s k : Int) (w : World) (hc : c < 18446744073709551616) (hl : l < 18446744073709551616) (hs : -5000 ≤ s ∧ s ≤ 5000) (hk : -5000 ≤ k ∧ k ≤ 5000) :
    Calls Tryz.prog 66 #[.int .u64 (c : Int), .int .i64 s, .int .u64 (l : Int), .int .i64 k] w fun en w' => en = .returned (.int .i64 (agV c l s k)) ∧ Only (fun _ => False) w w' :=
  against_calls c l s k w hc hl hs hk
theorem ag_calls' {c l : Nat} {s k : Int} {lv kv : Int} (w : World) (e : lv = (l : Int)) (ek : kv = k) (hc : c < 18446744073709551616) (hl : l < 18446744073709551616) (hs : -5000 ≤ s ∧ s ≤ 5000) (hk : -5000 ≤ k ∧ k ≤ 5000) :
    Calls Tryz.prog 66 #[.int .u64 (c : Int), .int .i64 s, .int .u64 lv, .int .i64 kv] w fun en w' => en = .returned (.int .i64 (agV c l s k)) ∧ Only (fun _ => False) w w' := by
  subst e; subst ek; exact against_calls c l s kv w hc hl hs hk
theorem side_m {ev : Bool} {x y : Int} (h : x < 0 ∨ (x = 0 ∧ (!ev) = true)) : -1 = sideS ev x y := by
  unfold sideS
  rw [if_pos]
  rcases h with h | ⟨h, h'⟩
  · exact .inl h
  · exact .inr ⟨h, by cases ev <;> simp_all⟩
theorem side_n {ev : Bool} {x : Int} (h1 : 0 ≤ x) (h2 : x ≠ 0 ∨ (!ev) = false) : ¬ (x < 0 ∨ (x = 0 ∧ ev = false)) := by
  rintro (h | ⟨h, h'⟩)
  · omega
  · rcases h2 with h2 | h2
    · exact h2 h
    · subst h'; cases h2
theorem side_1 {ev : Bool} {x y : Int} (h1 : 0 ≤ x) (h2 : x ≠ 0 ∨ (!ev) = false) (h : 0 < y ∨ (y = 0 ∧ (!ev) = true)) : 1 = sideS ev x y := by
  unfold sideS
  rw [if_neg (side_n h1 h2), if_pos]
  rcases h with h | ⟨h, h'⟩
  · exact .inl h
  · exact .inr ⟨h, by cases ev <;> simp_all⟩
theorem side_0 {ev : Bool} {x y : Int} (h1 : 0 ≤ x) (h2 : x ≠ 0 ∨ (!ev) = false) (h3 : y ≤ 0) (h4 : y ≠ 0 ∨ (!ev) = false) : 0 = sideS ev x y := by
  unfold sideS
  rw [if_neg (side_n h1 h2), if_neg]
  rintro (h | ⟨h, h'⟩)
  · omega
  · rcases h4 with h4 | h4
    · exact h4 h
    · subst h'; cases h4
set_option maxHeartbeats 4000000 in
theorem side_calls (b c : Nat) (s : Int) (w : World) (h0 : 1 ≤ b) (hb : b < 9218868437227405312) (hc : c < 18446744073709551616) (hs : -5000 ≤ s ∧ s ≤ 5000) :
    Calls Tryz.prog 44 #[.int .u64 (b : Int), .int .u64 (c : Int), .int .i64 s] w fun en w' => en = .returned (.int .i64 (sideV b c s)) ∧ Only (fun _ => False) w w' := by
  have H := parts b h0 hb
  have hm1 := H.m1; have hm2 := H.m2; have he1 := H.e1; have he2 := H.e2
  have hlow : lowB b < 18446744073709551616 := by unfold lowB; split <;> omega
  have HX1 := Lib.hid (agV_cases c (lowB b) s ((exB b : Int) - 1077))
  have HX2 := Lib.hid (agV_cases c (4 * mantB b + 2) s ((exB b : Int) - 1077))
  have HA1 := fun (w : World) (lv kv : Int) (e : lv = (lowB b : Int)) (ek : kv = (exB b : Int) - 1077) => ag_calls' (s := s) (k := (exB b : Int) - 1077) w e ek hc hlow hs (by omega)
  have HA2 := fun (w : World) (lv kv : Int) (e : lv = ((4 * mantB b + 2 : Nat) : Int)) (ek : kv = (exB b : Int) - 1077) => ag_calls' (s := s) (k := (exB b : Int) - 1077) w e ek hc (show 4 * mantB b + 2 < 18446744073709551616 by omega) hs (by omega)
  unfold sideV
  generalize agV c (lowB b) s ((exB b : Int) - 1077) = X1 at *
  generalize agV c (4 * mantB b + 2) s ((exB b : Int) - 1077) = X2 at *
  obtain ⟨ev, hev⟩ : ∃ ev, ev = decide (mantB b % 2 = 0) := ⟨_, rfl⟩
  rw [← hev]
  have t1 : ((mantB b : Int) % 2 == 0) = ev := by
    rw [hev]
    by_cases h : mantB b % 2 = 0
    · rw [decide_eq_true h, beq_iff_eq]; omega
    · rw [decide_eq_false h, beq_eq_false_iff_ne]; omega
  have hl : ((mantB b = 4503599627370496 ∧ 1 < b / 4503599627370496) ∧ lowB b = 4 * mantB b - 1) ∨ (¬ (mantB b = 4503599627370496 ∧ 1 < b / 4503599627370496) ∧ lowB b = 4 * mantB b - 2) := by
    unfold lowB
    by_cases h : mantB b = 4503599627370496 ∧ 1 < b / 4503599627370496
    · rw [if_pos h]; exact .inl ⟨h, rfl⟩
    · rw [if_neg h]; exact .inr ⟨h, rfl⟩
  have HP := Lib.hid (fun w => parts_calls b w hb)
  generalize mantB b = m at *
  generalize exB b = E at *
  generalize lowB b = L at *
  have HHA1 := Lib.hid HA1; have HHA2 := Lib.hid HA2
  clear HA1 HA2 H hev
  go_enter Tryz.func44, Tryz.ntmps44
  go_wp2_with fail
  refine (HP.out _).mono ?_; rintro en w1 ⟨rfl, hw⟩; rw [hw]; clear hw w1
  have HL := Lib.hid hl; clear hl
  rcases HL.out with ⟨⟨h1, h2⟩, h3⟩ | ⟨h1, h3⟩
  · obtain rfl : m = 4503599627370496 := h1
    obtain rfl : ev = true := by rw [← t1]; rfl
    have t3 : decide ((1 : Int) < (b : Int) / 4503599627370496) = true := decide_eq_true (by omega)
    go_wp2_with fail
    refine (HHA1.out _ _ _ (by omega) (by omega)).mono ?_; rintro en w1 ⟨rfl, ho1⟩; have HO1 := Lib.hid ho1; clear ho1
    go_wp2_with fail
    all_goals first
      | (go_ret
         refine ⟨ret_eq (congrArg (Value.int .i64) ?_), HO1.out⟩
         (first | exact side_m (by (first | (right; exact ⟨by first | rfl | assumption, by first | rfl | assumption⟩) | (left; assumption) | (left; omega))) | exact side_1 (by omega) (by (first | (right; rfl) | (right; assumption) | (left; assumption) | (left; omega))) (by (first | (right; exact ⟨by first | rfl | assumption, by first | rfl | assumption⟩) | (left; assumption) | (left; omega))) | exact side_0 (by omega) (by (first | (right; rfl) | (right; assumption) | (left; assumption) | (left; omega))) (by omega) (by (first | (right; rfl) | (right; assumption) | (left; assumption) | (left; omega)))))
      | (refine (HHA2.out _ _ _ (by omega) (by omega)).mono ?_; rintro en w2 ⟨rfl, ho2⟩; have HO2 := Lib.hid ho2; clear ho2
         go_wp2_with fail
         all_goals go_ret
         all_goals refine ⟨ret_eq (congrArg (Value.int .i64) ?_), HO1.out.trans HO2.out⟩
         all_goals (first | exact side_m (by (first | (right; exact ⟨by first | rfl | assumption, by first | rfl | assumption⟩) | (left; assumption) | (left; omega))) | exact side_1 (by omega) (by (first | (right; rfl) | (right; assumption) | (left; assumption) | (left; omega))) (by (first | (right; exact ⟨by first | rfl | assumption, by first | rfl | assumption⟩) | (left; assumption) | (left; omega))) | exact side_0 (by omega) (by (first | (right; rfl) | (right; assumption) | (left; assumption) | (left; omega))) (by omega) (by (first | (right; rfl) | (right; assumption) | (left; assumption) | (left; omega)))))
  · by_cases hm : m = 4503599627370496
    · subst hm
      obtain rfl : ev = true := by rw [← t1]; rfl
      have t3 : decide ((1 : Int) < (b : Int) / 4503599627370496) = false := decide_eq_false (by omega)
      go_wp2_with fail
      refine (HHA1.out _ _ _ (by omega) (by omega)).mono ?_; rintro en w1 ⟨rfl, ho1⟩; have HO1 := Lib.hid ho1; clear ho1
      go_wp2_with fail
      all_goals first
        | (go_ret
           refine ⟨ret_eq (congrArg (Value.int .i64) ?_), HO1.out⟩
           (first | exact side_m (by (first | (right; exact ⟨by first | rfl | assumption, by first | rfl | assumption⟩) | (left; assumption) | (left; omega))) | exact side_1 (by omega) (by (first | (right; rfl) | (right; assumption) | (left; assumption) | (left; omega))) (by (first | (right; exact ⟨by first | rfl | assumption, by first | rfl | assumption⟩) | (left; assumption) | (left; omega))) | exact side_0 (by omega) (by (first | (right; rfl) | (right; assumption) | (left; assumption) | (left; omega))) (by omega) (by (first | (right; rfl) | (right; assumption) | (left; assumption) | (left; omega)))))
        | (refine (HHA2.out _ _ _ (by omega) (by omega)).mono ?_; rintro en w2 ⟨rfl, ho2⟩; have HO2 := Lib.hid ho2; clear ho2
           go_wp2_with fail
           all_goals go_ret
           all_goals refine ⟨ret_eq (congrArg (Value.int .i64) ?_), HO1.out.trans HO2.out⟩
           all_goals (first | exact side_m (by (first | (right; exact ⟨by first | rfl | assumption, by first | rfl | assumption⟩) | (left; assumption) | (left; omega))) | exact side_1 (by omega) (by (first | (right; rfl) | (right; assumption) | (left; assumption) | (left; omega))) (by (first | (right; exact ⟨by first | rfl | assumption, by first | rfl | assumption⟩) | (left; assumption) | (left; omega))) | exact side_0 (by omega) (by (first | (right; rfl) | (right; assumption) | (left; assumption) | (left; omega))) (by omega) (by (first | (right; rfl) | (right; assumption) | (left; assumption) | (left; omega)))))

    · have t3 : ((m : Int) == 4503599627370496) = false := by rw [beq_eq_false_iff_ne]; omega
      go_wp2_with fail
      refine (HHA1.out _ _ _ (by omega) (by omega)).mono ?_; rintro en w1 ⟨rfl, ho1⟩; have HO1 := Lib.hid ho1; clear ho1
      go_wp2_with fail
      all_goals first
        | (go_ret
           refine ⟨ret_eq (congrArg (Value.int .i64) ?_), HO1.out⟩
           (first | exact side_m (by (first | (right; exact ⟨by first | rfl | assumption, by first | rfl | assumption⟩) | (left; assumption) | (left; omega))) | exact side_1 (by omega) (by (first | (right; rfl) | (right; assumption) | (left; assumption) | (left; omega))) (by (first | (right; exact ⟨by first | rfl | assumption, by first | rfl | assumption⟩) | (left; assumption) | (left; omega))) | exact side_0 (by omega) (by (first | (right; rfl) | (right; assumption) | (left; assumption) | (left; omega))) (by omega) (by (first | (right; rfl) | (right; assumption) | (left; assumption) | (left; omega)))))
        | (refine (HHA2.out _ _ _ (by omega) (by omega)).mono ?_; rintro en w2 ⟨rfl, ho2⟩; have HO2 := Lib.hid ho2; clear ho2
           go_wp2_with fail
           all_goals go_ret
           all_goals refine ⟨ret_eq (congrArg (Value.int .i64) ?_), HO1.out.trans HO2.out⟩
           all_goals (first | exact side_m (by (first | (right; exact ⟨by first | rfl | assumption, by first | rfl | assumption⟩) | (left; assumption) | (left; omega))) | exact side_1 (by omega) (by (first | (right; rfl) | (right; assumption) | (left; assumption) | (left; omega))) (by (first | (right; exact ⟨by first | rfl | assumption, by first | rfl | assumption⟩) | (left; assumption) | (left; omega))) | exact side_0 (by omega) (by (first | (right; rfl) | (right; assumption) | (left; assumption) | (left; omega))) (by omega) (by (first | (right; rfl) | (right; assumption) | (left; assumption) | (left; omega)))))

end Go.Proofs.YthjfdhkahmlolaaGreatDoor
