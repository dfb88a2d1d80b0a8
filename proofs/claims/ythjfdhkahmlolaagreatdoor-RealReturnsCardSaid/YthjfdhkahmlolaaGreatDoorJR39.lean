/- readFloat at a printed number, put together. -/
import Derived.Test.YthjfdhkahmlolaaGreatDoorJR33
import Derived.Test.YthjfdhkahmlolaaGreatDoorJR38
import Derived.Test.YthjfdhkahmlolaaGreatDoorJR11
import Derived.Test.YthjfdhkahmlolaaGreatDoorJR09
namespace Go.Proofs.YthjfdhkahmlolaaGreatDoor
open Go.RowKit Usc
theorem rf_printed {c : Nat} {s : Int} (H : Shb c s) (neg : Bool) : ∃ (m : Nat) (p : Int) (j : Nat), m = c * 10 ^ j ∧ p = s - j ∧ (j = 0 ∨ (0 ≤ p ∧ p ≤ 24)) ∧ Lib.nDigits c + j ≤ 19 ∧ (∃ c0 l0, nl (laidB c (exp10 c s)) = c0 :: l0 ∧ 48 ≤ c0 ∧ c0 ≤ 57) ∧
    ∀ w : World, Calls Tryz.prog 117 #[.string ⟨(sgB neg ++ laidB c (exp10 c s)).toArray⟩] w (RfPost (laidB c (exp10 c s)) neg m p w) := by
  have h24 := laid_len24 H
  obtain ⟨c0, c1, n0, n1, s0, s1⟩ := H
  obtain ⟨d, l, hd, d1, d2⟩ := digs_head c c0
  have hs : s = exp10 c s + 1 - Lib.nDigits c := by unfold exp10; omega
  have hb : -1000 < exp10 c s ∧ exp10 c s < 1000 := by unfold exp10; omega
  generalize exp10 c s = e at *
  have hm : ∀ j, c * 10 ^ j ≠ 0 := fun j => Nat.pos_iff_ne_zero.1 (Nat.mul_pos c0 (Nat.pow_pos (by decide)))
  have hlen := digs_len c
  by_cases h1 : 0 ≤ e ∧ e ≤ 20
  · by_cases h2 : (Lib.nDigits c : Int) ≤ e + 1
    · have hL : laidB c e = Lib.decDigits c ++ List.replicate (e + 1 - Lib.nDigits c).toNat 48 := by unfold laidB; rw [if_pos h1, if_pos h2]
      obtain ⟨st, j, hsc, hR, hj, hj2⟩ := scan_A c0 n1 h1 h2
      rw [← hL] at hsc
      have hh : nl (laidB c e) = d :: (l ++ nl (List.replicate (e + 1 - Lib.nDigits c).toNat 48)) := by rw [hL, nl_app, hd]; rfl
      refine ⟨st.m, e + 1 - Lib.nDigits c - j, j, hR.m, by omega, by omega, hj2, ⟨_, _, hh, by omega, d2⟩, ?_⟩
      exact fun w => rfp_plain _ neg _ _ st w hh ⟨by omega, d2⟩ (by omega) (.inr (.inl (by omega))) hsc hR.dig hR.und hR.tr _ (by rw [hR.m]; exact hm j) hR.at_
    · have hL : laidB c e = (Lib.decDigits c).take (e + 1).toNat ++ 46 :: (Lib.decDigits c).drop (e + 1).toNat := by unfold laidB; rw [if_pos h1, if_neg h2]
      obtain ⟨k, hk⟩ : ∃ k, (e + 1).toNat = k + 1 := ⟨(e + 1).toNat - 1, by omega⟩
      have hsc : scan St.zero (nl (laidB c e)) = (⟨c, Lib.nDigits c, Lib.nDigits c, ((k + 1 : Nat) : Int), true, true, false, false⟩, []) := by
        have := scan_B (c := c) (k := k + 1) c0 n1 (by omega) (by omega) []
        rw [List.append_nil, scan_end] at this
        rw [hL, hk, nl_app]
        exact this
      have hh : nl (laidB c e) = d :: (l.take k ++ nl (46 :: (Lib.decDigits c).drop (e + 1).toNat)) := by
        have e1 : nl ((Lib.decDigits c).take (k + 1)) = d :: l.take k := by
          have : nl ((Lib.decDigits c).take (k + 1)) = (nl (Lib.decDigits c)).take (k + 1) := by unfold nl; rw [List.map_take]
          rw [this, hd]; rfl
        rw [hL, nl_app, hk, e1]; rfl
      refine ⟨c, s, 0, by simp, by simp, .inl rfl, by omega, ⟨_, _, hh, by omega, d2⟩, ?_⟩
      exact fun w => rfp_plain _ neg _ _ _ w hh ⟨by omega, d2⟩ (by omega) (.inr (.inl (by omega))) hsc rfl rfl rfl s (by simp only; omega) (by simp only [if_true]; omega)
  · by_cases h2 : -6 ≤ e ∧ e < 0
    · have hL : laidB c e = [48, 46] ++ List.replicate (-e - 1).toNat 48 ++ Lib.decDigits c := by unfold laidB; rw [if_neg h1, if_pos h2]
      have hh : nl (laidB c e) = 48 :: 46 :: (List.replicate (-e - 1).toNat 48 ++ nl (Lib.decDigits c)) := by
        rw [hL, nl_app, nl_app, nl_zeros]; rfl
      have hsc := scan_C (c := c) (k := (-e - 1).toNat) c0 n1
      rw [← hh] at hsc
      refine ⟨c, s, 0, by simp, by simp, .inl rfl, by omega, ⟨_, _, hh, by omega, by omega⟩, ?_⟩
      exact fun w => rfp_plain _ neg _ _ _ w hh ⟨by omega, by omega⟩ (by omega) (.inr (.inr ⟨_, rfl⟩)) hsc rfl rfl rfl s (by simp only; omega) (by simp only [if_true]; omega)
    · have hL : laidB c e = pointB c ++ 101 :: Lib.itoa e := by unfold laidB; rw [if_neg h1, if_neg h2]
      obtain ⟨st, hsc, hR⟩ := scan_D c0 n1 (nl (Lib.itoa e))
      have hsc2 : scan St.zero (nl (laidB c e)) = (st, 101 :: nl (Lib.itoa e)) := by rw [hL, nl_app]; exact hsc
      obtain ⟨r, hp⟩ : ∃ r, nl (pointB c) = d :: r := by
        unfold pointB
        rw [nl_app]
        have : nl ((Lib.decDigits c).take 1) = (nl (Lib.decDigits c)).take 1 := by unfold nl; rw [List.map_take]
        rw [this, hd]
        exact ⟨_, rfl⟩
      have hh : nl (laidB c e) = d :: (r ++ nl (101 :: Lib.itoa e)) := by rw [hL, nl_app, hp]; rfl
      have h3 : 3 ≤ (laidB c e).length := by
        rw [hL]
        have : 1 ≤ (pointB c).length := by rw [← nl_len, hp]; simp
        have : 1 ≤ (Lib.itoa e).length := by
          unfold Lib.itoa
          split
          · simp
          · rw [Lib.decDigits_length]; exact Lib.nDigits_pos _
        simp only [List.length_append, List.length_cons]; omega
      have hm1 : st.m = c := by rw [hR.m]; simp
      refine ⟨st.m, s, 0, by rw [hR.m], by simp, .inl rfl, by omega, ⟨_, _, hh, by omega, d2⟩, ?_⟩
      intro w
      have := rfp_exp _ neg _ _ st w e hh ⟨d1, d2⟩ (by omega) h3 hsc2 hb hR.dig hR.und hR.tr _ (by rw [hm1]; omega) hR.at_
      rw [show (1 : Int) - Lib.nDigits c - ((0 : Nat) : Int) + e = s by omega] at this
      exact this
end Go.Proofs.YthjfdhkahmlolaaGreatDoor

/- special at texts of digits. -/
namespace Go.Proofs.YthjfdhkahmlolaaGreatDoor
open Go.RowKit
set_option maxRecDepth 100000
theorem bl_drop1 (s : ByteArray) : bl (s.extract 1 s.size) = (bl s).drop 1 := by
  unfold bl
  rw [ByteArray.data_extract, Array.toList_extract, ← List.map_drop]
  congr 1
  simp [List.extract_eq_take_drop]
  have : s.size = s.data.toList.length := rfl
  rw [this]
  exact List.take_of_length_le (by simp)
set_option maxHeartbeats 4000000 in
theorem sp_digit (s : ByteArray) (c0 : Nat) (l0 : List Nat) (w : World) (hl : bl s = c0 :: l0) (h0 : 48 ≤ c0 ∧ c0 ≤ 57) : Calls Tryz.prog 116 #[.string s] w fun en w' => en = .returned (.tuple #[.float .f64 0, .int .i64 0, .bool false]) ∧ w' = w := by
  have hz := bl_size s
  have hsz : 0 < s.size := by rw [hz, hl]; simp
  have b0 := bl_at (pre := []) hl hsz
  have hne : s ≠ ByteArray.empty := fun h => by rw [h] at hsz; exact absurd hsz (by decide)
  simp only [List.length_nil] at b0
  have t1 : ((c0 : Int) == 43) = false := by rw [beq_eq_false_iff_ne]; omega
  have t2 : ((c0 : Int) == 45) = false := by rw [beq_eq_false_iff_ne]; omega
  have t3 : ((c0 : Int) == 105) = false := by rw [beq_eq_false_iff_ne]; omega
  have t4 : ((c0 : Int) == 73) = false := by rw [beq_eq_false_iff_ne]; omega
  have t5 : ((c0 : Int) == 110) = false := by rw [beq_eq_false_iff_ne]; omega
  have t6 : ((c0 : Int) == 78) = false := by rw [beq_eq_false_iff_ne]; omega
  clear hl hz
  go_enter Tryz.func116, Tryz.ntmps116
  go_wp2_with fail
  go_ret3
  exact ⟨rfl, rfl⟩
theorem cp_digit (s : ByteArray) (c0 : Nat) (l0 : List Nat) (w : World) (hl : bl s = c0 :: l0) (h0 : 48 ≤ c0 ∧ c0 ≤ 57) : Calls Tryz.prog 153 #[.string s, .string ⟨#[105, 110, 102, 105, 110, 105, 116, 121]⟩] w fun en w' => en = .returned (.int .i64 0) ∧ w' = w := by
  have hz := bl_size s
  have hsz : 0 < s.size := by rw [hz, hl]; simp
  have b0 := bl_at (pre := []) hl hsz
  simp only [List.length_nil] at b0
  clear hl hz
  have t1 : ((c0 : Int) != 105) = true := by rw [bne_iff_ne]; omega
  have e0 : ((⟨#[105, 110, 102, 105, 110, 105, 116, 121]⟩ : ByteArray)[0]'(by decide)).toNat = 105 := rfl
  go_enter Tryz.func153, Tryz.ntmps153
  go_wp2_with fail
  all_goals refine wp_loop_rounds 1 ?_
  all_goals (rw [rounds_succ]; go_wp2_with fail)
  all_goals go_ret
  all_goals exact ⟨rfl, rfl⟩
theorem sp_neg (s : ByteArray) (c0 : Nat) (l0 : List Nat) (w : World) (hl : bl s = 45 :: c0 :: l0) (h0 : 48 ≤ c0 ∧ c0 ≤ 57) : Calls Tryz.prog 116 #[.string s] w fun en w' => en = .returned (.tuple #[.float .f64 0, .int .i64 0, .bool false]) ∧ w' = w := by
  have hz := bl_size s
  have hsz : 0 < s.size := by rw [hz, hl]; simp
  have b0 := bl_at (pre := []) hl hsz
  have hne : s ≠ ByteArray.empty := fun h => by rw [h] at hsz; exact absurd hsz (by decide)
  simp only [List.length_nil] at b0
  have HL := Lib.hid hl
  clear hl hz
  go_enter Tryz.func116, Tryz.ntmps116
  go_wp2_with fail
  have hx : bl (s.extract 1 s.size) = c0 :: l0 := by rw [bl_drop1, HL.out]; rfl
  refine (cp_digit _ c0 l0 _ hx h0).mono ?_
  rintro en w1 ⟨rfl, hw⟩; rw [hw]; clear hw w1
  go_wp2_with fail
  go_ret3
  exact ⟨rfl, rfl⟩
theorem cp_nan (w : World) : Calls Tryz.prog 153 #[.string ⟨#[78, 97, 78]⟩, .string ⟨#[110, 97, 110]⟩] w fun en w' => en = .returned (.int .i64 3) ∧ w' = w := by
  have b0 : ((⟨#[78, 97, 78]⟩ : ByteArray)[0]'(by decide)).toNat = 78 := rfl
  have b1 : ((⟨#[78, 97, 78]⟩ : ByteArray)[1]'(by decide)).toNat = 97 := rfl
  have b2 : ((⟨#[78, 97, 78]⟩ : ByteArray)[2]'(by decide)).toNat = 78 := rfl
  have e0 : ((⟨#[110, 97, 110]⟩ : ByteArray)[0]'(by decide)).toNat = 110 := rfl
  have e1 : ((⟨#[110, 97, 110]⟩ : ByteArray)[1]'(by decide)).toNat = 97 := rfl
  have e2 : ((⟨#[110, 97, 110]⟩ : ByteArray)[2]'(by decide)).toNat = 110 := rfl
  go_enter Tryz.func153, Tryz.ntmps153
  go_wp2_with fail
  refine wp_loop_rounds 4 ?_
  rw [rounds_succ]; go_wp2_with fail
  rw [rounds_succ]; go_wp2_with fail
  rw [rounds_succ]; go_wp2_with fail
  rw [rounds_succ]; go_wp2_with fail
  go_ret
  exact ⟨rfl, rfl⟩
theorem cp_inf (w : World) : Calls Tryz.prog 153 #[.string ⟨#[73, 110, 102]⟩, .string ⟨#[105, 110, 102, 105, 110, 105, 116, 121]⟩] w fun en w' => en = .returned (.int .i64 3) ∧ w' = w := by
  have b0 : ((⟨#[73, 110, 102]⟩ : ByteArray)[0]'(by decide)).toNat = 73 := rfl
  have b1 : ((⟨#[73, 110, 102]⟩ : ByteArray)[1]'(by decide)).toNat = 110 := rfl
  have b2 : ((⟨#[73, 110, 102]⟩ : ByteArray)[2]'(by decide)).toNat = 102 := rfl
  have e0 : ((⟨#[105, 110, 102, 105, 110, 105, 116, 121]⟩ : ByteArray)[0]'(by decide)).toNat = 105 := rfl
  have e1 : ((⟨#[105, 110, 102, 105, 110, 105, 116, 121]⟩ : ByteArray)[1]'(by decide)).toNat = 110 := rfl
  have e2 : ((⟨#[105, 110, 102, 105, 110, 105, 116, 121]⟩ : ByteArray)[2]'(by decide)).toNat = 102 := rfl
  go_enter Tryz.func153, Tryz.ntmps153
  go_wp2_with fail
  refine wp_loop_rounds 4 ?_
  rw [rounds_succ]; go_wp2_with fail
  rw [rounds_succ]; go_wp2_with fail
  rw [rounds_succ]; go_wp2_with fail
  rw [rounds_succ]; go_wp2_with fail
  go_ret
  exact ⟨rfl, rfl⟩
theorem inf_calls (sg : Int) (b : Nat) (h : (sg = 1 ∧ b = 9218868437227405312) ∨ (sg = -1 ∧ b = 18442240474082181120)) (w : World) : Calls Tryz.prog 154 #[.int .i64 sg] w fun en w' => en = .returned (.float .f64 b) ∧ w' = w := by
  have k1 : ∀ w, Sem.run Tryz.prog (callFunc 126 #[.int .u64 9218868437227405312]) w = .ok (.value (.float .f64 9218868437227405312)) w := fun w => by kernel_rfl
  have k2 : ∀ w, Sem.run Tryz.prog (callFunc 126 #[.int .u64 18442240474082181120]) w = .ok (.value (.float .f64 18442240474082181120)) w := fun w => by kernel_rfl
  rcases h with ⟨rfl, rfl⟩ | ⟨rfl, rfl⟩
  · go_enter Tryz.func154, Tryz.ntmps154
    go_wp2_with fail
    go_ret
    exact ⟨rfl, rfl⟩
  · go_enter Tryz.func154, Tryz.ntmps154
    go_wp2_with fail
    go_ret
    exact ⟨rfl, rfl⟩
theorem nan_calls (w : World) : Calls Tryz.prog 155 #[] w fun en w' => en = .returned (.float .f64 9221120237041090561) ∧ w' = w := by
  have k1 : ∀ w, Sem.run Tryz.prog (callFunc 126 #[.int .u64 9221120237041090561]) w = .ok (.value (.float .f64 9221120237041090561)) w := fun w => by kernel_rfl
  go_enter Tryz.func155, Tryz.ntmps155
  go_wp2_with fail
  go_ret
  exact ⟨rfl, rfl⟩
theorem sp_nan (w : World) : Calls Tryz.prog 116 #[.string ⟨#[78, 97, 78]⟩] w fun en w' => en = .returned (.tuple #[.float .f64 9221120237041090561, .int .i64 3, .bool true]) ∧ w' = w := by
  have b0 : ((⟨#[78, 97, 78]⟩ : ByteArray)[0]'(by decide)).toNat = 78 := rfl
  go_enter Tryz.func116, Tryz.ntmps116
  go_wp2_with fail
  refine (cp_nan _).mono ?_
  rintro en w1 ⟨rfl, hw⟩; rw [hw]; clear hw w1
  go_wp2_with fail
  refine (nan_calls _).mono ?_
  rintro en w1 ⟨rfl, hw⟩; rw [hw]; clear hw w1
  go_wp2_with fail
  go_ret3
  exact ⟨rfl, rfl⟩
theorem sp_pinf (w : World) : Calls Tryz.prog 116 #[.string ⟨#[43, 73, 110, 102]⟩] w fun en w' => en = .returned (.tuple #[.float .f64 9218868437227405312, .int .i64 4, .bool true]) ∧ w' = w := by
  have b0 : ((⟨#[43, 73, 110, 102]⟩ : ByteArray)[0]'(by decide)).toNat = 43 := rfl
  have e1 : (⟨#[43, 73, 110, 102]⟩ : ByteArray).extract 1 4 = ⟨#[73, 110, 102]⟩ := by decide +kernel
  go_enter Tryz.func116, Tryz.ntmps116
  go_wp2_with fail
  try rw [e1]
  refine (cp_inf _).mono ?_
  rintro en w1 ⟨rfl, hw⟩; rw [hw]; clear hw w1
  go_wp2_with fail
  refine (inf_calls 1 _ (.inl ⟨rfl, rfl⟩) _).mono ?_
  rintro en w1 ⟨rfl, hw⟩; rw [hw]; clear hw w1
  go_wp2_with fail
  go_ret3
  exact ⟨rfl, rfl⟩
theorem sp_ninf (w : World) : Calls Tryz.prog 116 #[.string ⟨#[45, 73, 110, 102]⟩] w fun en w' => en = .returned (.tuple #[.float .f64 18442240474082181120, .int .i64 4, .bool true]) ∧ w' = w := by
  have b0 : ((⟨#[45, 73, 110, 102]⟩ : ByteArray)[0]'(by decide)).toNat = 45 := rfl
  have e1 : (⟨#[45, 73, 110, 102]⟩ : ByteArray).extract 1 4 = ⟨#[73, 110, 102]⟩ := by decide +kernel
  go_enter Tryz.func116, Tryz.ntmps116
  go_wp2_with fail
  try rw [e1]
  refine (cp_inf _).mono ?_
  rintro en w1 ⟨rfl, hw⟩; rw [hw]; clear hw w1
  go_wp2_with fail
  refine (inf_calls (-1) _ (.inr ⟨rfl, rfl⟩) _).mono ?_
  rintro en w1 ⟨rfl, hw⟩; rw [hw]; clear hw w1
  go_wp2_with fail
  go_ret3
  exact ⟨rfl, rfl⟩
end Go.Proofs.YthjfdhkahmlolaaGreatDoor
