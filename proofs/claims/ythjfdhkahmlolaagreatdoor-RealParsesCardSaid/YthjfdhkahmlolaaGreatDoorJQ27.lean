/- readFloat, at any text. -/
import Derived.Test.YthjfdhkahmlolaaGreatDoorJQ26
import Derived.Test.YthjfdhkahmlolaaGreatDoorJQ20
import Derived.Deep.CutRange
namespace Go.Proofs.YthjfdhkahmlolaaGreatDoor
open Go.RowKit
set_option maxRecDepth 100000
/-- what readFloat tells of any text -/
def RfAny (s : ByteArray) (w0 : World) (e : Ending) (w : World) : Prop :=
  (∃ (x ex : Int) (ng tr hx ok : Bool) (i : Nat), e = .returned (.tuple #[.int .u64 x, .int .i64 ex, .bool ng, .bool tr, .bool hx, .int .i64 (i : Int), .bool ok]) ∧ (0 ≤ x ∧ x < 18446744073709551616) ∧ (hx = false → x < 10000000000000000000) ∧ (-1152921504606846976 ≤ ex ∧ ex ≤ 1152921504606846976) ∧ i ≤ s.size) ∧ w = w0
def RfS (s : ByteArray) (w0 : World) (v4 v7 : Value) (w : World) : Prop := ∃ (ng : Bool) (i : Nat), v4 = .bool ng ∧ v7 = .int .i64 (i : Int) ∧ i ≤ s.size ∧ w = w0
def RfB (s : ByteArray) (w0 : World) (v6 v7 v10 v11 v12 : Value) (w : World) : Prop :=
  ∃ i : Nat, v7 = .int .i64 (i : Int) ∧ i ≤ s.size ∧ ((v6 = .bool false ∧ v10 = .int .u64 10 ∧ v11 = .int .i64 19 ∧ v12 = .int .u8 101) ∨ (v6 = .bool true ∧ v10 = .int .u64 16 ∧ v11 = .int .i64 16 ∧ v12 = .int .u8 112)) ∧ w = w0
theorem wrap_range (x : Int) : 0 ≤ IntKind.u64.wrap x ∧ IntKind.u64.wrap x < 18446744073709551616 := by
  simp only [IntKind.wrap, IntKind.signed, IntKind.bits]
  constructor <;> (simp; omega)
def RfI (s : ByteArray) (i : Nat) (w0 : World) (v : Value) (w : World) : Prop := ∃ b, v = .bool b ∧ (b = true → i + 2 < s.size) ∧ w = w0
/-- the loop over the digits -/
def RfL (s : ByteArray) (hx : Bool) (w0 : World) (v2 v5 v7 v9 v13 v14 v15 v16 v17 : Value) (w : World) : Prop :=
  ∃ (x dp : Int) (tr und dot dig : Bool) (i nd nM : Nat), v2 = .int .u64 x ∧ v5 = .bool tr ∧ v7 = .int .i64 (i : Int) ∧ v9 = .bool und ∧ v13 = .bool dot ∧ v14 = .bool dig ∧ v15 = .int .i64 (nd : Int) ∧ v16 = .int .i64 (nM : Int) ∧ v17 = .int .i64 dp ∧
    i ≤ s.size ∧ nM ≤ 19 ∧ nd ≤ i ∧ -(i : Int) ≤ dp ∧ dp ≤ i ∧ (0 ≤ x ∧ x < 18446744073709551616) ∧ (hx = false → x < 10000000000000000000 ∧ x < ((10 ^ nM : Nat) : Int)) ∧ w = w0
/-- a bounded exponent -/
def RfD (w0 : World) (v : Value) (w : World) : Prop := ∃ d : Int, v = .int .i64 d ∧ -140737488355328 ≤ d ∧ d ≤ 140737488355328 ∧ w = w0
def RfJ (s : ByteArray) (i : Nat) (w0 : World) (v : Value) (w : World) : Prop := ∃ b, v = .bool b ∧ (b = true → i < s.size) ∧ w = w0
def RfK (s : ByteArray) (w0 : World) (v7 v9 v17 : Value) (w : World) : Prop := ∃ (i : Nat) (u : Bool) (d : Int), v7 = .int .i64 (i : Int) ∧ v9 = .bool u ∧ v17 = .int .i64 d ∧ i ≤ s.size ∧ -1000000000000000 ≤ d ∧ d ≤ 1000000000000000 ∧ w = w0
def RfG (s : ByteArray) (w0 : World) (v7 v19 : Value) (w : World) : Prop := ∃ (i : Nat) (sg : Int), v7 = .int .i64 (i : Int) ∧ v19 = .int .i64 sg ∧ i ≤ s.size ∧ (sg = 1 ∨ sg = -1) ∧ w = w0
def RfE (s : ByteArray) (w0 : World) (v7 v9 v20 : Value) (w : World) : Prop := ∃ (i : Nat) (u : Bool) (e : Int), v7 = .int .i64 (i : Int) ∧ v9 = .bool u ∧ v20 = .int .i64 e ∧ i ≤ s.size ∧ 0 ≤ e ∧ e ≤ 100000 ∧ w = w0
def RfX (w0 : World) (v : Value) (w : World) : Prop := ∃ d : Int, v = .int .i64 d ∧ -1000000000001000 ≤ d ∧ d ≤ 1000000000001000 ∧ w = w0
set_option maxHeartbeats 4000000 in
theorem rf_any (s : ByteArray) (w : World) (hs : s.size ≤ 140737488355328) : Calls Tryz.prog 117 #[.string s] w (RfAny s w) := by
  by_cases h0 : s.size = 0
  · go_enter Tryz.func117, Tryz.ntmps117
    go_wp2_with fail
    go_step3
    go_wp2_with fail
    rw [Exit.noGoto_ret]
    refine bodyPost_ret (results_tmp7 rfl _ _ _) rfl ?_
    exact ⟨⟨0, 0, false, false, false, false, 0, rfl, by decide, fun _ => by decide, by decide, by omega⟩, rfl⟩
  have hsz : 0 < s.size := by omega
  have hne : s ≠ ByteArray.empty := fun h => by rw [h] at hsz; exact absurd hsz (by decide)
  clear h0
  go_enter Tryz.func117, Tryz.ntmps117
  go_wp2_with fail
  go_step3
  go_upto_block 0 with fail
  go_cut [4, 7] from 28 to 35 (fun v4 v7 wx => RfS s w v4 v7 wx)
  case first =>
    go_wp2_with fail
    all_goals go_meet
    all_goals first
      | exact ⟨_, 0, rfl, rfl, by omega, rfl⟩
      | exact ⟨_, 1, rfl, rfl, by omega, rfl⟩
      | exact ⟨_, 1, rfl, by go_num, by omega, rfl⟩
  case rest =>
    obtain ⟨ng, i0, rfl, rfl, hi0, hwc⟩ := hcut
    subst wc
    clear hne
    go_upto_region 12 with fail
    go_cut [54] from 36 to 54 (fun v wx => RfI s i0 w v wx)
    case first =>
      go_wp2_with fail
      all_goals try (refine (Tryz.internal_strconv_lower _ _).mono ?_; rintro en w1 ⟨rfl, hw⟩; rw [hw]; clear hw w1; go_wp2_with fail)
      all_goals go_meet
      all_goals exact ⟨_, rfl, fun h => by first | omega | exact absurd h (by decide), rfl⟩
    case rest =>
      obtain ⟨b1, rfl, hb1, hwc⟩ := hcut
      subst wc
      go_upto_if 54 with fail
      go_cut [6, 7, 10, 11, 12] from 55 to 56 (fun v6 v7 v10 v11 v12 wx => RfB s w v6 v7 v10 v11 v12 wx)
      case first =>
        cases b1
        · go_wp2_with fail
          go_meet
          exact ⟨i0, rfl, hi0, .inl ⟨rfl, rfl, rfl, rfl⟩, rfl⟩
        · have h1 := hb1 rfl
          go_wp2_with fail
          go_meet
          exact ⟨i0 + 2, by go_num, by omega, .inr ⟨rfl, rfl, rfl, rfl⟩, rfl⟩
      case rest =>
        clear hb1 hi0
        obtain ⟨i1, rfl, hi1, ⟨rfl, rfl, rfl, rfl⟩ | ⟨rfl, rfl, rfl, rfl⟩, hwc⟩ := hcut
        · subst wc
          go_wp2_with fail
          go_step3
          go_upto_block 1 with fail
          go_cut [2, 5, 7, 9, 13, 14, 15, 16, 17] from 57 to 138 (fun v2 v5 v7 v9 v13 v14 v15 v16 v17 wx => RfL s false w v2 v5 v7 v9 v13 v14 v15 v16 v17 wx)
          case first =>
            as_aux_lemma =>
              go_wp2_with fail
              go_loopw [2, 5, 7, 9, 13, 14, 15, 16, 17] (fun v2 v5 v7 v9 v13 v14 v15 v16 v17 wr => RfL s false w v2 v5 v7 v9 v13 v14 v15 v16 v17 wr) (fun _ _ v7 _ _ _ _ _ _ _ => s.size - (intOf v7).toNat)
              case atStart => exact ⟨0, 0, false, false, false, false, i1, 0, 0, rfl, rfl, rfl, rfl, rfl, rfl, rfl, rfl, rfl, hi1, by omega, by omega, by omega, by omega, by omega, fun _ => by decide, rfl⟩
              case round =>
                clear hi1
                obtain ⟨x, dp, tr, und, dot, dig, i, nd, nM, rfl, rfl, rfl, rfl, rfl, rfl, rfl, rfl, rfl, hi, hM, hnd, hd1, hd2, hx1, hx2, hwr⟩ := hrel
                subst wr
                obtain ⟨hx3, hP⟩ := hx2 rfl
                have HX2 := Lib.hid (hx2 rfl); clear hx2
                by_cases hlt : i < s.size
                · obtain ⟨c, hc, hc2⟩ : ∃ c : Nat, (s[i]'hlt).toNat = c ∧ c < 256 := ⟨_, rfl, (s[i]'hlt).toNat_lt⟩
                  by_cases hm : nM < 19
                  · have t1 : decide ((nM : Int) < 19) = true := decide_eq_true (by omega)
                    have hx18 : x < 1000000000000000000 := by
                      have h1 : 10 ^ nM ≤ 10 ^ 18 := Nat.pow_le_pow_right (by decide) (by omega)
                      have h2 : (10 : Nat) ^ 18 = 1000000000000000000 := by decide
                      omega
                    have HP := Lib.hid hP; clear hP
                    go_wp2_with fail
                    all_goals have hP := HP.out
                    all_goals first
                      | exact ⟨⟨_, _, _, _, _, _, i + 1, nd, nM, rfl, rfl, by go_num, rfl, rfl, rfl, rfl, rfl, rfl, by omega, by omega, by omega, by omega, by omega, hx1, fun _ => HX2.out, rfl⟩, by simp only [intOf]; omega⟩
                      | exact ⟨⟨_, _, _, _, _, _, i + 1, (nd + 1), nM, rfl, rfl, by go_num, rfl, rfl, rfl, by go_num, rfl, rfl, by omega, by omega, by omega, by omega, by omega, hx1, fun _ => HX2.out, rfl⟩, by simp only [intOf]; omega⟩
                      | exact ⟨⟨_, _, _, _, _, _, i + 1, (nd + 1), (nM + 1), rfl, rfl, by go_num, rfl, rfl, rfl, by go_num, by go_num, rfl, by omega, by omega, by omega, by omega, by omega, ⟨by omega, by omega⟩, fun _ => ⟨by omega, by rw [Nat.pow_succ]; push_cast at hP ⊢; omega⟩, rfl⟩, by simp only [intOf]; omega⟩
                      | (go_meet; exact ⟨x, dp, _, _, _, _, i, nd, nM, rfl, rfl, rfl, rfl, rfl, rfl, rfl, rfl, rfl, hi, hM, hnd, hd1, hd2, hx1, fun _ => HX2.out, rfl⟩)
                  · have t1 : decide ((nM : Int) < 19) = false := decide_eq_false (by omega)
                    have HP := Lib.hid hP; clear hP
                    go_wp2_with fail
                    all_goals first
                      | exact ⟨⟨_, _, _, _, _, _, i + 1, nd, nM, rfl, rfl, by go_num, rfl, rfl, rfl, rfl, rfl, rfl, by omega, by omega, by omega, by omega, by omega, hx1, fun _ => HX2.out, rfl⟩, by simp only [intOf]; omega⟩
                      | exact ⟨⟨_, _, _, _, _, _, i + 1, (nd + 1), nM, rfl, rfl, by go_num, rfl, rfl, rfl, by go_num, rfl, rfl, by omega, by omega, by omega, by omega, by omega, hx1, fun _ => HX2.out, rfl⟩, by simp only [intOf]; omega⟩
                      | exact ⟨⟨_, _, _, _, _, _, i + 1, (nd + 1), (nM + 1), rfl, rfl, by go_num, rfl, rfl, rfl, by go_num, by go_num, rfl, by omega, by omega, by omega, by omega, by omega, ⟨by omega, by omega⟩, fun _ => ⟨by omega, by rw [Nat.pow_succ]; push_cast at hP ⊢; omega⟩, rfl⟩, by simp only [intOf]; omega⟩
                      | (go_meet; exact ⟨x, dp, _, _, _, _, i, nd, nM, rfl, rfl, rfl, rfl, rfl, rfl, rfl, rfl, rfl, hi, hM, hnd, hd1, hd2, hx1, fun _ => HX2.out, rfl⟩)
                · go_wp2_with fail
                  go_meet
                  exact ⟨x, dp, _, _, _, _, i, nd, nM, rfl, rfl, rfl, rfl, rfl, rfl, rfl, rfl, rfl, hi, hM, hnd, hd1, hd2, hx1, fun _ => HX2.out, rfl⟩
          case rest =>
            as_aux_lemma =>
              obtain ⟨x, dp, tr, und, dot, dig, i, nd, nM, rfl, rfl, rfl, rfl, rfl, rfl, rfl, rfl, rfl, hi, hM, hnd, hd1, hd2, hx1, hx2, hwc⟩ := hcut
              subst wc
              have HX2 := Lib.hid (hx2 rfl)
              clear hx2 hi1
              cases dig
              · go_wp2_with fail
                (first | rw [Exit.noGoto_ret] | (simp only [Exit.inBlock, Exit.then, Exit.noGoto_ret]) | skip); refine bodyPost_ret (results_tmp7 rfl _ _ _) rfl ?_; exact ⟨⟨x, 0, _, _, _, _, i, rfl, hx1, fun _ => HX2.out.1, by omega, by omega⟩, rfl⟩
              go_upto_if 142 with fail
              go_cut [17] from 143 to 143 (fun v wx => RfD w v wx)
              case first =>
                cases dot
                · go_wp2_with fail
                  go_meet
                  exact ⟨nd, rfl, by omega, by omega, rfl⟩
                · go_wp2_with fail
                  go_meet
                  exact ⟨dp, rfl, by omega, by omega, rfl⟩
              case rest =>
                clear hd1 hd2 hnd
                obtain ⟨d, rfl, hd1, hd2, hwc⟩ := hcut
                subst wc
                go_upto_region 57 with fail
                go_cut [161] from 150 to 161 (fun v wx => RfJ s i w v wx)
                case first =>
                  go_wp2_with fail
                  all_goals try (refine (Tryz.internal_strconv_lower _ _).mono ?_; rintro en w1 ⟨rfl, hw⟩; rw [hw]; clear hw w1; go_wp2_with fail)
                  all_goals go_meet
                  all_goals exact ⟨_, rfl, fun h => by first | omega | exact absurd h (by decide), rfl⟩
                case rest =>
                  obtain ⟨b2, rfl, hb2, hwc⟩ := hcut
                  subst wc
                  go_upto_if 161 with fail
                  go_cut [7, 9, 17] from 162 to 239 (fun v7 v9 v17 wx => RfK s w v7 v9 v17 wx)
                  case first =>
                    cases b2
                    · go_wp2_with fail
                      go_meet
                      exact ⟨i, und, d, rfl, rfl, rfl, hi, by omega, by omega, rfl⟩
                    · have hlt := hb2 rfl
                      by_cases h1 : s.size ≤ i + 1
                      · have t1 : decide ((i : Int) + 1 ≥ (s.size : Int)) = true := decide_eq_true (by omega)
                        go_wp2_with fail
                        (first | rw [Exit.noGoto_ret] | (simp only [Exit.inBlock, Exit.then, Exit.noGoto_ret]) | skip); refine bodyPost_ret (results_tmp7 rfl _ _ _) rfl ?_; exact ⟨⟨x, 0, _, _, _, _, i + 1, rfl, hx1, fun _ => HX2.out.1, by omega, by omega⟩, rfl⟩
                      · have t1 : decide ((i : Int) + 1 ≥ (s.size : Int)) = false := decide_eq_false (by omega)
                        go_upto_block 4 with fail
                        clear t1
                        go_cut [7, 19] from 171 to 178 (fun v7 v19 wx => RfG s w v7 v19 wx)
                        case first =>
                          go_wp2_with fail
                          all_goals go_meet
                          all_goals first
                            | exact ⟨i + 1, 1, by go_num, rfl, by omega, .inl rfl, rfl⟩
                            | exact ⟨i + 1 + 1, 1, by go_num, rfl, by omega, .inl rfl, rfl⟩
                            | exact ⟨i + 1 + 1, -1, by go_num, rfl, by omega, .inr rfl, rfl⟩
                        case rest =>
                          obtain ⟨i3, sg, rfl, rfl, hi3, hsg, hwc⟩ := hcut
                          subst wc
                          go_upto_region 67 with fail
                          go_cut [194] from 179 to 194 (fun v wx => UoB 0 s w v wx)
                          case first =>
                            go_wp2_with fail
                            all_goals go_meet
                            all_goals exact ⟨_, rfl, fun _ => Nat.zero_le _, rfl⟩
                          case rest =>
                            obtain ⟨b3, rfl, _, hwc⟩ := hcut
                            subst wc
                            cases b3
                            rotate_left
                            · go_wp2_with fail
                              (first | rw [Exit.noGoto_ret] | (simp only [Exit.inBlock, Exit.then, Exit.noGoto_ret]) | skip); refine bodyPost_ret (results_tmp7 rfl _ _ _) rfl ?_; exact ⟨⟨x, 0, _, _, _, _, i3, rfl, hx1, fun _ => HX2.out.1, by omega, by omega⟩, rfl⟩
                            go_wp2_with fail
                            go_loopw [7, 9, 20] (fun v7 v9 v20 wr => RfE s w v7 v9 v20 wr) (fun v7 _ _ _ => s.size - (intOf v7).toNat)
                            case atStart => exact ⟨i3, und, 0, rfl, rfl, rfl, hi3, by omega, by omega, rfl⟩
                            case round =>
                              clear hi3 hb2 hlt h1 hi
                              obtain ⟨i4, un4, e4, rfl, rfl, rfl, hi4, he1, he2, hwr⟩ := hrel
                              subst wr
                              by_cases hl4 : i4 < s.size
                              · obtain ⟨c, hc, hc2⟩ : ∃ c : Nat, (s[i4]'hl4).toNat = c ∧ c < 256 := ⟨_, rfl, (s[i4]'hl4).toNat_lt⟩
                                by_cases hdg : 48 ≤ c ∧ c ≤ 57
                                · have t1 : decide (48 ≤ (c : Int)) = true := decide_eq_true (by omega)
                                  have t2 : decide ((c : Int) ≤ 57) = true := decide_eq_true (by omega)
                                  have t3 : ((c : Int) == 95) = false := by rw [beq_eq_false_iff_ne]; omega
                                  obtain ⟨d4, rfl⟩ : ∃ d4, c = d4 + 48 := ⟨c - 48, by omega⟩
                                  have hd9 : d4 ≤ 9 := by omega
                                  by_cases he : e4 < 10000
                                  · have t4 : decide (e4 < 10000) = true := decide_eq_true he
                                    go_wp2_with fail
                                    exact ⟨⟨i4 + 1, _, _, by go_num, rfl, rfl, by omega, by omega, by omega, rfl⟩, by simp only [intOf]; omega⟩
                                  · have t4 : decide (e4 < 10000) = false := decide_eq_false he
                                    go_wp2_with fail
                                    exact ⟨⟨i4 + 1, _, _, by go_num, rfl, rfl, by omega, by omega, by omega, rfl⟩, by simp only [intOf]; omega⟩
                                · by_cases h95 : c = 95
                                  · subst h95
                                    go_wp2_with fail
                                    exact ⟨⟨i4 + 1, _, _, by go_num, rfl, rfl, by omega, by omega, by omega, rfl⟩, by simp only [intOf]; omega⟩
                                  · have t3 : ((c : Int) == 95) = false := by rw [beq_eq_false_iff_ne]; omega
                                    by_cases h48 : 48 ≤ c
                                    · have t1 : decide (48 ≤ (c : Int)) = true := decide_eq_true (by omega)
                                      have t2 : decide ((c : Int) ≤ 57) = false := decide_eq_false (by omega)
                                      rcases hsg with rfl | rfl
                                      all_goals
                                        go_wp2_with fail
                                        go_meet
                                        exact ⟨i4, un4, _, rfl, rfl, rfl, hi4, by omega, by omega, rfl⟩
                                    · have t1 : decide (48 ≤ (c : Int)) = false := decide_eq_false (by omega)
                                      rcases hsg with rfl | rfl
                                      all_goals
                                        go_wp2_with fail
                                        go_meet
                                        exact ⟨i4, un4, _, rfl, rfl, rfl, hi4, by omega, by omega, rfl⟩
                              · rcases hsg with rfl | rfl
                                all_goals
                                  go_wp2_with fail
                                  go_meet
                                  exact ⟨i4, un4, _, rfl, rfl, rfl, hi4, by omega, by omega, rfl⟩
                  case rest =>
                    clear hb2 hd1 hd2 hi
                    obtain ⟨i5, un5, d5, rfl, rfl, rfl, hi5, hd1, hd2, hwc⟩ := hcut
                    subst wc
                    go_upto_if 241 with fail
                    go_cut [3] from 242 to 244 (fun v wx => RfX w v wx)
                    case first =>
                      by_cases hx0 : x = 0
                      · have t1 : (x != 0) = false := by rw [bne_eq_false_iff_eq]; exact hx0
                        go_wp2_with fail
                        go_meet
                        exact ⟨0, rfl, by omega, by omega, rfl⟩
                      · have t1 : (x != 0) = true := by rw [bne_iff_ne]; exact hx0
                        go_wp2_with fail
                        go_meet
                        exact ⟨_, rfl, by omega, by omega, rfl⟩
                    case rest =>
                      obtain ⟨ex, rfl, he1, he2, hwc⟩ := hcut
                      subst wc
                      cases un5
                      · go_wp2_with fail
                        (first | rw [Exit.noGoto_ret] | (simp only [Exit.inBlock, Exit.then, Exit.noGoto_ret]) | skip); refine bodyPost_ret (results_tmp7 rfl _ _ _) rfl ?_; exact ⟨⟨x, ex, _, _, _, _, i5, rfl, hx1, fun _ => HX2.out.1, by omega, by omega⟩, rfl⟩
                      · go_wp2_with fail
                        refine (uo_any _ _ (by simp [ByteArray.size_extract]; omega)).mono ?_
                        rintro en w1 ⟨⟨r, rfl⟩, hw⟩; rw [hw]; clear hw w1
                        cases r
                        all_goals
                          go_wp2_with fail
                          (first | rw [Exit.noGoto_ret] | (simp only [Exit.inBlock, Exit.then, Exit.noGoto_ret]) | skip); refine bodyPost_ret (results_tmp7 rfl _ _ _) rfl ?_; exact ⟨⟨x, ex, _, _, _, _, i5, rfl, hx1, fun _ => HX2.out.1, by omega, by omega⟩, rfl⟩
        · subst wc
          go_wp2_with fail
          go_step3
          go_upto_block 1 with fail
          go_cut [2, 5, 7, 9, 13, 14, 15, 16, 17] from 57 to 138 (fun v2 v5 v7 v9 v13 v14 v15 v16 v17 wx => RfL s true w v2 v5 v7 v9 v13 v14 v15 v16 v17 wx)
          case first =>
            as_aux_lemma =>
              go_wp2_with fail
              go_loopw [2, 5, 7, 9, 13, 14, 15, 16, 17] (fun v2 v5 v7 v9 v13 v14 v15 v16 v17 wr => RfL s true w v2 v5 v7 v9 v13 v14 v15 v16 v17 wr) (fun _ _ v7 _ _ _ _ _ _ _ => s.size - (intOf v7).toNat)
              case atStart => exact ⟨0, 0, false, false, false, false, i1, 0, 0, rfl, rfl, rfl, rfl, rfl, rfl, rfl, rfl, rfl, hi1, by omega, by omega, by omega, by omega, by omega, fun _ => by decide, rfl⟩
              case round =>
                clear hi1
                obtain ⟨x, dp, tr, und, dot, dig, i, nd, nM, rfl, rfl, rfl, rfl, rfl, rfl, rfl, rfl, rfl, hi, hM, hnd, hd1, hd2, hx1, hx2, hwr⟩ := hrel
                subst wr
                clear hx2
                by_cases hlt : i < s.size
                · obtain ⟨c, hc, hc2⟩ : ∃ c : Nat, (s[i]'hlt).toNat = c ∧ c < 256 := ⟨_, rfl, (s[i]'hlt).toNat_lt⟩
                  by_cases hm : nM < 16
                  · have t1 : decide ((nM : Int) < 16) = true := decide_eq_true (by omega)
                    go_wp2_with fail
                    all_goals try (refine (Tryz.internal_strconv_lower _ _).mono ?_; rintro en w1 ⟨rfl, hw⟩; rw [hw]; clear hw w1; go_wp2_with fail)
                    all_goals try (refine (Tryz.internal_strconv_lower _ _).mono ?_; rintro en w1 ⟨rfl, hw⟩; rw [hw]; clear hw w1; go_wp2_with fail)
                    all_goals try (refine (Tryz.internal_strconv_lower _ _).mono ?_; rintro en w1 ⟨rfl, hw⟩; rw [hw]; clear hw w1; go_wp2_with fail)
                    all_goals first
                      | exact ⟨⟨_, _, _, _, _, _, i + 1, nd, nM, rfl, rfl, by go_num, rfl, rfl, rfl, rfl, rfl, rfl, by omega, by omega, by omega, by omega, by omega, hx1, fun h => absurd h (by decide), rfl⟩, by simp only [intOf]; omega⟩
                      | exact ⟨⟨_, _, _, _, _, _, i + 1, (nd + 1), nM, rfl, rfl, by go_num, rfl, rfl, rfl, by go_num, rfl, rfl, by omega, by omega, by omega, by omega, by omega, hx1, fun h => absurd h (by decide), rfl⟩, by simp only [intOf]; omega⟩
                      | exact ⟨⟨_, _, _, _, _, _, i + 1, (nd + 1), (nM + 1), rfl, rfl, by go_num, rfl, rfl, rfl, by go_num, by go_num, rfl, by omega, by omega, by omega, by omega, by omega, wrap_range _, fun h => absurd h (by decide), rfl⟩, by simp only [intOf]; omega⟩
                      | (go_meet; exact ⟨x, dp, _, _, _, _, i, nd, nM, rfl, rfl, rfl, rfl, rfl, rfl, rfl, rfl, rfl, hi, hM, hnd, hd1, hd2, hx1, fun h => absurd h (by decide), rfl⟩)
                  · have t1 : decide ((nM : Int) < 16) = false := decide_eq_false (by omega)
                    go_wp2_with fail
                    all_goals try (refine (Tryz.internal_strconv_lower _ _).mono ?_; rintro en w1 ⟨rfl, hw⟩; rw [hw]; clear hw w1; go_wp2_with fail)
                    all_goals try (refine (Tryz.internal_strconv_lower _ _).mono ?_; rintro en w1 ⟨rfl, hw⟩; rw [hw]; clear hw w1; go_wp2_with fail)
                    all_goals try (refine (Tryz.internal_strconv_lower _ _).mono ?_; rintro en w1 ⟨rfl, hw⟩; rw [hw]; clear hw w1; go_wp2_with fail)
                    all_goals first
                      | exact ⟨⟨_, _, _, _, _, _, i + 1, nd, nM, rfl, rfl, by go_num, rfl, rfl, rfl, rfl, rfl, rfl, by omega, by omega, by omega, by omega, by omega, hx1, fun h => absurd h (by decide), rfl⟩, by simp only [intOf]; omega⟩
                      | exact ⟨⟨_, _, _, _, _, _, i + 1, (nd + 1), nM, rfl, rfl, by go_num, rfl, rfl, rfl, by go_num, rfl, rfl, by omega, by omega, by omega, by omega, by omega, hx1, fun h => absurd h (by decide), rfl⟩, by simp only [intOf]; omega⟩
                      | exact ⟨⟨_, _, _, _, _, _, i + 1, (nd + 1), (nM + 1), rfl, rfl, by go_num, rfl, rfl, rfl, by go_num, by go_num, rfl, by omega, by omega, by omega, by omega, by omega, wrap_range _, fun h => absurd h (by decide), rfl⟩, by simp only [intOf]; omega⟩
                      | (go_meet; exact ⟨x, dp, _, _, _, _, i, nd, nM, rfl, rfl, rfl, rfl, rfl, rfl, rfl, rfl, rfl, hi, hM, hnd, hd1, hd2, hx1, fun h => absurd h (by decide), rfl⟩)
                · go_wp2_with fail
                  go_meet
                  exact ⟨x, dp, _, _, _, _, i, nd, nM, rfl, rfl, rfl, rfl, rfl, rfl, rfl, rfl, rfl, hi, hM, hnd, hd1, hd2, hx1, fun h => absurd h (by decide), rfl⟩
          case rest =>
            as_aux_lemma =>
              obtain ⟨x, dp, tr, und, dot, dig, i, nd, nM, rfl, rfl, rfl, rfl, rfl, rfl, rfl, rfl, rfl, hi, hM, hnd, hd1, hd2, hx1, hx2, hwc⟩ := hcut
              subst wc
              clear hx2 hi1
              cases dig
              · go_wp2_with fail
                (first | rw [Exit.noGoto_ret] | (simp only [Exit.inBlock, Exit.then, Exit.noGoto_ret]) | skip); refine bodyPost_ret (results_tmp7 rfl _ _ _) rfl ?_; exact ⟨⟨x, 0, _, _, _, _, i, rfl, hx1, fun h => absurd h (by decide), by omega, by omega⟩, rfl⟩
              go_upto_if 142 with fail
              go_cut [17] from 143 to 143 (fun v wx => RfD w v wx)
              case first =>
                cases dot
                · go_wp2_with fail
                  go_meet
                  exact ⟨nd, rfl, by omega, by omega, rfl⟩
                · go_wp2_with fail
                  go_meet
                  exact ⟨dp, rfl, by omega, by omega, rfl⟩
              case rest =>
                clear hd1 hd2 hnd
                obtain ⟨d, rfl, hd1, hd2, hwc⟩ := hcut
                subst wc
                go_upto_region 57 with fail
                go_cut [161] from 150 to 161 (fun v wx => RfJ s i w v wx)
                case first =>
                  go_wp2_with fail
                  all_goals try (refine (Tryz.internal_strconv_lower _ _).mono ?_; rintro en w1 ⟨rfl, hw⟩; rw [hw]; clear hw w1; go_wp2_with fail)
                  all_goals go_meet
                  all_goals exact ⟨_, rfl, fun h => by first | omega | exact absurd h (by decide), rfl⟩
                case rest =>
                  obtain ⟨b2, rfl, hb2, hwc⟩ := hcut
                  subst wc
                  go_upto_if 161 with fail
                  go_cut [7, 9, 17] from 162 to 239 (fun v7 v9 v17 wx => RfK s w v7 v9 v17 wx)
                  case first =>
                    cases b2
                    · go_wp2_with fail
                      (first | rw [Exit.noGoto_ret] | (simp only [Exit.inBlock, Exit.then, Exit.noGoto_ret]) | skip); refine bodyPost_ret (results_tmp7 rfl _ _ _) rfl ?_; exact ⟨⟨x, 0, _, _, _, _, i, rfl, hx1, fun h => absurd h (by decide), by omega, by omega⟩, rfl⟩
                    · have hlt := hb2 rfl
                      by_cases h1 : s.size ≤ i + 1
                      · have t1 : decide ((i : Int) + 1 ≥ (s.size : Int)) = true := decide_eq_true (by omega)
                        go_wp2_with fail
                        (first | rw [Exit.noGoto_ret] | (simp only [Exit.inBlock, Exit.then, Exit.noGoto_ret]) | skip); refine bodyPost_ret (results_tmp7 rfl _ _ _) rfl ?_; exact ⟨⟨x, 0, _, _, _, _, i + 1, rfl, hx1, fun h => absurd h (by decide), by omega, by omega⟩, rfl⟩
                      · have t1 : decide ((i : Int) + 1 ≥ (s.size : Int)) = false := decide_eq_false (by omega)
                        go_upto_block 4 with fail
                        clear t1
                        go_cut [7, 19] from 171 to 178 (fun v7 v19 wx => RfG s w v7 v19 wx)
                        case first =>
                          go_wp2_with fail
                          all_goals go_meet
                          all_goals first
                            | exact ⟨i + 1, 1, by go_num, rfl, by omega, .inl rfl, rfl⟩
                            | exact ⟨i + 1 + 1, 1, by go_num, rfl, by omega, .inl rfl, rfl⟩
                            | exact ⟨i + 1 + 1, -1, by go_num, rfl, by omega, .inr rfl, rfl⟩
                        case rest =>
                          obtain ⟨i3, sg, rfl, rfl, hi3, hsg, hwc⟩ := hcut
                          subst wc
                          go_upto_region 67 with fail
                          go_cut [194] from 179 to 194 (fun v wx => UoB 0 s w v wx)
                          case first =>
                            go_wp2_with fail
                            all_goals go_meet
                            all_goals exact ⟨_, rfl, fun _ => Nat.zero_le _, rfl⟩
                          case rest =>
                            obtain ⟨b3, rfl, _, hwc⟩ := hcut
                            subst wc
                            cases b3
                            rotate_left
                            · go_wp2_with fail
                              (first | rw [Exit.noGoto_ret] | (simp only [Exit.inBlock, Exit.then, Exit.noGoto_ret]) | skip); refine bodyPost_ret (results_tmp7 rfl _ _ _) rfl ?_; exact ⟨⟨x, 0, _, _, _, _, i3, rfl, hx1, fun h => absurd h (by decide), by omega, by omega⟩, rfl⟩
                            go_wp2_with fail
                            go_loopw [7, 9, 20] (fun v7 v9 v20 wr => RfE s w v7 v9 v20 wr) (fun v7 _ _ _ => s.size - (intOf v7).toNat)
                            case atStart => exact ⟨i3, und, 0, rfl, rfl, rfl, hi3, by omega, by omega, rfl⟩
                            case round =>
                              clear hi3 hb2 hlt h1 hi
                              obtain ⟨i4, un4, e4, rfl, rfl, rfl, hi4, he1, he2, hwr⟩ := hrel
                              subst wr
                              by_cases hl4 : i4 < s.size
                              · obtain ⟨c, hc, hc2⟩ : ∃ c : Nat, (s[i4]'hl4).toNat = c ∧ c < 256 := ⟨_, rfl, (s[i4]'hl4).toNat_lt⟩
                                by_cases hdg : 48 ≤ c ∧ c ≤ 57
                                · have t1 : decide (48 ≤ (c : Int)) = true := decide_eq_true (by omega)
                                  have t2 : decide ((c : Int) ≤ 57) = true := decide_eq_true (by omega)
                                  have t3 : ((c : Int) == 95) = false := by rw [beq_eq_false_iff_ne]; omega
                                  obtain ⟨d4, rfl⟩ : ∃ d4, c = d4 + 48 := ⟨c - 48, by omega⟩
                                  have hd9 : d4 ≤ 9 := by omega
                                  by_cases he : e4 < 10000
                                  · have t4 : decide (e4 < 10000) = true := decide_eq_true he
                                    go_wp2_with fail
                                    exact ⟨⟨i4 + 1, _, _, by go_num, rfl, rfl, by omega, by omega, by omega, rfl⟩, by simp only [intOf]; omega⟩
                                  · have t4 : decide (e4 < 10000) = false := decide_eq_false he
                                    go_wp2_with fail
                                    exact ⟨⟨i4 + 1, _, _, by go_num, rfl, rfl, by omega, by omega, by omega, rfl⟩, by simp only [intOf]; omega⟩
                                · by_cases h95 : c = 95
                                  · subst h95
                                    go_wp2_with fail
                                    exact ⟨⟨i4 + 1, _, _, by go_num, rfl, rfl, by omega, by omega, by omega, rfl⟩, by simp only [intOf]; omega⟩
                                  · have t3 : ((c : Int) == 95) = false := by rw [beq_eq_false_iff_ne]; omega
                                    by_cases h48 : 48 ≤ c
                                    · have t1 : decide (48 ≤ (c : Int)) = true := decide_eq_true (by omega)
                                      have t2 : decide ((c : Int) ≤ 57) = false := decide_eq_false (by omega)
                                      rcases hsg with rfl | rfl
                                      all_goals
                                        go_wp2_with fail
                                        go_meet
                                        exact ⟨i4, un4, _, rfl, rfl, rfl, hi4, by omega, by omega, rfl⟩
                                    · have t1 : decide (48 ≤ (c : Int)) = false := decide_eq_false (by omega)
                                      rcases hsg with rfl | rfl
                                      all_goals
                                        go_wp2_with fail
                                        go_meet
                                        exact ⟨i4, un4, _, rfl, rfl, rfl, hi4, by omega, by omega, rfl⟩
                              · rcases hsg with rfl | rfl
                                all_goals
                                  go_wp2_with fail
                                  go_meet
                                  exact ⟨i4, un4, _, rfl, rfl, rfl, hi4, by omega, by omega, rfl⟩
                  case rest =>
                    clear hb2 hd1 hd2 hi
                    obtain ⟨i5, un5, d5, rfl, rfl, rfl, hi5, hd1, hd2, hwc⟩ := hcut
                    subst wc
                    go_upto_if 241 with fail
                    go_cut [3] from 242 to 244 (fun v wx => RfX w v wx)
                    case first =>
                      by_cases hx0 : x = 0
                      · have t1 : (x != 0) = false := by rw [bne_eq_false_iff_eq]; exact hx0
                        go_wp2_with fail
                        go_meet
                        exact ⟨0, rfl, by omega, by omega, rfl⟩
                      · have t1 : (x != 0) = true := by rw [bne_iff_ne]; exact hx0
                        go_wp2_with fail
                        go_meet
                        exact ⟨_, rfl, by omega, by omega, rfl⟩
                    case rest =>
                      obtain ⟨ex, rfl, he1, he2, hwc⟩ := hcut
                      subst wc
                      cases un5
                      · go_wp2_with fail
                        (first | rw [Exit.noGoto_ret] | (simp only [Exit.inBlock, Exit.then, Exit.noGoto_ret]) | skip); refine bodyPost_ret (results_tmp7 rfl _ _ _) rfl ?_; exact ⟨⟨x, ex, _, _, _, _, i5, rfl, hx1, fun h => absurd h (by decide), by omega, by omega⟩, rfl⟩
                      · go_wp2_with fail
                        refine (uo_any _ _ (by simp [ByteArray.size_extract]; omega)).mono ?_
                        rintro en w1 ⟨⟨r, rfl⟩, hw⟩; rw [hw]; clear hw w1
                        cases r
                        all_goals
                          go_wp2_with fail
                          (first | rw [Exit.noGoto_ret] | (simp only [Exit.inBlock, Exit.then, Exit.noGoto_ret]) | skip); refine bodyPost_ret (results_tmp7 rfl _ _ _) rfl ?_; exact ⟨⟨x, ex, _, _, _, _, i5, rfl, hx1, fun h => absurd h (by decide), by omega, by omega⟩, rfl⟩
end Go.Proofs.YthjfdhkahmlolaaGreatDoor
