/- decimal.set, at any text. -/
import Derived.Test.YthjfdhkahmlolaaGreatDoorJQ24
import Derived.Test.YthjfdhkahmlolaaGreatDoorJQ26
import Derived.Deep.CutRange
import Derived.Deep.RegionLaw
namespace Go.Proofs.YthjfdhkahmlolaaGreatDoor
open Go.RowKit
set_option maxRecDepth 100000
/-- a decimal of any text -/
def Dw (b : Nat) (L : Int) (w : World) : Prop :=
  ∃ (g : Nat → Nat) (nd : Nat) (dp : Int) (ng tr : Bool), DecB w b g nd dp ng tr ∧ Dgt g nd ∧ nd ≤ 800 ∧ (nd ≠ 0 → 49 ≤ g 0) ∧ -L ≤ dp ∧ dp ≤ L
theorem Dw.mono {b : Nat} {L M : Int} {w : World} (h : Dw b L w) (hL : L ≤ M) : Dw b M w := by
  obtain ⟨g, nd, dp, ng, tr, h1, h2, h3, h4, h5, h6⟩ := h
  exact ⟨g, nd, dp, ng, tr, h1, h2, h3, h4, by omega, by omega⟩
theorem DecB.drew {w : World} {b nd : Nat} {g : Nat → Nat} {dp : Int} {ng tr : Bool} (h : DecB w b g nd dp ng tr) : DecB w.drew b g nd dp ng tr := h
theorem Dw.drewN {b : Nat} {L : Int} {w : World} (h : Dw b L w) (q : Nat) : Dw b L (w.drewN q) := h
def SetPost (b : Nat) (w0 : World) (e : Ending) (w : World) : Prop := (∃ ok, e = .returned (.bool ok)) ∧ Only (· = b) w0 w ∧ Dw b 1000000000000000 w
def StS (s : ByteArray) (b : Nat) (w0 : World) (v5 : Value) (w : World) : Prop := ∃ i : Nat, v5 = .int .i64 (i : Int) ∧ i ≤ s.size ∧ Only (· = b) w0 w ∧ Dw b 0 w
def StL (s : ByteArray) (b : Nat) (w0 : World) (v5 v6 v7 : Value) (w : World) : Prop := ∃ (i : Nat) (dot dig : Bool), v5 = .int .i64 (i : Int) ∧ v6 = .bool dot ∧ v7 = .bool dig ∧ i ≤ s.size ∧ Only (· = b) w0 w ∧ Dw b (i + 800) w
def StD (b : Nat) (w0 : World) (w : World) : Prop := Only (· = b) w0 w ∧ Dw b 150000000000000 w
def StJ (s : ByteArray) (i : Nat) (w0 : World) (v : Value) (w : World) : Prop := ∃ c, v = .bool c ∧ (c = true → i < s.size) ∧ w = w0
def StG (s : ByteArray) (w0 : World) (v5 v8 : Value) (w : World) : Prop := ∃ (i : Nat) (sg : Int), v5 = .int .i64 (i : Int) ∧ v8 = .int .i64 sg ∧ i ≤ s.size ∧ (sg = 1 ∨ sg = -1) ∧ w = w0
def StE (s : ByteArray) (w0 : World) (v5 v9 : Value) (w : World) : Prop := ∃ (i : Nat) (e : Int), v5 = .int .i64 (i : Int) ∧ v9 = .int .i64 e ∧ i ≤ s.size ∧ 0 ≤ e ∧ e ≤ 100000 ∧ w = w0
def StK (s : ByteArray) (b : Nat) (w0 : World) (v5 : Value) (w : World) : Prop := ∃ i : Nat, v5 = .int .i64 (i : Int) ∧ i ≤ s.size ∧ Only (· = b) w0 w ∧ Dw b 1000000000000000 w
set_option maxHeartbeats 4000000 in
theorem set_any (s : ByteArray) (b : Nat) (w : World) (hs : s.size ≤ 140737488355328) (hD : Dw b 0 w) : Calls Tryz.prog 123 #[.pointer (some ⟨b, 0, none⟩), .string s] w (SetPost b w) := by
  obtain ⟨g, nd, dp, ng, tr, hB, hg, hn, hl, hp1, hp2⟩ := hD
  have c2 := hB.cng
  have c3 := hB.ctr
  have f2 := hB.free 802
  have f3 := hB.free 803
  have HB := Lib.hid hB; have HG := Lib.hid hg; have HL := Lib.hid hl
  clear hB hg hl
  by_cases h0 : s.size = 0
  · go_enter Tryz.func123, Tryz.ntmps123
    go_wp2_with fail
    go_ret
    exact ⟨⟨_, rfl⟩, only_set (only_set (Only.refl _ _) _ _) _ _, g, nd, dp, false, false, (HB.out.setG false).setT false, HG.out, hn, HL.out, by omega, by omega⟩
  have hsz : 0 < s.size := by omega
  have hne : s ≠ ByteArray.empty := fun h => by rw [h] at hsz; exact absurd hsz (by decide)
  clear h0
  go_enter Tryz.func123, Tryz.ntmps123
  go_upto_block 0 with fail
  go_cut [5] from 23 to 33 (fun v5 wx => StS s b w v5 wx)
  case first =>
    go_wp2_with fail
    all_goals go_meet
    all_goals first
      | exact ⟨0, rfl, by omega, only_set (only_set (Only.refl _ _) _ _) _ _, g, nd, dp, false, false, (HB.out.setG false).setT false, HG.out, hn, HL.out, by omega, by omega⟩
      | exact ⟨1, rfl, by omega, only_set (only_set (Only.refl _ _) _ _) _ _, g, nd, dp, false, false, (HB.out.setG false).setT false, HG.out, hn, HL.out, by omega, by omega⟩
      | exact ⟨1, rfl, by omega, only_set (only_set (only_set (Only.refl _ _) _ _) _ _) _ _, g, nd, dp, true, false, ((HB.out.setG false).setT false).setG true, HG.out, hn, HL.out, by omega, by omega⟩
  case rest =>
    clear c2 c3 f2 f3 HB HG HL hp1 hp2 hn hne
    obtain ⟨i0, rfl, hi0, hO0, hD0⟩ := hcut
    have HO0 := Lib.hid hO0; have HD0 := Lib.hid hD0
    clear hO0 hD0
    go_upto_block 1 with fail
    go_cut [5, 6, 7] from 34 to 116 (fun v5 v6 v7 wx => StL s b w v5 v6 v7 wx)
    case first =>
      go_wp2_with fail
      go_loopw [5, 6, 7] (fun v5 v6 v7 wr => StL s b w v5 v6 v7 wr) (fun v5 _ _ _ => s.size - (intOf v5).toNat)
      case atStart => exact ⟨i0, false, false, rfl, rfl, rfl, hi0, HO0.out, HD0.out.mono (by omega)⟩
      case round =>
        clear HO0 HD0 hi0
        obtain ⟨i, dot, dig, rfl, rfl, rfl, hi, hO, g, nd, dp, ng, tr, hB, hg, hn, hl, hp1, hp2⟩ := hrel
        have hDD := Lib.hid (show Dw b (i + 800) wr from ⟨g, nd, dp, ng, tr, hB, hg, hn, hl, hp1, hp2⟩)
        have c0 := hB.cnd
        have c1 := hB.cdp
        have c3 := hB.ctr
        have f0 := hB.free 800
        have f1 := hB.free 801
        have f3 := hB.free 803
        have fn := hB.free nd
        have HB := Lib.hid hB; have HG := Lib.hid hg; have HL := Lib.hid hl; have HO := Lib.hid hO
        clear hB hg hl hO
        by_cases hlt : i < s.size
        · obtain ⟨c, hc, hc2⟩ : ∃ c : Nat, (s[i]'hlt).toNat = c ∧ c < 256 := ⟨_, rfl, (s[i]'hlt).toNat_lt⟩
          by_cases hdg : 48 ≤ c ∧ c ≤ 57
          · have t1 : decide (48 ≤ (c : Int)) = true := decide_eq_true (by omega)
            have t2 : decide ((c : Int) ≤ 57) = true := decide_eq_true (by omega)
            have t3 : ((c : Int) == 95) = false := by rw [beq_eq_false_iff_ne]; omega
            have t4 : ((c : Int) == 46) = false := by rw [beq_eq_false_iff_ne]; omega
            by_cases hz : c = 48 ∧ nd = 0
            · obtain ⟨rfl, rfl⟩ := hz
              go_wp2_with fail
              exact ⟨⟨i + 1, dot, true, by go_num, rfl, rfl, by omega, only_set HO.out _ _, g, 0, dp - 1, ng, tr, HB.out.setP _, HG.out, hn, HL.out, by omega, by omega⟩, by simp only [intOf]; omega⟩
            · by_cases h8 : nd < 800
              · have cn := HB.out.dig h8
                have t5 : decide ((nd : Int) < 800) = true := decide_eq_true (by omega)
                have hG2 : Dgt (fun k => if k = nd then c else g k) (nd + 1) := fun t ht => by
                  by_cases e : t = nd
                  · subst e; simp only [if_true]; exact hdg
                  · simp only [if_neg e]; exact HG.out t (by omega)
                have hL2 : nd + 1 ≠ 0 → 49 ≤ (fun k => if k = nd then c else g k) 0 := fun _ => by
                  by_cases e : 0 = nd
                  · subst e; simp only [if_true]; omega
                  · simp only [if_neg e]; exact HL.out (by omega)
                have HG2 := Lib.hid hG2; have HL2 := Lib.hid hL2
                clear hG2 hL2
                have z1 : 0 ≤ (nd : Int) := by omega
                have z2 : (nd : Int) < 800 := by omega
                have z4 : ¬ nd = 800 := by omega
                have z5 : ¬ 800 = nd := by omega
                have z3 : (nd : Int).toNat = nd := by omega
                by_cases h48 : c = 48
                · subst h48
                  have t6 : ((nd : Int) == 0) = false := by rw [beq_eq_false_iff_ne]; omega
                  go_wp2_with fail
                  go_region_law (fail)
                  all_goals
                    go_wp2_with fail
                    first
                      | exact ⟨⟨i + 1, dot, true, by go_num, rfl, rfl, by omega, only_set (Only.drew (only_set HO.out _ _)) _ _, _, nd + 1, dp, ng, tr, DecB.setM (DecB.drew (HB.out.setE h8 (x := 48) (by omega))) (x := nd + 1) (by omega), HG2.out, by omega, HL2.out, by omega, by omega⟩, by simp only [intOf]; omega⟩
                      | exact ⟨⟨i + 1, dot, true, by go_num, rfl, rfl, by omega, only_set (only_set (Only.drew HO.out) _ _) _ _, _, nd + 1, dp, ng, tr, DecB.setM ((DecB.drew HB.out).setE h8 (x := 48) (by omega)) (x := nd + 1) (by omega), HG2.out, by omega, HL2.out, by omega, by omega⟩, by simp only [intOf]; omega⟩
                · have t6 : ((c : Int) == 48) = false := by rw [beq_eq_false_iff_ne]; omega
                  go_wp2_with fail
                  go_region_law (fail)
                  all_goals
                    go_wp2_with fail
                    first
                      | exact ⟨⟨i + 1, dot, true, by go_num, rfl, rfl, by omega, only_set (Only.drew (only_set HO.out _ _)) _ _, _, nd + 1, dp, ng, tr, DecB.setM (DecB.drew (HB.out.setE h8 (x := c) (by omega))) (x := nd + 1) (by omega), HG2.out, by omega, HL2.out, by omega, by omega⟩, by simp only [intOf]; omega⟩
                      | exact ⟨⟨i + 1, dot, true, by go_num, rfl, rfl, by omega, only_set (only_set (Only.drew HO.out) _ _) _ _, _, nd + 1, dp, ng, tr, DecB.setM ((DecB.drew HB.out).setE h8 (x := c) (by omega)) (x := nd + 1) (by omega), HG2.out, by omega, HL2.out, by omega, by omega⟩, by simp only [intOf]; omega⟩
              · have t5 : decide ((nd : Int) < 800) = false := decide_eq_false (by omega)
                by_cases h48 : c = 48
                · subst h48
                  have t6 : ((nd : Int) == 0) = false := by rw [beq_eq_false_iff_ne]; omega
                  go_wp2_with fail
                  exact ⟨⟨i + 1, dot, true, by go_num, rfl, rfl, by omega, HO.out, g, nd, dp, ng, tr, HB.out, HG.out, hn, HL.out, by omega, by omega⟩, by simp only [intOf]; omega⟩
                · have t6 : ((c : Int) == 48) = false := by rw [beq_eq_false_iff_ne]; omega
                  have t7 : ((c : Int) != 48) = true := by rw [bne_iff_ne]; omega
                  go_wp2_with fail
                  exact ⟨⟨i + 1, dot, true, by go_num, rfl, rfl, by omega, only_set HO.out _ _, g, nd, dp, ng, true, HB.out.setT true, HG.out, hn, HL.out, by omega, by omega⟩, by simp only [intOf]; omega⟩
          · by_cases h95 : c = 95
            · subst h95
              go_wp2_with fail
              exact ⟨⟨i + 1, dot, dig, by go_num, rfl, rfl, by omega, HO.out, hDD.out.mono (by omega)⟩, by simp only [intOf]; omega⟩
            · have t3 : ((c : Int) == 95) = false := by rw [beq_eq_false_iff_ne]; omega
              by_cases h46 : c = 46
              · subst h46
                cases dot
                · go_wp2_with fail
                  exact ⟨⟨i + 1, true, dig, by go_num, rfl, rfl, by omega, only_set HO.out _ _, g, nd, nd, ng, tr, HB.out.setP _, HG.out, hn, HL.out, by omega, by omega⟩, by simp only [intOf]; omega⟩
                · go_wp2_with fail
                  go_ret
                  exact ⟨⟨_, rfl⟩, HO.out, hDD.out.mono (by omega)⟩
              · have t4 : ((c : Int) == 46) = false := by rw [beq_eq_false_iff_ne]; omega
                by_cases h48 : 48 ≤ c
                · have t1 : decide (48 ≤ (c : Int)) = true := decide_eq_true (by omega)
                  have t2 : decide ((c : Int) ≤ 57) = false := decide_eq_false (by omega)
                  go_wp2_with fail
                  go_meet
                  exact ⟨i, dot, dig, rfl, rfl, rfl, hi, HO.out, hDD.out⟩
                · have t1 : decide (48 ≤ (c : Int)) = false := decide_eq_false (by omega)
                  go_wp2_with fail
                  go_meet
                  exact ⟨i, dot, dig, rfl, rfl, rfl, hi, HO.out, hDD.out⟩
        · go_wp2_with fail
          go_meet
          exact ⟨i, dot, dig, rfl, rfl, rfl, hi, HO.out, hDD.out⟩
    case rest =>
      clear HO0 HD0 hi0
      obtain ⟨i, dot, dig, rfl, rfl, rfl, hi, hO, hDw⟩ := hcut
      have HO := Lib.hid hO; have HD := Lib.hid hDw
      clear hO hDw
      cases dig
      · go_wp2_with fail
        go_ret
        exact ⟨⟨_, rfl⟩, HO.out, HD.out.mono (by omega)⟩
      go_upto_if 120 with fail
      go_cut [] from 121 to 127 (fun wx => StD b w wx)
      case first =>
        cases dot
        · obtain ⟨g, nd, dp, ng, tr, hB, hg, hn, hl, hp1, hp2⟩ := HD.out
          have c0 := hB.cnd
          have c1 := hB.cdp
          have f1 := hB.free 801
          have HB := Lib.hid hB; have HG := Lib.hid hg; have HL := Lib.hid hl
          clear hB hg hl
          go_wp2_with fail
          go_meet
          exact ⟨only_set HO.out _ _, g, nd, nd, ng, tr, HB.out.setP _, HG.out, hn, HL.out, by omega, by omega⟩
        · go_wp2_with fail
          go_meet
          exact ⟨HO.out, HD.out.mono (by omega)⟩
      case rest =>
        clear HO HD
        obtain ⟨hO, hDw⟩ := hcut
        have HO := Lib.hid hO; have HD := Lib.hid hDw
        clear hO hDw
        go_upto_region 32 with fail
        go_cut [138] from 128 to 138 (fun v wx' => StJ s i wc v wx')
        case first =>
          go_wp2_with fail
          all_goals try (refine (Tryz.internal_strconv_lower _ _).mono ?_; rintro en w1 ⟨rfl, hw⟩; rw [hw]; clear hw w1; go_wp2_with fail)
          all_goals go_meet
          all_goals exact ⟨_, rfl, fun h => by first | omega | exact absurd h (by decide), rfl⟩
        case rest =>
          obtain ⟨b2, rfl, hb2, hwc⟩ := hcut
          subst hwc
          go_upto_if 138 with fail
          go_cut [5] from 139 to 219 (fun v5 wx => StK s b w v5 wx)
          case first =>
            cases b2
            · go_wp2_with fail
              go_meet
              exact ⟨i, rfl, hi, HO.out, HD.out.mono (by omega)⟩
            · have hlt := hb2 rfl
              by_cases h1 : s.size ≤ i + 1
              · have t1 : decide ((i : Int) + 1 ≥ (s.size : Int)) = true := decide_eq_true (by omega)
                go_wp2_with fail
                go_ret
                exact ⟨⟨_, rfl⟩, HO.out, HD.out.mono (by omega)⟩
              · have t1 : decide ((i : Int) + 1 ≥ (s.size : Int)) = false := decide_eq_false (by omega)
                go_upto_block 4 with fail
                clear t1
                go_cut [5, 8] from 148 to 155 (fun v5 v8 wx' => StG s wc v5 v8 wx')
                case first =>
                  go_wp2_with fail
                  all_goals go_meet
                  all_goals first
                    | exact ⟨i + 1, 1, by go_num, rfl, by omega, .inl rfl, rfl⟩
                    | exact ⟨i + 1 + 1, 1, by go_num, rfl, by omega, .inl rfl, rfl⟩
                    | exact ⟨i + 1 + 1, -1, by go_num, rfl, by omega, .inr rfl, rfl⟩
                case rest =>
                  obtain ⟨i3, sg, rfl, rfl, hi3, hsg, hwc⟩ := hcut
                  subst hwc
                  go_upto_region 42 with fail
                  go_cut [171] from 156 to 171 (fun v wx' => UoB 0 s wc v wx')
                  case first =>
                    go_wp2_with fail
                    all_goals go_meet
                    all_goals exact ⟨_, rfl, fun _ => Nat.zero_le _, rfl⟩
                  case rest =>
                    obtain ⟨b3, rfl, _, hwc⟩ := hcut
                    subst hwc
                    cases b3
                    rotate_left
                    · go_wp2_with fail
                      go_ret
                      exact ⟨⟨_, rfl⟩, HO.out, HD.out.mono (by omega)⟩
                    go_wp2_with fail
                    go_loopw [5, 9] (fun v5 v9 wr => StE s wc v5 v9 wr) (fun v5 _ _ => s.size - (intOf v5).toNat)
                    case atStart => exact ⟨i3, 0, rfl, rfl, hi3, by omega, by omega, rfl⟩
                    case round =>
                      clear hi3 hb2 hlt h1 hi
                      obtain ⟨i4, e4, rfl, rfl, hi4, he1, he2, hwr⟩ := hrel
                      subst hwr
                      by_cases hl4 : i4 < s.size
                      · obtain ⟨c, hc, hc2⟩ : ∃ c : Nat, (s[i4]'hl4).toNat = c ∧ c < 256 := ⟨_, rfl, (s[i4]'hl4).toNat_lt⟩
                        by_cases hdg : 48 ≤ c ∧ c ≤ 57
                        · have t1 : decide (48 ≤ (c : Int)) = true := decide_eq_true (by omega)
                          have t2 : decide ((c : Int) ≤ 57) = true := decide_eq_true (by omega)
                          have t3 : ((c : Int) == 95) = false := by rw [beq_eq_false_iff_ne]; omega
                          obtain ⟨d4, rfl⟩ : ∃ d4, c = d4 + 48 := ⟨c - 48, by omega⟩
                          have hd9 : d4 ≤ 9 := by omega
                          by_cases he : e4 < 10000
                          · have t4 : decide (e4 < 10000) = true := decide_eq_true he
                            go_wp2_with fail
                            exact ⟨⟨i4 + 1, _, by go_num, rfl, by omega, by omega, by omega, rfl⟩, by simp only [intOf]; omega⟩
                          · have t4 : decide (e4 < 10000) = false := decide_eq_false he
                            go_wp2_with fail
                            exact ⟨⟨i4 + 1, _, by go_num, rfl, by omega, by omega, by omega, rfl⟩, by simp only [intOf]; omega⟩
                        · by_cases h95 : c = 95
                          · subst h95
                            go_wp2_with fail
                            exact ⟨⟨i4 + 1, _, by go_num, rfl, by omega, by omega, by omega, rfl⟩, by simp only [intOf]; omega⟩
                          · have t3 : ((c : Int) == 95) = false := by rw [beq_eq_false_iff_ne]; omega
                            obtain ⟨g, nd, dp, ng, tr, hB, hg, hn, hl, hp1, hp2⟩ := HD.out
                            have c1 := hB.cdp
                            have f1 := hB.free 801
                            have HB := Lib.hid hB; have HG := Lib.hid hg; have HL := Lib.hid hl
                            clear hB hg hl
                            by_cases h48 : 48 ≤ c
                            · have t1 : decide (48 ≤ (c : Int)) = true := decide_eq_true (by omega)
                              have t2 : decide ((c : Int) ≤ 57) = false := decide_eq_false (by omega)
                              rcases hsg with rfl | rfl
                              all_goals
                                go_wp2_with fail
                                go_meet
                                exact ⟨i4, rfl, hi4, only_set HO.out _ _, g, nd, _, ng, tr, HB.out.setP _, HG.out, hn, HL.out, by omega, by omega⟩
                            · have t1 : decide (48 ≤ (c : Int)) = false := decide_eq_false (by omega)
                              rcases hsg with rfl | rfl
                              all_goals
                                go_wp2_with fail
                                go_meet
                                exact ⟨i4, rfl, hi4, only_set HO.out _ _, g, nd, _, ng, tr, HB.out.setP _, HG.out, hn, HL.out, by omega, by omega⟩
                      · obtain ⟨g, nd, dp, ng, tr, hB, hg, hn, hl, hp1, hp2⟩ := HD.out
                        have c1 := hB.cdp
                        have f1 := hB.free 801
                        have HB := Lib.hid hB; have HG := Lib.hid hg; have HL := Lib.hid hl
                        clear hB hg hl
                        rcases hsg with rfl | rfl
                        all_goals
                          go_wp2_with fail
                          go_meet
                          exact ⟨i4, rfl, hi4, only_set HO.out _ _, g, nd, _, ng, tr, HB.out.setP _, HG.out, hn, HL.out, by omega, by omega⟩
          case rest =>
            clear HO HD hb2 hi
            obtain ⟨i5, rfl, hi5, hO, hDw⟩ := hcut
            have HO := Lib.hid hO; have HD := Lib.hid hDw
            clear hO hDw
            by_cases he : i5 = s.size
            · subst he
              go_wp2_with fail
              go_ret
              exact ⟨⟨_, rfl⟩, HO.out, HD.out⟩
            · have t1 : ((i5 : Int) != (s.size : Int)) = true := by rw [bne_iff_ne]; omega
              go_wp2_with fail
              go_ret
              exact ⟨⟨_, rfl⟩, HO.out, HD.out⟩
end Go.Proofs.YthjfdhkahmlolaaGreatDoor
