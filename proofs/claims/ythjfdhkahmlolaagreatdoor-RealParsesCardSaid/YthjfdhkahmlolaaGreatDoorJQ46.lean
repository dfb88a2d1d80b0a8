/- readFloat at texts of digits. Printed by gen_rdd.py. -/
import Derived.Test.YthjfdhkahmlolaaGreatDoorJQ20
import Derived.Test.YthjfdhkahmlolaaGreatDoorJQ45
namespace Go.Proofs.YthjfdhkahmlolaaGreatDoor
open Go.RowKit
set_option maxRecDepth 100000
set_option maxHeartbeats 4000000 in
theorem rf_plain_neg (s : ByteArray) (c0 : Nat) (l0 : List Nat) (st' : St) (w : World) (hl : bl s = 45 :: c0 :: l0) (hs : s.size < 4611686018427387904) (h0 : c0 ≠ 43 ∧ c0 ≠ 45) (hx : l0 = [] ∨ c0 ≠ 48 ∨ ∃ l1, l0 = 46 :: l1)
    (ht : scan St.zero (c0 :: l0) = (st', [])) (hd : st'.dig = true) (hu : st'.und = false) : Calls Tryz.prog 117 #[.string s] w fun en w' => en = .returned (.tuple #[.int .u64 st'.m, .int .i64 (if st'.m = 0 then 0 else (if st'.dot then st'.dp else st'.nd) - st'.nM), .bool true, .bool st'.tr, .bool false, .int .i64 s.size, .bool true]) ∧ w' = w := by
  have hz := bl_size s
  have bs : ∀ h, (s[0]'h).toNat = 45 := fun h => bl_at (pre := []) hl h
  have b0 : ∀ h, (s[1]'h).toNat = c0 := fun h => bl_at (pre := [45]) hl h
  have hc0 : c0 < 256 := bl_lt (s := s) (by rw [hl]; simp)
  have hsz : 1 < s.size := by rw [hz, hl]; simp
  have hne : s ≠ ByteArray.empty := fun h => by rw [h] at hsz; exact absurd hsz (by decide)
  have t1 : ((c0 : Int) == 43) = false := by rw [beq_eq_false_iff_ne]; omega
  have t2 : ((c0 : Int) == 45) = false := by rw [beq_eq_false_iff_ne]; omega
  have hcase : s.size ≤ 3 ∨ (3 < s.size ∧ c0 ≠ 48) ∨ (3 < s.size ∧ c0 = 48 ∧ ∀ h, (s[2]'h).toNat = 46) := by
    by_cases h2 : s.size ≤ 3
    · exact .inl h2
    · rcases hx with hx | hx | ⟨l1, hx⟩
      · rw [hz, hl, hx] at h2; simp at h2
      · exact .inr (.inl ⟨by omega, hx⟩)
      · by_cases h3 : c0 = 48
        · exact .inr (.inr ⟨by omega, h3, fun h => bl_at (pre := [45, c0]) (by rw [hl, hx]; rfl) h⟩)
        · exact .inr (.inl ⟨by omega, h3⟩)
  have b00 := b0 hsz
  have hsz0 : 0 < s.size := Nat.lt_of_succ_lt hsz
  have bss := bs hsz0
  have HZ := Lib.hid hz; clear hz
  have HL := Lib.hid hl; clear hl
  have HT := Lib.hid ht; clear ht
  have HD := Lib.hid hd; clear hd
  have HU := Lib.hid hu; clear hu
  clear b0 hx bs
  rcases hcase with hA | ⟨hA, hB⟩ | ⟨hA, hB, b1⟩
  · go_enter Tryz.func117, Tryz.ntmps117
    go_wp2_with fail
    go_step3
    go_wp2_with fail
    go_step3
    go_wp2_with fail
    go_loopw [2, 5, 7, 9, 13, 14, 15, 16, 17] (fun v1 v4 v6 v8 v12 v13 v14 v15 v16 wr => RI (bl s) 1 (st', []) w v1 v4 v6 v8 v12 v13 v14 v15 v16 wr) (fun _ _ i _ _ _ _ _ _ _ => s.size - (intOf i).toNat)
    case atStart => exact ⟨[45], c0 :: l0, St.zero, HL.out, Nat.le_refl _, HT.out, St.zero_ok1, rfl, rfl, rfl, rfl, rfl, rfl, rfl, rfl, rfl, rfl⟩
    case round =>
      obtain ⟨pre, rest, st, hpr, hi0, hsc, hok, rfl, rfl, rfl, rfl, rfl, rfl, rfl, rfl, rfl, rfl⟩ := hrel
      have HPR := Lib.hid hpr; clear hpr
      have HSC := Lib.hid hsc; clear hsc
      have HOK := Lib.hid hok; clear hok
      obtain ⟨k1, k2⟩ := St.lt18 HOK.out
      obtain ⟨_, k3, k4, k5, k6, k7⟩ := HOK.out
      have HI := Lib.hid hi0; clear hi0
      cases rest with
      | nil =>
        have hlen : s.size = pre.length := by rw [HZ.out, HPR.out]; simp
        rw [← hlen] at k5 k6 k7
        have est : st = st' := congrArg Prod.fst HSC.out
        subst est
        have hdg := HD.out
        have hun := HU.out
        have hx1 : ((pre.length : Nat) : Int) = ((s.size : Nat) : Int) := by rw [hlen]
        clear hlen
        generalize ((pre.length : Nat) : Int) = I at *
        subst hx1
        by_cases hm : st.m = 0
        · have hmt : ((st.m : Int) != 0) = false := by rw [bne_eq_false_iff_eq]; omega
          have HM := Lib.hid hm; clear hm
          cases hdot : st.dot
          all_goals (go_wp2_with fail; rw [Exit.noGoto_ret]; (try simp only [Exit.inBlock, Exit.then]); refine bodyPost_ret (results_tmp7 rfl _ _ _) rfl ?_)
          all_goals exact ⟨by rw [if_pos HM.out]; rfl, rfl⟩
        · have hmt : ((st.m : Int) != 0) = true := by rw [bne_iff_ne]; omega
          have HM := Lib.hid hm; clear hm
          cases hdot : st.dot
          all_goals (go_wp2_with fail; rw [Exit.noGoto_ret]; (try simp only [Exit.inBlock, Exit.then]); refine bodyPost_ret (results_tmp7 rfl _ _ _) rfl ?_)
          · exact ⟨by rw [if_neg HM.out, hdot, if_neg (by decide)]; rfl, rfl⟩
          · exact ⟨by rw [if_neg HM.out, hdot, if_pos rfl]; rfl, rfl⟩
      | cons c r =>
        have hlt : pre.length < s.size := by rw [HZ.out, HPR.out]; simp
        have hcc := bl_at HPR.out hlt
        have hc256 : c < 256 := bl_lt (s := s) (by rw [HPR.out]; simp)
        obtain ⟨st2, hp⟩ := scan_nil HSC.out
        have HP := Lib.hid hp
        rcases St.put_cases hp with ⟨hc, rfl⟩ | ⟨hc, hd, rfl⟩ | ⟨c1, c2, ⟨hc, hd, rfl⟩ | ⟨hc, hd, rfl⟩ | ⟨hc, hd, rfl⟩⟩
        · clear hp
          subst hc
          go_wp2_with fail
          all_goals refine ⟨RI.next HPR.out HI.out HSC.out HOK.out HP.out ?_ ?_ ?_ ?_ ?_ ?_ ?_ ?_ ?_, by simp only [intOf]; omega⟩
          all_goals first | rfl | (congr 1; simp only; omega) | (congr 1; simp [*]; done)
        · clear hp
          subst hc
          rw [hd]
          go_wp2_with fail
          all_goals refine ⟨RI.next HPR.out HI.out HSC.out HOK.out HP.out ?_ ?_ ?_ ?_ ?_ ?_ ?_ ?_ ?_, by simp only [intOf]; omega⟩
          all_goals first | rfl | (congr 1; simp only; omega) | (congr 1; simp [*]; done)
        · clear hp
          subst hc
          have t6 : ((st.nd : Int) == 0) = true := by rw [beq_iff_eq]; omega
          clear hd
          go_wp2_with fail
          all_goals refine ⟨RI.next HPR.out HI.out HSC.out HOK.out HP.out ?_ ?_ ?_ ?_ ?_ ?_ ?_ ?_ ?_, by simp only [intOf]; omega⟩
          all_goals first | rfl | (congr 1; simp only; omega) | (congr 1; simp [*]; done)
        · clear hp
          have k8 := k2 hd
          have t8 : ((c : Int) == 95) = false := by rw [beq_eq_false_iff_ne]; omega
          have t9 : ((c : Int) == 46) = false := by rw [beq_eq_false_iff_ne]; omega
          by_cases hc8 : c = 48
          · subst hc8
            have t6 : ((st.nd : Int) == 0) = false := by rw [beq_eq_false_iff_ne]; omega
            clear hc
            go_wp2_with fail
            all_goals refine ⟨RI.next HPR.out HI.out HSC.out HOK.out HP.out ?_ ?_ ?_ ?_ ?_ ?_ ?_ ?_ ?_, by simp only [intOf]; omega⟩
            all_goals first | rfl | (congr 1; simp only; omega) | (congr 1; simp [*]; done)
          · have t6 : ((c : Int) == 48) = false := by rw [beq_eq_false_iff_ne]; omega
            clear hc hc8
            go_wp2_with fail
            all_goals refine ⟨RI.next HPR.out HI.out HSC.out HOK.out HP.out ?_ ?_ ?_ ?_ ?_ ?_ ?_ ?_ ?_, by simp only [intOf]; omega⟩
            all_goals first | rfl | (congr 1; simp only; omega) | (congr 1; simp [*]; done)
        · clear hp
          have t8 : ((c : Int) == 95) = false := by rw [beq_eq_false_iff_ne]; omega
          have t9 : ((c : Int) == 46) = false := by rw [beq_eq_false_iff_ne]; omega
          by_cases hc8 : c = 48
          · subst hc8
            have t6 : ((st.nd : Int) == 0) = false := by rw [beq_eq_false_iff_ne]; omega
            clear hc
            go_wp2_with fail
            all_goals refine ⟨RI.next HPR.out HI.out HSC.out HOK.out HP.out ?_ ?_ ?_ ?_ ?_ ?_ ?_ ?_ ?_, by simp only [intOf]; omega⟩
            all_goals first | rfl | (congr 1; simp only; omega) | (congr 1; simp [*]; done)
          · have t6 : ((c : Int) == 48) = false := by rw [beq_eq_false_iff_ne]; omega
            have t7 : ((c : Int) != 48) = true := by rw [bne_iff_ne]; omega
            have t5 : (c != 48) = true := by rw [bne_iff_ne]; omega
            clear hc hc8
            go_wp2_with fail
            all_goals refine ⟨RI.next HPR.out HI.out HSC.out HOK.out HP.out ?_ ?_ ?_ ?_ ?_ ?_ ?_ ?_ ?_, by simp only [intOf]; omega⟩
            all_goals first | rfl | (congr 1; simp only; omega) | (congr 1; simp [*]; done)
  · have t3 : ((c0 : Int) == 48) = false := by rw [beq_eq_false_iff_ne]; omega
    go_enter Tryz.func117, Tryz.ntmps117
    go_wp2_with fail
    go_step3
    go_wp2_with fail
    go_step3
    go_wp2_with fail
    go_loopw [2, 5, 7, 9, 13, 14, 15, 16, 17] (fun v1 v4 v6 v8 v12 v13 v14 v15 v16 wr => RI (bl s) 1 (st', []) w v1 v4 v6 v8 v12 v13 v14 v15 v16 wr) (fun _ _ i _ _ _ _ _ _ _ => s.size - (intOf i).toNat)
    case atStart => exact ⟨[45], c0 :: l0, St.zero, HL.out, Nat.le_refl _, HT.out, St.zero_ok1, rfl, rfl, rfl, rfl, rfl, rfl, rfl, rfl, rfl, rfl⟩
    case round =>
      obtain ⟨pre, rest, st, hpr, hi0, hsc, hok, rfl, rfl, rfl, rfl, rfl, rfl, rfl, rfl, rfl, rfl⟩ := hrel
      have HPR := Lib.hid hpr; clear hpr
      have HSC := Lib.hid hsc; clear hsc
      have HOK := Lib.hid hok; clear hok
      obtain ⟨k1, k2⟩ := St.lt18 HOK.out
      obtain ⟨_, k3, k4, k5, k6, k7⟩ := HOK.out
      have HI := Lib.hid hi0; clear hi0
      cases rest with
      | nil =>
        have hlen : s.size = pre.length := by rw [HZ.out, HPR.out]; simp
        rw [← hlen] at k5 k6 k7
        have est : st = st' := congrArg Prod.fst HSC.out
        subst est
        have hdg := HD.out
        have hun := HU.out
        have hx1 : ((pre.length : Nat) : Int) = ((s.size : Nat) : Int) := by rw [hlen]
        clear hlen
        generalize ((pre.length : Nat) : Int) = I at *
        subst hx1
        by_cases hm : st.m = 0
        · have hmt : ((st.m : Int) != 0) = false := by rw [bne_eq_false_iff_eq]; omega
          have HM := Lib.hid hm; clear hm
          cases hdot : st.dot
          all_goals (go_wp2_with fail; rw [Exit.noGoto_ret]; (try simp only [Exit.inBlock, Exit.then]); refine bodyPost_ret (results_tmp7 rfl _ _ _) rfl ?_)
          all_goals exact ⟨by rw [if_pos HM.out]; rfl, rfl⟩
        · have hmt : ((st.m : Int) != 0) = true := by rw [bne_iff_ne]; omega
          have HM := Lib.hid hm; clear hm
          cases hdot : st.dot
          all_goals (go_wp2_with fail; rw [Exit.noGoto_ret]; (try simp only [Exit.inBlock, Exit.then]); refine bodyPost_ret (results_tmp7 rfl _ _ _) rfl ?_)
          · exact ⟨by rw [if_neg HM.out, hdot, if_neg (by decide)]; rfl, rfl⟩
          · exact ⟨by rw [if_neg HM.out, hdot, if_pos rfl]; rfl, rfl⟩
      | cons c r =>
        have hlt : pre.length < s.size := by rw [HZ.out, HPR.out]; simp
        have hcc := bl_at HPR.out hlt
        have hc256 : c < 256 := bl_lt (s := s) (by rw [HPR.out]; simp)
        obtain ⟨st2, hp⟩ := scan_nil HSC.out
        have HP := Lib.hid hp
        rcases St.put_cases hp with ⟨hc, rfl⟩ | ⟨hc, hd, rfl⟩ | ⟨c1, c2, ⟨hc, hd, rfl⟩ | ⟨hc, hd, rfl⟩ | ⟨hc, hd, rfl⟩⟩
        · clear hp
          subst hc
          go_wp2_with fail
          all_goals refine ⟨RI.next HPR.out HI.out HSC.out HOK.out HP.out ?_ ?_ ?_ ?_ ?_ ?_ ?_ ?_ ?_, by simp only [intOf]; omega⟩
          all_goals first | rfl | (congr 1; simp only; omega) | (congr 1; simp [*]; done)
        · clear hp
          subst hc
          rw [hd]
          go_wp2_with fail
          all_goals refine ⟨RI.next HPR.out HI.out HSC.out HOK.out HP.out ?_ ?_ ?_ ?_ ?_ ?_ ?_ ?_ ?_, by simp only [intOf]; omega⟩
          all_goals first | rfl | (congr 1; simp only; omega) | (congr 1; simp [*]; done)
        · clear hp
          subst hc
          have t6 : ((st.nd : Int) == 0) = true := by rw [beq_iff_eq]; omega
          clear hd
          go_wp2_with fail
          all_goals refine ⟨RI.next HPR.out HI.out HSC.out HOK.out HP.out ?_ ?_ ?_ ?_ ?_ ?_ ?_ ?_ ?_, by simp only [intOf]; omega⟩
          all_goals first | rfl | (congr 1; simp only; omega) | (congr 1; simp [*]; done)
        · clear hp
          have k8 := k2 hd
          have t8 : ((c : Int) == 95) = false := by rw [beq_eq_false_iff_ne]; omega
          have t9 : ((c : Int) == 46) = false := by rw [beq_eq_false_iff_ne]; omega
          by_cases hc8 : c = 48
          · subst hc8
            have t6 : ((st.nd : Int) == 0) = false := by rw [beq_eq_false_iff_ne]; omega
            clear hc
            go_wp2_with fail
            all_goals refine ⟨RI.next HPR.out HI.out HSC.out HOK.out HP.out ?_ ?_ ?_ ?_ ?_ ?_ ?_ ?_ ?_, by simp only [intOf]; omega⟩
            all_goals first | rfl | (congr 1; simp only; omega) | (congr 1; simp [*]; done)
          · have t6 : ((c : Int) == 48) = false := by rw [beq_eq_false_iff_ne]; omega
            clear hc hc8
            go_wp2_with fail
            all_goals refine ⟨RI.next HPR.out HI.out HSC.out HOK.out HP.out ?_ ?_ ?_ ?_ ?_ ?_ ?_ ?_ ?_, by simp only [intOf]; omega⟩
            all_goals first | rfl | (congr 1; simp only; omega) | (congr 1; simp [*]; done)
        · clear hp
          have t8 : ((c : Int) == 95) = false := by rw [beq_eq_false_iff_ne]; omega
          have t9 : ((c : Int) == 46) = false := by rw [beq_eq_false_iff_ne]; omega
          by_cases hc8 : c = 48
          · subst hc8
            have t6 : ((st.nd : Int) == 0) = false := by rw [beq_eq_false_iff_ne]; omega
            clear hc
            go_wp2_with fail
            all_goals refine ⟨RI.next HPR.out HI.out HSC.out HOK.out HP.out ?_ ?_ ?_ ?_ ?_ ?_ ?_ ?_ ?_, by simp only [intOf]; omega⟩
            all_goals first | rfl | (congr 1; simp only; omega) | (congr 1; simp [*]; done)
          · have t6 : ((c : Int) == 48) = false := by rw [beq_eq_false_iff_ne]; omega
            have t7 : ((c : Int) != 48) = true := by rw [bne_iff_ne]; omega
            have t5 : (c != 48) = true := by rw [bne_iff_ne]; omega
            clear hc hc8
            go_wp2_with fail
            all_goals refine ⟨RI.next HPR.out HI.out HSC.out HOK.out HP.out ?_ ?_ ?_ ?_ ?_ ?_ ?_ ?_ ?_, by simp only [intOf]; omega⟩
            all_goals first | rfl | (congr 1; simp only; omega) | (congr 1; simp [*]; done)
  · have b1 := b1 (by omega)
    subst hB
    go_enter Tryz.func117, Tryz.ntmps117
    go_wp2_with fail
    go_step3
    go_wp2_with fail
    refine (Tryz.internal_strconv_lower 46 w).mono ?_
    rintro en w1 ⟨rfl, hw⟩; rw [hw, low46]; clear hw w1
    go_wp2_with fail
    go_step3
    go_wp2_with fail
    go_loopw [2, 5, 7, 9, 13, 14, 15, 16, 17] (fun v1 v4 v6 v8 v12 v13 v14 v15 v16 wr => RI (bl s) 1 (st', []) w v1 v4 v6 v8 v12 v13 v14 v15 v16 wr) (fun _ _ i _ _ _ _ _ _ _ => s.size - (intOf i).toNat)
    case atStart => exact ⟨[45], 48 :: l0, St.zero, HL.out, Nat.le_refl _, HT.out, St.zero_ok1, rfl, rfl, rfl, rfl, rfl, rfl, rfl, rfl, rfl, rfl⟩
    case round =>
      obtain ⟨pre, rest, st, hpr, hi0, hsc, hok, rfl, rfl, rfl, rfl, rfl, rfl, rfl, rfl, rfl, rfl⟩ := hrel
      have HPR := Lib.hid hpr; clear hpr
      have HSC := Lib.hid hsc; clear hsc
      have HOK := Lib.hid hok; clear hok
      obtain ⟨k1, k2⟩ := St.lt18 HOK.out
      obtain ⟨_, k3, k4, k5, k6, k7⟩ := HOK.out
      have HI := Lib.hid hi0; clear hi0
      cases rest with
      | nil =>
        have hlen : s.size = pre.length := by rw [HZ.out, HPR.out]; simp
        rw [← hlen] at k5 k6 k7
        have est : st = st' := congrArg Prod.fst HSC.out
        subst est
        have hdg := HD.out
        have hun := HU.out
        have hx1 : ((pre.length : Nat) : Int) = ((s.size : Nat) : Int) := by rw [hlen]
        clear hlen
        generalize ((pre.length : Nat) : Int) = I at *
        subst hx1
        by_cases hm : st.m = 0
        · have hmt : ((st.m : Int) != 0) = false := by rw [bne_eq_false_iff_eq]; omega
          have HM := Lib.hid hm; clear hm
          cases hdot : st.dot
          all_goals (go_wp2_with fail; rw [Exit.noGoto_ret]; (try simp only [Exit.inBlock, Exit.then]); refine bodyPost_ret (results_tmp7 rfl _ _ _) rfl ?_)
          all_goals exact ⟨by rw [if_pos HM.out]; rfl, rfl⟩
        · have hmt : ((st.m : Int) != 0) = true := by rw [bne_iff_ne]; omega
          have HM := Lib.hid hm; clear hm
          cases hdot : st.dot
          all_goals (go_wp2_with fail; rw [Exit.noGoto_ret]; (try simp only [Exit.inBlock, Exit.then]); refine bodyPost_ret (results_tmp7 rfl _ _ _) rfl ?_)
          · exact ⟨by rw [if_neg HM.out, hdot, if_neg (by decide)]; rfl, rfl⟩
          · exact ⟨by rw [if_neg HM.out, hdot, if_pos rfl]; rfl, rfl⟩
      | cons c r =>
        have hlt : pre.length < s.size := by rw [HZ.out, HPR.out]; simp
        have hcc := bl_at HPR.out hlt
        have hc256 : c < 256 := bl_lt (s := s) (by rw [HPR.out]; simp)
        obtain ⟨st2, hp⟩ := scan_nil HSC.out
        have HP := Lib.hid hp
        rcases St.put_cases hp with ⟨hc, rfl⟩ | ⟨hc, hd, rfl⟩ | ⟨c1, c2, ⟨hc, hd, rfl⟩ | ⟨hc, hd, rfl⟩ | ⟨hc, hd, rfl⟩⟩
        · clear hp
          subst hc
          go_wp2_with fail
          all_goals refine ⟨RI.next HPR.out HI.out HSC.out HOK.out HP.out ?_ ?_ ?_ ?_ ?_ ?_ ?_ ?_ ?_, by simp only [intOf]; omega⟩
          all_goals first | rfl | (congr 1; simp only; omega) | (congr 1; simp [*]; done)
        · clear hp
          subst hc
          rw [hd]
          go_wp2_with fail
          all_goals refine ⟨RI.next HPR.out HI.out HSC.out HOK.out HP.out ?_ ?_ ?_ ?_ ?_ ?_ ?_ ?_ ?_, by simp only [intOf]; omega⟩
          all_goals first | rfl | (congr 1; simp only; omega) | (congr 1; simp [*]; done)
        · clear hp
          subst hc
          have t6 : ((st.nd : Int) == 0) = true := by rw [beq_iff_eq]; omega
          clear hd
          go_wp2_with fail
          all_goals refine ⟨RI.next HPR.out HI.out HSC.out HOK.out HP.out ?_ ?_ ?_ ?_ ?_ ?_ ?_ ?_ ?_, by simp only [intOf]; omega⟩
          all_goals first | rfl | (congr 1; simp only; omega) | (congr 1; simp [*]; done)
        · clear hp
          have k8 := k2 hd
          have t8 : ((c : Int) == 95) = false := by rw [beq_eq_false_iff_ne]; omega
          have t9 : ((c : Int) == 46) = false := by rw [beq_eq_false_iff_ne]; omega
          by_cases hc8 : c = 48
          · subst hc8
            have t6 : ((st.nd : Int) == 0) = false := by rw [beq_eq_false_iff_ne]; omega
            clear hc
            go_wp2_with fail
            all_goals refine ⟨RI.next HPR.out HI.out HSC.out HOK.out HP.out ?_ ?_ ?_ ?_ ?_ ?_ ?_ ?_ ?_, by simp only [intOf]; omega⟩
            all_goals first | rfl | (congr 1; simp only; omega) | (congr 1; simp [*]; done)
          · have t6 : ((c : Int) == 48) = false := by rw [beq_eq_false_iff_ne]; omega
            clear hc hc8
            go_wp2_with fail
            all_goals refine ⟨RI.next HPR.out HI.out HSC.out HOK.out HP.out ?_ ?_ ?_ ?_ ?_ ?_ ?_ ?_ ?_, by simp only [intOf]; omega⟩
            all_goals first | rfl | (congr 1; simp only; omega) | (congr 1; simp [*]; done)
        · clear hp
          have t8 : ((c : Int) == 95) = false := by rw [beq_eq_false_iff_ne]; omega
          have t9 : ((c : Int) == 46) = false := by rw [beq_eq_false_iff_ne]; omega
          by_cases hc8 : c = 48
          · subst hc8
            have t6 : ((st.nd : Int) == 0) = false := by rw [beq_eq_false_iff_ne]; omega
            clear hc
            go_wp2_with fail
            all_goals refine ⟨RI.next HPR.out HI.out HSC.out HOK.out HP.out ?_ ?_ ?_ ?_ ?_ ?_ ?_ ?_ ?_, by simp only [intOf]; omega⟩
            all_goals first | rfl | (congr 1; simp only; omega) | (congr 1; simp [*]; done)
          · have t6 : ((c : Int) == 48) = false := by rw [beq_eq_false_iff_ne]; omega
            have t7 : ((c : Int) != 48) = true := by rw [bne_iff_ne]; omega
            have t5 : (c != 48) = true := by rw [bne_iff_ne]; omega
            clear hc hc8
            go_wp2_with fail
            all_goals refine ⟨RI.next HPR.out HI.out HSC.out HOK.out HP.out ?_ ?_ ?_ ?_ ?_ ?_ ?_ ?_ ?_, by simp only [intOf]; omega⟩
            all_goals first | rfl | (congr 1; simp only; omega) | (congr 1; simp [*]; done)
end Go.Proofs.YthjfdhkahmlolaaGreatDoor
