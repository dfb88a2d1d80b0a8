/- readFloat at texts of digits. Printed by gen_rdd.py. -/
import Derived.Test.YthjfdhkahmlolaaGreatDoorJQ20
import Derived.Test.YthjfdhkahmlolaaGreatDoorJQ45
namespace Go.Proofs.YthjfdhkahmlolaaGreatDoor
open Go.RowKit
set_option maxRecDepth 100000
set_option maxHeartbeats 4000000 in
theorem rf_exp_neg (s : ByteArray) (c0 : Nat) (l0 : List Nat) (st' : St) (w : World) (d0 : Nat) (ds : List Nat) (E : Nat) (hl : bl s = 45 :: c0 :: l0) (hs : s.size < 4611686018427387904) (h0 : c0 ≠ 43 ∧ c0 ≠ 45) (hB : c0 ≠ 48) (hx : 3 < s.size)
    (ht : scan St.zero (c0 :: l0) = (st', 101 :: d0 :: ds)) (hds : ∀ d ∈ d0 :: ds, 48 ≤ d ∧ d ≤ 57) (hE : dv 0 (d0 :: ds) = E) (hE2 : E < 10000) (hd : st'.dig = true) (hu : st'.und = false) : Calls Tryz.prog 117 #[.string s] w fun en w' => en = .returned (.tuple #[.int .u64 st'.m, .int .i64 (if st'.m = 0 then 0 else (if st'.dot then st'.dp else st'.nd) + E - st'.nM), .bool true, .bool st'.tr, .bool false, .int .i64 s.size, .bool true]) ∧ w' = w := by
  have hz := bl_size s
  have bs : ∀ h, (s[0]'h).toNat = 45 := fun h => bl_at (pre := []) hl h
  have b0 : ∀ h, (s[1]'h).toNat = c0 := fun h => bl_at (pre := [45]) hl h
  have hc0 : c0 < 256 := bl_lt (s := s) (by rw [hl]; simp)
  have hsz : 1 < s.size := by rw [hz, hl]; simp
  have hne : s ≠ ByteArray.empty := fun h => by rw [h] at hsz; exact absurd hsz (by decide)
  have t1 : ((c0 : Int) == 43) = false := by rw [beq_eq_false_iff_ne]; omega
  have t2 : ((c0 : Int) == 45) = false := by rw [beq_eq_false_iff_ne]; omega
  have hA := hx
  have b00 := b0 hsz
  have hsz0 : 0 < s.size := Nat.lt_of_succ_lt hsz
  have bss := bs hsz0
  have HZ := Lib.hid hz; clear hz
  have HL := Lib.hid hl; clear hl
  have HT := Lib.hid ht; clear ht
  have HD := Lib.hid hd; clear hd
  have HU := Lib.hid hu; clear hu
  clear b0 bs
  have DS := Lib.hid hds; clear hds
  have EE := Lib.hid hE; clear hE
  have t3 : ((c0 : Int) == 48) = false := by rw [beq_eq_false_iff_ne]; omega
  go_enter Tryz.func117, Tryz.ntmps117
  go_wp2_with fail
  go_step3
  go_wp2_with fail
  go_step3
  go_wp2_with fail
  go_loopw [2, 5, 7, 9, 13, 14, 15, 16, 17] (fun v1 v4 v6 v8 v12 v13 v14 v15 v16 wr => RI (bl s) 1 (st', 101 :: d0 :: ds) w v1 v4 v6 v8 v12 v13 v14 v15 v16 wr) (fun _ _ i _ _ _ _ _ _ _ => s.size - (intOf i).toNat)
  case atStart => exact ⟨[45], c0 :: l0, St.zero, HL.out, Nat.le_refl _, HT.out, St.zero_ok1, rfl, rfl, rfl, rfl, rfl, rfl, rfl, rfl, rfl, rfl⟩
  case round =>
    obtain ⟨pre, rest, st, hpr, hi0, hsc, hok, rfl, rfl, rfl, rfl, rfl, rfl, rfl, rfl, rfl, rfl⟩ := hrel
    have HPR := Lib.hid hpr; clear hpr
    have HSC := Lib.hid hsc; clear hsc
    have HOK := Lib.hid hok; clear hok
    obtain ⟨k1, k2⟩ := St.lt18 HOK.out
    obtain ⟨_, k3, k4, k5, k6, k7⟩ := HOK.out
    have HI := Lib.hid hi0; clear hi0
    cases rest with
    | nil => exact absurd (congrArg Prod.snd HSC.out) (by intro h; cases h)
    | cons c r =>
      have hlt : pre.length < s.size := by rw [HZ.out, HPR.out]; simp
      have hcc := bl_at HPR.out hlt
      have hc256 : c < 256 := bl_lt (s := s) (by rw [HPR.out]; simp)
      rcases scan_stop HSC.out with ⟨st2, hp⟩ | ⟨hc, hr, est⟩
      rotate_left
      · subst hc
        subst est
        subst hr
        have hdg := HD.out
        have hun := HU.out
        have hpe := HPR.out
        have hsz2 : s.size = pre.length + 1 + (ds.length + 1) := by rw [HZ.out, hpe]; simp; omega
        have hg1 := bl_at (s := s) (pre := pre ++ [101]) (c := d0) (r := ds) (by rw [hpe]; simp) (by simp; omega)
        simp only [List.length_append, List.length_cons, List.length_nil, Nat.zero_add] at hg1
        clear hpe
        have hd0 := DS.out d0 (by simp)
        have t4 : ((d0 : Int) == 43) = false := by rw [beq_eq_false_iff_ne]; omega
        have t5 : ((d0 : Int) == 45) = false := by rw [beq_eq_false_iff_ne]; omega
        cases hdot : st.dot
        · go_wp2_with fail
          refine (Tryz.internal_strconv_lower 101 _).mono ?_; rintro en w1 ⟨rfl, hw⟩; rw [hw, low101]; clear hw w1
          go_wp2_with fail
          go_loopw [7, 9, 20] (fun v6 v8 v19 w2 => EI (bl s) E wr v6 v8 v19 w2) (fun i _ _ _ => s.size - (intOf i).toNat)
          case atStart => exact ⟨pre ++ [101], d0 :: ds, 0, by rw [HPR.out]; simp, DS.out, EE.out, by simp, rfl, rfl, rfl⟩
          case round =>
            obtain ⟨pre2, rest, e, hpr2, hds2, hdv, rfl, rfl, rfl, rfl⟩ := hrel
            have HPR2 := Lib.hid hpr2; clear hpr2
            have HDS := Lib.hid hds2; clear hds2
            have hge := dv_ge rest e
            rw [hdv] at hge
            have HDV := Lib.hid hdv; clear hdv
            cases rest with
            | nil =>
              have hlen : s.size = pre2.length := by rw [HZ.out, HPR2.out]; simp
              have he : e = E := HDV.out
              subst he
              have hx1 : ((pre2.length : Nat) : Int) = ((s.size : Nat) : Int) := by rw [hlen]
              clear hlen
              generalize ((pre2.length : Nat) : Int) = I at *
              subst hx1
              by_cases hm : st.m = 0
              · have hmt : ((st.m : Int) != 0) = false := by rw [bne_eq_false_iff_eq]; omega
                have HM := Lib.hid hm; clear hm
                go_wp2_with fail
                rw [Exit.noGoto_ret]
                try simp only [Exit.inBlock, Exit.then]
                refine bodyPost_ret (results_tmp7 rfl _ _ _) rfl ?_
                exact ⟨by rw [if_pos HM.out]; rfl, rfl⟩
              · have hmt : ((st.m : Int) != 0) = true := by rw [bne_iff_ne]; omega
                have HM := Lib.hid hm; clear hm
                go_wp2_with fail
                rw [Exit.noGoto_ret]
                try simp only [Exit.inBlock, Exit.then]
                refine bodyPost_ret (results_tmp7 rfl _ _ _) rfl ?_
                exact ⟨by rw [if_neg HM.out, hdot, if_neg (by decide)]; rfl, rfl⟩
            | cons d r =>
              have hlt2 : pre2.length < s.size := by rw [HZ.out, HPR2.out]; simp
              have hcc2 := bl_at HPR2.out hlt2
              have hd := HDS.out d (by simp)
              go_wp2_with fail
              all_goals exact ⟨EI.next HPR2.out HDS.out HDV.out rfl rfl (by congr 1; omega), by simp only [intOf]; omega⟩
        · go_wp2_with fail
          refine (Tryz.internal_strconv_lower 101 _).mono ?_; rintro en w1 ⟨rfl, hw⟩; rw [hw, low101]; clear hw w1
          go_wp2_with fail
          go_loopw [7, 9, 20] (fun v6 v8 v19 w2 => EI (bl s) E wr v6 v8 v19 w2) (fun i _ _ _ => s.size - (intOf i).toNat)
          case atStart => exact ⟨pre ++ [101], d0 :: ds, 0, by rw [HPR.out]; simp, DS.out, EE.out, by simp, rfl, rfl, rfl⟩
          case round =>
            obtain ⟨pre2, rest, e, hpr2, hds2, hdv, rfl, rfl, rfl, rfl⟩ := hrel
            have HPR2 := Lib.hid hpr2; clear hpr2
            have HDS := Lib.hid hds2; clear hds2
            have hge := dv_ge rest e
            rw [hdv] at hge
            have HDV := Lib.hid hdv; clear hdv
            cases rest with
            | nil =>
              have hlen : s.size = pre2.length := by rw [HZ.out, HPR2.out]; simp
              have he : e = E := HDV.out
              subst he
              have hx1 : ((pre2.length : Nat) : Int) = ((s.size : Nat) : Int) := by rw [hlen]
              clear hlen
              generalize ((pre2.length : Nat) : Int) = I at *
              subst hx1
              by_cases hm : st.m = 0
              · have hmt : ((st.m : Int) != 0) = false := by rw [bne_eq_false_iff_eq]; omega
                have HM := Lib.hid hm; clear hm
                go_wp2_with fail
                rw [Exit.noGoto_ret]
                try simp only [Exit.inBlock, Exit.then]
                refine bodyPost_ret (results_tmp7 rfl _ _ _) rfl ?_
                exact ⟨by rw [if_pos HM.out]; rfl, rfl⟩
              · have hmt : ((st.m : Int) != 0) = true := by rw [bne_iff_ne]; omega
                have HM := Lib.hid hm; clear hm
                go_wp2_with fail
                rw [Exit.noGoto_ret]
                try simp only [Exit.inBlock, Exit.then]
                refine bodyPost_ret (results_tmp7 rfl _ _ _) rfl ?_
                exact ⟨by rw [if_neg HM.out, hdot, if_pos rfl]; rfl, rfl⟩
            | cons d r =>
              have hlt2 : pre2.length < s.size := by rw [HZ.out, HPR2.out]; simp
              have hcc2 := bl_at HPR2.out hlt2
              have hd := HDS.out d (by simp)
              go_wp2_with fail
              all_goals exact ⟨EI.next HPR2.out HDS.out HDV.out rfl rfl (by congr 1; omega), by simp only [intOf]; omega⟩
      have HP := Lib.hid hp
      rcases St.put_cases hp with ⟨hc, rfl⟩ | ⟨hc, hd, rfl⟩ | ⟨c1, c2, ⟨hc, hd, rfl⟩ | ⟨hc, hd, rfl⟩ | ⟨hc, hd, rfl⟩⟩
      · clear hp
        subst hc
        go_wp2_with fail
        all_goals refine ⟨RI.next HPR.out HI.out HSC.out HOK.out HP.out ?_ ?_ ?_ ?_ ?_ ?_ ?_ ?_ ?_, by simp only [intOf]; omega⟩
        all_goals first | rfl | (congr 1; simp only; omega) | (congr 1; simp [*]; done)
      · clear hp
        subst hc
        rw [hd]
        go_wp2_with fail
        all_goals refine ⟨RI.next HPR.out HI.out HSC.out HOK.out HP.out ?_ ?_ ?_ ?_ ?_ ?_ ?_ ?_ ?_, by simp only [intOf]; omega⟩
        all_goals first | rfl | (congr 1; simp only; omega) | (congr 1; simp [*]; done)
      · clear hp
        subst hc
        have t6 : ((st.nd : Int) == 0) = true := by rw [beq_iff_eq]; omega
        clear hd
        go_wp2_with fail
        all_goals refine ⟨RI.next HPR.out HI.out HSC.out HOK.out HP.out ?_ ?_ ?_ ?_ ?_ ?_ ?_ ?_ ?_, by simp only [intOf]; omega⟩
        all_goals first | rfl | (congr 1; simp only; omega) | (congr 1; simp [*]; done)
      · clear hp
        have k8 := k2 hd
        have t8 : ((c : Int) == 95) = false := by rw [beq_eq_false_iff_ne]; omega
        have t9 : ((c : Int) == 46) = false := by rw [beq_eq_false_iff_ne]; omega
        by_cases hc8 : c = 48
        · subst hc8
          have t6 : ((st.nd : Int) == 0) = false := by rw [beq_eq_false_iff_ne]; omega
          clear hc
          go_wp2_with fail
          all_goals refine ⟨RI.next HPR.out HI.out HSC.out HOK.out HP.out ?_ ?_ ?_ ?_ ?_ ?_ ?_ ?_ ?_, by simp only [intOf]; omega⟩
          all_goals first | rfl | (congr 1; simp only; omega) | (congr 1; simp [*]; done)
        · have t6 : ((c : Int) == 48) = false := by rw [beq_eq_false_iff_ne]; omega
          clear hc hc8
          go_wp2_with fail
          all_goals refine ⟨RI.next HPR.out HI.out HSC.out HOK.out HP.out ?_ ?_ ?_ ?_ ?_ ?_ ?_ ?_ ?_, by simp only [intOf]; omega⟩
          all_goals first | rfl | (congr 1; simp only; omega) | (congr 1; simp [*]; done)
      · clear hp
        have t8 : ((c : Int) == 95) = false := by rw [beq_eq_false_iff_ne]; omega
        have t9 : ((c : Int) == 46) = false := by rw [beq_eq_false_iff_ne]; omega
        by_cases hc8 : c = 48
        · subst hc8
          have t6 : ((st.nd : Int) == 0) = false := by rw [beq_eq_false_iff_ne]; omega
          clear hc
          go_wp2_with fail
          all_goals refine ⟨RI.next HPR.out HI.out HSC.out HOK.out HP.out ?_ ?_ ?_ ?_ ?_ ?_ ?_ ?_ ?_, by simp only [intOf]; omega⟩
          all_goals first | rfl | (congr 1; simp only; omega) | (congr 1; simp [*]; done)
        · have t6 : ((c : Int) == 48) = false := by rw [beq_eq_false_iff_ne]; omega
          have t7 : ((c : Int) != 48) = true := by rw [bne_iff_ne]; omega
          have t5 : (c != 48) = true := by rw [bne_iff_ne]; omega
          clear hc hc8
          go_wp2_with fail
          all_goals refine ⟨RI.next HPR.out HI.out HSC.out HOK.out HP.out ?_ ?_ ?_ ?_ ?_ ?_ ?_ ?_ ?_, by simp only [intOf]; omega⟩
          all_goals first | rfl | (congr 1; simp only; omega) | (congr 1; simp [*]; done)
end Go.Proofs.YthjfdhkahmlolaaGreatDoor
