/- The walk of the law ExpoLines. -/
import Derived.Test.YtiijgghholhcnaaGreatDoorJL45
import Derived.Test.YtiijgghholhcnaaGreatDoorJL46
namespace Go.Proofs.YtiijgghholhcnaaGreatDoor
open Go.RowKit
set_option maxRecDepth 1000000
theorem linesV_le {p : Nat} {V : Vl} (h : Gp p V) : linesV V ≤ 819203 := by
  unfold linesV
  split
  · omega
  · split
    · rename_i k; have := (h.may k).2; omega
    · split <;> omega
theorem lnC_le {p n : Nat} {V : Nat → Vl} (h : ∀ j, j < n → Gp p (V j)) : ∀ i, i ≤ n → lnC V i ≤ 2 + i * 819205
  | 0, _ => by simp [lnC]
  | i + 1, hi => by
    have h1 := lnC_le h i (by omega)
    have h2 := linesV_le (h i (by omega))
    rw [lnC]
    split <;> omega
theorem wr_add {a b c : Nat} (h : a + b = c) (hc : c ≤ 300000000) : wrap64 ((a : Int) + (b : Int)) = (c : Int) := by
  have e : (a : Int) + (b : Int) = (c : Int) := by omega
  rw [e]; exact IntWalk.wrap64_in _ ⟨by omega, by omega⟩
theorem wr_1 {a c : Nat} (h : a + 1 = c) (hc : c ≤ 300000000) : wrap64 ((a : Int) + 1) = (c : Int) := wr_add (b := 1) h hc
theorem wr_2 {a c : Nat} (h : a + 2 = c) (hc : c ≤ 300000000) : wrap64 ((a : Int) + 2) = (c : Int) := wr_add (b := 2) h hc
theorem wr_3 {a c : Nat} (h : a + 3 = c) (hc : c ≤ 300000000) : wrap64 ((a : Int) + 3) = (c : Int) := wr_add (b := 3) h hc
theorem rnd_lt {i n : Nat} (h : i < n) : n - (((i + 1 : Nat) : Int)).toNat < n - ((i : Int)).toNat := by omega
theorem le300 {a i : Nat} (h : a ≤ 2 + (i + 1) * 819205) (hi : i ≤ 256) : a ≤ 300000000 := by omega
def L5R (w0 : World) (n : Nat) (V : Nat → Vl) (v5 v23 : Value) (w : World) : Prop :=
  ∃ i : Nat, v5 = .int .i64 (lnC V i : Int) ∧ v23 = .int .i64 (i : Int) ∧ i ≤ n ∧ Only (fun _ => False) w0 w
set_option maxHeartbeats 8000000 in
theorem law5_calls (prec : Int) (vp : Option Addr) (n c : Nat) (V : Nat → Vl) (rf : Nat) (w : World) (hV : Vls w vp n V) (hc : n ≤ c) (hE : Re.Env w) (hr : rf < 18446744073709551616) (hh : ∀ i, i < n → (V i).hi < 9223372036854775808) :
    Calls Tryz.prog 5 #[.agg #[.int .i64 prec, .slice vp n c, .int .u64 (rf : Int)]] w fun e w' => e = .returned (.bool true) ∧ Only (fun _ => False) w w' := by
  obtain ⟨pt, hpt⟩ : ∃ pt : Nat → List UInt8, ∀ X, Re.Pr X (pt X) := ⟨fun X => Classical.choose (Re.pr_ex X), fun X => Classical.choose_spec (Re.pr_ex X)⟩
  have hpl : ∀ X, (pt X).length ≤ 1000 := fun X => (pr_clean (hpt X)).2
  have hpc : ∀ X, Cl (pt X) := fun X => (pr_clean (hpt X)).1
  have HPC := Lib.hid hpc
  have HV := Lib.hid hV
  have HH := Lib.hid hh
  have KW := Lib.hid (fun w' (O : Only (fun _ => False) w w') => write_calls pt hpt hpl prec vp n c V rf w' (hV.still O) hc (hE.still O (fun _ _ e => e)) hr hh)
  have KA := Lib.hid (fun w => awake_calls w)
  clear hV hE hh hpt hpl hpc
  have ks1 := run_stf
  go_enter Tryz.func5, Tryz.ntmps5
  go_upto_region 1 with fail
  have hs := blk_new w (.cells #[.int .i64 prec, .slice vp n c, .int .u64 (rf : Int)] 26)
  have hO := Lib.hid ((Only.refl (fun _ => False) w).alloc (.cells #[.int .i64 prec, .slice vp n c, .int .u64 (rf : Int)] 26))
  generalize w.alloc (.cells #[.int .i64 prec, .slice vp n c, .int .u64 (rf : Int)] 26) = w1 at *
  generalize w.heap.size = sb at *
  have HS := Lib.hid hs; clear hs
  go_wp2_with fail
  refine (KA.out _).mono ?_
  rintro e w2 ⟨rfl, O2⟩
  have HS2 := Lib.hid (O2.blk HS.out (fun e => e))
  have HO2 := Lib.hid (hO.out.trans O2)
  clear O2 HS hO KA
  have c0 : w2.cell? ⟨sb, 0, none⟩ = some (.int .i64 prec) := by rw [blk_cell HS2.out]; rfl
  have c1 : w2.cell? ⟨sb, 1, none⟩ = some (.slice vp n c) := by rw [blk_cell HS2.out]; rfl
  have c2 : w2.cell? ⟨sb, 2, none⟩ = some (.int .u64 (rf : Int)) := by rw [blk_cell HS2.out]; rfl
  go_wp2_with fail
  refine (KW.out _ HO2.out).mono ?_
  rintro e w3 ⟨O3, hres⟩
  have HS3 := Lib.hid (O3.blk HS2.out (fun e => e))
  have HO3 := Lib.hid (HO2.out.trans O3)
  clear O3 c0 c1 c2 HS2 HO2 KW
  rcases hres with ⟨h1, rfl⟩ | ⟨h1, h2, rfl⟩ | ⟨h1, h2, v, rfl, hown⟩
  · have q : ((chkE prec n V).1 != 0) = true := by simp [h1]
    clear h1
    generalize (chkE prec n V).1 = ec at *
    go_wp2_with fail
    go_ret
    exact ⟨rfl, HO3.out⟩
  · clear h1 h2
    go_wp2_with fail
    go_ret
    exact ⟨rfl, HO3.out⟩
  obtain ⟨p, hpp, hp1, hp2, hn, hgd⟩ := chk_ok h1
  subst hpp
  rw [Int.toNat_natCast] at h2 hown
  have hgp : ∀ j, j < n → Gp p (V j) := fun j hj => holds_good hp1 hp2 (hgd j hj).1 (hgd j hj).2
  have HGP := Lib.hid hgp
  have HLS := Lib.hid (body_ls HPC.out (pt := pt) (p := p) (rf := rf) (fun j hj => (hgp j hj).good) n (Nat.le_refl _))
  have HNE : Hid (bodyT pt p rf V n ≠ []) := Lib.hid (fun e => by
    have h1 := bodyT_mono pt p rf V (i := 0) (j := n) (Nat.zero_le _)
    rw [e] at h1
    simp [bodyT, headT] at h1)
  have HLE := Lib.hid h2
  have HOW := Lib.hid hown
  have HLC := Lib.hid (lnC_le hgp)
  have HN := Lib.hid hn
  clear h1 h2 hown hp1 hp2 hn hgd hgp
  generalize hT : bodyT pt p rf V n = T at *
  clear hT
  obtain ⟨p5, c5, hv5⟩ := own_len HOW.out
  subst hv5
  have c1 : w3.cell? ⟨sb, 1, none⟩ = some (.slice vp n c) := by rw [blk_cell HS3.out]; rfl
  go_wp2_with fail
  clear c1
  go_loopw [5, 23] (fun v5 v23 wr => L5R w3 n V v5 v23 wr) (fun _ v23 _ => n - (intOf v23).toNat)
  case atStart => exact ⟨0, rfl, rfl, Nat.zero_le _, Only.refl _ _⟩
  case round =>
    obtain ⟨i, rfl, rfl, hi, hO⟩ := hrel
    have HOr := Lib.hid hO
    have HO := Lib.hid (HO3.out.trans hO)
    have HS := Lib.hid (hO.blk HS3.out (fun e => e))
    clear hO
    by_cases h : i < n
    case neg =>
      obtain rfl : i = n := by omega
      have t5 : decide ((i : Int) < (i : Int)) = false := decide_eq_false (by omega)
      have KL := Lib.hid (lines_calls w2.heap.size (.slice p5 T.length c5) T (lnC V i) wr (own_keepS HOW.out HOr.out (fun _ _ e => e)) HLS.out HNE.out (by have := HLE.out; omega))
      obtain ⟨m, hm⟩ : ∃ m, m = T.length := ⟨_, rfl⟩
      have t6 : decide ((m : Int) ≤ 4194304) = true := decide_eq_true (by have := HLE.out; omega)
      rw [← hm] at KL ⊢
      clear hm
      generalize lnC V i = nl at *
      go_wp2_with fail
      refine KL.out.mono ?_
      rintro e w4 ⟨rfl, hw⟩; rw [hw]; clear hw w4
      go_wp2_with fail
      go_ret
      exact ⟨rfl, HO.out⟩
    have t5 : decide ((i : Int) < (n : Int)) = true := decide_eq_true (by omega)
    have hw1 : wrap64 ((i : Int) + 1) = ((i + 1 : Nat) : Int) := by rw [IntWalk.wrap64_in _ ⟨by omega, by have := HN.out; omega⟩]; omega
    obtain ⟨b, o, hvp, g1, g2⟩ := HV.out.at' i h
    have HVI := Lib.hid (show ∀ j, j < n → ∀ w', Only (fun _ => False) w w' → ∀ m, m < 11 → w'.cell? ⟨b, o + j * 11 + m, none⟩ = (V j).cells[m]? from fun j hj w' O m hm => by
      obtain ⟨b', o', q1, q2, q3⟩ := HV.out.at' j hj
      rw [hvp] at q1; injection q1 with q1; injection q1 with q1 q4; subst q1 q4
      exact (O.cellAt q2 id _).trans (q3 m hm))
    subst hvp
    have HGV := Lib.hid (HGP.out i h)
    have HC1 := Lib.hid (HLC.out (i + 1) (by omega))
    have HC2 : Hid (i ≤ 256) := Lib.hid (by have := HN.out; omega)
    have HFA := Lib.hid (show ∀ k, i = k + 1 → famB V i = !((V k).nm == (V i).nm) from fun k hk => by unfold famB; rw [if_neg (by omega), show i - 1 = k by omega])
    have HF0 := Lib.hid (show i = 0 → famB V i = true from fun hk => by unfold famB; rw [if_pos hk])
    have HLI := Lib.hid (show lnC V (i + 1) = lnC V i + ((if famB V i = true then 2 else 0) + linesV (V i)) from rfl)
    clear g1 g2
    generalize hv : V i = v at *
    have HVV := Lib.hid hv; clear hv
    generalize hfb : famB V i = fb at *
    clear hfb
    generalize hnl : lnC V i = nl at *
    have HNL := Lib.hid hnl; clear hnl
    generalize hnl2 : lnC V (i + 1) = nl2 at *
    have HNL2 := Lib.hid hnl2; clear hnl2
    have u0 : wr.cell? ⟨b, o + i * 11, none⟩ = some (.int .i64 v.kind) := by have := HVI.out i h wr HO.out 0 (by omega); rw [HVV.out] at this; exact this
    have u1 : wr.cell? ⟨b, o + i * 11 + 1, none⟩ = some (.string ⟨v.nm.toArray⟩) := by have := HVI.out i h wr HO.out 1 (by omega); rw [HVV.out] at this; exact this
    have u2 : wr.cell? ⟨b, o + i * 11 + 2, none⟩ = some (.string ⟨v.help.toArray⟩) := by have := HVI.out i h wr HO.out 2 (by omega); rw [HVV.out] at this; exact this
    have u3 : wr.cell? ⟨b, o + i * 11 + 3, none⟩ = some (.slice v.lp v.ln v.lc) := by have := HVI.out i h wr HO.out 3 (by omega); rw [HVV.out] at this; exact this
    have u4 : wr.cell? ⟨b, o + i * 11 + 4, none⟩ = some (.int .i64 v.hi) := by have := HVI.out i h wr HO.out 4 (by omega); rw [HVV.out] at this; exact this
    have u5 : wr.cell? ⟨b, o + i * 11 + 5, none⟩ = some (.int .u64 (v.lo : Int)) := by have := HVI.out i h wr HO.out 5 (by omega); rw [HVV.out] at this; exact this
    have u6 : wr.cell? ⟨b, o + i * 11 + 6, none⟩ = some (.slice v.cp v.cn v.cc) := by have := HVI.out i h wr HO.out 6 (by omega); rw [HVV.out] at this; exact this
    have u7 : wr.cell? ⟨b, o + i * 11 + 7, none⟩ = some (.int .u64 (v.N : Int)) := by have := HVI.out i h wr HO.out 7 (by omega); rw [HVV.out] at this; exact this
    have u8 : wr.cell? ⟨b, o + i * 11 + 8, none⟩ = some (.float .f64 v.sum) := by have := HVI.out i h wr HO.out 8 (by omega); rw [HVV.out] at this; exact this
    have u9 : wr.cell? ⟨b, o + i * 11 + 9, none⟩ = some (.float .f64 v.mn) := by have := HVI.out i h wr HO.out 9 (by omega); rw [HVV.out] at this; exact this
    have u10 : wr.cell? ⟨b, o + i * 11 + 10, none⟩ = some (.float .f64 v.mx) := by have := HVI.out i h wr HO.out 10 (by omega); rw [HVV.out] at this; exact this
    go_upto_region 10 with fail
    have hvb := blk_new wr (.cells #[.int .i64 v.kind, .string ⟨v.nm.toArray⟩, .string ⟨v.help.toArray⟩, .slice v.lp v.ln v.lc, .int .i64 v.hi, .int .u64 (v.lo : Int), .slice v.cp v.cn v.cc, .int .u64 (v.N : Int), .float .f64 v.sum, .float .f64 v.mn, .float .f64 v.mx] 42)
    have O2 := (Only.refl (fun _ => False) wr).alloc (.cells #[.int .i64 v.kind, .string ⟨v.nm.toArray⟩, .string ⟨v.help.toArray⟩, .slice v.lp v.ln v.lc, .int .i64 v.hi, .int .u64 (v.lo : Int), .slice v.cp v.cn v.cc, .int .u64 (v.N : Int), .float .f64 v.sum, .float .f64 v.mn, .float .f64 v.mx] 42)
    generalize wr.alloc (.cells #[.int .i64 v.kind, .string ⟨v.nm.toArray⟩, .string ⟨v.help.toArray⟩, .slice v.lp v.ln v.lc, .int .i64 v.hi, .int .u64 (v.lo : Int), .slice v.cp v.cn v.cc, .int .u64 (v.N : Int), .float .f64 v.sum, .float .f64 v.mn, .float .f64 v.mx] 42) = w4 at *
    have HB4 := Lib.hid hvb
    have HO4 := Lib.hid (HO.out.trans O2)
    have HOr4 := Lib.hid (HOr.out.trans O2)
    have HS4 := Lib.hid (O2.blk HS.out (fun e => e))
    clear u0 u1 u2 u3 u4 u5 u6 u7 u8 u9 u10 hvb O2 HS HO HOr
    generalize wr.heap.size = vb at *
    go_cut [43] from 28 to 43 (fun v43 wx => v43 = .bool fb ∧ Only (fun _ => False) w4 wx)
    case first =>
      by_cases hi0 : i = 0
      · have q0 : ((i : Int) == 0) = true := by simp; omega
        have HFB := Lib.hid (HF0.out hi0)
        clear hi0
        go_quiet (fail)
        go_wp2_with fail
        go_meet
        exact ⟨by rw [HFB.out], (Only.refl _ _).drewN _⟩
      · have q0 : ((i : Int) == 0) = false := by simp; omega
        obtain ⟨k, hk⟩ : ∃ k, i = k + 1 := ⟨i - 1, by omega⟩
        have HFB := Lib.hid (HFA.out k hk)
        have hkn : k < n := by omega
        have hw3 : IntKind.i64.wrap ((i : Int) - 1) = (k : Int) := by rw [show (i : Int) - 1 = k by omega]; exact IntWalk.i64_in _ ⟨by omega, by have := HN.out; omega⟩
        have hwk : wrap64 ((i : Int) - 1) = (k : Int) := by rw [IntWalk.wrap64_in _ ⟨by omega, by have := HN.out; omega⟩]; omega
        have s1 : w4.cell? ⟨sb, 1, none⟩ = some (.slice (some ⟨b, o, none⟩) n c) := by rw [blk_cell HS4.out]; rfl
        have y1 : w4.cell? ⟨b, o + k * 11 + 1, none⟩ = some (.string ⟨(V k).nm.toArray⟩) := by have := HVI.out k hkn w4 HO4.out 1 (by omega); exact this
        have x1 : w4.cell? ⟨vb, 1, none⟩ = some (.string ⟨v.nm.toArray⟩) := by rw [blk_cell HB4.out]; rfl
        clear hi0 hk
        generalize (V k).nm = an at *
        rcases hnb : (an == v.nm) with _ | _
        all_goals
          rw [hnb] at HFB
          go_quiet (fail)
          go_wp2_with fail
          go_meet
          exact ⟨by rw [HFB.out]; rfl, (Only.refl _ _).drewN _⟩
    case rest =>
      obtain ⟨rfl, hO5⟩ := hcut
      have HB5 := Lib.hid (hO5.blk HB4.out (fun e => e))
      have HOr5 := Lib.hid (HOr4.out.trans hO5)
      clear hO5 HB4 HOr4 HO4 HS4
      have HKK := Lib.hid HGV.out.good.kind
      have HMC := Lib.hid (show v.kind = 2 → v.cn ≤ 819200 from fun e => (HGV.out.may e).2)
      have HLV := Lib.hid (show linesV v = if v.kind = 1 then 1 else if v.kind = 2 then v.cn + 3 else 2 + (if 0 < v.N then 2 else 0) from rfl)
      generalize linesV v = lv at *
      cases fb
      · have hLm0 : nl2 = nl + (lv) := by rw [HLI.out]; simp
        have hbd2 := le300 HC1.out HC2.out
        have hLm : nl + lv = nl2 := hLm0.symm
        rcases HKK.out with hk | hk | hk
        · have hlv : lv = 1 := by have := HLV.out; rw [if_pos hk] at this; exact this
          have x0 : wc.cell? ⟨vb, 0, none⟩ = some (.int .i64 1) := by rw [blk_cell HB5.out]; show some (Value.int .i64 v.kind) = _; rw [hk]
          have w1 : wrap64 ((nl : Int) + 1) = (nl2 : Int) := wr_1 (by rw [← hlv]; exact hLm) hbd2
          clear hLm0 hbd2 hLm hlv hk
          go_upto_region 17 with fail
          clear x0
          go_wp2_with fail
          exact ⟨⟨i + 1, by rw [HNL2.out, w1], congrArg (Value.int .i64) hw1, h, HOr5.out⟩, by rw [hw1]; simp only [intOf]; exact rnd_lt h⟩
        · have hne : ¬ v.kind = 1 := by rw [hk]; decide
          have hlv : lv = v.cn + 3 := by have := HLV.out; rw [if_neg hne, if_pos hk] at this; exact this
          have x0 : wc.cell? ⟨vb, 0, none⟩ = some (.int .i64 2) := by rw [blk_cell HB5.out]; show some (Value.int .i64 v.kind) = _; rw [hk]
          have x6 : wc.cell? ⟨vb, 6, none⟩ = some (.slice v.cp v.cn v.cc) := by rw [blk_cell HB5.out]; rfl
          obtain ⟨z, hz⟩ : ∃ z, z = v.cn + 3 := ⟨_, rfl⟩
          have hzl : nl + z = nl2 := by rw [hz, ← hlv]; exact hLm
          have w0 : wrap64 ((v.cn : Int) + 3) = (z : Int) := wr_3 hz.symm (Nat.le_trans (Nat.le_trans (Nat.le_add_left _ _) (Nat.le_of_eq hzl)) hbd2)
          have w1 : wrap64 ((nl : Int) + (z : Int)) = (nl2 : Int) := wr_add hzl hbd2
          clear hLm0 hbd2 hLm hlv hk hz hzl hne
          go_upto_region 19 with fail
          go_wp2_with fail
          exact ⟨⟨i + 1, by rw [HNL2.out, w1], congrArg (Value.int .i64) hw1, h, HOr5.out⟩, by rw [hw1]; simp only [intOf]; exact rnd_lt h⟩
        · have hne : ¬ v.kind = 1 := by rw [hk]; decide
          have hne2 : ¬ v.kind = 2 := by rw [hk]; decide
          have hlv : lv = 2 + (if 0 < v.N then 2 else 0) := by have := HLV.out; rw [if_neg hne, if_neg hne2] at this; exact this
          have x0 : wc.cell? ⟨vb, 0, none⟩ = some (.int .i64 3) := by rw [blk_cell HB5.out]; show some (Value.int .i64 v.kind) = _; rw [hk]
          have x7 : wc.cell? ⟨vb, 7, none⟩ = some (.int .u64 (v.N : Int)) := by rw [blk_cell HB5.out]; rfl
          by_cases h0 : 0 < v.N
          · rw [if_pos h0] at hlv
            have t9 : decide ((0 : Int) < (v.N : Int)) = true := decide_eq_true (Int.natCast_pos.2 h0)
            obtain ⟨z, hz⟩ : ∃ z, z = nl + 2 := ⟨_, rfl⟩
            have hzl : z + 2 = nl2 := by rw [hz, Nat.add_assoc, ← hLm, hlv]
            have w0 : wrap64 ((nl : Int) + 2) = (z : Int) := wr_2 hz.symm (Nat.le_trans (Nat.le_trans (Nat.le_add_right _ _) (Nat.le_of_eq hzl)) hbd2)
            have w1 : wrap64 ((z : Int) + 2) = (nl2 : Int) := wr_2 hzl hbd2
            clear hLm0 hbd2 hLm hlv hk hz hzl hne hne2
            go_upto_region 13 with fail
            clear x0
            go_wp2_with fail
            exact ⟨⟨i + 1, by rw [HNL2.out, w1], congrArg (Value.int .i64) hw1, h, HOr5.out⟩, by rw [hw1]; simp only [intOf]; exact rnd_lt h⟩
          · rw [if_neg h0, Nat.add_zero] at hlv
            have hN0 : v.N = 0 := Nat.eq_zero_of_not_pos h0
            rw [hN0] at x7
            have w1 : wrap64 ((nl : Int) + 2) = (nl2 : Int) := wr_2 (by rw [← hlv]; exact hLm) hbd2
            clear hLm0 hbd2 hLm hlv hk h0 hN0 hne hne2
            go_upto_region 13 with fail
            clear x0
            go_wp2_with fail
            exact ⟨⟨i + 1, by rw [HNL2.out, w1], congrArg (Value.int .i64) hw1, h, HOr5.out⟩, by rw [hw1]; simp only [intOf]; exact rnd_lt h⟩
      · have hLm0 : nl2 = nl + (2 + lv) := by rw [HLI.out]; simp
        have hbd2 := le300 HC1.out HC2.out
        obtain ⟨m, hm⟩ : ∃ m, m = nl + 2 := ⟨_, rfl⟩
        have hLm : m + lv = nl2 := by rw [hm, hLm0, Nat.add_assoc]
        have wm : wrap64 ((nl : Int) + 2) = (m : Int) := wr_2 hm.symm (Nat.le_trans (Nat.le_trans (Nat.le_add_right _ _) (Nat.le_of_eq hLm)) hbd2)
        rcases HKK.out with hk | hk | hk
        · have hlv : lv = 1 := by have := HLV.out; rw [if_pos hk] at this; exact this
          have x0 : wc.cell? ⟨vb, 0, none⟩ = some (.int .i64 1) := by rw [blk_cell HB5.out]; show some (Value.int .i64 v.kind) = _; rw [hk]
          have w1 : wrap64 ((m : Int) + 1) = (nl2 : Int) := wr_1 (by rw [← hlv]; exact hLm) hbd2
          clear hLm0 hbd2 hLm hlv hm hk
          go_upto_region 17 with fail
          clear x0
          go_wp2_with fail
          exact ⟨⟨i + 1, by rw [HNL2.out, w1], congrArg (Value.int .i64) hw1, h, HOr5.out⟩, by rw [hw1]; simp only [intOf]; exact rnd_lt h⟩
        · have hne : ¬ v.kind = 1 := by rw [hk]; decide
          have hlv : lv = v.cn + 3 := by have := HLV.out; rw [if_neg hne, if_pos hk] at this; exact this
          have x0 : wc.cell? ⟨vb, 0, none⟩ = some (.int .i64 2) := by rw [blk_cell HB5.out]; show some (Value.int .i64 v.kind) = _; rw [hk]
          have x6 : wc.cell? ⟨vb, 6, none⟩ = some (.slice v.cp v.cn v.cc) := by rw [blk_cell HB5.out]; rfl
          obtain ⟨z, hz⟩ : ∃ z, z = v.cn + 3 := ⟨_, rfl⟩
          have hzl : m + z = nl2 := by rw [hz, ← hlv]; exact hLm
          have w0 : wrap64 ((v.cn : Int) + 3) = (z : Int) := wr_3 hz.symm (Nat.le_trans (Nat.le_trans (Nat.le_add_left _ _) (Nat.le_of_eq hzl)) hbd2)
          have w1 : wrap64 ((m : Int) + (z : Int)) = (nl2 : Int) := wr_add hzl hbd2
          clear hLm0 hbd2 hLm hlv hm hk hz hzl hne
          go_upto_region 19 with fail
          go_wp2_with fail
          exact ⟨⟨i + 1, by rw [HNL2.out, w1], congrArg (Value.int .i64) hw1, h, HOr5.out⟩, by rw [hw1]; simp only [intOf]; exact rnd_lt h⟩
        · have hne : ¬ v.kind = 1 := by rw [hk]; decide
          have hne2 : ¬ v.kind = 2 := by rw [hk]; decide
          have hlv : lv = 2 + (if 0 < v.N then 2 else 0) := by have := HLV.out; rw [if_neg hne, if_neg hne2] at this; exact this
          have x0 : wc.cell? ⟨vb, 0, none⟩ = some (.int .i64 3) := by rw [blk_cell HB5.out]; show some (Value.int .i64 v.kind) = _; rw [hk]
          have x7 : wc.cell? ⟨vb, 7, none⟩ = some (.int .u64 (v.N : Int)) := by rw [blk_cell HB5.out]; rfl
          by_cases h0 : 0 < v.N
          · rw [if_pos h0] at hlv
            have t9 : decide ((0 : Int) < (v.N : Int)) = true := decide_eq_true (Int.natCast_pos.2 h0)
            obtain ⟨z, hz⟩ : ∃ z, z = m + 2 := ⟨_, rfl⟩
            have hzl : z + 2 = nl2 := by rw [hz, Nat.add_assoc, ← hLm, hlv]
            have w0 : wrap64 ((m : Int) + 2) = (z : Int) := wr_2 hz.symm (Nat.le_trans (Nat.le_trans (Nat.le_add_right _ _) (Nat.le_of_eq hzl)) hbd2)
            have w1 : wrap64 ((z : Int) + 2) = (nl2 : Int) := wr_2 hzl hbd2
            clear hLm0 hbd2 hLm hlv hm hk hz hzl hne hne2
            go_upto_region 13 with fail
            clear x0
            go_wp2_with fail
            exact ⟨⟨i + 1, by rw [HNL2.out, w1], congrArg (Value.int .i64) hw1, h, HOr5.out⟩, by rw [hw1]; simp only [intOf]; exact rnd_lt h⟩
          · rw [if_neg h0, Nat.add_zero] at hlv
            have hN0 : v.N = 0 := Nat.eq_zero_of_not_pos h0
            rw [hN0] at x7
            have w1 : wrap64 ((m : Int) + 2) = (nl2 : Int) := wr_2 (by rw [← hlv]; exact hLm) hbd2
            clear hLm0 hbd2 hLm hlv hm hk h0 hN0 hne hne2
            go_upto_region 13 with fail
            clear x0
            go_wp2_with fail
            exact ⟨⟨i + 1, by rw [HNL2.out, w1], congrArg (Value.int .i64) hw1, h, HOr5.out⟩, by rw [hw1]; simp only [intOf]; exact rnd_lt h⟩
end Go.Proofs.YtiijgghholhcnaaGreatDoor
