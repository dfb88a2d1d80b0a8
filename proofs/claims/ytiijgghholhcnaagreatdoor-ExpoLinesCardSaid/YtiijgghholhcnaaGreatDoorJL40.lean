/- The walk of snap.Check at any snapshot. -/
import Derived.Test.YtiijgghholhcnaaGreatDoorJL39
import Derived.Test.YtiijgghholhcnaaGreatDoorJL14
import Derived.Test.YtiijgghholhcnaaGreatDoorJL15
namespace Go.Proofs.YtiijgghholhcnaaGreatDoor
open Go.RowKit
set_option maxRecDepth 1000000
/-- values in memory -/
structure Vls (w : World) (vp : Option Addr) (n : Nat) (V : Nat → Vl) : Prop where
  at' : ∀ i, i < n → ∃ b o, vp = some ⟨b, o, none⟩ ∧ b < w.heap.size ∧ ∀ j, j < 11 → w.cell? ⟨b, o + i * 11 + j, none⟩ = (V i).cells[j]?
  ok : ∀ i, i < n → Vok w (V i)
theorem Vls.still {w w' : World} {vp : Option Addr} {n : Nat} {V : Nat → Vl} (h : Vls w vp n V) (O : Only (fun _ => False) w w') : Vls w' vp n V := by
  refine ⟨fun i hi => ?_, fun i hi => (h.ok i hi).still O⟩
  obtain ⟨b, o, h1, h2, h3⟩ := h.at' i hi
  exact ⟨b, o, h1, Nat.lt_of_lt_of_le h2 O.size, fun j hj => (O.cellAt h2 id _).trans (h3 j hj)⟩
/-- what is wrong with a value's description -/
def vDesc (v : Vl) : Int := descE v.kind v.nm v.help v.ln v.L
def vCmp (a v : Vl) : Int := descsC a.nm a.L a.ln v.nm v.L v.ln
def alikeB (a v : Vl) : Bool := decide (a.kind = v.kind) && (a.help == v.help)
/-- what keeps the values from number i on from being a snapshot's, by at most f of them -/
def chkF (p : Nat) (V : Nat → Vl) : Nat → Nat → Int × Int
  | 0, _ => (0, 0)
  | f + 1, i =>
    if vDesc (V i) ≠ 0 then (vDesc (V i), i)
    else if holdsB p (V i) = false then (2, i)
    else if i = 0 then chkF p V f 1
    else if vCmp (V (i - 1)) (V i) = 0 then (10, i)
    else if 0 < vCmp (V (i - 1)) (V i) then (15, i)
    else if ((V (i - 1)).nm == (V i).nm) = true ∧ alikeB (V (i - 1)) (V i) = false then (12, i)
    else chkF p V f (i + 1)
def chkE (prec : Int) (n : Nat) (V : Nat → Vl) : Int × Int :=
  if prec < 1 ∨ 14 < prec then (1, 0) else if 256 < n then (3, 256) else chkF prec.toNat V n 0
theorem descE_n {kind : Int} {nm help : List UInt8} {n : Nat} {L : Nat → List UInt8 × List UInt8} (h : descE kind nm help n L = 0) : n ≤ 16 := by
  unfold descE at h
  split at h
  · cases h
  · split at h
    · cases h
    · split at h
      · rename_i g; exact absurd h g
      · split at h
        · cases h
        · omega
theorem alike_calls (k1 k2 : Int) (n1 n2 : Value) (h1 h2 : List UInt8) (l1 l2 : Value) (w : World) (e1 : ∃ s, n1 = .string s) (e2 : ∃ s, n2 = .string s) (e3 : ∃ p n c, l1 = .slice p n c) (e4 : ∃ p n c, l2 = .slice p n c) :
    Calls Tryz.prog 29 #[.agg #[.int .i64 k1, n1, .string ⟨h1.toArray⟩, l1], .agg #[.int .i64 k2, n2, .string ⟨h2.toArray⟩, l2]] w fun e w' => e = .returned (.bool (decide (k1 = k2) && (h1 == h2))) ∧ Only (fun _ => False) w w' := by
  obtain ⟨s1, rfl⟩ := e1
  obtain ⟨s2, rfl⟩ := e2
  obtain ⟨p1, m1, c1, rfl⟩ := e3
  obtain ⟨p2, m2, c2, rfl⟩ := e4
  go_enter Tryz.func29, Tryz.ntmps29
  go_upto_region 1 with fail
  have hA := two_cell w (.cells #[.int .i64 k1, .string s1, .string ⟨h1.toArray⟩, .slice p1 m1 c1] 36) #[.int .i64 k2, .string s2, .string ⟨h2.toArray⟩, .slice p2 m2 c2] 36
  have O1 := (Only.refl (fun _ => False) w).alloc (.cells #[.int .i64 k1, .string s1, .string ⟨h1.toArray⟩, .slice p1 m1 c1] 36)
  have O2 := (Only.refl (fun _ => False) (w.alloc (.cells #[.int .i64 k1, .string s1, .string ⟨h1.toArray⟩, .slice p1 m1 c1] 36))).alloc (.cells #[.int .i64 k2, .string s2, .string ⟨h2.toArray⟩, .slice p2 m2 c2] 36)
  have hB := O2.blk (blk_new w (.cells #[.int .i64 k1, .string s1, .string ⟨h1.toArray⟩, .slice p1 m1 c1] 36)) (fun e => e)
  have HO := Lib.hid (O1.trans O2)
  clear O1 O2
  generalize (w.alloc (.cells #[.int .i64 k1, .string s1, .string ⟨h1.toArray⟩, .slice p1 m1 c1] 36)).alloc (.cells #[.int .i64 k2, .string s2, .string ⟨h2.toArray⟩, .slice p2 m2 c2] 36) = w1 at *
  have a0 : w1.cell? ⟨w.heap.size, 0, none⟩ = some (.int .i64 k1) := by rw [blk_cell hB]; rfl
  have a2 : w1.cell? ⟨w.heap.size, 2, none⟩ = some (.string ⟨h1.toArray⟩) := by rw [blk_cell hB]; rfl
  have b0 : w1.cell? ⟨w.heap.size + 1, 0, none⟩ = some (.int .i64 k2) := hA 0
  have b2 : w1.cell? ⟨w.heap.size + 1, 2, none⟩ = some (.string ⟨h2.toArray⟩) := hA 2
  clear hA hB
  by_cases hk : k1 = k2
  · have q : (k1 == k2) = true := by simp [hk]
    have HK := Lib.hid hk; clear hk
    go_wp2_with fail
    go_ret
    refine ⟨?_, HO.out⟩
    rw [decide_eq_true HK.out]
    first | rfl | (simp; done) | skip
  · have q : (k1 == k2) = false := by simp [hk]
    have HK := Lib.hid hk; clear hk
    go_wp2_with fail
    go_ret
    refine ⟨?_, HO.out⟩
    rw [decide_eq_false HK.out]
    first | rfl | (simp; done) | skip
def CkR (w0 : World) (p : Nat) (n : Nat) (V : Nat → Vl) (v26 : Value) (w : World) : Prop :=
  ∃ i : Nat, v26 = .int .i64 (i : Int) ∧ i ≤ n ∧ Only (fun _ => False) w0 w ∧ chkF p V n 0 = chkF p V (n - i) i ∧ ∀ j, j < i → vDesc (V j) = 0
set_option maxHeartbeats 4000000 in
theorem check_calls (prec : Int) (vp : Option Addr) (n c : Nat) (V : Nat → Vl) (rf : Nat) (w : World) (hV : Vls w vp n V) (hc : n ≤ c) :
    Calls Tryz.prog 14 #[.agg #[.int .i64 prec, .slice vp n c, .int .u64 (rf : Int)]] w fun e w' => e = .returned (.tuple #[.int .i64 (chkE prec n V).1, .int .i64 (chkE prec n V).2]) ∧ Only (fun _ => False) w w' := by
  have HV := Lib.hid hV
  obtain ⟨D, hD⟩ : ∃ D, D = chkE prec n V := ⟨_, rfl⟩
  rw [← hD]
  unfold chkE at hD
  have HD := Lib.hid hD
  clear hV hD
  have ks1 := run_stf
  go_enter Tryz.func14, Tryz.ntmps14
  go_upto_region 1 with fail
  have hs := blk_new w (.cells #[.int .i64 prec, .slice vp n c, .int .u64 (rf : Int)] 26)
  have hO := Lib.hid ((Only.refl (fun _ => False) w).alloc (.cells #[.int .i64 prec, .slice vp n c, .int .u64 (rf : Int)] 26))
  generalize w.alloc (.cells #[.int .i64 prec, .slice vp n c, .int .u64 (rf : Int)] 26) = w1 at *
  generalize w.heap.size = sb at *
  have HS := Lib.hid hs; clear hs
  have c0 : w1.cell? ⟨sb, 0, none⟩ = some (.int .i64 prec) := by rw [blk_cell HS.out]; rfl
  have c1 : w1.cell? ⟨sb, 1, none⟩ = some (.slice vp n c) := by rw [blk_cell HS.out]; rfl
  by_cases h1 : prec < 1
  · have t1 : decide (prec < 1) = true := decide_eq_true h1
    have HD1 := Lib.hid (show D = (1, 0) by rw [HD.out, if_pos (.inl h1)])
    go_wp2_with fail
    go_ret2
    exact ⟨by rw [HD1.out]; rfl, hO.out⟩
  have t1 : decide (prec < 1) = false := decide_eq_false h1
  by_cases h2 : 14 < prec
  · have t2 : decide (14 < prec) = true := decide_eq_true h2
    have HD1 := Lib.hid (show D = (1, 0) by rw [HD.out, if_pos (.inr h2)])
    go_wp2_with fail
    go_ret2
    exact ⟨by rw [HD1.out]; rfl, hO.out⟩
  have t2 : decide (14 < prec) = false := decide_eq_false h2
  obtain ⟨p, rfl⟩ : ∃ p : Nat, prec = (p : Int) := ⟨prec.toNat, by omega⟩
  have hp1 : 1 ≤ p := by omega
  have hp2 : p ≤ 14 := by omega
  by_cases h3 : 256 < n
  · have t3 : decide ((256 : Int) < (n : Int)) = true := decide_eq_true (by omega)
    have HD1 := Lib.hid (show D = (3, 256) by rw [HD.out, if_neg (by omega), if_pos h3])
    clear h1 h2
    go_wp2_with fail
    go_ret2
    exact ⟨by rw [HD1.out]; rfl, hO.out⟩
  have t3 : decide ((256 : Int) < (n : Int)) = false := decide_eq_false (by omega)
  have HD1 := Lib.hid (show D = chkF p V n 0 by rw [HD.out, if_neg (by omega), if_neg h3]; rfl)
  have HP := Lib.hid (And.intro hp1 hp2)
  have HN := Lib.hid (Nat.le_of_not_lt h3)
  clear HD h1 h2 h3 hp1 hp2
  go_wp2_with fail
  clear c0 c1
  go_loopw [26] (fun v26 wr => CkR w1 p n V v26 wr) (fun v26 _ => n - (intOf v26).toNat)
  case atStart => exact ⟨0, rfl, Nat.zero_le _, Only.refl _ _, rfl, fun j hj => absurd hj (Nat.not_lt_zero j)⟩
  case round =>
    obtain ⟨i, rfl, hi, hO1, hE, hG⟩ := hrel
    have HO1 := Lib.hid hO1
    have HG := Lib.hid hG
    have HE := Lib.hid (HD1.out.trans hE)
    have HV1 := Lib.hid ((HV.out.still hO.out).still hO1)
    have HS1 := Lib.hid (hO1.blk HS.out (fun e => e))
    clear hO1 hE hG
    by_cases h : i < n
    case neg =>
      obtain rfl : i = n := by omega
      have t5 : decide ((i : Int) < (i : Int)) = false := decide_eq_false (by omega)
      have HE2 := Lib.hid (show D = (0, 0) by rw [HE.out, Nat.sub_self]; rfl)
      go_wp2_with fail
      go_ret2
      exact ⟨by rw [HE2.out]; rfl, hO.out.trans HO1.out⟩
    have t5 : decide ((i : Int) < (n : Int)) = true := decide_eq_true (by omega)
    have hw1 : wrap64 ((i : Int) + 1) = ((i + 1 : Nat) : Int) := by rw [IntWalk.wrap64_in _ ⟨by omega, by have := HN.out; omega⟩]; omega
    obtain ⟨b, o, hvp, g1, g2⟩ := HV1.out.at' i h
    have hok := HV1.out.ok i h
    have HE2 := Lib.hid (show D = if vDesc (V i) ≠ 0 then (vDesc (V i), (i : Int)) else if holdsB p (V i) = false then (2, (i : Int)) else if i = 0 then chkF p V (n - (i + 1)) 1
      else if vCmp (V (i - 1)) (V i) = 0 then (10, (i : Int)) else if 0 < vCmp (V (i - 1)) (V i) then (15, (i : Int)) else if ((V (i - 1)).nm == (V i).nm) = true ∧ alikeB (V (i - 1)) (V i) = false then (12, (i : Int)) else chkF p V (n - (i + 1)) (i + 1) by
        rw [HE.out, show n - i = (n - (i + 1)) + 1 by omega]; rfl)
    have HVI := Lib.hid (show ∀ j, j < n → ∀ w', Only (fun _ => False) wr w' → ∀ m, m < 11 → w'.cell? ⟨b, o + j * 11 + m, none⟩ = (V j).cells[m]? from fun j hj w' O m hm => by
      obtain ⟨b', o', q1, q2, q3⟩ := HV1.out.at' j hj
      rw [hvp] at q1; injection q1 with q1; injection q1 with q1 q4; subst q1 q4
      exact (O.cellAt q2 id _).trans (q3 m hm))
    have HVO := Lib.hid (show ∀ j, j < n → Vok wr (V j) from fun j hj => HV1.out.ok j hj)
    subst hvp
    have KD := Lib.hid (fun w' (O : Only (fun _ => False) wr w') => dcheck_calls (V i).kind (V i).nm (V i).help (V i).lp (V i).ln (V i).lc (V i).L w' hok.lnm hok.lhp hok.llb (hok.labs.still O) hok.lcap)
    have KH := Lib.hid (fun w' (O : Only (fun _ => False) wr w') => holds_calls p (V i) w' HP.out.1 HP.out.2 (hok.still O))
    have HVD : Hid (descE (V i).kind (V i).nm (V i).help (V i).ln (V i).L = vDesc (V i)) := Lib.hid rfl
    rw [HVD.out] at KD
    clear HE g2 hok HVD
    generalize hv : V i = v at *
    have HVV := Lib.hid hv; clear hv
    have u0 : wr.cell? ⟨b, o + i * 11, none⟩ = some (.int .i64 v.kind) := by have := HVI.out i h wr (Only.refl _ _) 0 (by omega); rw [HVV.out] at this; exact this
    have u1 : wr.cell? ⟨b, o + i * 11 + 1, none⟩ = some (.string ⟨v.nm.toArray⟩) := by have := HVI.out i h wr (Only.refl _ _) 1 (by omega); rw [HVV.out] at this; exact this
    have u2 : wr.cell? ⟨b, o + i * 11 + 2, none⟩ = some (.string ⟨v.help.toArray⟩) := by have := HVI.out i h wr (Only.refl _ _) 2 (by omega); rw [HVV.out] at this; exact this
    have u3 : wr.cell? ⟨b, o + i * 11 + 3, none⟩ = some (.slice v.lp v.ln v.lc) := by have := HVI.out i h wr (Only.refl _ _) 3 (by omega); rw [HVV.out] at this; exact this
    have u4 : wr.cell? ⟨b, o + i * 11 + 4, none⟩ = some (.int .i64 v.hi) := by have := HVI.out i h wr (Only.refl _ _) 4 (by omega); rw [HVV.out] at this; exact this
    have u5 : wr.cell? ⟨b, o + i * 11 + 5, none⟩ = some (.int .u64 (v.lo : Int)) := by have := HVI.out i h wr (Only.refl _ _) 5 (by omega); rw [HVV.out] at this; exact this
    have u6 : wr.cell? ⟨b, o + i * 11 + 6, none⟩ = some (.slice v.cp v.cn v.cc) := by have := HVI.out i h wr (Only.refl _ _) 6 (by omega); rw [HVV.out] at this; exact this
    have u7 : wr.cell? ⟨b, o + i * 11 + 7, none⟩ = some (.int .u64 (v.N : Int)) := by have := HVI.out i h wr (Only.refl _ _) 7 (by omega); rw [HVV.out] at this; exact this
    have u8 : wr.cell? ⟨b, o + i * 11 + 8, none⟩ = some (.float .f64 v.sum) := by have := HVI.out i h wr (Only.refl _ _) 8 (by omega); rw [HVV.out] at this; exact this
    have u9 : wr.cell? ⟨b, o + i * 11 + 9, none⟩ = some (.float .f64 v.mn) := by have := HVI.out i h wr (Only.refl _ _) 9 (by omega); rw [HVV.out] at this; exact this
    have u10 : wr.cell? ⟨b, o + i * 11 + 10, none⟩ = some (.float .f64 v.mx) := by have := HVI.out i h wr (Only.refl _ _) 10 (by omega); rw [HVV.out] at this; exact this
    go_upto_region 8 with fail
    have hvb := blk_new wr (.cells v.cells 42)
    have O2 := (Only.refl (fun _ => False) wr).alloc (.cells v.cells 42)
    unfold Vl.cells at hvb O2 KH
    generalize wr.alloc (.cells #[.int .i64 v.kind, .string ⟨v.nm.toArray⟩, .string ⟨v.help.toArray⟩, .slice v.lp v.ln v.lc, .int .i64 v.hi, .int .u64 (v.lo : Int), .slice v.cp v.cn v.cc, .int .u64 (v.N : Int), .float .f64 v.sum, .float .f64 v.mn, .float .f64 v.mx] 42) = w2 at *
    generalize wr.heap.size = vb at *
    have HVB := Lib.hid hvb; clear hvb
    have HO2 := Lib.hid O2; clear O2
    clear u0 u1 u2 u3 u4 u5 u6 u7 u8 u9 u10
    have x0 : w2.cell? ⟨vb, 0, none⟩ = some (.int .i64 v.kind) := by rw [blk_cell HVB.out]; rfl
    have x1 : w2.cell? ⟨vb, 1, none⟩ = some (.string ⟨v.nm.toArray⟩) := by rw [blk_cell HVB.out]; rfl
    have x2 : w2.cell? ⟨vb, 2, none⟩ = some (.string ⟨v.help.toArray⟩) := by rw [blk_cell HVB.out]; rfl
    have x3 : w2.cell? ⟨vb, 3, none⟩ = some (.slice v.lp v.ln v.lc) := by rw [blk_cell HVB.out]; rfl
    go_wp2_with fail
    refine (KD.out _ HO2.out).mono ?_
    rintro e w3 ⟨rfl, O3⟩
    have HVB3 := Lib.hid (O3.blk HVB.out (fun e => e))
    have HO3 := Lib.hid (HO2.out.trans O3)
    have HS3 := Lib.hid (HO3.out.blk HS1.out (fun e => e))
    clear O3 x0 x1 x2 x3 HVB HO2 KD
    by_cases hd : vDesc v = 0
    case neg =>
      have q : (vDesc v != 0) = true := by simp [hd]
      have HE3 := Lib.hid (show D = (vDesc v, (i : Int)) by rw [HE2.out, if_pos hd])
      clear HE2 hd
      generalize vDesc v = dv at *
      go_wp2_with fail
      go_ret2
      exact ⟨by rw [HE3.out]; rfl, (hO.out.trans HO1.out).trans HO3.out⟩
    have q : (vDesc v != 0) = false := by simp [hd]
    have HE3 := Lib.hid (show D = if holdsB p v = false then (2, (i : Int)) else if i = 0 then chkF p V (n - (i + 1)) 1
      else if vCmp (V (i - 1)) v = 0 then (10, (i : Int)) else if 0 < vCmp (V (i - 1)) v then (15, (i : Int)) else if ((V (i - 1)).nm == v.nm) = true ∧ alikeB (V (i - 1)) v = false then (12, (i : Int)) else chkF p V (n - (i + 1)) (i + 1) by rw [HE2.out, if_neg (fun e => e hd)])
    have HDD := Lib.hid hd
    have HLN := Lib.hid (descE_n hd)
    clear HE2 hd
    rw [HDD.out]
    clear q
    have x0 : w3.cell? ⟨vb, 0, none⟩ = some (.int .i64 v.kind) := by rw [blk_cell HVB3.out]; rfl
    have x1 : w3.cell? ⟨vb, 1, none⟩ = some (.string ⟨v.nm.toArray⟩) := by rw [blk_cell HVB3.out]; rfl
    have x2 : w3.cell? ⟨vb, 2, none⟩ = some (.string ⟨v.help.toArray⟩) := by rw [blk_cell HVB3.out]; rfl
    have x3 : w3.cell? ⟨vb, 3, none⟩ = some (.slice v.lp v.ln v.lc) := by rw [blk_cell HVB3.out]; rfl
    have x4 : w3.cell? ⟨vb, 4, none⟩ = some (.int .i64 v.hi) := by rw [blk_cell HVB3.out]; rfl
    have x5 : w3.cell? ⟨vb, 5, none⟩ = some (.int .u64 (v.lo : Int)) := by rw [blk_cell HVB3.out]; rfl
    have x6 : w3.cell? ⟨vb, 6, none⟩ = some (.slice v.cp v.cn v.cc) := by rw [blk_cell HVB3.out]; rfl
    have x7 : w3.cell? ⟨vb, 7, none⟩ = some (.int .u64 (v.N : Int)) := by rw [blk_cell HVB3.out]; rfl
    have x8 : w3.cell? ⟨vb, 8, none⟩ = some (.float .f64 v.sum) := by rw [blk_cell HVB3.out]; rfl
    have x9 : w3.cell? ⟨vb, 9, none⟩ = some (.float .f64 v.mn) := by rw [blk_cell HVB3.out]; rfl
    have x10 : w3.cell? ⟨vb, 10, none⟩ = some (.float .f64 v.mx) := by rw [blk_cell HVB3.out]; rfl
    have s0 : w3.cell? ⟨sb, 0, none⟩ = some (.int .i64 (p : Int)) := by rw [blk_cell HS3.out]; rfl
    go_wp2_with fail
    refine (KH.out _ HO3.out).mono ?_
    rintro e w4 ⟨rfl, O4⟩
    have HVB4 := Lib.hid (O4.blk HVB3.out (fun e => e))
    have HO4 := Lib.hid (HO3.out.trans O4)
    have HS4 := Lib.hid (O4.blk HS3.out (fun e => e))
    clear O4 x0 x1 x2 x3 x4 x5 x6 x7 x8 x9 x10 s0 HVB3 HO3 HS3 KH
    obtain ⟨hb, hhb⟩ : ∃ z, z = holdsB p v := ⟨_, rfl⟩
    rw [← hhb] at HE3 ⊢
    clear hhb
    cases hb
    · have HE4 := Lib.hid (show D = (2, (i : Int)) by rw [HE3.out, if_pos rfl])
      clear HE3
      go_wp2_with fail
      go_ret2
      exact ⟨by rw [HE4.out]; rfl, (hO.out.trans HO1.out).trans HO4.out⟩
    have HG2 := Lib.hid (show ∀ j, j < i + 1 → vDesc (V j) = 0 from fun j hj => by
      rcases Nat.lt_or_ge j i with g | g
      · exact HG.out j g
      · rw [show j = i by omega, HVV.out]; exact HDD.out)
    by_cases hi0 : i = 0
    · have q0 : ((i : Int) == 0) = true := by simp; omega
      have HE4 := Lib.hid (show D = chkF p V (n - (i + 1)) (i + 1) by rw [HE3.out, if_neg (by decide), if_pos hi0, hi0])
      clear HE3 hi0
      go_wp2_with fail
      refine ⟨⟨i + 1, congrArg (Value.int .i64) hw1, by omega, HO1.out.trans HO4.out, by rw [← HE4.out, HD1.out], HG2.out⟩, by rw [hw1]; simp only [intOf]; omega⟩
    have q0 : ((i : Int) == 0) = false := by simp; omega
    obtain ⟨k, hk⟩ : ∃ k, i = k + 1 := ⟨i - 1, by omega⟩
    have hkn : k < n := by omega
    have hwk : wrap64 ((i : Int) - 1) = (k : Int) := by rw [IntWalk.wrap64_in _ ⟨by omega, by have := HN.out; omega⟩]; omega
    have HE4 := Lib.hid (show D = if vCmp (V k) v = 0 then (10, (i : Int)) else if 0 < vCmp (V k) v then (15, (i : Int)) else if ((V k).nm == v.nm) = true ∧ alikeB (V k) v = false then (12, (i : Int)) else chkF p V (n - (i + 1)) (i + 1) by
      rw [HE3.out, if_neg (by decide), if_neg hi0, show i - 1 = k by omega])
    have HAL := Lib.hid (descE_n (HG.out k (by omega)))
    have HAO := Lib.hid (HVO.out k hkn)
    have HVO2 := Lib.hid (HVO.out i h)
    rw [HVV.out] at HVO2
    have HKI := Lib.hid hk
    clear HE3 hi0 hk
    generalize ha : V k = a at *
    have HVA := Lib.hid ha; clear ha
    have y0 : w4.cell? ⟨b, o + k * 11, none⟩ = some (.int .i64 a.kind) := by have := HVI.out k hkn w4 HO4.out 0 (by omega); rw [HVA.out] at this; exact this
    have y1 : w4.cell? ⟨b, o + k * 11 + 1, none⟩ = some (.string ⟨a.nm.toArray⟩) := by have := HVI.out k hkn w4 HO4.out 1 (by omega); rw [HVA.out] at this; exact this
    have y2 : w4.cell? ⟨b, o + k * 11 + 2, none⟩ = some (.string ⟨a.help.toArray⟩) := by have := HVI.out k hkn w4 HO4.out 2 (by omega); rw [HVA.out] at this; exact this
    have y3 : w4.cell? ⟨b, o + k * 11 + 3, none⟩ = some (.slice a.lp a.ln a.lc) := by have := HVI.out k hkn w4 HO4.out 3 (by omega); rw [HVA.out] at this; exact this
    have s1 : w4.cell? ⟨sb, 1, none⟩ = some (.slice (some ⟨b, o, none⟩) n c) := by rw [blk_cell HS4.out]; rfl
    have KC := Lib.hid (fun w' (O : Only (fun _ => False) wr w') => compare_calls a.kind v.kind a.nm v.nm (.string ⟨a.help.toArray⟩) (.string ⟨v.help.toArray⟩) a.lp v.lp a.ln a.lc v.ln v.lc a.L v.L w' (by have := HAL.out; omega) (by have := HLN.out; omega) (HAO.out.labs.still O) (HVO2.out.labs.still O) ⟨_, rfl⟩ ⟨_, rfl⟩)
    have HVC : Hid (descsC a.nm a.L a.ln v.nm v.L v.ln = vCmp a v) := Lib.hid rfl
    rw [HVC.out] at KC
    have KA := Lib.hid (fun w' => alike_calls a.kind v.kind (.string ⟨a.nm.toArray⟩) (.string ⟨v.nm.toArray⟩) a.help v.help (.slice a.lp a.ln a.lc) (.slice v.lp v.ln v.lc) w' ⟨_, rfl⟩ ⟨_, rfl⟩ ⟨_, _, _, rfl⟩ ⟨_, _, _, rfl⟩)
    have HVK : Hid ((decide (a.kind = v.kind) && (a.help == v.help)) = alikeB a v) := Lib.hid rfl
    rw [HVK.out] at KA
    clear HVC HVK
    go_upto_region 15 with fail
    have hab := blk_new w4 (.cells #[.int .i64 a.kind, .string ⟨a.nm.toArray⟩, .string ⟨a.help.toArray⟩, .slice a.lp a.ln a.lc] 36)
    have O5 := (Only.refl (fun _ => False) w4).alloc (.cells #[.int .i64 a.kind, .string ⟨a.nm.toArray⟩, .string ⟨a.help.toArray⟩, .slice a.lp a.ln a.lc] 36)
    generalize w4.alloc (.cells #[.int .i64 a.kind, .string ⟨a.nm.toArray⟩, .string ⟨a.help.toArray⟩, .slice a.lp a.ln a.lc] 36) = w5 at *
    generalize w4.heap.size = ab at *
    have HAB := Lib.hid hab; clear hab
    have HVB5 := Lib.hid (O5.blk HVB4.out (fun e => e))
    have HO5 := Lib.hid (HO4.out.trans O5)
    clear O5 y0 y1 y2 y3 s1 HS4 HVB4 HO4
    have z0 : w5.cell? ⟨ab, 0, none⟩ = some (.int .i64 a.kind) := by rw [blk_cell HAB.out]; rfl
    have z1 : w5.cell? ⟨ab, 1, none⟩ = some (.string ⟨a.nm.toArray⟩) := by rw [blk_cell HAB.out]; rfl
    have z2 : w5.cell? ⟨ab, 2, none⟩ = some (.string ⟨a.help.toArray⟩) := by rw [blk_cell HAB.out]; rfl
    have z3 : w5.cell? ⟨ab, 3, none⟩ = some (.slice a.lp a.ln a.lc) := by rw [blk_cell HAB.out]; rfl
    have x0 : w5.cell? ⟨vb, 0, none⟩ = some (.int .i64 v.kind) := by rw [blk_cell HVB5.out]; rfl
    have x1 : w5.cell? ⟨vb, 1, none⟩ = some (.string ⟨v.nm.toArray⟩) := by rw [blk_cell HVB5.out]; rfl
    have x2 : w5.cell? ⟨vb, 2, none⟩ = some (.string ⟨v.help.toArray⟩) := by rw [blk_cell HVB5.out]; rfl
    have x3 : w5.cell? ⟨vb, 3, none⟩ = some (.slice v.lp v.ln v.lc) := by rw [blk_cell HVB5.out]; rfl
    go_wp2_with fail
    refine (KC.out _ HO5.out).mono ?_
    rintro e w6 ⟨rfl, O6⟩
    have HAB6 := Lib.hid (O6.blk HAB.out (fun e => e))
    have HVB6 := Lib.hid (O6.blk HVB5.out (fun e => e))
    have HO6 := Lib.hid (HO5.out.trans O6)
    clear O6 z0 z1 z2 z3 x0 x1 x2 x3 HAB HVB5 HO5 KC
    obtain ⟨cc, hcc⟩ : ∃ z, z = vCmp a v := ⟨_, rfl⟩
    rw [← hcc] at HE4 ⊢
    clear hcc
    by_cases hc0 : cc = 0
    · have q1 : (cc == 0) = true := by simp [hc0]
      have HE5 := Lib.hid (show D = (10, (i : Int)) by rw [HE4.out, if_pos hc0])
      clear HE4 hc0
      go_wp2_with fail
      go_ret2
      exact ⟨by rw [HE5.out]; rfl, (hO.out.trans HO1.out).trans HO6.out⟩
    have q1 : (cc == 0) = false := by simp [hc0]
    by_cases hc1 : 0 < cc
    · have q2 : decide (0 < cc) = true := decide_eq_true hc1
      have HE5 := Lib.hid (show D = (15, (i : Int)) by rw [HE4.out, if_neg hc0, if_pos hc1])
      clear HE4 hc0 hc1
      go_wp2_with fail
      go_ret2
      exact ⟨by rw [HE5.out]; rfl, (hO.out.trans HO1.out).trans HO6.out⟩
    have q2 : decide (0 < cc) = false := decide_eq_false hc1
    have HE5 := Lib.hid (show D = if (a.nm == v.nm) = true ∧ alikeB a v = false then (12, (i : Int)) else chkF p V (n - (i + 1)) (i + 1) by rw [HE4.out, if_neg hc0, if_neg hc1])
    clear HE4 hc0 hc1
    have z0 : w6.cell? ⟨ab, 0, none⟩ = some (.int .i64 a.kind) := by rw [blk_cell HAB6.out]; rfl
    have z1 : w6.cell? ⟨ab, 1, none⟩ = some (.string ⟨a.nm.toArray⟩) := by rw [blk_cell HAB6.out]; rfl
    have z2 : w6.cell? ⟨ab, 2, none⟩ = some (.string ⟨a.help.toArray⟩) := by rw [blk_cell HAB6.out]; rfl
    have z3 : w6.cell? ⟨ab, 3, none⟩ = some (.slice a.lp a.ln a.lc) := by rw [blk_cell HAB6.out]; rfl
    have x0 : w6.cell? ⟨vb, 0, none⟩ = some (.int .i64 v.kind) := by rw [blk_cell HVB6.out]; rfl
    have x1 : w6.cell? ⟨vb, 1, none⟩ = some (.string ⟨v.nm.toArray⟩) := by rw [blk_cell HVB6.out]; rfl
    have x2 : w6.cell? ⟨vb, 2, none⟩ = some (.string ⟨v.help.toArray⟩) := by rw [blk_cell HVB6.out]; rfl
    have x3 : w6.cell? ⟨vb, 3, none⟩ = some (.slice v.lp v.ln v.lc) := by rw [blk_cell HVB6.out]; rfl
    rcases hnb : (a.nm == v.nm) with _ | _
    · have HE6 := Lib.hid (show D = chkF p V (n - (i + 1)) (i + 1) by rw [HE5.out, if_neg (by rw [hnb]; simp)])
      clear HE5
      go_wp2_with fail
      exact ⟨⟨i + 1, congrArg (Value.int .i64) hw1, by omega, HO1.out.trans HO6.out, by rw [← HE6.out, HD1.out], HG2.out⟩, by rw [hw1]; simp only [intOf]; omega⟩
    · obtain ⟨al, hal⟩ : ∃ z, z = alikeB a v := ⟨_, rfl⟩
      rw [← hal] at HE5 KA
      clear hal
      go_wp2_with fail
      refine (KA.out _).mono ?_
      rintro e w7 ⟨rfl, O7⟩
      have HO7 := Lib.hid (HO6.out.trans O7)
      clear O7 z0 z1 z2 z3 x0 x1 x2 x3
      cases al
      · have HE6 := Lib.hid (show D = (12, (i : Int)) by rw [HE5.out, if_pos ⟨hnb, rfl⟩])
        clear HE5
        go_wp2_with fail
        go_ret2
        exact ⟨by rw [HE6.out]; rfl, (hO.out.trans HO1.out).trans HO7.out⟩
      · have HE6 := Lib.hid (show D = chkF p V (n - (i + 1)) (i + 1) by rw [HE5.out, if_neg (by simp)])
        clear HE5
        go_wp2_with fail
        exact ⟨⟨i + 1, congrArg (Value.int .i64) hw1, by omega, HO1.out.trans HO7.out, by rw [← HE6.out, HD1.out], HG2.out⟩, by rw [hw1]; simp only [intOf]; omega⟩
end Go.Proofs.YtiijgghholhcnaaGreatDoor
