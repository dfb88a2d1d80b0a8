/- The walk of snap.holds at any value. -/
import Derived.Test.YtiijgghholhcnaaGreatDoorJL37
import Derived.Test.YtiijgghholhcnaaGreatDoorJL38
namespace Go.Proofs.YtiijgghholhcnaaGreatDoor
open Go.RowKit
set_option maxRecDepth 1000000
/-- does a value hold what it may? -/
def holdsB (p : Nat) (V : Vl) : Bool :=
  if V.kind = 1 then decide (V.cn = 0) && decide (V.N = 0) && zerosB V.sum V.mn V.mx && decide (0 ≤ cmpW V.hi V.lo 0 0)
  else if V.kind = 2 then zerosB V.sum V.mn V.mx && histB p V
  else if ¬ (V.hi = 0 ∧ V.lo = 0) then false else if 0 < V.cn then false else if 9223372036854775807 < V.N then false else if finiteB V.sum V.mn V.mx = false then false
  else if V.N = 0 then zerosB V.sum V.mn V.mx else decide (Re.fcmp V.mn V.mx ≤ 0)
set_option maxHeartbeats 4000000 in
theorem holds_calls (p : Nat) (V : Vl) (w : World) (hp1 : 1 ≤ p) (hp2 : p ≤ 14) (hV : Vok w V) :
    Calls Tryz.prog 27 #[.int .i64 (p : Int), .agg V.cells] w fun e w' => e = .returned (.bool (holdsB p V)) ∧ Only (fun _ => False) w w' := by
  obtain ⟨D, hD⟩ : ∃ D, D = holdsB p V := ⟨_, rfl⟩
  rw [← hD]
  unfold holdsB at hD
  have HD := Lib.hid hD; clear hD
  have KH := Lib.hid (fun w' (O : Only (fun _ => False) w w') => hist_calls p V w' hp1 hp2 (hV.still O))
  obtain ⟨hb, hhb⟩ : ∃ b, b = histB p V := ⟨_, rfl⟩
  rw [← hhb] at KH HD
  clear hhb
  have HC := Lib.hid (And.intro hV.cs (And.intro hV.cmn (And.intro hV.cmx (And.intro hV.cN hV.ccap))))
  clear hV
  obtain ⟨kind, nm, help, lp, ln, lc, L, hh, lo, cp, cn, cc, X, C, N, sum, mn, mx⟩ := V
  unfold Vl.cells at *
  dsimp only at *
  have ks1 := run_stf
  have KZ := Lib.hid (fun b w h0 h1 h2 => zeros_calls b sum mn mx w h0 h1 h2)
  have KF := Lib.hid (fun b w h0 h1 h2 => finite_calls b sum mn mx w HC.out.1 HC.out.2.1 HC.out.2.2.1 h0 h1 h2)
  have KS := Lib.hid (fun w => wsign_calls hh lo w)
  have KC := Lib.hid (fun w => Re.compare_calls mn mx w)
  obtain ⟨zb, hzb⟩ : ∃ z, z = zerosB sum mn mx := ⟨_, rfl⟩
  obtain ⟨fb, hfb⟩ : ∃ z, z = finiteB sum mn mx := ⟨_, rfl⟩
  obtain ⟨sg, hsg⟩ : ∃ z, z = cmpW hh lo 0 0 := ⟨_, rfl⟩
  obtain ⟨fc, hfc⟩ : ∃ z, z = Re.fcmp mn mx := ⟨_, rfl⟩
  rw [← hzb] at KZ HD
  rw [← hfb] at KF HD
  rw [← hsg] at KS HD
  rw [← hfc] at KC HD
  clear hzb hfb hsg hfc
  go_enter Tryz.func27, Tryz.ntmps27
  go_upto_region 1 with fail
  have hb1 := blk_new w (.cells #[.int .i64 kind, .string ⟨nm.toArray⟩, .string ⟨help.toArray⟩, .slice lp ln lc, .int .i64 hh, .int .u64 (lo : Int), .slice cp cn cc, .int .u64 (N : Int), .float .f64 sum, .float .f64 mn, .float .f64 mx] 42)
  have hO := Lib.hid ((Only.refl (fun _ => False) w).alloc (.cells #[.int .i64 kind, .string ⟨nm.toArray⟩, .string ⟨help.toArray⟩, .slice lp ln lc, .int .i64 hh, .int .u64 (lo : Int), .slice cp cn cc, .int .u64 (N : Int), .float .f64 sum, .float .f64 mn, .float .f64 mx] 42))
  generalize w.alloc (.cells #[.int .i64 kind, .string ⟨nm.toArray⟩, .string ⟨help.toArray⟩, .slice lp ln lc, .int .i64 hh, .int .u64 (lo : Int), .slice cp cn cc, .int .u64 (N : Int), .float .f64 sum, .float .f64 mn, .float .f64 mx] 42) = W at *
  generalize w.heap.size = vb at *
  have HBk := Lib.hid hb1
  have c0 : W.cell? ⟨vb, 0, none⟩ = some (.int .i64 kind) := by rw [blk_cell hb1]; rfl
  have c1 : W.cell? ⟨vb, 1, none⟩ = some (.string ⟨nm.toArray⟩) := by rw [blk_cell hb1]; rfl
  have c2 : W.cell? ⟨vb, 2, none⟩ = some (.string ⟨help.toArray⟩) := by rw [blk_cell hb1]; rfl
  have c3 : W.cell? ⟨vb, 3, none⟩ = some (.slice lp ln lc) := by rw [blk_cell hb1]; rfl
  have c4 : W.cell? ⟨vb, 4, none⟩ = some (.int .i64 hh) := by rw [blk_cell hb1]; rfl
  have c5 : W.cell? ⟨vb, 5, none⟩ = some (.int .u64 (lo : Int)) := by rw [blk_cell hb1]; rfl
  have c6 : W.cell? ⟨vb, 6, none⟩ = some (.slice cp cn cc) := by rw [blk_cell hb1]; rfl
  have c7 : W.cell? ⟨vb, 7, none⟩ = some (.int .u64 (N : Int)) := by rw [blk_cell hb1]; rfl
  have c8 : W.cell? ⟨vb, 8, none⟩ = some (.float .f64 sum) := by rw [blk_cell hb1]; rfl
  have c9 : W.cell? ⟨vb, 9, none⟩ = some (.float .f64 mn) := by rw [blk_cell hb1]; rfl
  have c10 : W.cell? ⟨vb, 10, none⟩ = some (.float .f64 mx) := by rw [blk_cell hb1]; rfl
  clear hb1
  -- the three floats in a block of their own
  have hA := blk_new W (.cells #[.float .f64 sum, .float .f64 mn, .float .f64 mx] 40)
  have OA := (Only.refl (fun _ => False) W).alloc (.cells #[.float .f64 sum, .float .f64 mn, .float .f64 mx] 40)
  have KZA := Lib.hid (KZ.out W.heap.size (W.alloc (.cells #[.float .f64 sum, .float .f64 mn, .float .f64 mx] 40)) (by rw [blk_cell hA]; rfl) (by rw [blk_cell hA]; rfl) (by rw [blk_cell hA]; rfl))
  have KFA := Lib.hid (KF.out W.heap.size (W.alloc (.cells #[.float .f64 sum, .float .f64 mn, .float .f64 mx] 40)) (by rw [blk_cell hA]; rfl) (by rw [blk_cell hA]; rfl) (by rw [blk_cell hA]; rfl))
  have HOA := Lib.hid OA
  have HBA := Lib.hid (OA.blk HBk.out (fun e => e))
  clear hA OA
  generalize hW2 : W.alloc (.cells #[.float .f64 sum, .float .f64 mn, .float .f64 mx] 40) = W2 at *
  have HW2 := Lib.hid hW2; clear hW2
  have d4 : W2.cell? ⟨vb, 4, none⟩ = some (.int .i64 hh) := by rw [blk_cell HBA.out]; rfl
  have d5 : W2.cell? ⟨vb, 5, none⟩ = some (.int .u64 (lo : Int)) := by rw [blk_cell HBA.out]; rfl
  by_cases k1 : kind = 1
  · subst k1
    have HD1 := Lib.hid (show D = (decide (cn = 0) && decide (N = 0) && zb && decide (0 ≤ sg)) by rw [HD.out, if_pos rfl])
    clear HD KF KFA KC KH
    by_cases g1 : cn = 0
    · by_cases g2 : N = 0
      · have e1 : ((cn : Int) == 0) = true := by simp; omega
        have e2 : ((N : Int) == 0) = true := by simp; omega
        have HD2 := Lib.hid (show D = (zb && decide (0 ≤ sg)) by rw [HD1.out, decide_eq_true g1, decide_eq_true g2]; rfl)
        clear HD1 g1 g2
        go_wp2_with fail
        rw [HW2.out]
        refine KZA.out.mono ?_
        rintro e w2 ⟨rfl, hw⟩; rw [hw]; clear hw w2
        cases zb
        · go_wp2_with fail
          go_ret
          exact ⟨by rw [HD2.out]; rfl, hO.out.trans HOA.out⟩
        · go_wp2_with fail
          refine (KS.out _).mono ?_
          rintro e w3 ⟨rfl, O3⟩
          have HO3 := Lib.hid ((hO.out.trans HOA.out).trans O3)
          clear O3
          go_wp2_with fail
          go_ret
          exact ⟨by rw [HD2.out]; rfl, HO3.out⟩
      · have e1 : ((cn : Int) == 0) = true := by simp; omega
        have e2 : ((N : Int) == 0) = false := by simp; omega
        have HD2 := Lib.hid (show D = false by rw [HD1.out, decide_eq_false g2]; simp)
        clear HD1 g1 g2
        go_wp2_with fail
        go_ret
        exact ⟨by rw [HD2.out]; rfl, hO.out⟩
    · have e1 : ((cn : Int) == 0) = false := by simp; omega
      have HD2 := Lib.hid (show D = false by rw [HD1.out, decide_eq_false g1]; rfl)
      clear HD1 g1
      go_wp2_with fail
      go_ret
      exact ⟨by rw [HD2.out]; rfl, hO.out⟩
  by_cases k2 : kind = 2
  · subst k2
    have HD1 := Lib.hid (show D = (zb && hb) by rw [HD.out, if_neg k1, if_pos rfl])
    clear HD KF KFA KC KS k1
    go_wp2_with fail
    rw [HW2.out]
    refine KZA.out.mono ?_
    rintro e w2 ⟨rfl, hw⟩; rw [hw]; clear hw w2
    cases zb
    · go_wp2_with fail
      go_ret
      exact ⟨by rw [HD1.out]; rfl, hO.out.trans HOA.out⟩
    · have HO2 := Lib.hid (hO.out.trans HOA.out)
      have e0 : W2.cell? ⟨vb, 0, none⟩ = some (.int .i64 2) := by rw [blk_cell HBA.out]; rfl
      have e1 : W2.cell? ⟨vb, 1, none⟩ = some (.string ⟨nm.toArray⟩) := by rw [blk_cell HBA.out]; rfl
      have e2 : W2.cell? ⟨vb, 2, none⟩ = some (.string ⟨help.toArray⟩) := by rw [blk_cell HBA.out]; rfl
      have e3 : W2.cell? ⟨vb, 3, none⟩ = some (.slice lp ln lc) := by rw [blk_cell HBA.out]; rfl
      have e6 : W2.cell? ⟨vb, 6, none⟩ = some (.slice cp cn cc) := by rw [blk_cell HBA.out]; rfl
      have e7 : W2.cell? ⟨vb, 7, none⟩ = some (.int .u64 (N : Int)) := by rw [blk_cell HBA.out]; rfl
      have e8 : W2.cell? ⟨vb, 8, none⟩ = some (.float .f64 sum) := by rw [blk_cell HBA.out]; rfl
      have e9 : W2.cell? ⟨vb, 9, none⟩ = some (.float .f64 mn) := by rw [blk_cell HBA.out]; rfl
      have e10 : W2.cell? ⟨vb, 10, none⟩ = some (.float .f64 mx) := by rw [blk_cell HBA.out]; rfl
      go_wp2_with fail
      refine (KH.out _ HO2.out).mono ?_
      rintro e w3 ⟨rfl, O3⟩
      have HO3 := Lib.hid (HO2.out.trans O3)
      clear O3
      go_wp2_with fail
      go_ret
      exact ⟨by rw [HD1.out]; rfl, HO3.out⟩
  have q1 : (kind == 1) = false := by simp; omega
  have q2 : (kind == 2) = false := by simp; omega
  have HD1 := Lib.hid (show D = if ¬ (hh = 0 ∧ lo = 0) then false else if 0 < cn then false else if 9223372036854775807 < N then false else if fb = false then false else if N = 0 then zb else decide (fc ≤ 0) by rw [HD.out, if_neg k1, if_neg k2])
  clear HD KH KS k1 k2
  by_cases g1 : hh = 0 ∧ lo = 0
  case neg =>
    have kne : ∀ w, Sem.run Tryz.prog (binOp .neq 38 (.agg #[.int .i64 hh, .int .u64 (lo : Int)]) (.agg #[.int .i64 0, .int .u64 0])) w = .ok (.bool true) w := fun w => by
      rw [run_ne38]
      have : (hh == 0 && (lo : Int) == 0) = false := by
        rw [Bool.and_eq_false_iff]
        rcases Classical.not_and_iff_not_or_not.1 g1 with e | e
        · exact .inl (by simpa using e)
        · exact .inr (by simp; omega)
      rw [this]; rfl
    have HD2 := Lib.hid (show D = false by rw [HD1.out, if_pos g1])
    clear HD1 g1
    go_wp2_with fail
    go_ret
    exact ⟨by rw [HD2.out]; rfl, hO.out⟩
  have kne : ∀ w, Sem.run Tryz.prog (binOp .neq 38 (.agg #[.int .i64 hh, .int .u64 (lo : Int)]) (.agg #[.int .i64 0, .int .u64 0])) w = .ok (.bool false) w := fun w => by
    rw [run_ne38, g1.1, g1.2]; rfl
  by_cases g2 : 0 < cn
  · have e1 : decide ((0 : Int) < (cn : Int)) = true := decide_eq_true (by omega)
    have HD2 := Lib.hid (show D = false by rw [HD1.out, if_neg (fun e => e g1), if_pos g2])
    clear HD1 g1
    go_wp2_with fail
    go_ret
    exact ⟨by rw [HD2.out]; rfl, hO.out⟩
  obtain rfl : cn = 0 := by omega
  by_cases g3 : 9223372036854775807 < N
  · have e3 : decide ((9223372036854775807 : Int) < (N : Int)) = true := decide_eq_true (by omega)
    have HD2 := Lib.hid (show D = false by rw [HD1.out, if_neg (fun e => e g1), if_neg g2, if_pos g3])
    clear HD1 g1 g3 g2
    go_wp2_with fail
    go_ret
    exact ⟨by rw [HD2.out]; rfl, hO.out⟩
  have e3 : decide ((9223372036854775807 : Int) < (N : Int)) = false := decide_eq_false (by omega)
  have HD2 := Lib.hid (show D = if fb = false then false else if N = 0 then zb else decide (fc ≤ 0) by rw [HD1.out, if_neg (fun e => e g1), if_neg g2, if_neg g3])
  clear HD1 g1 g2 g3
  go_upto_region 8 with fail
  rw [HW2.out]
  refine KFA.out.mono ?_
  rintro e w2 ⟨rfl, hw⟩; rw [hw]; clear hw w2
  cases fb
  · go_wp2_with fail
    go_ret
    exact ⟨by rw [HD2.out]; rfl, hO.out.trans HOA.out⟩
  have HO2 := Lib.hid (hO.out.trans HOA.out)
  have f7 : W2.cell? ⟨vb, 7, none⟩ = some (.int .u64 (N : Int)) := by rw [blk_cell HBA.out]; rfl
  have f8 : W2.cell? ⟨vb, 8, none⟩ = some (.float .f64 sum) := by rw [blk_cell HBA.out]; rfl
  have f9 : W2.cell? ⟨vb, 9, none⟩ = some (.float .f64 mn) := by rw [blk_cell HBA.out]; rfl
  have f10 : W2.cell? ⟨vb, 10, none⟩ = some (.float .f64 mx) := by rw [blk_cell HBA.out]; rfl
  by_cases g4 : N = 0
  · have e4 : ((N : Int) == 0) = true := by simp; omega
    have HD3 := Lib.hid (show D = zb by rw [HD2.out, if_neg (by decide), if_pos g4])
    clear HD2 g4
    have hA := blk_new W2 (.cells #[.float .f64 sum, .float .f64 mn, .float .f64 mx] 40)
    have KZB := Lib.hid (KZ.out W2.heap.size (W2.alloc (.cells #[.float .f64 sum, .float .f64 mn, .float .f64 mx] 40)) (by rw [blk_cell hA]; rfl) (by rw [blk_cell hA]; rfl) (by rw [blk_cell hA]; rfl))
    clear hA
    go_wp2_with fail
    refine KZB.out.mono ?_
    rintro e w2 ⟨rfl, hw⟩; rw [hw]; clear hw w2
    go_wp2_with fail
    go_ret
    exact ⟨by rw [HD3.out]; rfl, HO2.out.alloc _⟩
  · have e4 : ((N : Int) == 0) = false := by simp; omega
    have HD3 := Lib.hid (show D = decide (fc ≤ 0) by rw [HD2.out, if_neg (by decide), if_neg g4])
    clear HD2 g4
    go_wp2_with fail
    refine (KC.out _).mono ?_
    rintro e w2 ⟨rfl, hw⟩; rw [hw]; clear hw w2
    go_wp2_with fail
    go_ret
    exact ⟨by rw [HD3.out]; rfl, HO2.out⟩
end Go.Proofs.YtiijgghholhcnaaGreatDoor
