/- The walk of RecorderTurns. -/
import Derived.Test.YtimiojckinpfdaaTurns2
import Derived.Laws.StructEq
namespace Go.Proofs.Ytimiojckinpfdaa
open Go.RowKit

theorem run_ne35 (h l : Int) (w : World) : Sem.run Try.prog (binOp .neq 35 (.agg #[.int .i64 h, .int .u64 l]) (.agg #[.int .i64 h, .int .u64 l])) w = .ok (.bool false) w := by
  have u3 := Try.underlying2
  have u4 := Try.underlying33
  have hS : Try.prog.underlying 35 = some (.struct (Try.prog.fieldsOf 35)) := by kernel_rfl
  have hp : Try.prog.stoodInHeld 35 = false := by kernel_rfl
  rw [run_neq_struct, show (10000 : Nat) = 9999 + 1 from rfl, run_equalIn_struct w 9999 35 _ _ hS hp]
  simp only [Program.fieldsOf, Try.underlying35]
  go_simp
/-- the law's argument: rows of numbers that lay there -/
structure Rd (w : World) (pa : Option Addr) (len : Nat) (Ln : Nat → Nat) (Z : Nat → Nat → Int) : Prop where
  row : ∀ r, r < len → ∃ ob oo A C, pa = some ⟨ob, oo, none⟩ ∧ w.cell? ⟨ob, oo + r, none⟩ = some (.slice A (Ln r) C) ∧ Ln r ≤ 9223372036854775807 ∧
    ∀ k, k < Ln r → ∃ ab ao, A = some ⟨ab, ao, none⟩ ∧ w.cell? ⟨ab, ao + k, none⟩ = some (.int .i64 (Z r k)) ∧ Z r k ≤ 9223372036854775807
theorem RecAt.lower {base base' sh ph : Nat} {act : Int} {rf : Nat → Int} {now start : Int} {en : Nat → Int} {w : World} (h : RecAt base sh ph act rf now start en w) (hb : base' ≤ base) : RecAt base' sh ph act rf now start en w :=
  ⟨Nat.le_trans hb h.sge, Nat.le_trans hb h.pge, h.sobj, h.pobj⟩
/-- in a round: the law's own sum, and how many were refused -/
def InAt (w : World) (sh ph s c lb : Nat) (rb : Nat → Nat) (u : Nat → Value) (L : Nat → Nat) (R : Nat → Nat → Nat) (b sb k : Nat) (v : Value) (wr : World) : Prop :=
  ∃ hi lo rfb : Int, v = .int .u64 rfb ∧ 0 ≤ rfb ∧ rfb ≤ k ∧ TS w sh ph s c lb rb u L R b rfb k (T hi lo) wr ∧ wr.heap[sb]? = some (.cells #[.int .i64 hi, .int .u64 lo] 35 (0, 0)) ∧ 0 ≤ lo ∧ lo ≤ 18446744073709551615 ∧ (-9223372036854775808 ≤ hi ∧ hi ≤ 9223372036854775807)
def rbOf (r0 r1 r2 : Nat) (j : Nat) : Nat := if j = 0 then r0 else if j = 1 then r1 else r2

set_option maxRecDepth 200000 in
set_option maxHeartbeats 8000000 in
theorem turns_calls (pa : Option Addr) (len cap : Nat) (Ln : Nat → Nat) (Z : Nat → Nat → Int) (w : World) (hlen : len ≤ 9223372036854775807) (hr : Rd w pa len Ln Z) :
    Calls Try.prog 6 #[.slice pa len cap] w fun e w' => e = .returned (.bool true) ∧ Only (fun _ => False) w w' := by
  have HRd := Lib.hid hr; clear hr
  have hne := run_ne35
  have hp1 := run_pn24
  have hp2 := run_pn76
  have hp3 := run_pn78
  go_enter Try.func6, Try.ntmps6
  go_wp2_with fail
  refine (awake_calls w).mono ?_
  rintro e w1 ⟨rfl, O1⟩
  go_wp2_with fail
  refine (recnew_calls w1).mono ?_
  rintro e w2 ⟨sh, ph, rfl, O2, R2⟩
  have HN := Lib.hid (new_1 3 1 w2 (by decide) 3 rfl)
  have HO2 := Lib.hid (O1.trans O2)
  have HR2 := Lib.hid (R2.lower O1.size)
  clear R2 O1 O2
  go_wp2_with fail
  refine HN.out.mono ?_
  rintro e w3 ⟨s, c, rfl, O3, u, L, R, V, hS, hV⟩
  have hV' : ∀ b i k, b < 2 → i < 3 → k < 2 → V b i k = 0 := fun b i k h1 h2 h3 => by
    rw [hV b i k h1 h2 h3 (.inl h1), first_1]
  have HV := Lib.hid hV'
  have HS3 : Hid (SlabAt w.heap.size s c 1 1 3 2 u L R V w3) := Lib.hid (hS.lower HO2.out.size)
  have HR3 := Lib.hid (HR2.out.only O3 (by simp) (by simp))
  have HO3 := Lib.hid (HO2.out.trans O3)
  clear hS hV hV' HN O3 HO2 HR2
  go_wp2_with fail
  refine (recorder_calls sh 0 w3).mono ?_
  rintro e w4 ⟨rfl, hw⟩
  have O4 : Only (fun _ => False) w3 w4 := by rw [hw]; exact (Only.refl _ w3).alloc _
  have B0_4 : Hid (w4.heap[w3.heap.size]? = some (.cells #[.pointer (some ⟨sh, 0, none⟩), .int .i64 ((0 : Nat) : Int), .bool false] 140 (0, 0))) := Lib.hid (by rw [hw]; exact blk_new _ _)

  have HS4 := Lib.hid (HS3.out.only O4)
  have HR4 := Lib.hid (HR3.out.only O4 (by simp) (by simp))
  have HO4 := Lib.hid (HO3.out.trans O4)
  clear hw O4 HO3 HR3 HS3 
  generalize w3.heap.size = r0 at *
  go_wp2_with fail
  refine (recorder_calls sh 1 w4).mono ?_
  rintro e w5 ⟨rfl, hw⟩
  have O5 : Only (fun _ => False) w4 w5 := by rw [hw]; exact (Only.refl _ w4).alloc _
  have B1_5 : Hid (w5.heap[w4.heap.size]? = some (.cells #[.pointer (some ⟨sh, 0, none⟩), .int .i64 ((1 : Nat) : Int), .bool false] 140 (0, 0))) := Lib.hid (by rw [hw]; exact blk_new _ _)
  have B0_5 := Lib.hid (O5.blk B0_4.out (by simp))
  have HS5 := Lib.hid (HS4.out.only O5)
  have HR5 := Lib.hid (HR4.out.only O5 (by simp) (by simp))
  have HO5 := Lib.hid (HO4.out.trans O5)
  clear hw O5 HO4 HR4 HS4 B0_4
  generalize w4.heap.size = r1 at *
  go_wp2_with fail
  refine (recorder_calls sh 2 w5).mono ?_
  rintro e w6 ⟨rfl, hw⟩
  have O6 : Only (fun _ => False) w5 w6 := by rw [hw]; exact (Only.refl _ w5).alloc _
  have B2_6 : Hid (w6.heap[w5.heap.size]? = some (.cells #[.pointer (some ⟨sh, 0, none⟩), .int .i64 ((2 : Nat) : Int), .bool false] 140 (0, 0))) := Lib.hid (by rw [hw]; exact blk_new _ _)
  have B0_6 := Lib.hid (O6.blk B0_5.out (by simp))
  have B1_6 := Lib.hid (O6.blk B1_5.out (by simp))
  have HS6 := Lib.hid (HS5.out.only O6)
  have HR6 := Lib.hid (HR5.out.only O6 (by simp) (by simp))
  have HO6 := Lib.hid (HO5.out.trans O6)
  clear hw O6 HO5 HR5 HS5 B0_5 B1_5
  generalize w5.heap.size = r2 at *
  have hTS : TS w sh ph s c w6.heap.size (rbOf r0 r1 r2) u L R 0 0 0 0 (w6.alloc (.cells #[.pointer (some ⟨r0, 0, none⟩), .pointer (some ⟨r1, 0, none⟩), .pointer (some ⟨r2, 0, none⟩)] 78)) := by
    have OA : Only (fun _ => False) w6 (w6.alloc (.cells #[.pointer (some ⟨r0, 0, none⟩), .pointer (some ⟨r1, 0, none⟩), .pointer (some ⟨r2, 0, none⟩)] 78)) := (Only.refl _ w6).alloc _
    refine ⟨HO6.out.trans OA, ⟨_, _, HR6.out.only OA (by simp) (by simp), rfl, rfl, rfl⟩, ⟨V, HS6.out.only OA, fun i j hi hj => HV.out _ i j (by decide) hi hj, tot_zero _ _ (fun i hi => ⟨HV.out _ i 0 (by decide) hi (by decide), HV.out _ i 1 (by decide) hi (by decide)⟩), fun i hi => by rw [HV.out 0 i 0 (by decide) hi (by decide)]; decide⟩, blk_new _ _, fun j hj => ?_⟩
    have hcs : j = 0 ∨ j = 1 ∨ j = 2 := by omega
    rcases hcs with rfl | rfl | rfl
    · exact OA.blk B0_6.out (by simp)
    · exact OA.blk B1_6.out (by simp)
    · exact OA.blk B2_6.out (by simp)
  have HTS := Lib.hid hTS
  clear hTS HO6 HR6 HS6 B0_6 B1_6 B2_6 HV
  go_wp2_with fail
  generalize w6.alloc (.cells #[.pointer (some ⟨r0, 0, none⟩), .pointer (some ⟨r1, 0, none⟩), .pointer (some ⟨r2, 0, none⟩)] 78) = w7 at *
  generalize w6.heap.size = lb at *
  go_loopw [7] (fun v wr => ∃ i : Nat, i ≤ len ∧ v = .int .i64 i ∧ ((i % 2 = 0 ∧ TS w sh ph s c lb (rbOf r0 r1 r2) u L R 0 0 0 0 wr) ∨ (i % 2 = 1 ∧ TS w sh ph s c lb (rbOf r0 r1 r2) u L R 1 0 0 0 wr))) (fun v _ => len - (intOf v).toNat)
  case atStart => exact ⟨0, by omega, rfl, .inl ⟨rfl, HTS.out⟩⟩
  case round =>
    obtain ⟨i, hi, rfl, hcase⟩ := hrel
    clear HTS
    by_cases hlt : i < len
    · rcases hcase with ⟨hmod, hI⟩ | ⟨hmod, hI⟩
      · have hstart := 0; clear hstart
        obtain ⟨ob, oo, A, C, rfl, hcell, hLn, hrow⟩ := HRd.out.row i hlt
        have HC := Lib.hid hcell; have HRow := Lib.hid hrow
        clear hcell hrow
        have HI := Lib.hid hI
        have c0 : (wr.alloc (.cells #[.int .i64 0, .int .u64 0] 35)).cell? ⟨ob, oo + i, none⟩ = some (.slice A (Ln i) C) := (HI.out.only.alloc _).cel HC.out (by simp)
        have hIn : InAt w sh ph s c lb (rbOf r0 r1 r2) u L R 0 wr.heap.size 0 (.int .u64 0) (wr.alloc (.cells #[.int .i64 0, .int .u64 0] 35)) := ⟨0, 0, 0, rfl, by decide, by decide, HI.out.next ((Only.refl _ wr).alloc _), blk_new _ _, by decide, by decide, by decide⟩
        have HIn := Lib.hid hIn
        have hsb := Lib.hid (HI.out.only.size)
        clear hI hIn HI
        go_wp2_with fail
        clear c0
        generalize wr.alloc (.cells #[.int .i64 0, .int .u64 0] 35) = w8 at *
        generalize wr.heap.size = sb at *
        go_loopw [9, 10] (fun rv kv wk => ∃ k : Nat, k ≤ Ln i ∧ kv = .int .i64 k ∧ InAt w sh ph s c lb (rbOf r0 r1 r2) u L R 0 sb k rv wk) (fun _ kv _ => Ln i - (intOf kv).toNat)
        case atStart => exact ⟨0, by omega, rfl, HIn.out⟩
        case round =>
          obtain ⟨k, hk, rfl, hK⟩ := hrel
          clear HIn
          obtain ⟨hi, lo, rfb, rfl, q0, q1, hT, hsum, q2, q3, q4⟩ := hK
          have HT := Lib.hid hT; have HSm := Lib.hid hsum
          have c0 := hT.only.cel HC.out (by simp)
          clear hT hsum
          by_cases hkl : k < Ln i
          · obtain ⟨ab, ao, rfl, hz, hzr⟩ := HRow.out k hkl
            have c1 := HT.out.only.cel hz (by simp)
            clear hz
            have l0 : wr.cell? ⟨lb, 0, none⟩ = some (.pointer (some ⟨r0, 0, none⟩)) := by rw [blk_cell HT.out.lobj]; rfl
            have l1 : wr.cell? ⟨lb, 1, none⟩ = some (.pointer (some ⟨r1, 0, none⟩)) := by rw [blk_cell HT.out.lobj]; rfl
            have l2 : wr.cell? ⟨lb, 2, none⟩ = some (.pointer (some ⟨r2, 0, none⟩)) := by rw [blk_cell HT.out.lobj]; rfl
            generalize Z i k = z at *
            have hcs : k % 3 = 0 ∨ k % 3 = 1 ∨ k % 3 = 2 := by omega
            rcases hcs with h3 | h3 | h3
            · have h3' : (k : Int) % 3 = 0 := by omega
              clear h3
              have K : Calls Try.prog 30 #[.pointer (some ⟨r0, 0, none⟩), .pointer none, .pointer (some ⟨s, 0, none⟩), .int .i64 z] wr (TSadd w sh ph s c lb (rbOf r0 r1 r2) u L R 0 rfb k (T hi lo) z wr) := HT.out.add_calls (by decide) (by omega) q0 q1 0 (by decide) z hzr
              have HK := Lib.hid K
              clear K
              have HSb := hsb
              by_cases hz0 : z ≥ 0
              · have d1 : decide (z < 0) = false := decide_eq_false (by omega)
                have d2 : decide (z ≥ 0) = true := decide_eq_true hz0
                have hzN : IntKind.u64.wrap z = z := by rw [u64_mod]; omega
                have HE := Lib.hid (T_law hi lo z q2 q3 hz0 hzr)
                have HZ := Lib.hid hz0
                by_cases hcar : IntKind.u64.wrap (lo + z) < z
                · have d3 : decide (IntKind.u64.wrap (lo + z) < z) = true := decide_eq_true hcar
                  have hE2 := HE.out
                  rw [if_pos hcar] at hE2
                  have HE2 := Lib.hid hE2
                  clear hcar hE2 HE hz0
                  go_wp2_with fail
                  refine HK.out.mono ?_
                  intro e w9 hq
                  unfold TSadd at hq
                  rw [if_pos (by have := HZ.out; omega)] at hq
                  obtain ⟨rfl, T9, K9⟩ := hq
                  have HT9 := Lib.hid T9
                  have hb9 := Lib.hid (K9 _ _ _ HSm.out)
                  have s0 : w9.cell? ⟨sb, 0, none⟩ = some (.int .i64 hi) := by rw [blk_cell hb9.out]; rfl
                  have s1 : w9.cell? ⟨sb, 1, none⟩ = some (.int .u64 lo) := by rw [blk_cell hb9.out]; rfl
                  have s2 : w9.frozen? ⟨sb, 0, none⟩ = false := blk_free hb9.out _
                  have s3 : w9.frozen? ⟨sb, 1, none⟩ = false := blk_free hb9.out _
                  clear T9 K9 c0 c1 l0 l1 l2
                  go_wp2_with fail
                  have OO : Only (fun x => x = sb) w9 ((w9.setCell ⟨sb, 1, none⟩ (.int .u64 (IntKind.u64.wrap (lo + z)))).setCell ⟨sb, 0, none⟩ (.int .i64 (wrap64 (hi + 1)))) := ((Only.refl (fun x => x = sb) w9).setCell (p := ⟨sb, 1, none⟩) (.inr rfl) _).setCell (p := ⟨sb, 0, none⟩) (.inr rfl) _
                  have TE := HT9.out.sum1 hb9.out hsb.out OO
                  rw [← HE2.out] at TE
                  have hfin : InAt w sh ph s c lb (rbOf r0 r1 r2) u L R 0 sb (k + 1) (.int .u64 rfb) ((w9.setCell ⟨sb, 1, none⟩ (.int .u64 (IntKind.u64.wrap (lo + z)))).setCell ⟨sb, 0, none⟩ (.int .i64 (wrap64 (hi + 1)))) := ⟨wrap64 (hi + 1), IntKind.u64.wrap (lo + z), rfb, rfl, q0, by omega, TE, blk_set (blk_set hb9.out 1 (.int .u64 (IntKind.u64.wrap (lo + z)))) 0 (.int .i64 (wrap64 (hi + 1))), u64_ge _, u64_le _, by unfold wrap64; omega⟩
                  have HF := Lib.hid hfin
                  clear hfin TE OO
                  go_roundw
                  case rel => exact ⟨k + 1, by omega, by go_num, HF.out⟩
                  case measure => simp [intOf]; omega
                · have d3 : decide (IntKind.u64.wrap (lo + z) < z) = false := decide_eq_false hcar
                  have hE2 := HE.out
                  rw [if_neg hcar] at hE2
                  have HE2 := Lib.hid hE2
                  clear hcar hE2 HE hz0
                  go_wp2_with fail
                  refine HK.out.mono ?_
                  intro e w9 hq
                  unfold TSadd at hq
                  rw [if_pos (by have := HZ.out; omega)] at hq
                  obtain ⟨rfl, T9, K9⟩ := hq
                  have HT9 := Lib.hid T9
                  have hb9 := Lib.hid (K9 _ _ _ HSm.out)
                  have s0 : w9.cell? ⟨sb, 0, none⟩ = some (.int .i64 hi) := by rw [blk_cell hb9.out]; rfl
                  have s1 : w9.cell? ⟨sb, 1, none⟩ = some (.int .u64 lo) := by rw [blk_cell hb9.out]; rfl
                  have s2 : w9.frozen? ⟨sb, 0, none⟩ = false := blk_free hb9.out _
                  have s3 : w9.frozen? ⟨sb, 1, none⟩ = false := blk_free hb9.out _
                  clear T9 K9 c0 c1 l0 l1 l2
                  go_wp2_with fail
                  have OO : Only (fun x => x = sb) w9 (w9.setCell ⟨sb, 1, none⟩ (.int .u64 (IntKind.u64.wrap (lo + z)))) := (Only.refl (fun x => x = sb) w9).setCell (p := ⟨sb, 1, none⟩) (.inr rfl) _
                  have TE := HT9.out.sum1 hb9.out hsb.out OO
                  rw [← HE2.out] at TE
                  have hfin : InAt w sh ph s c lb (rbOf r0 r1 r2) u L R 0 sb (k + 1) (.int .u64 rfb) (w9.setCell ⟨sb, 1, none⟩ (.int .u64 (IntKind.u64.wrap (lo + z)))) := ⟨hi, IntKind.u64.wrap (lo + z), rfb, rfl, q0, by omega, TE, blk_set hb9.out 1 (.int .u64 (IntKind.u64.wrap (lo + z))), u64_ge _, u64_le _, q4⟩
                  have HF := Lib.hid hfin
                  clear hfin TE OO
                  go_roundw
                  case rel => exact ⟨k + 1, by omega, by go_num, HF.out⟩
                  case measure => simp [intOf]; omega
              · have d1 : decide (z < 0) = true := decide_eq_true (by omega)
                have d2 : decide (z ≥ 0) = false := decide_eq_false hz0
                have HZ := Lib.hid hz0
                clear hz0
                go_wp2_with fail
                refine HK.out.mono ?_
                intro e w9 hq
                unfold TSadd at hq
                rw [if_neg (by have := HZ.out; omega)] at hq
                obtain ⟨rfl, T9, K9⟩ := hq
                have HT9 := Lib.hid T9
                have hb9 := Lib.hid (K9 _ _ _ HSm.out)
                clear T9 K9 c0 c1 l0 l1 l2
                go_wp2_with fail
                go_roundw
                case rel => exact ⟨k + 1, by omega, by go_num, hi, lo, rfb + 1, rfl, by omega, by omega, HT9.out, hb9.out, q2, q3, q4⟩
                case measure => simp [intOf]; omega
            · have h3' : (k : Int) % 3 = 1 := by omega
              clear h3
              have K : Calls Try.prog 30 #[.pointer (some ⟨r1, 0, none⟩), .pointer none, .pointer (some ⟨s, 0, none⟩), .int .i64 z] wr (TSadd w sh ph s c lb (rbOf r0 r1 r2) u L R 0 rfb k (T hi lo) z wr) := HT.out.add_calls (by decide) (by omega) q0 q1 1 (by decide) z hzr
              have HK := Lib.hid K
              clear K
              have HSb := hsb
              by_cases hz0 : z ≥ 0
              · have d1 : decide (z < 0) = false := decide_eq_false (by omega)
                have d2 : decide (z ≥ 0) = true := decide_eq_true hz0
                have hzN : IntKind.u64.wrap z = z := by rw [u64_mod]; omega
                have HE := Lib.hid (T_law hi lo z q2 q3 hz0 hzr)
                have HZ := Lib.hid hz0
                by_cases hcar : IntKind.u64.wrap (lo + z) < z
                · have d3 : decide (IntKind.u64.wrap (lo + z) < z) = true := decide_eq_true hcar
                  have hE2 := HE.out
                  rw [if_pos hcar] at hE2
                  have HE2 := Lib.hid hE2
                  clear hcar hE2 HE hz0
                  go_wp2_with fail
                  refine HK.out.mono ?_
                  intro e w9 hq
                  unfold TSadd at hq
                  rw [if_pos (by have := HZ.out; omega)] at hq
                  obtain ⟨rfl, T9, K9⟩ := hq
                  have HT9 := Lib.hid T9
                  have hb9 := Lib.hid (K9 _ _ _ HSm.out)
                  have s0 : w9.cell? ⟨sb, 0, none⟩ = some (.int .i64 hi) := by rw [blk_cell hb9.out]; rfl
                  have s1 : w9.cell? ⟨sb, 1, none⟩ = some (.int .u64 lo) := by rw [blk_cell hb9.out]; rfl
                  have s2 : w9.frozen? ⟨sb, 0, none⟩ = false := blk_free hb9.out _
                  have s3 : w9.frozen? ⟨sb, 1, none⟩ = false := blk_free hb9.out _
                  clear T9 K9 c0 c1 l0 l1 l2
                  go_wp2_with fail
                  have OO : Only (fun x => x = sb) w9 ((w9.setCell ⟨sb, 1, none⟩ (.int .u64 (IntKind.u64.wrap (lo + z)))).setCell ⟨sb, 0, none⟩ (.int .i64 (wrap64 (hi + 1)))) := ((Only.refl (fun x => x = sb) w9).setCell (p := ⟨sb, 1, none⟩) (.inr rfl) _).setCell (p := ⟨sb, 0, none⟩) (.inr rfl) _
                  have TE := HT9.out.sum1 hb9.out hsb.out OO
                  rw [← HE2.out] at TE
                  have hfin : InAt w sh ph s c lb (rbOf r0 r1 r2) u L R 0 sb (k + 1) (.int .u64 rfb) ((w9.setCell ⟨sb, 1, none⟩ (.int .u64 (IntKind.u64.wrap (lo + z)))).setCell ⟨sb, 0, none⟩ (.int .i64 (wrap64 (hi + 1)))) := ⟨wrap64 (hi + 1), IntKind.u64.wrap (lo + z), rfb, rfl, q0, by omega, TE, blk_set (blk_set hb9.out 1 (.int .u64 (IntKind.u64.wrap (lo + z)))) 0 (.int .i64 (wrap64 (hi + 1))), u64_ge _, u64_le _, by unfold wrap64; omega⟩
                  have HF := Lib.hid hfin
                  clear hfin TE OO
                  go_roundw
                  case rel => exact ⟨k + 1, by omega, by go_num, HF.out⟩
                  case measure => simp [intOf]; omega
                · have d3 : decide (IntKind.u64.wrap (lo + z) < z) = false := decide_eq_false hcar
                  have hE2 := HE.out
                  rw [if_neg hcar] at hE2
                  have HE2 := Lib.hid hE2
                  clear hcar hE2 HE hz0
                  go_wp2_with fail
                  refine HK.out.mono ?_
                  intro e w9 hq
                  unfold TSadd at hq
                  rw [if_pos (by have := HZ.out; omega)] at hq
                  obtain ⟨rfl, T9, K9⟩ := hq
                  have HT9 := Lib.hid T9
                  have hb9 := Lib.hid (K9 _ _ _ HSm.out)
                  have s0 : w9.cell? ⟨sb, 0, none⟩ = some (.int .i64 hi) := by rw [blk_cell hb9.out]; rfl
                  have s1 : w9.cell? ⟨sb, 1, none⟩ = some (.int .u64 lo) := by rw [blk_cell hb9.out]; rfl
                  have s2 : w9.frozen? ⟨sb, 0, none⟩ = false := blk_free hb9.out _
                  have s3 : w9.frozen? ⟨sb, 1, none⟩ = false := blk_free hb9.out _
                  clear T9 K9 c0 c1 l0 l1 l2
                  go_wp2_with fail
                  have OO : Only (fun x => x = sb) w9 (w9.setCell ⟨sb, 1, none⟩ (.int .u64 (IntKind.u64.wrap (lo + z)))) := (Only.refl (fun x => x = sb) w9).setCell (p := ⟨sb, 1, none⟩) (.inr rfl) _
                  have TE := HT9.out.sum1 hb9.out hsb.out OO
                  rw [← HE2.out] at TE
                  have hfin : InAt w sh ph s c lb (rbOf r0 r1 r2) u L R 0 sb (k + 1) (.int .u64 rfb) (w9.setCell ⟨sb, 1, none⟩ (.int .u64 (IntKind.u64.wrap (lo + z)))) := ⟨hi, IntKind.u64.wrap (lo + z), rfb, rfl, q0, by omega, TE, blk_set hb9.out 1 (.int .u64 (IntKind.u64.wrap (lo + z))), u64_ge _, u64_le _, q4⟩
                  have HF := Lib.hid hfin
                  clear hfin TE OO
                  go_roundw
                  case rel => exact ⟨k + 1, by omega, by go_num, HF.out⟩
                  case measure => simp [intOf]; omega
              · have d1 : decide (z < 0) = true := decide_eq_true (by omega)
                have d2 : decide (z ≥ 0) = false := decide_eq_false hz0
                have HZ := Lib.hid hz0
                clear hz0
                go_wp2_with fail
                refine HK.out.mono ?_
                intro e w9 hq
                unfold TSadd at hq
                rw [if_neg (by have := HZ.out; omega)] at hq
                obtain ⟨rfl, T9, K9⟩ := hq
                have HT9 := Lib.hid T9
                have hb9 := Lib.hid (K9 _ _ _ HSm.out)
                clear T9 K9 c0 c1 l0 l1 l2
                go_wp2_with fail
                go_roundw
                case rel => exact ⟨k + 1, by omega, by go_num, hi, lo, rfb + 1, rfl, by omega, by omega, HT9.out, hb9.out, q2, q3, q4⟩
                case measure => simp [intOf]; omega
            · have h3' : (k : Int) % 3 = 2 := by omega
              clear h3
              have K : Calls Try.prog 30 #[.pointer (some ⟨r2, 0, none⟩), .pointer none, .pointer (some ⟨s, 0, none⟩), .int .i64 z] wr (TSadd w sh ph s c lb (rbOf r0 r1 r2) u L R 0 rfb k (T hi lo) z wr) := HT.out.add_calls (by decide) (by omega) q0 q1 2 (by decide) z hzr
              have HK := Lib.hid K
              clear K
              have HSb := hsb
              by_cases hz0 : z ≥ 0
              · have d1 : decide (z < 0) = false := decide_eq_false (by omega)
                have d2 : decide (z ≥ 0) = true := decide_eq_true hz0
                have hzN : IntKind.u64.wrap z = z := by rw [u64_mod]; omega
                have HE := Lib.hid (T_law hi lo z q2 q3 hz0 hzr)
                have HZ := Lib.hid hz0
                by_cases hcar : IntKind.u64.wrap (lo + z) < z
                · have d3 : decide (IntKind.u64.wrap (lo + z) < z) = true := decide_eq_true hcar
                  have hE2 := HE.out
                  rw [if_pos hcar] at hE2
                  have HE2 := Lib.hid hE2
                  clear hcar hE2 HE hz0
                  go_wp2_with fail
                  refine HK.out.mono ?_
                  intro e w9 hq
                  unfold TSadd at hq
                  rw [if_pos (by have := HZ.out; omega)] at hq
                  obtain ⟨rfl, T9, K9⟩ := hq
                  have HT9 := Lib.hid T9
                  have hb9 := Lib.hid (K9 _ _ _ HSm.out)
                  have s0 : w9.cell? ⟨sb, 0, none⟩ = some (.int .i64 hi) := by rw [blk_cell hb9.out]; rfl
                  have s1 : w9.cell? ⟨sb, 1, none⟩ = some (.int .u64 lo) := by rw [blk_cell hb9.out]; rfl
                  have s2 : w9.frozen? ⟨sb, 0, none⟩ = false := blk_free hb9.out _
                  have s3 : w9.frozen? ⟨sb, 1, none⟩ = false := blk_free hb9.out _
                  clear T9 K9 c0 c1 l0 l1 l2
                  go_wp2_with fail
                  have OO : Only (fun x => x = sb) w9 ((w9.setCell ⟨sb, 1, none⟩ (.int .u64 (IntKind.u64.wrap (lo + z)))).setCell ⟨sb, 0, none⟩ (.int .i64 (wrap64 (hi + 1)))) := ((Only.refl (fun x => x = sb) w9).setCell (p := ⟨sb, 1, none⟩) (.inr rfl) _).setCell (p := ⟨sb, 0, none⟩) (.inr rfl) _
                  have TE := HT9.out.sum1 hb9.out hsb.out OO
                  rw [← HE2.out] at TE
                  have hfin : InAt w sh ph s c lb (rbOf r0 r1 r2) u L R 0 sb (k + 1) (.int .u64 rfb) ((w9.setCell ⟨sb, 1, none⟩ (.int .u64 (IntKind.u64.wrap (lo + z)))).setCell ⟨sb, 0, none⟩ (.int .i64 (wrap64 (hi + 1)))) := ⟨wrap64 (hi + 1), IntKind.u64.wrap (lo + z), rfb, rfl, q0, by omega, TE, blk_set (blk_set hb9.out 1 (.int .u64 (IntKind.u64.wrap (lo + z)))) 0 (.int .i64 (wrap64 (hi + 1))), u64_ge _, u64_le _, by unfold wrap64; omega⟩
                  have HF := Lib.hid hfin
                  clear hfin TE OO
                  go_roundw
                  case rel => exact ⟨k + 1, by omega, by go_num, HF.out⟩
                  case measure => simp [intOf]; omega
                · have d3 : decide (IntKind.u64.wrap (lo + z) < z) = false := decide_eq_false hcar
                  have hE2 := HE.out
                  rw [if_neg hcar] at hE2
                  have HE2 := Lib.hid hE2
                  clear hcar hE2 HE hz0
                  go_wp2_with fail
                  refine HK.out.mono ?_
                  intro e w9 hq
                  unfold TSadd at hq
                  rw [if_pos (by have := HZ.out; omega)] at hq
                  obtain ⟨rfl, T9, K9⟩ := hq
                  have HT9 := Lib.hid T9
                  have hb9 := Lib.hid (K9 _ _ _ HSm.out)
                  have s0 : w9.cell? ⟨sb, 0, none⟩ = some (.int .i64 hi) := by rw [blk_cell hb9.out]; rfl
                  have s1 : w9.cell? ⟨sb, 1, none⟩ = some (.int .u64 lo) := by rw [blk_cell hb9.out]; rfl
                  have s2 : w9.frozen? ⟨sb, 0, none⟩ = false := blk_free hb9.out _
                  have s3 : w9.frozen? ⟨sb, 1, none⟩ = false := blk_free hb9.out _
                  clear T9 K9 c0 c1 l0 l1 l2
                  go_wp2_with fail
                  have OO : Only (fun x => x = sb) w9 (w9.setCell ⟨sb, 1, none⟩ (.int .u64 (IntKind.u64.wrap (lo + z)))) := (Only.refl (fun x => x = sb) w9).setCell (p := ⟨sb, 1, none⟩) (.inr rfl) _
                  have TE := HT9.out.sum1 hb9.out hsb.out OO
                  rw [← HE2.out] at TE
                  have hfin : InAt w sh ph s c lb (rbOf r0 r1 r2) u L R 0 sb (k + 1) (.int .u64 rfb) (w9.setCell ⟨sb, 1, none⟩ (.int .u64 (IntKind.u64.wrap (lo + z)))) := ⟨hi, IntKind.u64.wrap (lo + z), rfb, rfl, q0, by omega, TE, blk_set hb9.out 1 (.int .u64 (IntKind.u64.wrap (lo + z))), u64_ge _, u64_le _, q4⟩
                  have HF := Lib.hid hfin
                  clear hfin TE OO
                  go_roundw
                  case rel => exact ⟨k + 1, by omega, by go_num, HF.out⟩
                  case measure => simp [intOf]; omega
              · have d1 : decide (z < 0) = true := decide_eq_true (by omega)
                have d2 : decide (z ≥ 0) = false := decide_eq_false hz0
                have HZ := Lib.hid hz0
                clear hz0
                go_wp2_with fail
                refine HK.out.mono ?_
                intro e w9 hq
                unfold TSadd at hq
                rw [if_neg (by have := HZ.out; omega)] at hq
                obtain ⟨rfl, T9, K9⟩ := hq
                have HT9 := Lib.hid T9
                have hb9 := Lib.hid (K9 _ _ _ HSm.out)
                clear T9 K9 c0 c1 l0 l1 l2
                go_wp2_with fail
                go_roundw
                case rel => exact ⟨k + 1, by omega, by go_num, hi, lo, rfb + 1, rfl, by omega, by omega, HT9.out, hb9.out, q2, q3, q4⟩
                case measure => simp [intOf]; omega
          · obtain rfl : k = Ln i := by omega
            have HSb := hsb
            have K : Calls Try.prog 31 #[.pointer (some ⟨sh, 0, none⟩), .pointer none] wr _ := HT.out.turn0 hLn
            have HK := Lib.hid K
            clear K
            have hm2 : (i : Int) % 2 = 0 := by omega
            clear hmod
            go_wp2_with fail
            refine HK.out.mono ?_
            rintro e w9 ⟨rfl, T9, K9⟩
            have hb9 := Lib.hid (K9 _ _ _ HSm.out)
            have K : Calls Try.prog 32 #[.pointer (some ⟨s, 0, none⟩), .pointer none, .int .i64 0] w9 _ := T9.drain0
            have HK2 := Lib.hid K
            clear K T9 K9 c0 HK
            go_wp2_with fail
            refine HK2.out.mono ?_
            rintro e w10 ⟨hi2, lo2, rfl, eT, a1, a2, a3, T10, K10, _⟩
            obtain ⟨e1, e2⟩ := T_inj eT a1 a2 q2 q3 a3.1 a3.2 q4.1 q4.2
            subst e1; subst e2
            have hb10 := Lib.hid (K10 _ _ _ hb9.out)
            have HT10 := Lib.hid T10
            clear T10 K10 eT a1 a2 a3 HK2 hb9
            have ks1 := run_stf
            have ks2 := run_stc
            unfold partc
            go_wp2_with fail
            have OA : Only (fun _ => False) w10 (w10.alloc (.cells #[.int .i64 hi2, .int .u64 lo2, .slice none 0 0, .int .u64 0, .complex .f64 0 0, .float .f64 0, .float .f64 0] 42)) := (Only.refl _ w10).alloc _
            have hp10 := Lib.hid (blk_new w10 (.cells #[.int .i64 hi2, .int .u64 lo2, .slice none 0 0, .int .u64 0, .complex .f64 0 0, .float .f64 0, .float .f64 0] 42))
            have hb11 := Lib.hid (OA.blk hb10.out (by simp))
            have HT11 := Lib.hid (HT10.out.next OA)
            clear OA hb10 HT10
            generalize w10.alloc (.cells #[.int .i64 hi2, .int .u64 lo2, .slice none 0 0, .int .u64 0, .complex .f64 0 0, .float .f64 0, .float .f64 0] 42) = w11 at *
            generalize w10.heap.size = pb at *
            have K : Calls Try.prog 32 #[.pointer (some ⟨s, 0, none⟩), .pointer none, .int .i64 1] w11 _ := HT11.out.drain0
            refine K.mono ?_
            clear K
            rintro e w12 ⟨rfl, T12, K35, K42⟩
            have hb12 := K35 _ _ _ hb11.out
            have hp12 := K42 _ _ _ hp10.out
            have HT12 := Lib.hid T12
            have s0 : w12.cell? ⟨sb, 0, none⟩ = some (.int .i64 hi2) := by rw [blk_cell hb12]; rfl
            have s1 : w12.cell? ⟨sb, 1, none⟩ = some (.int .u64 lo2) := by rw [blk_cell hb12]; rfl
            have p0 : w12.cell? ⟨pb, 0, none⟩ = some (.int .i64 hi2) := by rw [blk_cell hp12]; rfl
            have p1 : w12.cell? ⟨pb, 1, none⟩ = some (.int .u64 lo2) := by rw [blk_cell hp12]; rfl
            clear T12 K35 K42 hb12 hp12 hb11 hp10 HT11
            unfold partc
            have hrr : (rfb != rfb) = false := by simp
            have s0' := cell_alloc s0 (.cells #[.int .i64 0, .int .u64 0, .slice none 0 0, .int .u64 0, .complex .f64 0 0, .float .f64 0, .float .f64 0] 42)
            have s1' := cell_alloc s1 (.cells #[.int .i64 0, .int .u64 0, .slice none 0 0, .int .u64 0, .complex .f64 0 0, .float .f64 0, .float .f64 0] 42)
            have p0' := cell_alloc p0 (.cells #[.int .i64 0, .int .u64 0, .slice none 0 0, .int .u64 0, .complex .f64 0 0, .float .f64 0, .float .f64 0] 42)
            have p1' := cell_alloc p1 (.cells #[.int .i64 0, .int .u64 0, .slice none 0 0, .int .u64 0, .complex .f64 0 0, .float .f64 0, .float .f64 0] 42)
            have OB : Only (fun _ => False) w12 (w12.alloc (.cells #[.int .i64 0, .int .u64 0, .slice none 0 0, .int .u64 0, .complex .f64 0 0, .float .f64 0, .float .f64 0] 42)) := (Only.refl _ w12).alloc _
            have HT13 := Lib.hid (HT12.out.next OB)
            clear OB HT12 s0 s1 p0 p1
            go_wp2_with fail
            have K : Calls Try.prog 33 #[.pointer (some ⟨sh, 0, none⟩), .pointer none, .int .i64 0] (w12.alloc (.cells #[.int .i64 0, .int .u64 0, .slice none 0 0, .int .u64 0, .complex .f64 0 0, .float .f64 0, .float .f64 0] 42)) _ := HT13.out.ref0 q0 (by omega)
            refine K.mono ?_
            clear K
            rintro e w14 ⟨rfl, T14⟩
            have HT14 := Lib.hid T14
            clear T14 HT13 s0' s1' p0' p1'
            go_wp2_with fail
            have K : Calls Try.prog 33 #[.pointer (some ⟨sh, 0, none⟩), .pointer none, .int .i64 1] w14 _ := HT14.out.refo0
            refine K.mono ?_
            clear K
            rintro e w15 ⟨rfl, TE⟩
            have HTE := Lib.hid TE
            clear TE HT14
            go_wp2_with fail
            go_roundw
            case rel => exact ⟨i + 1, by omega, by go_num, .inr ⟨by omega, HTE.out⟩⟩
            case measure => simp [intOf]; omega
      · have hstart := 0; clear hstart
        obtain ⟨ob, oo, A, C, rfl, hcell, hLn, hrow⟩ := HRd.out.row i hlt
        have HC := Lib.hid hcell; have HRow := Lib.hid hrow
        clear hcell hrow
        have HI := Lib.hid hI
        have c0 : (wr.alloc (.cells #[.int .i64 0, .int .u64 0] 35)).cell? ⟨ob, oo + i, none⟩ = some (.slice A (Ln i) C) := (HI.out.only.alloc _).cel HC.out (by simp)
        have hIn : InAt w sh ph s c lb (rbOf r0 r1 r2) u L R 1 wr.heap.size 0 (.int .u64 0) (wr.alloc (.cells #[.int .i64 0, .int .u64 0] 35)) := ⟨0, 0, 0, rfl, by decide, by decide, HI.out.next ((Only.refl _ wr).alloc _), blk_new _ _, by decide, by decide, by decide⟩
        have HIn := Lib.hid hIn
        have hsb := Lib.hid (HI.out.only.size)
        clear hI hIn HI
        go_wp2_with fail
        clear c0
        generalize wr.alloc (.cells #[.int .i64 0, .int .u64 0] 35) = w8 at *
        generalize wr.heap.size = sb at *
        go_loopw [9, 10] (fun rv kv wk => ∃ k : Nat, k ≤ Ln i ∧ kv = .int .i64 k ∧ InAt w sh ph s c lb (rbOf r0 r1 r2) u L R 1 sb k rv wk) (fun _ kv _ => Ln i - (intOf kv).toNat)
        case atStart => exact ⟨0, by omega, rfl, HIn.out⟩
        case round =>
          obtain ⟨k, hk, rfl, hK⟩ := hrel
          clear HIn
          obtain ⟨hi, lo, rfb, rfl, q0, q1, hT, hsum, q2, q3, q4⟩ := hK
          have HT := Lib.hid hT; have HSm := Lib.hid hsum
          have c0 := hT.only.cel HC.out (by simp)
          clear hT hsum
          by_cases hkl : k < Ln i
          · obtain ⟨ab, ao, rfl, hz, hzr⟩ := HRow.out k hkl
            have c1 := HT.out.only.cel hz (by simp)
            clear hz
            have l0 : wr.cell? ⟨lb, 0, none⟩ = some (.pointer (some ⟨r0, 0, none⟩)) := by rw [blk_cell HT.out.lobj]; rfl
            have l1 : wr.cell? ⟨lb, 1, none⟩ = some (.pointer (some ⟨r1, 0, none⟩)) := by rw [blk_cell HT.out.lobj]; rfl
            have l2 : wr.cell? ⟨lb, 2, none⟩ = some (.pointer (some ⟨r2, 0, none⟩)) := by rw [blk_cell HT.out.lobj]; rfl
            generalize Z i k = z at *
            have hcs : k % 3 = 0 ∨ k % 3 = 1 ∨ k % 3 = 2 := by omega
            rcases hcs with h3 | h3 | h3
            · have h3' : (k : Int) % 3 = 0 := by omega
              clear h3
              have K : Calls Try.prog 30 #[.pointer (some ⟨r0, 0, none⟩), .pointer none, .pointer (some ⟨s, 0, none⟩), .int .i64 z] wr (TSadd w sh ph s c lb (rbOf r0 r1 r2) u L R 1 rfb k (T hi lo) z wr) := HT.out.add_calls (by decide) (by omega) q0 q1 0 (by decide) z hzr
              have HK := Lib.hid K
              clear K
              have HSb := hsb
              by_cases hz0 : z ≥ 0
              · have d1 : decide (z < 0) = false := decide_eq_false (by omega)
                have d2 : decide (z ≥ 0) = true := decide_eq_true hz0
                have hzN : IntKind.u64.wrap z = z := by rw [u64_mod]; omega
                have HE := Lib.hid (T_law hi lo z q2 q3 hz0 hzr)
                have HZ := Lib.hid hz0
                by_cases hcar : IntKind.u64.wrap (lo + z) < z
                · have d3 : decide (IntKind.u64.wrap (lo + z) < z) = true := decide_eq_true hcar
                  have hE2 := HE.out
                  rw [if_pos hcar] at hE2
                  have HE2 := Lib.hid hE2
                  clear hcar hE2 HE hz0
                  go_wp2_with fail
                  refine HK.out.mono ?_
                  intro e w9 hq
                  unfold TSadd at hq
                  rw [if_pos (by have := HZ.out; omega)] at hq
                  obtain ⟨rfl, T9, K9⟩ := hq
                  have HT9 := Lib.hid T9
                  have hb9 := Lib.hid (K9 _ _ _ HSm.out)
                  have s0 : w9.cell? ⟨sb, 0, none⟩ = some (.int .i64 hi) := by rw [blk_cell hb9.out]; rfl
                  have s1 : w9.cell? ⟨sb, 1, none⟩ = some (.int .u64 lo) := by rw [blk_cell hb9.out]; rfl
                  have s2 : w9.frozen? ⟨sb, 0, none⟩ = false := blk_free hb9.out _
                  have s3 : w9.frozen? ⟨sb, 1, none⟩ = false := blk_free hb9.out _
                  clear T9 K9 c0 c1 l0 l1 l2
                  go_wp2_with fail
                  have OO : Only (fun x => x = sb) w9 ((w9.setCell ⟨sb, 1, none⟩ (.int .u64 (IntKind.u64.wrap (lo + z)))).setCell ⟨sb, 0, none⟩ (.int .i64 (wrap64 (hi + 1)))) := ((Only.refl (fun x => x = sb) w9).setCell (p := ⟨sb, 1, none⟩) (.inr rfl) _).setCell (p := ⟨sb, 0, none⟩) (.inr rfl) _
                  have TE := HT9.out.sum1 hb9.out hsb.out OO
                  rw [← HE2.out] at TE
                  have hfin : InAt w sh ph s c lb (rbOf r0 r1 r2) u L R 1 sb (k + 1) (.int .u64 rfb) ((w9.setCell ⟨sb, 1, none⟩ (.int .u64 (IntKind.u64.wrap (lo + z)))).setCell ⟨sb, 0, none⟩ (.int .i64 (wrap64 (hi + 1)))) := ⟨wrap64 (hi + 1), IntKind.u64.wrap (lo + z), rfb, rfl, q0, by omega, TE, blk_set (blk_set hb9.out 1 (.int .u64 (IntKind.u64.wrap (lo + z)))) 0 (.int .i64 (wrap64 (hi + 1))), u64_ge _, u64_le _, by unfold wrap64; omega⟩
                  have HF := Lib.hid hfin
                  clear hfin TE OO
                  go_roundw
                  case rel => exact ⟨k + 1, by omega, by go_num, HF.out⟩
                  case measure => simp [intOf]; omega
                · have d3 : decide (IntKind.u64.wrap (lo + z) < z) = false := decide_eq_false hcar
                  have hE2 := HE.out
                  rw [if_neg hcar] at hE2
                  have HE2 := Lib.hid hE2
                  clear hcar hE2 HE hz0
                  go_wp2_with fail
                  refine HK.out.mono ?_
                  intro e w9 hq
                  unfold TSadd at hq
                  rw [if_pos (by have := HZ.out; omega)] at hq
                  obtain ⟨rfl, T9, K9⟩ := hq
                  have HT9 := Lib.hid T9
                  have hb9 := Lib.hid (K9 _ _ _ HSm.out)
                  have s0 : w9.cell? ⟨sb, 0, none⟩ = some (.int .i64 hi) := by rw [blk_cell hb9.out]; rfl
                  have s1 : w9.cell? ⟨sb, 1, none⟩ = some (.int .u64 lo) := by rw [blk_cell hb9.out]; rfl
                  have s2 : w9.frozen? ⟨sb, 0, none⟩ = false := blk_free hb9.out _
                  have s3 : w9.frozen? ⟨sb, 1, none⟩ = false := blk_free hb9.out _
                  clear T9 K9 c0 c1 l0 l1 l2
                  go_wp2_with fail
                  have OO : Only (fun x => x = sb) w9 (w9.setCell ⟨sb, 1, none⟩ (.int .u64 (IntKind.u64.wrap (lo + z)))) := (Only.refl (fun x => x = sb) w9).setCell (p := ⟨sb, 1, none⟩) (.inr rfl) _
                  have TE := HT9.out.sum1 hb9.out hsb.out OO
                  rw [← HE2.out] at TE
                  have hfin : InAt w sh ph s c lb (rbOf r0 r1 r2) u L R 1 sb (k + 1) (.int .u64 rfb) (w9.setCell ⟨sb, 1, none⟩ (.int .u64 (IntKind.u64.wrap (lo + z)))) := ⟨hi, IntKind.u64.wrap (lo + z), rfb, rfl, q0, by omega, TE, blk_set hb9.out 1 (.int .u64 (IntKind.u64.wrap (lo + z))), u64_ge _, u64_le _, q4⟩
                  have HF := Lib.hid hfin
                  clear hfin TE OO
                  go_roundw
                  case rel => exact ⟨k + 1, by omega, by go_num, HF.out⟩
                  case measure => simp [intOf]; omega
              · have d1 : decide (z < 0) = true := decide_eq_true (by omega)
                have d2 : decide (z ≥ 0) = false := decide_eq_false hz0
                have HZ := Lib.hid hz0
                clear hz0
                go_wp2_with fail
                refine HK.out.mono ?_
                intro e w9 hq
                unfold TSadd at hq
                rw [if_neg (by have := HZ.out; omega)] at hq
                obtain ⟨rfl, T9, K9⟩ := hq
                have HT9 := Lib.hid T9
                have hb9 := Lib.hid (K9 _ _ _ HSm.out)
                clear T9 K9 c0 c1 l0 l1 l2
                go_wp2_with fail
                go_roundw
                case rel => exact ⟨k + 1, by omega, by go_num, hi, lo, rfb + 1, rfl, by omega, by omega, HT9.out, hb9.out, q2, q3, q4⟩
                case measure => simp [intOf]; omega
            · have h3' : (k : Int) % 3 = 1 := by omega
              clear h3
              have K : Calls Try.prog 30 #[.pointer (some ⟨r1, 0, none⟩), .pointer none, .pointer (some ⟨s, 0, none⟩), .int .i64 z] wr (TSadd w sh ph s c lb (rbOf r0 r1 r2) u L R 1 rfb k (T hi lo) z wr) := HT.out.add_calls (by decide) (by omega) q0 q1 1 (by decide) z hzr
              have HK := Lib.hid K
              clear K
              have HSb := hsb
              by_cases hz0 : z ≥ 0
              · have d1 : decide (z < 0) = false := decide_eq_false (by omega)
                have d2 : decide (z ≥ 0) = true := decide_eq_true hz0
                have hzN : IntKind.u64.wrap z = z := by rw [u64_mod]; omega
                have HE := Lib.hid (T_law hi lo z q2 q3 hz0 hzr)
                have HZ := Lib.hid hz0
                by_cases hcar : IntKind.u64.wrap (lo + z) < z
                · have d3 : decide (IntKind.u64.wrap (lo + z) < z) = true := decide_eq_true hcar
                  have hE2 := HE.out
                  rw [if_pos hcar] at hE2
                  have HE2 := Lib.hid hE2
                  clear hcar hE2 HE hz0
                  go_wp2_with fail
                  refine HK.out.mono ?_
                  intro e w9 hq
                  unfold TSadd at hq
                  rw [if_pos (by have := HZ.out; omega)] at hq
                  obtain ⟨rfl, T9, K9⟩ := hq
                  have HT9 := Lib.hid T9
                  have hb9 := Lib.hid (K9 _ _ _ HSm.out)
                  have s0 : w9.cell? ⟨sb, 0, none⟩ = some (.int .i64 hi) := by rw [blk_cell hb9.out]; rfl
                  have s1 : w9.cell? ⟨sb, 1, none⟩ = some (.int .u64 lo) := by rw [blk_cell hb9.out]; rfl
                  have s2 : w9.frozen? ⟨sb, 0, none⟩ = false := blk_free hb9.out _
                  have s3 : w9.frozen? ⟨sb, 1, none⟩ = false := blk_free hb9.out _
                  clear T9 K9 c0 c1 l0 l1 l2
                  go_wp2_with fail
                  have OO : Only (fun x => x = sb) w9 ((w9.setCell ⟨sb, 1, none⟩ (.int .u64 (IntKind.u64.wrap (lo + z)))).setCell ⟨sb, 0, none⟩ (.int .i64 (wrap64 (hi + 1)))) := ((Only.refl (fun x => x = sb) w9).setCell (p := ⟨sb, 1, none⟩) (.inr rfl) _).setCell (p := ⟨sb, 0, none⟩) (.inr rfl) _
                  have TE := HT9.out.sum1 hb9.out hsb.out OO
                  rw [← HE2.out] at TE
                  have hfin : InAt w sh ph s c lb (rbOf r0 r1 r2) u L R 1 sb (k + 1) (.int .u64 rfb) ((w9.setCell ⟨sb, 1, none⟩ (.int .u64 (IntKind.u64.wrap (lo + z)))).setCell ⟨sb, 0, none⟩ (.int .i64 (wrap64 (hi + 1)))) := ⟨wrap64 (hi + 1), IntKind.u64.wrap (lo + z), rfb, rfl, q0, by omega, TE, blk_set (blk_set hb9.out 1 (.int .u64 (IntKind.u64.wrap (lo + z)))) 0 (.int .i64 (wrap64 (hi + 1))), u64_ge _, u64_le _, by unfold wrap64; omega⟩
                  have HF := Lib.hid hfin
                  clear hfin TE OO
                  go_roundw
                  case rel => exact ⟨k + 1, by omega, by go_num, HF.out⟩
                  case measure => simp [intOf]; omega
                · have d3 : decide (IntKind.u64.wrap (lo + z) < z) = false := decide_eq_false hcar
                  have hE2 := HE.out
                  rw [if_neg hcar] at hE2
                  have HE2 := Lib.hid hE2
                  clear hcar hE2 HE hz0
                  go_wp2_with fail
                  refine HK.out.mono ?_
                  intro e w9 hq
                  unfold TSadd at hq
                  rw [if_pos (by have := HZ.out; omega)] at hq
                  obtain ⟨rfl, T9, K9⟩ := hq
                  have HT9 := Lib.hid T9
                  have hb9 := Lib.hid (K9 _ _ _ HSm.out)
                  have s0 : w9.cell? ⟨sb, 0, none⟩ = some (.int .i64 hi) := by rw [blk_cell hb9.out]; rfl
                  have s1 : w9.cell? ⟨sb, 1, none⟩ = some (.int .u64 lo) := by rw [blk_cell hb9.out]; rfl
                  have s2 : w9.frozen? ⟨sb, 0, none⟩ = false := blk_free hb9.out _
                  have s3 : w9.frozen? ⟨sb, 1, none⟩ = false := blk_free hb9.out _
                  clear T9 K9 c0 c1 l0 l1 l2
                  go_wp2_with fail
                  have OO : Only (fun x => x = sb) w9 (w9.setCell ⟨sb, 1, none⟩ (.int .u64 (IntKind.u64.wrap (lo + z)))) := (Only.refl (fun x => x = sb) w9).setCell (p := ⟨sb, 1, none⟩) (.inr rfl) _
                  have TE := HT9.out.sum1 hb9.out hsb.out OO
                  rw [← HE2.out] at TE
                  have hfin : InAt w sh ph s c lb (rbOf r0 r1 r2) u L R 1 sb (k + 1) (.int .u64 rfb) (w9.setCell ⟨sb, 1, none⟩ (.int .u64 (IntKind.u64.wrap (lo + z)))) := ⟨hi, IntKind.u64.wrap (lo + z), rfb, rfl, q0, by omega, TE, blk_set hb9.out 1 (.int .u64 (IntKind.u64.wrap (lo + z))), u64_ge _, u64_le _, q4⟩
                  have HF := Lib.hid hfin
                  clear hfin TE OO
                  go_roundw
                  case rel => exact ⟨k + 1, by omega, by go_num, HF.out⟩
                  case measure => simp [intOf]; omega
              · have d1 : decide (z < 0) = true := decide_eq_true (by omega)
                have d2 : decide (z ≥ 0) = false := decide_eq_false hz0
                have HZ := Lib.hid hz0
                clear hz0
                go_wp2_with fail
                refine HK.out.mono ?_
                intro e w9 hq
                unfold TSadd at hq
                rw [if_neg (by have := HZ.out; omega)] at hq
                obtain ⟨rfl, T9, K9⟩ := hq
                have HT9 := Lib.hid T9
                have hb9 := Lib.hid (K9 _ _ _ HSm.out)
                clear T9 K9 c0 c1 l0 l1 l2
                go_wp2_with fail
                go_roundw
                case rel => exact ⟨k + 1, by omega, by go_num, hi, lo, rfb + 1, rfl, by omega, by omega, HT9.out, hb9.out, q2, q3, q4⟩
                case measure => simp [intOf]; omega
            · have h3' : (k : Int) % 3 = 2 := by omega
              clear h3
              have K : Calls Try.prog 30 #[.pointer (some ⟨r2, 0, none⟩), .pointer none, .pointer (some ⟨s, 0, none⟩), .int .i64 z] wr (TSadd w sh ph s c lb (rbOf r0 r1 r2) u L R 1 rfb k (T hi lo) z wr) := HT.out.add_calls (by decide) (by omega) q0 q1 2 (by decide) z hzr
              have HK := Lib.hid K
              clear K
              have HSb := hsb
              by_cases hz0 : z ≥ 0
              · have d1 : decide (z < 0) = false := decide_eq_false (by omega)
                have d2 : decide (z ≥ 0) = true := decide_eq_true hz0
                have hzN : IntKind.u64.wrap z = z := by rw [u64_mod]; omega
                have HE := Lib.hid (T_law hi lo z q2 q3 hz0 hzr)
                have HZ := Lib.hid hz0
                by_cases hcar : IntKind.u64.wrap (lo + z) < z
                · have d3 : decide (IntKind.u64.wrap (lo + z) < z) = true := decide_eq_true hcar
                  have hE2 := HE.out
                  rw [if_pos hcar] at hE2
                  have HE2 := Lib.hid hE2
                  clear hcar hE2 HE hz0
                  go_wp2_with fail
                  refine HK.out.mono ?_
                  intro e w9 hq
                  unfold TSadd at hq
                  rw [if_pos (by have := HZ.out; omega)] at hq
                  obtain ⟨rfl, T9, K9⟩ := hq
                  have HT9 := Lib.hid T9
                  have hb9 := Lib.hid (K9 _ _ _ HSm.out)
                  have s0 : w9.cell? ⟨sb, 0, none⟩ = some (.int .i64 hi) := by rw [blk_cell hb9.out]; rfl
                  have s1 : w9.cell? ⟨sb, 1, none⟩ = some (.int .u64 lo) := by rw [blk_cell hb9.out]; rfl
                  have s2 : w9.frozen? ⟨sb, 0, none⟩ = false := blk_free hb9.out _
                  have s3 : w9.frozen? ⟨sb, 1, none⟩ = false := blk_free hb9.out _
                  clear T9 K9 c0 c1 l0 l1 l2
                  go_wp2_with fail
                  have OO : Only (fun x => x = sb) w9 ((w9.setCell ⟨sb, 1, none⟩ (.int .u64 (IntKind.u64.wrap (lo + z)))).setCell ⟨sb, 0, none⟩ (.int .i64 (wrap64 (hi + 1)))) := ((Only.refl (fun x => x = sb) w9).setCell (p := ⟨sb, 1, none⟩) (.inr rfl) _).setCell (p := ⟨sb, 0, none⟩) (.inr rfl) _
                  have TE := HT9.out.sum1 hb9.out hsb.out OO
                  rw [← HE2.out] at TE
                  have hfin : InAt w sh ph s c lb (rbOf r0 r1 r2) u L R 1 sb (k + 1) (.int .u64 rfb) ((w9.setCell ⟨sb, 1, none⟩ (.int .u64 (IntKind.u64.wrap (lo + z)))).setCell ⟨sb, 0, none⟩ (.int .i64 (wrap64 (hi + 1)))) := ⟨wrap64 (hi + 1), IntKind.u64.wrap (lo + z), rfb, rfl, q0, by omega, TE, blk_set (blk_set hb9.out 1 (.int .u64 (IntKind.u64.wrap (lo + z)))) 0 (.int .i64 (wrap64 (hi + 1))), u64_ge _, u64_le _, by unfold wrap64; omega⟩
                  have HF := Lib.hid hfin
                  clear hfin TE OO
                  go_roundw
                  case rel => exact ⟨k + 1, by omega, by go_num, HF.out⟩
                  case measure => simp [intOf]; omega
                · have d3 : decide (IntKind.u64.wrap (lo + z) < z) = false := decide_eq_false hcar
                  have hE2 := HE.out
                  rw [if_neg hcar] at hE2
                  have HE2 := Lib.hid hE2
                  clear hcar hE2 HE hz0
                  go_wp2_with fail
                  refine HK.out.mono ?_
                  intro e w9 hq
                  unfold TSadd at hq
                  rw [if_pos (by have := HZ.out; omega)] at hq
                  obtain ⟨rfl, T9, K9⟩ := hq
                  have HT9 := Lib.hid T9
                  have hb9 := Lib.hid (K9 _ _ _ HSm.out)
                  have s0 : w9.cell? ⟨sb, 0, none⟩ = some (.int .i64 hi) := by rw [blk_cell hb9.out]; rfl
                  have s1 : w9.cell? ⟨sb, 1, none⟩ = some (.int .u64 lo) := by rw [blk_cell hb9.out]; rfl
                  have s2 : w9.frozen? ⟨sb, 0, none⟩ = false := blk_free hb9.out _
                  have s3 : w9.frozen? ⟨sb, 1, none⟩ = false := blk_free hb9.out _
                  clear T9 K9 c0 c1 l0 l1 l2
                  go_wp2_with fail
                  have OO : Only (fun x => x = sb) w9 (w9.setCell ⟨sb, 1, none⟩ (.int .u64 (IntKind.u64.wrap (lo + z)))) := (Only.refl (fun x => x = sb) w9).setCell (p := ⟨sb, 1, none⟩) (.inr rfl) _
                  have TE := HT9.out.sum1 hb9.out hsb.out OO
                  rw [← HE2.out] at TE
                  have hfin : InAt w sh ph s c lb (rbOf r0 r1 r2) u L R 1 sb (k + 1) (.int .u64 rfb) (w9.setCell ⟨sb, 1, none⟩ (.int .u64 (IntKind.u64.wrap (lo + z)))) := ⟨hi, IntKind.u64.wrap (lo + z), rfb, rfl, q0, by omega, TE, blk_set hb9.out 1 (.int .u64 (IntKind.u64.wrap (lo + z))), u64_ge _, u64_le _, q4⟩
                  have HF := Lib.hid hfin
                  clear hfin TE OO
                  go_roundw
                  case rel => exact ⟨k + 1, by omega, by go_num, HF.out⟩
                  case measure => simp [intOf]; omega
              · have d1 : decide (z < 0) = true := decide_eq_true (by omega)
                have d2 : decide (z ≥ 0) = false := decide_eq_false hz0
                have HZ := Lib.hid hz0
                clear hz0
                go_wp2_with fail
                refine HK.out.mono ?_
                intro e w9 hq
                unfold TSadd at hq
                rw [if_neg (by have := HZ.out; omega)] at hq
                obtain ⟨rfl, T9, K9⟩ := hq
                have HT9 := Lib.hid T9
                have hb9 := Lib.hid (K9 _ _ _ HSm.out)
                clear T9 K9 c0 c1 l0 l1 l2
                go_wp2_with fail
                go_roundw
                case rel => exact ⟨k + 1, by omega, by go_num, hi, lo, rfb + 1, rfl, by omega, by omega, HT9.out, hb9.out, q2, q3, q4⟩
                case measure => simp [intOf]; omega
          · obtain rfl : k = Ln i := by omega
            have HSb := hsb
            have K : Calls Try.prog 31 #[.pointer (some ⟨sh, 0, none⟩), .pointer none] wr _ := HT.out.turn1 hLn
            have HK := Lib.hid K
            clear K
            have hm2 : (i : Int) % 2 = 1 := by omega
            clear hmod
            go_wp2_with fail
            refine HK.out.mono ?_
            rintro e w9 ⟨rfl, T9, K9⟩
            have hb9 := Lib.hid (K9 _ _ _ HSm.out)
            have K : Calls Try.prog 32 #[.pointer (some ⟨s, 0, none⟩), .pointer none, .int .i64 1] w9 _ := T9.drain1
            have HK2 := Lib.hid K
            clear K T9 K9 c0 HK
            go_wp2_with fail
            refine HK2.out.mono ?_
            rintro e w10 ⟨hi2, lo2, rfl, eT, a1, a2, a3, T10, K10, _⟩
            obtain ⟨e1, e2⟩ := T_inj eT a1 a2 q2 q3 a3.1 a3.2 q4.1 q4.2
            subst e1; subst e2
            have hb10 := Lib.hid (K10 _ _ _ hb9.out)
            have HT10 := Lib.hid T10
            clear T10 K10 eT a1 a2 a3 HK2 hb9
            have ks1 := run_stf
            have ks2 := run_stc
            unfold partc
            go_wp2_with fail
            have OA : Only (fun _ => False) w10 (w10.alloc (.cells #[.int .i64 hi2, .int .u64 lo2, .slice none 0 0, .int .u64 0, .complex .f64 0 0, .float .f64 0, .float .f64 0] 42)) := (Only.refl _ w10).alloc _
            have hp10 := Lib.hid (blk_new w10 (.cells #[.int .i64 hi2, .int .u64 lo2, .slice none 0 0, .int .u64 0, .complex .f64 0 0, .float .f64 0, .float .f64 0] 42))
            have hb11 := Lib.hid (OA.blk hb10.out (by simp))
            have HT11 := Lib.hid (HT10.out.next OA)
            clear OA hb10 HT10
            generalize w10.alloc (.cells #[.int .i64 hi2, .int .u64 lo2, .slice none 0 0, .int .u64 0, .complex .f64 0 0, .float .f64 0, .float .f64 0] 42) = w11 at *
            generalize w10.heap.size = pb at *
            have K : Calls Try.prog 32 #[.pointer (some ⟨s, 0, none⟩), .pointer none, .int .i64 0] w11 _ := HT11.out.drain1
            refine K.mono ?_
            clear K
            rintro e w12 ⟨rfl, T12, K35, K42⟩
            have hb12 := K35 _ _ _ hb11.out
            have hp12 := K42 _ _ _ hp10.out
            have HT12 := Lib.hid T12
            have s0 : w12.cell? ⟨sb, 0, none⟩ = some (.int .i64 hi2) := by rw [blk_cell hb12]; rfl
            have s1 : w12.cell? ⟨sb, 1, none⟩ = some (.int .u64 lo2) := by rw [blk_cell hb12]; rfl
            have p0 : w12.cell? ⟨pb, 0, none⟩ = some (.int .i64 hi2) := by rw [blk_cell hp12]; rfl
            have p1 : w12.cell? ⟨pb, 1, none⟩ = some (.int .u64 lo2) := by rw [blk_cell hp12]; rfl
            clear T12 K35 K42 hb12 hp12 hb11 hp10 HT11
            unfold partc
            have hrr : (rfb != rfb) = false := by simp
            have s0' := cell_alloc s0 (.cells #[.int .i64 0, .int .u64 0, .slice none 0 0, .int .u64 0, .complex .f64 0 0, .float .f64 0, .float .f64 0] 42)
            have s1' := cell_alloc s1 (.cells #[.int .i64 0, .int .u64 0, .slice none 0 0, .int .u64 0, .complex .f64 0 0, .float .f64 0, .float .f64 0] 42)
            have p0' := cell_alloc p0 (.cells #[.int .i64 0, .int .u64 0, .slice none 0 0, .int .u64 0, .complex .f64 0 0, .float .f64 0, .float .f64 0] 42)
            have p1' := cell_alloc p1 (.cells #[.int .i64 0, .int .u64 0, .slice none 0 0, .int .u64 0, .complex .f64 0 0, .float .f64 0, .float .f64 0] 42)
            have OB : Only (fun _ => False) w12 (w12.alloc (.cells #[.int .i64 0, .int .u64 0, .slice none 0 0, .int .u64 0, .complex .f64 0 0, .float .f64 0, .float .f64 0] 42)) := (Only.refl _ w12).alloc _
            have HT13 := Lib.hid (HT12.out.next OB)
            clear OB HT12 s0 s1 p0 p1
            go_wp2_with fail
            have K : Calls Try.prog 33 #[.pointer (some ⟨sh, 0, none⟩), .pointer none, .int .i64 1] (w12.alloc (.cells #[.int .i64 0, .int .u64 0, .slice none 0 0, .int .u64 0, .complex .f64 0 0, .float .f64 0, .float .f64 0] 42)) _ := HT13.out.ref1 q0 (by omega)
            refine K.mono ?_
            clear K
            rintro e w14 ⟨rfl, T14⟩
            have HT14 := Lib.hid T14
            clear T14 HT13 s0' s1' p0' p1'
            go_wp2_with fail
            have K : Calls Try.prog 33 #[.pointer (some ⟨sh, 0, none⟩), .pointer none, .int .i64 0] w14 _ := HT14.out.refo1
            refine K.mono ?_
            clear K
            rintro e w15 ⟨rfl, TE⟩
            have HTE := Lib.hid TE
            clear TE HT14
            go_wp2_with fail
            go_roundw
            case rel => exact ⟨i + 1, by omega, by go_num, .inl ⟨by omega, HTE.out⟩⟩
            case measure => simp [intOf]; omega
    · obtain rfl : i = len := by omega
      have hO : Only (fun _ => False) w wr := by
        rcases hcase with ⟨_, hI⟩ | ⟨_, hI⟩
        · exact hI.only
        · exact hI.only
      clear hcase
      go_wp2_with fail
      go_ret
      exact ⟨rfl, hO⟩
end Go.Proofs.Ytimiojckinpfdaa
