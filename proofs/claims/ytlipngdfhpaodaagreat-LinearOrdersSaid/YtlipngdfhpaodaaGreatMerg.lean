/- The walk of Merge, at any two parts. -/
import Derived.Test.YtlipngdfhpaodaaGreatComp
import Derived.Deep.RegionHeld3
import Derived.Deep.DeepCutAuto
namespace Go.Proofs.YtlipngdfhpaodaaGreat
open Go.RowKit

/-- a block of seven zeros, made since W0 -/
structure Fresh (W0 W : World) (g : Nat) : Prop where
  hb : W.heap[g]? = some (.cells #[.int .i64 0, .int .u64 0, .slice none 0 0, .int .u64 0, .complex .f64 0 0, .float .f64 0, .float .f64 0] 109 (0, 0))
  hg : W0.heap.size ≤ g
theorem Fresh.only {W0 W w3 : World} {g : Nat} (h : Fresh W0 W g) (O : Only (fun _ => False) W w3) : Fresh W0 w3 g := ⟨O.blk h.hb (by simp), h.hg⟩
theorem fresh_new {W0 X w3 : World} (O0 : Only (fun _ => False) W0 X) (O : Only (fun _ => False) (X.alloc (.cells #[.int .i64 0, .int .u64 0, .slice none 0 0, .int .u64 0, .complex .f64 0 0, .float .f64 0, .float .f64 0] 109)) w3) : Fresh W0 w3 X.heap.size :=
  ⟨O.blk (blk_new _ _) (by simp), O0.size⟩
theorem Only.chain7 {S : Nat → Prop} {a w : World} (h : Only S a w) {b : Nat} (hb : a.heap.size ≤ b) (v0 v1 v2 v3 v4 v5 v6 : Value) :
    Only S a (((((((w.setCell ⟨b, 0, none⟩ v0).setCell ⟨b, 1, none⟩ v1).setCell ⟨b, 2, none⟩ v2).setCell ⟨b, 3, none⟩ v3).setCell ⟨b, 4, none⟩ v4).setCell ⟨b, 5, none⟩ v5).setCell ⟨b, 6, none⟩ v6) := h.put7 (.inl hb) v0 v1 v2 v3 v4 v5 v6
theorem fresh_new0 {W0 w3 : World} (O : Only (fun _ => False) (W0.drew.alloc (.cells #[.int .i64 0, .int .u64 0, .slice none 0 0, .int .u64 0, .complex .f64 0 0, .float .f64 0, .float .f64 0] 109)) w3) : Fresh W0 w3 W0.heap.size := fresh_new (X := W0.drew) (Only.refl _ W0).drew O
/-- the blocks of the type t stay -/
def Keep (t : TypeId) (w1 w2 : World) : Prop := ∀ (k : Nat) (cs : Array Value) (f : Nat × Nat), w1.heap[k]? = some (.cells cs t f) → w2.heap[k]? = some (.cells cs t f)
theorem Only.keep {w1 w2 : World} (h : Only (fun _ => False) w1 w2) (t : TypeId) : Keep t w1 w2 := fun _ _ _ q => h.blk q (by simp)
theorem Keep.trans {t : TypeId} {a b c : World} (h : Keep t a b) (k : Keep t b c) : Keep t a c := fun i cs f q => k i cs f (h i cs f q)
theorem Keep.set {t u : TypeId} {w0 w : World} {b i : Nat} {cs : Array Value} {f : Nat × Nat} {v : Value} (h : Keep t w0 w) (hb : w.heap[b]? = some (.cells cs u f)) (hu : u ≠ t) : Keep t w0 (w.setCell ⟨b, i, none⟩ v) := fun k cs' f' q => by
  have q1 := h k cs' f' q
  refine blk_set_ne q1 _ _ ?_
  intro e
  have e' : k = b := e
  rw [e', hb] at q1; injection q1 with q1; injection q1 with _ q1 _; exact hu q1
theorem Keep.chain7 {t u : TypeId} {w0 w : World} {b : Nat} {cs : Array Value} {f : Nat × Nat} (h : Keep t w0 w) (hb : w.heap[b]? = some (.cells cs u f)) (hu : u ≠ t) (v0 v1 v2 v3 v4 v5 v6 : Value) :
    Keep t w0 (((((((w.setCell ⟨b, 0, none⟩ v0).setCell ⟨b, 1, none⟩ v1).setCell ⟨b, 2, none⟩ v2).setCell ⟨b, 3, none⟩ v3).setCell ⟨b, 4, none⟩ v4).setCell ⟨b, 5, none⟩ v5).setCell ⟨b, 6, none⟩ v6) := by
  have q0 := h.set (i := 0) (v := v0) hb hu; have b0 := blk_set hb 0 v0
  have q1 := q0.set (i := 1) (v := v1) b0 hu; have b1 := blk_set b0 1 v1
  have q2 := q1.set (i := 2) (v := v2) b1 hu; have b2 := blk_set b1 2 v2
  have q3 := q2.set (i := 3) (v := v3) b2 hu; have b3 := blk_set b2 3 v3
  have q4 := q3.set (i := 4) (v := v4) b3 hu; have b4 := blk_set b3 4 v4
  have q5 := q4.set (i := 5) (v := v5) b4 hu; have b5 := blk_set b4 5 v5
  exact q5.set (i := 6) (v := v6) b5 hu
/-- a part, as a value -/
def partv (hi lo : Int) (p : Option Addr) (l x : Nat) (n : Int) (s c m g : Nat) : Value := .agg #[.int .i64 hi, .int .u64 lo, .slice p l x, .int .u64 n, .complex .f64 s c, .float .f64 m, .float .f64 g]
theorem partc_eq (hi lo : Int) : partc hi lo = partv hi lo none 0 0 0 0 0 0 0 := rfl
def minOf (na nb : Int) (m1 m2 : Nat) : Nat := if na = 0 then m2 else if nb = 0 then m1 else if fcmp m2 m1 < 0 then m2 else m1
def maxOf (na nb : Int) (m1 m2 : Nat) : Nat := if na = 0 then m2 else if nb = 0 then m1 else if fcmp m2 m1 > 0 then m2 else m1
/-- what Merge answers: the counts by Q, the pair by PQ -/
def MergeRes (Q : Option Addr → Nat → Nat → World → Prop) (PQ : Nat → Nat → Prop) (hi lo n : Int) (m g : Nat) (w : World) (e : Ending) (w' : World) : Prop :=
  ∃ p l x s c, e = .returned (partv hi lo p l x n s c m g) ∧ Q p l x w' ∧ PQ s c ∧ Only (fun _ => False) w w'
/-- behind the statement that lays the merged part down -/
def MergeCut (Q : Option Addr → Nat → Nat → World → Prop) (PQ : Nat → Nat → Prop) (hi lo n : Int) (m g : Nat) (W0 : World) (v : Value) (wx : World) : Prop :=
  ∃ b p l x s c, v = .pointer (some ⟨b, 0, none⟩) ∧ W0.heap.size ≤ b ∧ wx.heap[b]? = some (.cells #[.int .i64 hi, .int .u64 lo, .slice p l x, .int .u64 n, .complex .f64 s c, .float .f64 m, .float .f64 g] 109 (0, 0)) ∧ Only (fun _ => False) W0 wx ∧ Q p l x wx ∧ PQ s c

set_option maxRecDepth 100000 in
set_option maxHeartbeats 16000000 in
theorem merge_calls (ah al na bh bl nb : Int) (s1 c1 m1 x1 s2 c2 m2 x2 : Nat) (pa pb : Option Addr) (la xa lb xb : Nat) (w : World) (h2 : al ≤ 18446744073709551615) (h4 : bl ≤ 18446744073709551615)
    (Q : Option Addr → Nat → Nat → World → Prop) (PQ : Nat → Nat → Prop) (hQ : ∀ p l x w1 w2, Q p l x w1 → Keep 266 w1 w2 → Q p l x w2)
    (hRM : ∀ w1, Only (fun _ => False) w w1 → Calls Tryz.prog 139 #[.slice pa la xa, .slice pb lb xb] w1 fun e w2 => ∃ p l x, e = .returned (.slice p l x) ∧ Only (fun _ => False) w1 w2 ∧ Q p l x w2)
    (PM : ∀ w1, Calls Tryz.prog 140 #[.complex .f64 s1 c1, .complex .f64 s2 c2] w1 fun e w2 => ∃ s c, e = .returned (.complex .f64 s c) ∧ Only (fun _ => False) w1 w2 ∧ PQ s c) :
    Calls Tryz.prog 75 #[partv ah al pa la xa na s1 c1 m1 x1, partv bh bl pb lb xb nb s2 c2 m2 x2] w (MergeRes Q PQ (hiSum ah al bh bl) (loSum al bl : Nat) (IntKind.u64.wrap (na + nb)) (minOf na nb m1 m2) (maxOf na nb x1 x2) w) := by
  have H2 := Lib.hid h2; have H4 := Lib.hid h4
  clear h2 h4
  unfold partv
  go_enter Tryz.func75, Tryz.ntmps75
  go_upto_region 1 with fail
  have e1 : (w.alloc (.cells #[.int .i64 ah, .int .u64 al, .slice pa la xa, .int .u64 na, .complex .f64 s1 c1, .float .f64 m1, .float .f64 x1] 109)).heap.size = w.heap.size + 1 := by simp
  have e2 : ((w.alloc (.cells #[.int .i64 ah, .int .u64 al, .slice pa la xa, .int .u64 na, .complex .f64 s1 c1, .float .f64 m1, .float .f64 x1] 109)).alloc (.cells #[.int .i64 bh, .int .u64 bl, .slice pb lb xb, .int .u64 nb, .complex .f64 s2 c2, .float .f64 m2, .float .f64 x2] 109)).heap.size = w.heap.size + 1 + 1 := by simp
  generalize hW : ((w.alloc (.cells #[.int .i64 ah, .int .u64 al, .slice pa la xa, .int .u64 na, .complex .f64 s1 c1, .float .f64 m1, .float .f64 x1] 109)).alloc (.cells #[.int .i64 bh, .int .u64 bl, .slice pb lb xb, .int .u64 nb, .complex .f64 s2 c2, .float .f64 m2, .float .f64 x2] 109)).alloc (.cells #[.int .i64 0, .int .u64 0, .slice none 0 0, .int .u64 0, .complex .f64 0 0, .float .f64 0, .float .f64 0] 109) = W0
  have hA : W0.heap[w.heap.size]? = some (.cells #[.int .i64 ah, .int .u64 al, .slice pa la xa, .int .u64 na, .complex .f64 s1 c1, .float .f64 m1, .float .f64 x1] 109 (0, 0)) := by rw [← hW]; exact blk_alloc (blk_alloc (blk_new _ _) _) _
  have hB : W0.heap[w.heap.size + 1]? = some (.cells #[.int .i64 bh, .int .u64 bl, .slice pb lb xb, .int .u64 nb, .complex .f64 s2 c2, .float .f64 m2, .float .f64 x2] 109 (0, 0)) := by rw [← hW, ← e1]; exact blk_alloc (blk_new _ _) _
  have hZ : W0.heap[w.heap.size + 1 + 1]? = some (.cells #[.int .i64 0, .int .u64 0, .slice none 0 0, .int .u64 0, .complex .f64 0 0, .float .f64 0, .float .f64 0] 109 (0, 0)) := by rw [← hW, ← e2]; exact blk_new _ _
  have O0 : Only (fun _ => False) w W0 := by rw [← hW]; exact (((Only.refl _ w).alloc _).alloc _).alloc _
  clear hW e1 e2
  have RM : ∀ w1, Only (fun _ => False) W0 w1 → Calls Tryz.prog 139 #[.slice pa la xa, .slice pb lb xb] w1 fun e w2 => ∃ p l x, e = .returned (.slice p l x) ∧ Only (fun _ => False) w1 w2 ∧ Q p l x w2 := fun w1 O => hRM w1 (O0.trans O)
  have HQ := Lib.hid hQ; clear hQ
  have HRM := Lib.hid RM; have HPM := Lib.hid PM
  clear hRM RM PM
  have HA := Lib.hid hA; have HB := Lib.hid hB; have HZ := Lib.hid hZ
  clear hA hB hZ
  go_cut [5] (fun v wx => MergeCut Q PQ (hiSum ah al bh bl) (loSum al bl : Nat) (IntKind.u64.wrap (na + nb)) m1 x1 W0 v wx)
  case first =>
    have hs2 : Hid (∀ w', Only (fun _ => False) W0 w' → Only (fun _ => False) W0 w' ∧ w'.cell? ⟨w.heap.size, 0, none⟩ = some (.int .i64 ah) ∧ w'.cell? ⟨w.heap.size, 1, none⟩ = some (.int .u64 al) ∧ w'.cell? ⟨w.heap.size, 2, none⟩ = some (.slice pa la xa) ∧ w'.cell? ⟨w.heap.size, 3, none⟩ = some (.int .u64 na) ∧ w'.cell? ⟨w.heap.size, 4, none⟩ = some (.complex .f64 s1 c1) ∧ w'.cell? ⟨w.heap.size, 5, none⟩ = some (.float .f64 m1) ∧ w'.cell? ⟨w.heap.size, 6, none⟩ = some (.float .f64 x1) ∧ w'.cell? ⟨w.heap.size + 1, 0, none⟩ = some (.int .i64 bh) ∧ w'.cell? ⟨w.heap.size + 1, 1, none⟩ = some (.int .u64 bl) ∧ w'.cell? ⟨w.heap.size + 1, 2, none⟩ = some (.slice pb lb xb) ∧ w'.cell? ⟨w.heap.size + 1, 3, none⟩ = some (.int .u64 nb) ∧ w'.cell? ⟨w.heap.size + 1, 4, none⟩ = some (.complex .f64 s2 c2) ∧ w'.cell? ⟨w.heap.size + 1, 5, none⟩ = some (.float .f64 m2) ∧ w'.cell? ⟨w.heap.size + 1, 6, none⟩ = some (.float .f64 x2)) := fun w' O => by
      have qa := seven (O.blk HA.out (by simp))
      have qb := seven (O.blk HB.out (by simp))
      exact ⟨O, qa.d0, qa.d1, qa.d2, qa.d3, qa.d4, qa.d5, qa.d6, qb.d0, qb.d1, qb.d2, qb.d3, qb.d4, qb.d5, qb.d6⟩
    have N0 : Only (fun _ => False) W0 W0.drew := (Only.refl _ _).drew
    have ks1 := run_stf
    have ks2 := run_stc
    go_region_held3 (fun w' => Only (fun _ => False) W0 w' ∧ w'.cell? ⟨w.heap.size, 0, none⟩ = some (.int .i64 ah) ∧ w'.cell? ⟨w.heap.size, 1, none⟩ = some (.int .u64 al) ∧ w'.cell? ⟨w.heap.size, 2, none⟩ = some (.slice pa la xa) ∧ w'.cell? ⟨w.heap.size, 3, none⟩ = some (.int .u64 na) ∧ w'.cell? ⟨w.heap.size, 4, none⟩ = some (.complex .f64 s1 c1) ∧ w'.cell? ⟨w.heap.size, 5, none⟩ = some (.float .f64 m1) ∧ w'.cell? ⟨w.heap.size, 6, none⟩ = some (.float .f64 x1) ∧ w'.cell? ⟨w.heap.size + 1, 0, none⟩ = some (.int .i64 bh) ∧ w'.cell? ⟨w.heap.size + 1, 1, none⟩ = some (.int .u64 bl) ∧ w'.cell? ⟨w.heap.size + 1, 2, none⟩ = some (.slice pb lb xb) ∧ w'.cell? ⟨w.heap.size + 1, 3, none⟩ = some (.int .u64 nb) ∧ w'.cell? ⟨w.heap.size + 1, 4, none⟩ = some (.complex .f64 s2 c2) ∧ w'.cell? ⟨w.heap.size + 1, 5, none⟩ = some (.float .f64 m2) ∧ w'.cell? ⟨w.heap.size + 1, 6, none⟩ = some (.float .f64 x2))
      ((go_split_ands; first | (with_reducible exact hs2.out _ N0) | (with_reducible exact hs2.out _ N3) | (with_reducible exact hs2.out _ (Only.chain7 N3 F3.hg _ _ _ _ _ _ _)) | (with_reducible exact hs2.out _ (Only.alloc (by assumption) _))))
      (first
        | (go_at_call 138; go_split_ands; refine (wide_add _ _ _ _ _ H2.out H4.out).mono ?_; rintro e w3 ⟨rfl, O3⟩; have N3 := Only.trans (show Only (fun _ => False) W0 _ by assumption) O3; first | (obtain ⟨d0, d1, d2, d3, d4, d5, d6, f0, f1, f2, f3, f4, f5, f6⟩ := seven (Fresh.only (W0 := W0) (by assumption) O3).hb; have F3 := Fresh.only (W0 := W0) (by assumption) O3) | (have F3 := fresh_new0 (W0 := W0) O3; obtain ⟨d0, d1, d2, d3, d4, d5, d6, f0, f1, f2, f3, f4, f5, f6⟩ := seven F3.hb) | (have F3 := fresh_new (W0 := W0) (by assumption) O3; obtain ⟨d0, d1, d2, d3, d4, d5, d6, f0, f1, f2, f3, f4, f5, f6⟩ := seven F3.hb) | skip)
        | (go_at_call 139; go_split_ands; refine (HRM.out _ (show Only (fun _ => False) W0 _ by assumption)).mono ?_; rintro e w3 ⟨pv, lv, xv, rfl, O3, hq⟩; have N3 := Only.trans (show Only (fun _ => False) W0 _ by assumption) O3; first | (obtain ⟨d0, d1, d2, d3, d4, d5, d6, f0, f1, f2, f3, f4, f5, f6⟩ := seven (Fresh.only (W0 := W0) (by assumption) O3).hb; have F3 := Fresh.only (W0 := W0) (by assumption) O3) | (have F3 := fresh_new0 (W0 := W0) O3; obtain ⟨d0, d1, d2, d3, d4, d5, d6, f0, f1, f2, f3, f4, f5, f6⟩ := seven F3.hb) | (have F3 := fresh_new (W0 := W0) (by assumption) O3; obtain ⟨d0, d1, d2, d3, d4, d5, d6, f0, f1, f2, f3, f4, f5, f6⟩ := seven F3.hb) | skip)
        | (go_at_call 140; go_split_ands; refine (HPM.out _).mono ?_; rintro e w3 ⟨ss, cc, rfl, O3, hp⟩; have hq3 := HQ.out _ _ _ _ _ hq (show Keep 266 _ w3 from by first | exact O3.keep 266 | exact (Only.trans ((Only.refl _ _).alloc _) O3).keep 266); have N3 := Only.trans (show Only (fun _ => False) W0 _ by assumption) O3; first | (obtain ⟨d0, d1, d2, d3, d4, d5, d6, f0, f1, f2, f3, f4, f5, f6⟩ := seven (Fresh.only (W0 := W0) (by assumption) O3).hb; have F3 := Fresh.only (W0 := W0) (by assumption) O3) | (have F3 := fresh_new0 (W0 := W0) O3; obtain ⟨d0, d1, d2, d3, d4, d5, d6, f0, f1, f2, f3, f4, f5, f6⟩ := seven F3.hb) | (have F3 := fresh_new (W0 := W0) (by assumption) O3; obtain ⟨d0, d1, d2, d3, d4, d5, d6, f0, f1, f2, f3, f4, f5, f6⟩ := seven F3.hb) | skip))
    all_goals (go_wp2_with fail; go_meet)
    all_goals first
      | (have hfin : MergeCut Q PQ (hiSum ah al bh bl) (loSum al bl : Nat) (IntKind.u64.wrap (na + nb)) m1 x1 W0 (.pointer (some ⟨w3.heap.size, 0, none⟩)) _ := ⟨_, _, _, _, _, _, rfl, N3.size, blk_new _ _, N3.alloc _, HQ.out _ _ _ _ _ hq3 (((Only.refl _ _).alloc _).keep 266), hp⟩; exact hfin)
      | exact ⟨_, _, _, _, _, _, rfl, F3.hg, put7_blk F3.hb _ _ _ _ _ _ _, Only.chain7 N3 F3.hg _ _ _ _ _ _ _, HQ.out _ _ _ _ _ hq3 (Keep.chain7 ((Only.refl (fun _ => False) _).keep 266) F3.hb (by decide) _ _ _ _ _ _ _), hp⟩
  case rest =>
    obtain ⟨g, p, l, x, s, c, rfl, hg, hb, O1, hq, hp⟩ := hcut
    obtain ⟨a0, a1, a2, a3, a4, a5, a6, _, _, _, _, _, _, _⟩ := seven (O1.blk HA.out (by simp))
    obtain ⟨b0, b1, b2, b3, b4, b5, b6, _, _, _, _, _, _, _⟩ := seven (O1.blk HB.out (by simp))
    have hz := O1.blk HZ.out (by simp)
    obtain ⟨z0, z1, z2, z3, z4, z5, z6, y0, y1, y2, y3, y4, y5, y6⟩ := seven hz
    obtain ⟨g0, g1, g2, g3, g4, g5, g6, i0, i1, i2, i3, i4, i5, i6⟩ := seven hb
    have lz := blk_lt HZ.out
    have n1 : ¬ w.heap.size = g := by omega
    have n2 : ¬ w.heap.size + 1 = g := by omega
    have n3 : ¬ w.heap.size + 1 + 1 = g := by omega
    have n1' : ¬ g = w.heap.size := by omega
    have n2' : ¬ g = w.heap.size + 1 := by omega
    have n3' : ¬ g = w.heap.size + 1 + 1 := by omega
    have ng : w.heap.size ≤ g := by omega
    have ks1 := run_stf
    have ks2 := run_stc
    have Hb := Lib.hid hb; have Hz := Lib.hid hz; have Ho := Lib.hid O1; have HO0 := Lib.hid O0
    clear hb hz O1 O0 HA HB
    by_cases hna : na = 0
    · subst hna
      go_wp2_with fail
      have hb := Hb.out; have hz := Hz.out; have O1 := Ho.out; have O0 := HO0.out
      have em : minOf 0 nb m1 m2 = m2 := rfl
      have ex : maxOf 0 nb x1 x2 = x2 := rfl
      have e7 := seven (put7_blk (blk_set_ne (blk_set_ne hz ⟨g, 5, none⟩ (.float .f64 m2) n3) ⟨g, 6, none⟩ (.float .f64 x2) n3) (.int .i64 (hiSum ah al bh bl)) (.int .u64 (loSum al bl : Nat)) (.slice p l x) (.int .u64 (IntKind.u64.wrap nb)) (.complex .f64 s c) (.float .f64 m2) (.float .f64 x2))
      have O7 : Only (fun _ => False) w (put7 ((wc.setCell ⟨g, 5, none⟩ (.float .f64 m2)).setCell ⟨g, 6, none⟩ (.float .f64 x2)) (w.heap.size + 1 + 1) (.int .i64 (hiSum ah al bh bl)) (.int .u64 (loSum al bl : Nat)) (.slice p l x) (.int .u64 (IntKind.u64.wrap nb)) (.complex .f64 s c) (.float .f64 m2) (.float .f64 x2)) := (((O0.trans O1).setCell (p := ⟨g, 5, none⟩) (.inl ng) _).setCell (p := ⟨g, 6, none⟩) (.inl ng) _).put7 (.inl (by omega)) _ _ _ _ _ _ _
      have q7 : Q p l x (put7 ((wc.setCell ⟨g, 5, none⟩ (.float .f64 m2)).setCell ⟨g, 6, none⟩ (.float .f64 x2)) (w.heap.size + 1 + 1) (.int .i64 (hiSum ah al bh bl)) (.int .u64 (loSum al bl : Nat)) (.slice p l x) (.int .u64 (IntKind.u64.wrap nb)) (.complex .f64 s c) (.float .f64 m2) (.float .f64 x2)) := HQ.out _ _ _ _ _ hq (Keep.chain7 (Keep.set (i := 6) (v := .float .f64 x2) (Keep.set (i := 5) (v := .float .f64 m2) ((Only.refl (fun _ => False) wc).keep 266) hb (by decide)) (blk_set hb 5 (.float .f64 m2)) (by decide)) (blk_set_ne (blk_set_ne hz ⟨g, 5, none⟩ (.float .f64 m2) n3) ⟨g, 6, none⟩ (.float .f64 x2) n3) (by decide) _ _ _ _ _ _ _)
      refine bodyPost_ret (w := put7 ((wc.setCell ⟨g, 5, none⟩ (.float .f64 m2)).setCell ⟨g, 6, none⟩ (.float .f64 x2)) (w.heap.size + 1 + 1) (.int .i64 (hiSum ah al bh bl)) (.int .u64 (loSum al bl : Nat)) (.slice p l x) (.int .u64 (IntKind.u64.wrap nb)) (.complex .f64 s c) (.float .f64 m2) (.float .f64 x2)) (v := partv (hiSum ah al bh bl) (loSum al bl : Nat) p l x (IntKind.u64.wrap nb) s c m2 x2) ?_ rfl ⟨p, l, x, s, c, by rw [em, ex], q7, hp, O7⟩
      clear O7 q7
      generalize put7 ((wc.setCell ⟨g, 5, none⟩ (.float .f64 m2)).setCell ⟨g, 6, none⟩ (.float .f64 x2)) (w.heap.size + 1 + 1) (.int .i64 (hiSum ah al bh bl)) (.int .u64 (loSum al bl : Nat)) (.slice p l x) (.int .u64 (IntKind.u64.wrap nb)) (.complex .f64 s c) (.float .f64 m2) (.float .f64 x2) = w7 at *
      obtain ⟨d0, d1, d2, d3, d4, d5, d6, f0, f1, f2, f3, f4, f5, f6⟩ := e7
      simp [results, Tryz.results75, go_sem, d0, d1, d2, d3, d4, d5, d6, partv]
    by_cases hnb : nb = 0
    · subst hnb
      have v1 : (na == 0) = false := beq_eq_false_iff_ne.2 hna
      go_wp2_with fail
      have hb := Hb.out; have hz := Hz.out; have O1 := Ho.out; have O0 := HO0.out
      have em : minOf na 0 m1 m2 = m1 := by unfold minOf; rw [if_neg hna, if_pos rfl]
      have ex : maxOf na 0 x1 x2 = x1 := by unfold maxOf; rw [if_neg hna, if_pos rfl]
      have e7 := seven (put7_blk hz (.int .i64 (hiSum ah al bh bl)) (.int .u64 (loSum al bl : Nat)) (.slice p l x) (.int .u64 (IntKind.u64.wrap na)) (.complex .f64 s c) (.float .f64 m1) (.float .f64 x1))
      have O7 : Only (fun _ => False) w (put7 wc (w.heap.size + 1 + 1) (.int .i64 (hiSum ah al bh bl)) (.int .u64 (loSum al bl : Nat)) (.slice p l x) (.int .u64 (IntKind.u64.wrap na)) (.complex .f64 s c) (.float .f64 m1) (.float .f64 x1)) := (O0.trans O1).put7 (.inl (by omega)) _ _ _ _ _ _ _
      have q7 : Q p l x (put7 wc (w.heap.size + 1 + 1) (.int .i64 (hiSum ah al bh bl)) (.int .u64 (loSum al bl : Nat)) (.slice p l x) (.int .u64 (IntKind.u64.wrap na)) (.complex .f64 s c) (.float .f64 m1) (.float .f64 x1)) := HQ.out _ _ _ _ _ hq (Keep.chain7 ((Only.refl (fun _ => False) wc).keep 266) hz (by decide) _ _ _ _ _ _ _)
      refine bodyPost_ret (w := put7 wc (w.heap.size + 1 + 1) (.int .i64 (hiSum ah al bh bl)) (.int .u64 (loSum al bl : Nat)) (.slice p l x) (.int .u64 (IntKind.u64.wrap na)) (.complex .f64 s c) (.float .f64 m1) (.float .f64 x1)) (v := partv (hiSum ah al bh bl) (loSum al bl : Nat) p l x (IntKind.u64.wrap na) s c m1 x1) ?_ rfl ⟨p, l, x, s, c, by rw [em, ex], q7, hp, O7⟩
      clear O7 q7
      generalize put7 wc (w.heap.size + 1 + 1) (.int .i64 (hiSum ah al bh bl)) (.int .u64 (loSum al bl : Nat)) (.slice p l x) (.int .u64 (IntKind.u64.wrap na)) (.complex .f64 s c) (.float .f64 m1) (.float .f64 x1) = w7 at *
      obtain ⟨d0, d1, d2, d3, d4, d5, d6, f0, f1, f2, f3, f4, f5, f6⟩ := e7
      simp [results, Tryz.results75, go_sem, d0, d1, d2, d3, d4, d5, d6, partv]
    have v1 : (na == 0) = false := beq_eq_false_iff_ne.2 hna
    have v2 : (nb == 0) = false := beq_eq_false_iff_ne.2 hnb
    have v3 : (nb != 0) = true := by rw [bne_iff_ne]; exact hnb
    have hna' := Lib.hid hna; have hnb' := Lib.hid hnb
    clear hna hnb
    by_cases k1 : fcmp m2 m1 < 0
    · by_cases k2 : fcmp x2 x1 > 0
      · have j1 : decide (fcmp m2 m1 < 0) = true := decide_eq_true k1
        have j2 : decide (fcmp x2 x1 > 0) = true := decide_eq_true k2
        have em := Lib.hid (show minOf na nb m1 m2 = m2 from by unfold minOf; rw [if_neg hna'.out, if_neg hnb'.out, if_pos k1])
        have ex := Lib.hid (show maxOf na nb x1 x2 = x2 from by unfold maxOf; rw [if_neg hna'.out, if_neg hnb'.out, if_pos k2])
        clear k1 k2
        go_wp2_with (go_at_call 141; refine (compare_calls _ _ _).mono ?_; rintro e w1 ⟨rfl, hw⟩; rw [hw]; clear hw)
        have hb := Hb.out; have hz := Hz.out; have O1 := Ho.out; have O0 := HO0.out
        have e7 := seven (put7_blk (blk_set_ne (blk_set_ne hz ⟨g, 5, none⟩ (.float .f64 m2) n3) ⟨g, 6, none⟩ (.float .f64 x2) n3) (.int .i64 (hiSum ah al bh bl)) (.int .u64 (loSum al bl : Nat)) (.slice p l x) (.int .u64 (IntKind.u64.wrap (na + nb))) (.complex .f64 s c) (.float .f64 m2) (.float .f64 x2))
        have O7 : Only (fun _ => False) w (put7 ((wc.setCell ⟨g, 5, none⟩ (.float .f64 m2)).setCell ⟨g, 6, none⟩ (.float .f64 x2)) (w.heap.size + 1 + 1) (.int .i64 (hiSum ah al bh bl)) (.int .u64 (loSum al bl : Nat)) (.slice p l x) (.int .u64 (IntKind.u64.wrap (na + nb))) (.complex .f64 s c) (.float .f64 m2) (.float .f64 x2)) := (((O0.trans O1).setCell (p := ⟨g, 5, none⟩) (.inl ng) _).setCell (p := ⟨g, 6, none⟩) (.inl ng) _).put7 (.inl (by omega)) _ _ _ _ _ _ _
        have q7 : Q p l x (put7 ((wc.setCell ⟨g, 5, none⟩ (.float .f64 m2)).setCell ⟨g, 6, none⟩ (.float .f64 x2)) (w.heap.size + 1 + 1) (.int .i64 (hiSum ah al bh bl)) (.int .u64 (loSum al bl : Nat)) (.slice p l x) (.int .u64 (IntKind.u64.wrap (na + nb))) (.complex .f64 s c) (.float .f64 m2) (.float .f64 x2)) := HQ.out _ _ _ _ _ hq (Keep.chain7 (Keep.set (i := 6) (v := .float .f64 x2) (Keep.set (i := 5) (v := .float .f64 m2) ((Only.refl (fun _ => False) wc).keep 266) hb (by decide)) (blk_set hb 5 (.float .f64 m2)) (by decide)) (blk_set_ne (blk_set_ne hz ⟨g, 5, none⟩ (.float .f64 m2) n3) ⟨g, 6, none⟩ (.float .f64 x2) n3) (by decide) _ _ _ _ _ _ _)
        refine bodyPost_ret (w := put7 ((wc.setCell ⟨g, 5, none⟩ (.float .f64 m2)).setCell ⟨g, 6, none⟩ (.float .f64 x2)) (w.heap.size + 1 + 1) (.int .i64 (hiSum ah al bh bl)) (.int .u64 (loSum al bl : Nat)) (.slice p l x) (.int .u64 (IntKind.u64.wrap (na + nb))) (.complex .f64 s c) (.float .f64 m2) (.float .f64 x2)) (v := partv (hiSum ah al bh bl) (loSum al bl : Nat) p l x (IntKind.u64.wrap (na + nb)) s c m2 x2) ?_ rfl ⟨p, l, x, s, c, by rw [em.out, ex.out], q7, hp, O7⟩
        clear O7 q7
        generalize put7 ((wc.setCell ⟨g, 5, none⟩ (.float .f64 m2)).setCell ⟨g, 6, none⟩ (.float .f64 x2)) (w.heap.size + 1 + 1) (.int .i64 (hiSum ah al bh bl)) (.int .u64 (loSum al bl : Nat)) (.slice p l x) (.int .u64 (IntKind.u64.wrap (na + nb))) (.complex .f64 s c) (.float .f64 m2) (.float .f64 x2) = w7 at *
        obtain ⟨d0, d1, d2, d3, d4, d5, d6, f0, f1, f2, f3, f4, f5, f6⟩ := e7
        simp [results, Tryz.results75, go_sem, d0, d1, d2, d3, d4, d5, d6, partv]
      · have j1 : decide (fcmp m2 m1 < 0) = true := decide_eq_true k1
        have j2 : decide (fcmp x2 x1 > 0) = false := decide_eq_false k2
        have em := Lib.hid (show minOf na nb m1 m2 = m2 from by unfold minOf; rw [if_neg hna'.out, if_neg hnb'.out, if_pos k1])
        have ex := Lib.hid (show maxOf na nb x1 x2 = x1 from by unfold maxOf; rw [if_neg hna'.out, if_neg hnb'.out, if_neg k2])
        clear k1 k2
        go_wp2_with (go_at_call 141; refine (compare_calls _ _ _).mono ?_; rintro e w1 ⟨rfl, hw⟩; rw [hw]; clear hw)
        have hb := Hb.out; have hz := Hz.out; have O1 := Ho.out; have O0 := HO0.out
        have e7 := seven (put7_blk (blk_set_ne hz ⟨g, 5, none⟩ (.float .f64 m2) n3) (.int .i64 (hiSum ah al bh bl)) (.int .u64 (loSum al bl : Nat)) (.slice p l x) (.int .u64 (IntKind.u64.wrap (na + nb))) (.complex .f64 s c) (.float .f64 m2) (.float .f64 x1))
        have O7 : Only (fun _ => False) w (put7 (wc.setCell ⟨g, 5, none⟩ (.float .f64 m2)) (w.heap.size + 1 + 1) (.int .i64 (hiSum ah al bh bl)) (.int .u64 (loSum al bl : Nat)) (.slice p l x) (.int .u64 (IntKind.u64.wrap (na + nb))) (.complex .f64 s c) (.float .f64 m2) (.float .f64 x1)) := ((O0.trans O1).setCell (p := ⟨g, 5, none⟩) (.inl ng) _).put7 (.inl (by omega)) _ _ _ _ _ _ _
        have q7 : Q p l x (put7 (wc.setCell ⟨g, 5, none⟩ (.float .f64 m2)) (w.heap.size + 1 + 1) (.int .i64 (hiSum ah al bh bl)) (.int .u64 (loSum al bl : Nat)) (.slice p l x) (.int .u64 (IntKind.u64.wrap (na + nb))) (.complex .f64 s c) (.float .f64 m2) (.float .f64 x1)) := HQ.out _ _ _ _ _ hq (Keep.chain7 (Keep.set (i := 5) (v := .float .f64 m2) ((Only.refl (fun _ => False) wc).keep 266) hb (by decide)) (blk_set_ne hz ⟨g, 5, none⟩ (.float .f64 m2) n3) (by decide) _ _ _ _ _ _ _)
        refine bodyPost_ret (w := put7 (wc.setCell ⟨g, 5, none⟩ (.float .f64 m2)) (w.heap.size + 1 + 1) (.int .i64 (hiSum ah al bh bl)) (.int .u64 (loSum al bl : Nat)) (.slice p l x) (.int .u64 (IntKind.u64.wrap (na + nb))) (.complex .f64 s c) (.float .f64 m2) (.float .f64 x1)) (v := partv (hiSum ah al bh bl) (loSum al bl : Nat) p l x (IntKind.u64.wrap (na + nb)) s c m2 x1) ?_ rfl ⟨p, l, x, s, c, by rw [em.out, ex.out], q7, hp, O7⟩
        clear O7 q7
        generalize put7 (wc.setCell ⟨g, 5, none⟩ (.float .f64 m2)) (w.heap.size + 1 + 1) (.int .i64 (hiSum ah al bh bl)) (.int .u64 (loSum al bl : Nat)) (.slice p l x) (.int .u64 (IntKind.u64.wrap (na + nb))) (.complex .f64 s c) (.float .f64 m2) (.float .f64 x1) = w7 at *
        obtain ⟨d0, d1, d2, d3, d4, d5, d6, f0, f1, f2, f3, f4, f5, f6⟩ := e7
        simp [results, Tryz.results75, go_sem, d0, d1, d2, d3, d4, d5, d6, partv]
    · by_cases k2 : fcmp x2 x1 > 0
      · have j1 : decide (fcmp m2 m1 < 0) = false := decide_eq_false k1
        have j2 : decide (fcmp x2 x1 > 0) = true := decide_eq_true k2
        have em := Lib.hid (show minOf na nb m1 m2 = m1 from by unfold minOf; rw [if_neg hna'.out, if_neg hnb'.out, if_neg k1])
        have ex := Lib.hid (show maxOf na nb x1 x2 = x2 from by unfold maxOf; rw [if_neg hna'.out, if_neg hnb'.out, if_pos k2])
        clear k1 k2
        go_wp2_with (go_at_call 141; refine (compare_calls _ _ _).mono ?_; rintro e w1 ⟨rfl, hw⟩; rw [hw]; clear hw)
        have hb := Hb.out; have hz := Hz.out; have O1 := Ho.out; have O0 := HO0.out
        have e7 := seven (put7_blk (blk_set_ne hz ⟨g, 6, none⟩ (.float .f64 x2) n3) (.int .i64 (hiSum ah al bh bl)) (.int .u64 (loSum al bl : Nat)) (.slice p l x) (.int .u64 (IntKind.u64.wrap (na + nb))) (.complex .f64 s c) (.float .f64 m1) (.float .f64 x2))
        have O7 : Only (fun _ => False) w (put7 (wc.setCell ⟨g, 6, none⟩ (.float .f64 x2)) (w.heap.size + 1 + 1) (.int .i64 (hiSum ah al bh bl)) (.int .u64 (loSum al bl : Nat)) (.slice p l x) (.int .u64 (IntKind.u64.wrap (na + nb))) (.complex .f64 s c) (.float .f64 m1) (.float .f64 x2)) := ((O0.trans O1).setCell (p := ⟨g, 6, none⟩) (.inl ng) _).put7 (.inl (by omega)) _ _ _ _ _ _ _
        have q7 : Q p l x (put7 (wc.setCell ⟨g, 6, none⟩ (.float .f64 x2)) (w.heap.size + 1 + 1) (.int .i64 (hiSum ah al bh bl)) (.int .u64 (loSum al bl : Nat)) (.slice p l x) (.int .u64 (IntKind.u64.wrap (na + nb))) (.complex .f64 s c) (.float .f64 m1) (.float .f64 x2)) := HQ.out _ _ _ _ _ hq (Keep.chain7 (Keep.set (i := 6) (v := .float .f64 x2) ((Only.refl (fun _ => False) wc).keep 266) hb (by decide)) (blk_set_ne hz ⟨g, 6, none⟩ (.float .f64 x2) n3) (by decide) _ _ _ _ _ _ _)
        refine bodyPost_ret (w := put7 (wc.setCell ⟨g, 6, none⟩ (.float .f64 x2)) (w.heap.size + 1 + 1) (.int .i64 (hiSum ah al bh bl)) (.int .u64 (loSum al bl : Nat)) (.slice p l x) (.int .u64 (IntKind.u64.wrap (na + nb))) (.complex .f64 s c) (.float .f64 m1) (.float .f64 x2)) (v := partv (hiSum ah al bh bl) (loSum al bl : Nat) p l x (IntKind.u64.wrap (na + nb)) s c m1 x2) ?_ rfl ⟨p, l, x, s, c, by rw [em.out, ex.out], q7, hp, O7⟩
        clear O7 q7
        generalize put7 (wc.setCell ⟨g, 6, none⟩ (.float .f64 x2)) (w.heap.size + 1 + 1) (.int .i64 (hiSum ah al bh bl)) (.int .u64 (loSum al bl : Nat)) (.slice p l x) (.int .u64 (IntKind.u64.wrap (na + nb))) (.complex .f64 s c) (.float .f64 m1) (.float .f64 x2) = w7 at *
        obtain ⟨d0, d1, d2, d3, d4, d5, d6, f0, f1, f2, f3, f4, f5, f6⟩ := e7
        simp [results, Tryz.results75, go_sem, d0, d1, d2, d3, d4, d5, d6, partv]
      · have j1 : decide (fcmp m2 m1 < 0) = false := decide_eq_false k1
        have j2 : decide (fcmp x2 x1 > 0) = false := decide_eq_false k2
        have em := Lib.hid (show minOf na nb m1 m2 = m1 from by unfold minOf; rw [if_neg hna'.out, if_neg hnb'.out, if_neg k1])
        have ex := Lib.hid (show maxOf na nb x1 x2 = x1 from by unfold maxOf; rw [if_neg hna'.out, if_neg hnb'.out, if_neg k2])
        clear k1 k2
        go_wp2_with (go_at_call 141; refine (compare_calls _ _ _).mono ?_; rintro e w1 ⟨rfl, hw⟩; rw [hw]; clear hw)
        have hb := Hb.out; have hz := Hz.out; have O1 := Ho.out; have O0 := HO0.out
        have e7 := seven (put7_blk hz (.int .i64 (hiSum ah al bh bl)) (.int .u64 (loSum al bl : Nat)) (.slice p l x) (.int .u64 (IntKind.u64.wrap (na + nb))) (.complex .f64 s c) (.float .f64 m1) (.float .f64 x1))
        have O7 : Only (fun _ => False) w (put7 wc (w.heap.size + 1 + 1) (.int .i64 (hiSum ah al bh bl)) (.int .u64 (loSum al bl : Nat)) (.slice p l x) (.int .u64 (IntKind.u64.wrap (na + nb))) (.complex .f64 s c) (.float .f64 m1) (.float .f64 x1)) := (O0.trans O1).put7 (.inl (by omega)) _ _ _ _ _ _ _
        have q7 : Q p l x (put7 wc (w.heap.size + 1 + 1) (.int .i64 (hiSum ah al bh bl)) (.int .u64 (loSum al bl : Nat)) (.slice p l x) (.int .u64 (IntKind.u64.wrap (na + nb))) (.complex .f64 s c) (.float .f64 m1) (.float .f64 x1)) := HQ.out _ _ _ _ _ hq (Keep.chain7 ((Only.refl (fun _ => False) wc).keep 266) hz (by decide) _ _ _ _ _ _ _)
        refine bodyPost_ret (w := put7 wc (w.heap.size + 1 + 1) (.int .i64 (hiSum ah al bh bl)) (.int .u64 (loSum al bl : Nat)) (.slice p l x) (.int .u64 (IntKind.u64.wrap (na + nb))) (.complex .f64 s c) (.float .f64 m1) (.float .f64 x1)) (v := partv (hiSum ah al bh bl) (loSum al bl : Nat) p l x (IntKind.u64.wrap (na + nb)) s c m1 x1) ?_ rfl ⟨p, l, x, s, c, by rw [em.out, ex.out], q7, hp, O7⟩
        clear O7 q7
        generalize put7 wc (w.heap.size + 1 + 1) (.int .i64 (hiSum ah al bh bl)) (.int .u64 (loSum al bl : Nat)) (.slice p l x) (.int .u64 (IntKind.u64.wrap (na + nb))) (.complex .f64 s c) (.float .f64 m1) (.float .f64 x1) = w7 at *
        obtain ⟨d0, d1, d2, d3, d4, d5, d6, f0, f1, f2, f3, f4, f5, f6⟩ := e7
        simp [results, Tryz.results75, go_sem, d0, d1, d2, d3, d4, d5, d6, partv]
end Go.Proofs.YtlipngdfhpaodaaGreat
