/- The walk of Merge, at any two parts. -/
import Derived.Test.YtimiojckinpfdaaRows
import Derived.Deep.RegionHeld3
import Derived.Deep.DeepCutAuto
import Ieee.Arith
import Derived.Laws.FloatBits
import Derived.Test.YtimiojckinpfdaaJnValuesd
namespace Go.Proofs.Ytimiojckinpfdaa
open Go.RowKit

/-- a block of seven zeros, made since W0 -/
structure Fresh (W0 W : World) (g : Nat) : Prop where
  hb : W.heap[g]? = some (.cells #[.int .i64 0, .int .u64 0, .slice none 0 0, .int .u64 0, .complex .f64 0 0, .float .f64 0, .float .f64 0] 42 (0, 0))
  hg : W0.heap.size ≤ g
theorem Fresh.only {W0 W w3 : World} {g : Nat} (h : Fresh W0 W g) (O : Only (fun _ => False) W w3) : Fresh W0 w3 g := ⟨O.blk h.hb (by simp), h.hg⟩
theorem fresh_new {W0 X w3 : World} (O0 : Only (fun _ => False) W0 X) (O : Only (fun _ => False) (X.alloc (.cells #[.int .i64 0, .int .u64 0, .slice none 0 0, .int .u64 0, .complex .f64 0 0, .float .f64 0, .float .f64 0] 42)) w3) : Fresh W0 w3 X.heap.size :=
  ⟨O.blk (blk_new _ _) (by simp), O0.size⟩
theorem Only.chain7 {S : Nat → Prop} {a w : World} (h : Only S a w) {b : Nat} (hb : a.heap.size ≤ b) (v0 v1 v2 v3 v4 v5 v6 : Value) :
    Only S a (((((((w.setCell ⟨b, 0, none⟩ v0).setCell ⟨b, 1, none⟩ v1).setCell ⟨b, 2, none⟩ v2).setCell ⟨b, 3, none⟩ v3).setCell ⟨b, 4, none⟩ v4).setCell ⟨b, 5, none⟩ v5).setCell ⟨b, 6, none⟩ v6) := h.put7 (.inl hb) v0 v1 v2 v3 v4 v5 v6
theorem fresh_new0 {W0 w3 : World} (O : Only (fun _ => False) (W0.drew.alloc (.cells #[.int .i64 0, .int .u64 0, .slice none 0 0, .int .u64 0, .complex .f64 0 0, .float .f64 0, .float .f64 0] 42)) w3) : Fresh W0 w3 W0.heap.size := fresh_new (X := W0.drew) (Only.refl _ W0).drew O
/-- the blocks of the type t stay -/
def Keep (t : TypeId) (w1 w2 : World) : Prop := ∀ (k : Nat) (cs : Array Value) (f : Nat × Nat), w1.heap[k]? = some (.cells cs t f) → w2.heap[k]? = some (.cells cs t f)
theorem Only.keep {w1 w2 : World} (h : Only (fun _ => False) w1 w2) (t : TypeId) : Keep t w1 w2 := fun _ _ _ q => h.blk q (by simp)
theorem Keep.trans {t : TypeId} {a b c : World} (h : Keep t a b) (k : Keep t b c) : Keep t a c := fun i cs f q => k i cs f (h i cs f q)
theorem Keep.set {t u : TypeId} {w0 w : World} {b i : Nat} {cs : Array Value} {f : Nat × Nat} {v : Value} (h : Keep t w0 w) (hb : w.heap[b]? = some (.cells cs u f)) (hu : u ≠ t) : Keep t w0 (w.setCell ⟨b, i, none⟩ v) := fun k cs' f' q => by
  have q1 := h k cs' f' q
  refine blk_set_ne q1 _ _ ?_
  intro e
  have e' : k = b := e
  rw [e', hb] at q1; injection q1 with q1; injection q1 with _ q1 _; exact hu q1
theorem Keep.chain7 {t u : TypeId} {w0 w : World} {b : Nat} {cs : Array Value} {f : Nat × Nat} (h : Keep t w0 w) (hb : w.heap[b]? = some (.cells cs u f)) (hu : u ≠ t) (v0 v1 v2 v3 v4 v5 v6 : Value) :
    Keep t w0 (((((((w.setCell ⟨b, 0, none⟩ v0).setCell ⟨b, 1, none⟩ v1).setCell ⟨b, 2, none⟩ v2).setCell ⟨b, 3, none⟩ v3).setCell ⟨b, 4, none⟩ v4).setCell ⟨b, 5, none⟩ v5).setCell ⟨b, 6, none⟩ v6) := by
  have q0 := h.set (i := 0) (v := v0) hb hu; have b0 := blk_set hb 0 v0
  have q1 := q0.set (i := 1) (v := v1) b0 hu; have b1 := blk_set b0 1 v1
  have q2 := q1.set (i := 2) (v := v2) b1 hu; have b2 := blk_set b1 2 v2
  have q3 := q2.set (i := 3) (v := v3) b2 hu; have b3 := blk_set b2 3 v3
  have q4 := q3.set (i := 4) (v := v4) b3 hu; have b4 := blk_set b3 4 v4
  have q5 := q4.set (i := 5) (v := v5) b4 hu; have b5 := blk_set b4 5 v5
  exact q5.set (i := 6) (v := v6) b5 hu
/-- a part, as a value -/
def partv (hi lo : Int) (p : Option Addr) (l x : Nat) (n : Int) (s c m g : Nat) : Value := .agg #[.int .i64 hi, .int .u64 lo, .slice p l x, .int .u64 n, .complex .f64 s c, .float .f64 m, .float .f64 g]
theorem partc_eq (hi lo : Int) : partc hi lo = partv hi lo none 0 0 0 0 0 0 0 := rfl
def minOf (na nb : Int) (m1 m2 : Nat) : Nat := if na = 0 then m2 else if nb = 0 then m1 else if fcmp m2 m1 < 0 then m2 else m1
def maxOf (na nb : Int) (m1 m2 : Nat) : Nat := if na = 0 then m2 else if nb = 0 then m1 else if fcmp m2 m1 > 0 then m2 else m1
/-- what Merge answers: the counts by Q, the pair by PQ -/
def MergeRes (Q : Option Addr → Nat → Nat → World → Prop) (PQ : Nat → Nat → Prop) (hi lo n : Int) (m g : Nat) (w : World) (e : Ending) (w' : World) : Prop :=
  ∃ p l x s c, e = .returned (partv hi lo p l x n s c m g) ∧ Q p l x w' ∧ PQ s c ∧ Only (fun _ => False) w w'
/-- behind the statement that lays the merged part down -/
def MergeCut (Q : Option Addr → Nat → Nat → World → Prop) (PQ : Nat → Nat → Prop) (hi lo n : Int) (m g : Nat) (W0 : World) (v : Value) (wx : World) : Prop :=
  ∃ b p l x s c, v = .pointer (some ⟨b, 0, none⟩) ∧ W0.heap.size ≤ b ∧ wx.heap[b]? = some (.cells #[.int .i64 hi, .int .u64 lo, .slice p l x, .int .u64 n, .complex .f64 s c, .float .f64 m, .float .f64 g] 42 (0, 0)) ∧ Only (fun _ => False) W0 wx ∧ Q p l x wx ∧ PQ s c

set_option maxRecDepth 100000 in
set_option maxHeartbeats 16000000 in
theorem merge_calls (ah al na bh bl nb : Int) (s1 c1 m1 x1 s2 c2 m2 x2 : Nat) (pa pb : Option Addr) (la xa lb xb : Nat) (w : World) (h2 : al ≤ 18446744073709551615) (h4 : bl ≤ 18446744073709551615)
    (Q : Option Addr → Nat → Nat → World → Prop) (PQ : Nat → Nat → Prop) (hQ : ∀ p l x w1 w2, Q p l x w1 → Keep 55 w1 w2 → Q p l x w2)
    (hRM : ∀ w1, Only (fun _ => False) w w1 → Calls Try.prog 47 #[.slice pa la xa, .slice pb lb xb] w1 fun e w2 => ∃ p l x, e = .returned (.slice p l x) ∧ Only (fun _ => False) w1 w2 ∧ Q p l x w2)
    (PM : ∀ w1, Calls Try.prog 48 #[.complex .f64 s1 c1, .complex .f64 s2 c2] w1 fun e w2 => ∃ s c, e = .returned (.complex .f64 s c) ∧ Only (fun _ => False) w1 w2 ∧ PQ s c) :
    Calls Try.prog 16 #[partv ah al pa la xa na s1 c1 m1 x1, partv bh bl pb lb xb nb s2 c2 m2 x2] w (MergeRes Q PQ (hiSum ah al bh bl) (loSum al bl : Nat) (IntKind.u64.wrap (na + nb)) (minOf na nb m1 m2) (maxOf na nb x1 x2) w) := by
  have H2 := Lib.hid h2; have H4 := Lib.hid h4
  clear h2 h4
  unfold partv
  go_enter Try.func16, Try.ntmps16
  go_upto_region 1 with fail
  have e1 : (w.alloc (.cells #[.int .i64 ah, .int .u64 al, .slice pa la xa, .int .u64 na, .complex .f64 s1 c1, .float .f64 m1, .float .f64 x1] 42)).heap.size = w.heap.size + 1 := by simp
  have e2 : ((w.alloc (.cells #[.int .i64 ah, .int .u64 al, .slice pa la xa, .int .u64 na, .complex .f64 s1 c1, .float .f64 m1, .float .f64 x1] 42)).alloc (.cells #[.int .i64 bh, .int .u64 bl, .slice pb lb xb, .int .u64 nb, .complex .f64 s2 c2, .float .f64 m2, .float .f64 x2] 42)).heap.size = w.heap.size + 1 + 1 := by simp
  generalize hW : ((w.alloc (.cells #[.int .i64 ah, .int .u64 al, .slice pa la xa, .int .u64 na, .complex .f64 s1 c1, .float .f64 m1, .float .f64 x1] 42)).alloc (.cells #[.int .i64 bh, .int .u64 bl, .slice pb lb xb, .int .u64 nb, .complex .f64 s2 c2, .float .f64 m2, .float .f64 x2] 42)).alloc (.cells #[.int .i64 0, .int .u64 0, .slice none 0 0, .int .u64 0, .complex .f64 0 0, .float .f64 0, .float .f64 0] 42) = W0
  have hA : W0.heap[w.heap.size]? = some (.cells #[.int .i64 ah, .int .u64 al, .slice pa la xa, .int .u64 na, .complex .f64 s1 c1, .float .f64 m1, .float .f64 x1] 42 (0, 0)) := by rw [← hW]; exact blk_alloc (blk_alloc (blk_new _ _) _) _
  have hB : W0.heap[w.heap.size + 1]? = some (.cells #[.int .i64 bh, .int .u64 bl, .slice pb lb xb, .int .u64 nb, .complex .f64 s2 c2, .float .f64 m2, .float .f64 x2] 42 (0, 0)) := by rw [← hW, ← e1]; exact blk_alloc (blk_new _ _) _
  have hZ : W0.heap[w.heap.size + 1 + 1]? = some (.cells #[.int .i64 0, .int .u64 0, .slice none 0 0, .int .u64 0, .complex .f64 0 0, .float .f64 0, .float .f64 0] 42 (0, 0)) := by rw [← hW, ← e2]; exact blk_new _ _
  have O0 : Only (fun _ => False) w W0 := by rw [← hW]; exact (((Only.refl _ w).alloc _).alloc _).alloc _
  clear hW e1 e2
  have RM : ∀ w1, Only (fun _ => False) W0 w1 → Calls Try.prog 47 #[.slice pa la xa, .slice pb lb xb] w1 fun e w2 => ∃ p l x, e = .returned (.slice p l x) ∧ Only (fun _ => False) w1 w2 ∧ Q p l x w2 := fun w1 O => hRM w1 (O0.trans O)
  have HQ := Lib.hid hQ; clear hQ
  have HRM := Lib.hid RM; have HPM := Lib.hid PM
  clear hRM RM PM
  have HA := Lib.hid hA; have HB := Lib.hid hB; have HZ := Lib.hid hZ
  clear hA hB hZ
  go_cut [5] (fun v wx => MergeCut Q PQ (hiSum ah al bh bl) (loSum al bl : Nat) (IntKind.u64.wrap (na + nb)) m1 x1 W0 v wx)
  case first =>
    have hs2 : Hid (∀ w', Only (fun _ => False) W0 w' → Only (fun _ => False) W0 w' ∧ w'.cell? ⟨w.heap.size, 0, none⟩ = some (.int .i64 ah) ∧ w'.cell? ⟨w.heap.size, 1, none⟩ = some (.int .u64 al) ∧ w'.cell? ⟨w.heap.size, 2, none⟩ = some (.slice pa la xa) ∧ w'.cell? ⟨w.heap.size, 3, none⟩ = some (.int .u64 na) ∧ w'.cell? ⟨w.heap.size, 4, none⟩ = some (.complex .f64 s1 c1) ∧ w'.cell? ⟨w.heap.size, 5, none⟩ = some (.float .f64 m1) ∧ w'.cell? ⟨w.heap.size, 6, none⟩ = some (.float .f64 x1) ∧ w'.cell? ⟨w.heap.size + 1, 0, none⟩ = some (.int .i64 bh) ∧ w'.cell? ⟨w.heap.size + 1, 1, none⟩ = some (.int .u64 bl) ∧ w'.cell? ⟨w.heap.size + 1, 2, none⟩ = some (.slice pb lb xb) ∧ w'.cell? ⟨w.heap.size + 1, 3, none⟩ = some (.int .u64 nb) ∧ w'.cell? ⟨w.heap.size + 1, 4, none⟩ = some (.complex .f64 s2 c2) ∧ w'.cell? ⟨w.heap.size + 1, 5, none⟩ = some (.float .f64 m2) ∧ w'.cell? ⟨w.heap.size + 1, 6, none⟩ = some (.float .f64 x2)) := fun w' O => by
      have qa := seven (O.blk HA.out (by simp))
      have qb := seven (O.blk HB.out (by simp))
      exact ⟨O, qa.d0, qa.d1, qa.d2, qa.d3, qa.d4, qa.d5, qa.d6, qb.d0, qb.d1, qb.d2, qb.d3, qb.d4, qb.d5, qb.d6⟩
    have N0 : Only (fun _ => False) W0 W0.drew := (Only.refl _ _).drew
    have ks1 := run_stf
    have ks2 := run_stc
    go_region_held3 (fun w' => Only (fun _ => False) W0 w' ∧ w'.cell? ⟨w.heap.size, 0, none⟩ = some (.int .i64 ah) ∧ w'.cell? ⟨w.heap.size, 1, none⟩ = some (.int .u64 al) ∧ w'.cell? ⟨w.heap.size, 2, none⟩ = some (.slice pa la xa) ∧ w'.cell? ⟨w.heap.size, 3, none⟩ = some (.int .u64 na) ∧ w'.cell? ⟨w.heap.size, 4, none⟩ = some (.complex .f64 s1 c1) ∧ w'.cell? ⟨w.heap.size, 5, none⟩ = some (.float .f64 m1) ∧ w'.cell? ⟨w.heap.size, 6, none⟩ = some (.float .f64 x1) ∧ w'.cell? ⟨w.heap.size + 1, 0, none⟩ = some (.int .i64 bh) ∧ w'.cell? ⟨w.heap.size + 1, 1, none⟩ = some (.int .u64 bl) ∧ w'.cell? ⟨w.heap.size + 1, 2, none⟩ = some (.slice pb lb xb) ∧ w'.cell? ⟨w.heap.size + 1, 3, none⟩ = some (.int .u64 nb) ∧ w'.cell? ⟨w.heap.size + 1, 4, none⟩ = some (.complex .f64 s2 c2) ∧ w'.cell? ⟨w.heap.size + 1, 5, none⟩ = some (.float .f64 m2) ∧ w'.cell? ⟨w.heap.size + 1, 6, none⟩ = some (.float .f64 x2))
      ((go_split_ands; first | (with_reducible exact hs2.out _ N0) | (with_reducible exact hs2.out _ N3) | (with_reducible exact hs2.out _ (Only.chain7 N3 F3.hg _ _ _ _ _ _ _)) | (with_reducible exact hs2.out _ (Only.alloc (by assumption) _))))
      (first
        | (go_at_call 46; go_split_ands; refine (wide_add _ _ _ _ _ H2.out H4.out).mono ?_; rintro e w3 ⟨rfl, O3⟩; have N3 := Only.trans (show Only (fun _ => False) W0 _ by assumption) O3; first | (obtain ⟨d0, d1, d2, d3, d4, d5, d6, f0, f1, f2, f3, f4, f5, f6⟩ := seven (Fresh.only (W0 := W0) (by assumption) O3).hb; have F3 := Fresh.only (W0 := W0) (by assumption) O3) | (have F3 := fresh_new0 (W0 := W0) O3; obtain ⟨d0, d1, d2, d3, d4, d5, d6, f0, f1, f2, f3, f4, f5, f6⟩ := seven F3.hb) | (have F3 := fresh_new (W0 := W0) (by assumption) O3; obtain ⟨d0, d1, d2, d3, d4, d5, d6, f0, f1, f2, f3, f4, f5, f6⟩ := seven F3.hb) | skip)
        | (go_at_call 47; go_split_ands; refine (HRM.out _ (show Only (fun _ => False) W0 _ by assumption)).mono ?_; rintro e w3 ⟨pv, lv, xv, rfl, O3, hq⟩; have N3 := Only.trans (show Only (fun _ => False) W0 _ by assumption) O3; first | (obtain ⟨d0, d1, d2, d3, d4, d5, d6, f0, f1, f2, f3, f4, f5, f6⟩ := seven (Fresh.only (W0 := W0) (by assumption) O3).hb; have F3 := Fresh.only (W0 := W0) (by assumption) O3) | (have F3 := fresh_new0 (W0 := W0) O3; obtain ⟨d0, d1, d2, d3, d4, d5, d6, f0, f1, f2, f3, f4, f5, f6⟩ := seven F3.hb) | (have F3 := fresh_new (W0 := W0) (by assumption) O3; obtain ⟨d0, d1, d2, d3, d4, d5, d6, f0, f1, f2, f3, f4, f5, f6⟩ := seven F3.hb) | skip)
        | (go_at_call 48; go_split_ands; refine (HPM.out _).mono ?_; rintro e w3 ⟨ss, cc, rfl, O3, hp⟩; have hq3 := HQ.out _ _ _ _ _ hq (show Keep 55 _ w3 from by first | exact O3.keep 55 | exact (Only.trans ((Only.refl _ _).alloc _) O3).keep 55); have N3 := Only.trans (show Only (fun _ => False) W0 _ by assumption) O3; first | (obtain ⟨d0, d1, d2, d3, d4, d5, d6, f0, f1, f2, f3, f4, f5, f6⟩ := seven (Fresh.only (W0 := W0) (by assumption) O3).hb; have F3 := Fresh.only (W0 := W0) (by assumption) O3) | (have F3 := fresh_new0 (W0 := W0) O3; obtain ⟨d0, d1, d2, d3, d4, d5, d6, f0, f1, f2, f3, f4, f5, f6⟩ := seven F3.hb) | (have F3 := fresh_new (W0 := W0) (by assumption) O3; obtain ⟨d0, d1, d2, d3, d4, d5, d6, f0, f1, f2, f3, f4, f5, f6⟩ := seven F3.hb) | skip))
    all_goals (go_wp2_with fail; go_meet)
    all_goals first
      | (have hfin : MergeCut Q PQ (hiSum ah al bh bl) (loSum al bl : Nat) (IntKind.u64.wrap (na + nb)) m1 x1 W0 (.pointer (some ⟨w3.heap.size, 0, none⟩)) _ := ⟨_, _, _, _, _, _, rfl, N3.size, blk_new _ _, N3.alloc _, HQ.out _ _ _ _ _ hq3 (((Only.refl _ _).alloc _).keep 55), hp⟩; exact hfin)
      | exact ⟨_, _, _, _, _, _, rfl, F3.hg, put7_blk F3.hb _ _ _ _ _ _ _, Only.chain7 N3 F3.hg _ _ _ _ _ _ _, HQ.out _ _ _ _ _ hq3 (Keep.chain7 ((Only.refl (fun _ => False) _).keep 55) F3.hb (by decide) _ _ _ _ _ _ _), hp⟩
  case rest =>
    obtain ⟨g, p, l, x, s, c, rfl, hg, hb, O1, hq, hp⟩ := hcut
    obtain ⟨a0, a1, a2, a3, a4, a5, a6, _, _, _, _, _, _, _⟩ := seven (O1.blk HA.out (by simp))
    obtain ⟨b0, b1, b2, b3, b4, b5, b6, _, _, _, _, _, _, _⟩ := seven (O1.blk HB.out (by simp))
    have hz := O1.blk HZ.out (by simp)
    obtain ⟨z0, z1, z2, z3, z4, z5, z6, y0, y1, y2, y3, y4, y5, y6⟩ := seven hz
    obtain ⟨g0, g1, g2, g3, g4, g5, g6, i0, i1, i2, i3, i4, i5, i6⟩ := seven hb
    have lz := blk_lt HZ.out
    have n1 : ¬ w.heap.size = g := by omega
    have n2 : ¬ w.heap.size + 1 = g := by omega
    have n3 : ¬ w.heap.size + 1 + 1 = g := by omega
    have n1' : ¬ g = w.heap.size := by omega
    have n2' : ¬ g = w.heap.size + 1 := by omega
    have n3' : ¬ g = w.heap.size + 1 + 1 := by omega
    have ng : w.heap.size ≤ g := by omega
    have ks1 := run_stf
    have ks2 := run_stc
    have Hb := Lib.hid hb; have Hz := Lib.hid hz; have Ho := Lib.hid O1; have HO0 := Lib.hid O0
    clear hb hz O1 O0 HA HB
    by_cases hna : na = 0
    · subst hna
      go_wp2_with fail
      have hb := Hb.out; have hz := Hz.out; have O1 := Ho.out; have O0 := HO0.out
      have em : minOf 0 nb m1 m2 = m2 := rfl
      have ex : maxOf 0 nb x1 x2 = x2 := rfl
      have e7 := seven (put7_blk (blk_set_ne (blk_set_ne hz ⟨g, 5, none⟩ (.float .f64 m2) n3) ⟨g, 6, none⟩ (.float .f64 x2) n3) (.int .i64 (hiSum ah al bh bl)) (.int .u64 (loSum al bl : Nat)) (.slice p l x) (.int .u64 (IntKind.u64.wrap nb)) (.complex .f64 s c) (.float .f64 m2) (.float .f64 x2))
      have O7 : Only (fun _ => False) w (put7 ((wc.setCell ⟨g, 5, none⟩ (.float .f64 m2)).setCell ⟨g, 6, none⟩ (.float .f64 x2)) (w.heap.size + 1 + 1) (.int .i64 (hiSum ah al bh bl)) (.int .u64 (loSum al bl : Nat)) (.slice p l x) (.int .u64 (IntKind.u64.wrap nb)) (.complex .f64 s c) (.float .f64 m2) (.float .f64 x2)) := (((O0.trans O1).setCell (p := ⟨g, 5, none⟩) (.inl ng) _).setCell (p := ⟨g, 6, none⟩) (.inl ng) _).put7 (.inl (by omega)) _ _ _ _ _ _ _
      have q7 : Q p l x (put7 ((wc.setCell ⟨g, 5, none⟩ (.float .f64 m2)).setCell ⟨g, 6, none⟩ (.float .f64 x2)) (w.heap.size + 1 + 1) (.int .i64 (hiSum ah al bh bl)) (.int .u64 (loSum al bl : Nat)) (.slice p l x) (.int .u64 (IntKind.u64.wrap nb)) (.complex .f64 s c) (.float .f64 m2) (.float .f64 x2)) := HQ.out _ _ _ _ _ hq (Keep.chain7 (Keep.set (i := 6) (v := .float .f64 x2) (Keep.set (i := 5) (v := .float .f64 m2) ((Only.refl (fun _ => False) wc).keep 55) hb (by decide)) (blk_set hb 5 (.float .f64 m2)) (by decide)) (blk_set_ne (blk_set_ne hz ⟨g, 5, none⟩ (.float .f64 m2) n3) ⟨g, 6, none⟩ (.float .f64 x2) n3) (by decide) _ _ _ _ _ _ _)
      refine bodyPost_ret (w := put7 ((wc.setCell ⟨g, 5, none⟩ (.float .f64 m2)).setCell ⟨g, 6, none⟩ (.float .f64 x2)) (w.heap.size + 1 + 1) (.int .i64 (hiSum ah al bh bl)) (.int .u64 (loSum al bl : Nat)) (.slice p l x) (.int .u64 (IntKind.u64.wrap nb)) (.complex .f64 s c) (.float .f64 m2) (.float .f64 x2)) (v := partv (hiSum ah al bh bl) (loSum al bl : Nat) p l x (IntKind.u64.wrap nb) s c m2 x2) ?_ rfl ⟨p, l, x, s, c, by rw [em, ex], q7, hp, O7⟩
      clear O7 q7
      generalize put7 ((wc.setCell ⟨g, 5, none⟩ (.float .f64 m2)).setCell ⟨g, 6, none⟩ (.float .f64 x2)) (w.heap.size + 1 + 1) (.int .i64 (hiSum ah al bh bl)) (.int .u64 (loSum al bl : Nat)) (.slice p l x) (.int .u64 (IntKind.u64.wrap nb)) (.complex .f64 s c) (.float .f64 m2) (.float .f64 x2) = w7 at *
      obtain ⟨d0, d1, d2, d3, d4, d5, d6, f0, f1, f2, f3, f4, f5, f6⟩ := e7
      simp [results, Try.results16, go_sem, d0, d1, d2, d3, d4, d5, d6, partv]
    by_cases hnb : nb = 0
    · subst hnb
      have v1 : (na == 0) = false := beq_eq_false_iff_ne.2 hna
      go_wp2_with fail
      have hb := Hb.out; have hz := Hz.out; have O1 := Ho.out; have O0 := HO0.out
      have em : minOf na 0 m1 m2 = m1 := by unfold minOf; rw [if_neg hna, if_pos rfl]
      have ex : maxOf na 0 x1 x2 = x1 := by unfold maxOf; rw [if_neg hna, if_pos rfl]
      have e7 := seven (put7_blk hz (.int .i64 (hiSum ah al bh bl)) (.int .u64 (loSum al bl : Nat)) (.slice p l x) (.int .u64 (IntKind.u64.wrap na)) (.complex .f64 s c) (.float .f64 m1) (.float .f64 x1))
      have O7 : Only (fun _ => False) w (put7 wc (w.heap.size + 1 + 1) (.int .i64 (hiSum ah al bh bl)) (.int .u64 (loSum al bl : Nat)) (.slice p l x) (.int .u64 (IntKind.u64.wrap na)) (.complex .f64 s c) (.float .f64 m1) (.float .f64 x1)) := (O0.trans O1).put7 (.inl (by omega)) _ _ _ _ _ _ _
      have q7 : Q p l x (put7 wc (w.heap.size + 1 + 1) (.int .i64 (hiSum ah al bh bl)) (.int .u64 (loSum al bl : Nat)) (.slice p l x) (.int .u64 (IntKind.u64.wrap na)) (.complex .f64 s c) (.float .f64 m1) (.float .f64 x1)) := HQ.out _ _ _ _ _ hq (Keep.chain7 ((Only.refl (fun _ => False) wc).keep 55) hz (by decide) _ _ _ _ _ _ _)
      refine bodyPost_ret (w := put7 wc (w.heap.size + 1 + 1) (.int .i64 (hiSum ah al bh bl)) (.int .u64 (loSum al bl : Nat)) (.slice p l x) (.int .u64 (IntKind.u64.wrap na)) (.complex .f64 s c) (.float .f64 m1) (.float .f64 x1)) (v := partv (hiSum ah al bh bl) (loSum al bl : Nat) p l x (IntKind.u64.wrap na) s c m1 x1) ?_ rfl ⟨p, l, x, s, c, by rw [em, ex], q7, hp, O7⟩
      clear O7 q7
      generalize put7 wc (w.heap.size + 1 + 1) (.int .i64 (hiSum ah al bh bl)) (.int .u64 (loSum al bl : Nat)) (.slice p l x) (.int .u64 (IntKind.u64.wrap na)) (.complex .f64 s c) (.float .f64 m1) (.float .f64 x1) = w7 at *
      obtain ⟨d0, d1, d2, d3, d4, d5, d6, f0, f1, f2, f3, f4, f5, f6⟩ := e7
      simp [results, Try.results16, go_sem, d0, d1, d2, d3, d4, d5, d6, partv]
    have v1 : (na == 0) = false := beq_eq_false_iff_ne.2 hna
    have v2 : (nb == 0) = false := beq_eq_false_iff_ne.2 hnb
    have v3 : (nb != 0) = true := by rw [bne_iff_ne]; exact hnb
    have hna' := Lib.hid hna; have hnb' := Lib.hid hnb
    clear hna hnb
    by_cases k1 : fcmp m2 m1 < 0
    · by_cases k2 : fcmp x2 x1 > 0
      · have j1 : decide (fcmp m2 m1 < 0) = true := decide_eq_true k1
        have j2 : decide (fcmp x2 x1 > 0) = true := decide_eq_true k2
        have em := Lib.hid (show minOf na nb m1 m2 = m2 from by unfold minOf; rw [if_neg hna'.out, if_neg hnb'.out, if_pos k1])
        have ex := Lib.hid (show maxOf na nb x1 x2 = x2 from by unfold maxOf; rw [if_neg hna'.out, if_neg hnb'.out, if_pos k2])
        clear k1 k2
        go_wp2_with (go_at_call 49; refine (compare_calls _ _ _).mono ?_; rintro e w1 ⟨rfl, hw⟩; rw [hw]; clear hw)
        have hb := Hb.out; have hz := Hz.out; have O1 := Ho.out; have O0 := HO0.out
        have e7 := seven (put7_blk (blk_set_ne (blk_set_ne hz ⟨g, 5, none⟩ (.float .f64 m2) n3) ⟨g, 6, none⟩ (.float .f64 x2) n3) (.int .i64 (hiSum ah al bh bl)) (.int .u64 (loSum al bl : Nat)) (.slice p l x) (.int .u64 (IntKind.u64.wrap (na + nb))) (.complex .f64 s c) (.float .f64 m2) (.float .f64 x2))
        have O7 : Only (fun _ => False) w (put7 ((wc.setCell ⟨g, 5, none⟩ (.float .f64 m2)).setCell ⟨g, 6, none⟩ (.float .f64 x2)) (w.heap.size + 1 + 1) (.int .i64 (hiSum ah al bh bl)) (.int .u64 (loSum al bl : Nat)) (.slice p l x) (.int .u64 (IntKind.u64.wrap (na + nb))) (.complex .f64 s c) (.float .f64 m2) (.float .f64 x2)) := (((O0.trans O1).setCell (p := ⟨g, 5, none⟩) (.inl ng) _).setCell (p := ⟨g, 6, none⟩) (.inl ng) _).put7 (.inl (by omega)) _ _ _ _ _ _ _
        have q7 : Q p l x (put7 ((wc.setCell ⟨g, 5, none⟩ (.float .f64 m2)).setCell ⟨g, 6, none⟩ (.float .f64 x2)) (w.heap.size + 1 + 1) (.int .i64 (hiSum ah al bh bl)) (.int .u64 (loSum al bl : Nat)) (.slice p l x) (.int .u64 (IntKind.u64.wrap (na + nb))) (.complex .f64 s c) (.float .f64 m2) (.float .f64 x2)) := HQ.out _ _ _ _ _ hq (Keep.chain7 (Keep.set (i := 6) (v := .float .f64 x2) (Keep.set (i := 5) (v := .float .f64 m2) ((Only.refl (fun _ => False) wc).keep 55) hb (by decide)) (blk_set hb 5 (.float .f64 m2)) (by decide)) (blk_set_ne (blk_set_ne hz ⟨g, 5, none⟩ (.float .f64 m2) n3) ⟨g, 6, none⟩ (.float .f64 x2) n3) (by decide) _ _ _ _ _ _ _)
        refine bodyPost_ret (w := put7 ((wc.setCell ⟨g, 5, none⟩ (.float .f64 m2)).setCell ⟨g, 6, none⟩ (.float .f64 x2)) (w.heap.size + 1 + 1) (.int .i64 (hiSum ah al bh bl)) (.int .u64 (loSum al bl : Nat)) (.slice p l x) (.int .u64 (IntKind.u64.wrap (na + nb))) (.complex .f64 s c) (.float .f64 m2) (.float .f64 x2)) (v := partv (hiSum ah al bh bl) (loSum al bl : Nat) p l x (IntKind.u64.wrap (na + nb)) s c m2 x2) ?_ rfl ⟨p, l, x, s, c, by rw [em.out, ex.out], q7, hp, O7⟩
        clear O7 q7
        generalize put7 ((wc.setCell ⟨g, 5, none⟩ (.float .f64 m2)).setCell ⟨g, 6, none⟩ (.float .f64 x2)) (w.heap.size + 1 + 1) (.int .i64 (hiSum ah al bh bl)) (.int .u64 (loSum al bl : Nat)) (.slice p l x) (.int .u64 (IntKind.u64.wrap (na + nb))) (.complex .f64 s c) (.float .f64 m2) (.float .f64 x2) = w7 at *
        obtain ⟨d0, d1, d2, d3, d4, d5, d6, f0, f1, f2, f3, f4, f5, f6⟩ := e7
        simp [results, Try.results16, go_sem, d0, d1, d2, d3, d4, d5, d6, partv]
      · have j1 : decide (fcmp m2 m1 < 0) = true := decide_eq_true k1
        have j2 : decide (fcmp x2 x1 > 0) = false := decide_eq_false k2
        have em := Lib.hid (show minOf na nb m1 m2 = m2 from by unfold minOf; rw [if_neg hna'.out, if_neg hnb'.out, if_pos k1])
        have ex := Lib.hid (show maxOf na nb x1 x2 = x1 from by unfold maxOf; rw [if_neg hna'.out, if_neg hnb'.out, if_neg k2])
        clear k1 k2
        go_wp2_with (go_at_call 49; refine (compare_calls _ _ _).mono ?_; rintro e w1 ⟨rfl, hw⟩; rw [hw]; clear hw)
        have hb := Hb.out; have hz := Hz.out; have O1 := Ho.out; have O0 := HO0.out
        have e7 := seven (put7_blk (blk_set_ne hz ⟨g, 5, none⟩ (.float .f64 m2) n3) (.int .i64 (hiSum ah al bh bl)) (.int .u64 (loSum al bl : Nat)) (.slice p l x) (.int .u64 (IntKind.u64.wrap (na + nb))) (.complex .f64 s c) (.float .f64 m2) (.float .f64 x1))
        have O7 : Only (fun _ => False) w (put7 (wc.setCell ⟨g, 5, none⟩ (.float .f64 m2)) (w.heap.size + 1 + 1) (.int .i64 (hiSum ah al bh bl)) (.int .u64 (loSum al bl : Nat)) (.slice p l x) (.int .u64 (IntKind.u64.wrap (na + nb))) (.complex .f64 s c) (.float .f64 m2) (.float .f64 x1)) := ((O0.trans O1).setCell (p := ⟨g, 5, none⟩) (.inl ng) _).put7 (.inl (by omega)) _ _ _ _ _ _ _
        have q7 : Q p l x (put7 (wc.setCell ⟨g, 5, none⟩ (.float .f64 m2)) (w.heap.size + 1 + 1) (.int .i64 (hiSum ah al bh bl)) (.int .u64 (loSum al bl : Nat)) (.slice p l x) (.int .u64 (IntKind.u64.wrap (na + nb))) (.complex .f64 s c) (.float .f64 m2) (.float .f64 x1)) := HQ.out _ _ _ _ _ hq (Keep.chain7 (Keep.set (i := 5) (v := .float .f64 m2) ((Only.refl (fun _ => False) wc).keep 55) hb (by decide)) (blk_set_ne hz ⟨g, 5, none⟩ (.float .f64 m2) n3) (by decide) _ _ _ _ _ _ _)
        refine bodyPost_ret (w := put7 (wc.setCell ⟨g, 5, none⟩ (.float .f64 m2)) (w.heap.size + 1 + 1) (.int .i64 (hiSum ah al bh bl)) (.int .u64 (loSum al bl : Nat)) (.slice p l x) (.int .u64 (IntKind.u64.wrap (na + nb))) (.complex .f64 s c) (.float .f64 m2) (.float .f64 x1)) (v := partv (hiSum ah al bh bl) (loSum al bl : Nat) p l x (IntKind.u64.wrap (na + nb)) s c m2 x1) ?_ rfl ⟨p, l, x, s, c, by rw [em.out, ex.out], q7, hp, O7⟩
        clear O7 q7
        generalize put7 (wc.setCell ⟨g, 5, none⟩ (.float .f64 m2)) (w.heap.size + 1 + 1) (.int .i64 (hiSum ah al bh bl)) (.int .u64 (loSum al bl : Nat)) (.slice p l x) (.int .u64 (IntKind.u64.wrap (na + nb))) (.complex .f64 s c) (.float .f64 m2) (.float .f64 x1) = w7 at *
        obtain ⟨d0, d1, d2, d3, d4, d5, d6, f0, f1, f2, f3, f4, f5, f6⟩ := e7
        simp [results, Try.results16, go_sem, d0, d1, d2, d3, d4, d5, d6, partv]
    · by_cases k2 : fcmp x2 x1 > 0
      · have j1 : decide (fcmp m2 m1 < 0) = false := decide_eq_false k1
        have j2 : decide (fcmp x2 x1 > 0) = true := decide_eq_true k2
        have em := Lib.hid (show minOf na nb m1 m2 = m1 from by unfold minOf; rw [if_neg hna'.out, if_neg hnb'.out, if_neg k1])
        have ex := Lib.hid (show maxOf na nb x1 x2 = x2 from by unfold maxOf; rw [if_neg hna'.out, if_neg hnb'.out, if_pos k2])
        clear k1 k2
        go_wp2_with (go_at_call 49; refine (compare_calls _ _ _).mono ?_; rintro e w1 ⟨rfl, hw⟩; rw [hw]; clear hw)
        have hb := Hb.out; have hz := Hz.out; have O1 := Ho.out; have O0 := HO0.out
        have e7 := seven (put7_blk (blk_set_ne hz ⟨g, 6, none⟩ (.float .f64 x2) n3) (.int .i64 (hiSum ah al bh bl)) (.int .u64 (loSum al bl : Nat)) (.slice p l x) (.int .u64 (IntKind.u64.wrap (na + nb))) (.complex .f64 s c) (.float .f64 m1) (.float .f64 x2))
        have O7 : Only (fun _ => False) w (put7 (wc.setCell ⟨g, 6, none⟩ (.float .f64 x2)) (w.heap.size + 1 + 1) (.int .i64 (hiSum ah al bh bl)) (.int .u64 (loSum al bl : Nat)) (.slice p l x) (.int .u64 (IntKind.u64.wrap (na + nb))) (.complex .f64 s c) (.float .f64 m1) (.float .f64 x2)) := ((O0.trans O1).setCell (p := ⟨g, 6, none⟩) (.inl ng) _).put7 (.inl (by omega)) _ _ _ _ _ _ _
        have q7 : Q p l x (put7 (wc.setCell ⟨g, 6, none⟩ (.float .f64 x2)) (w.heap.size + 1 + 1) (.int .i64 (hiSum ah al bh bl)) (.int .u64 (loSum al bl : Nat)) (.slice p l x) (.int .u64 (IntKind.u64.wrap (na + nb))) (.complex .f64 s c) (.float .f64 m1) (.float .f64 x2)) := HQ.out _ _ _ _ _ hq (Keep.chain7 (Keep.set (i := 6) (v := .float .f64 x2) ((Only.refl (fun _ => False) wc).keep 55) hb (by decide)) (blk_set_ne hz ⟨g, 6, none⟩ (.float .f64 x2) n3) (by decide) _ _ _ _ _ _ _)
        refine bodyPost_ret (w := put7 (wc.setCell ⟨g, 6, none⟩ (.float .f64 x2)) (w.heap.size + 1 + 1) (.int .i64 (hiSum ah al bh bl)) (.int .u64 (loSum al bl : Nat)) (.slice p l x) (.int .u64 (IntKind.u64.wrap (na + nb))) (.complex .f64 s c) (.float .f64 m1) (.float .f64 x2)) (v := partv (hiSum ah al bh bl) (loSum al bl : Nat) p l x (IntKind.u64.wrap (na + nb)) s c m1 x2) ?_ rfl ⟨p, l, x, s, c, by rw [em.out, ex.out], q7, hp, O7⟩
        clear O7 q7
        generalize put7 (wc.setCell ⟨g, 6, none⟩ (.float .f64 x2)) (w.heap.size + 1 + 1) (.int .i64 (hiSum ah al bh bl)) (.int .u64 (loSum al bl : Nat)) (.slice p l x) (.int .u64 (IntKind.u64.wrap (na + nb))) (.complex .f64 s c) (.float .f64 m1) (.float .f64 x2) = w7 at *
        obtain ⟨d0, d1, d2, d3, d4, d5, d6, f0, f1, f2, f3, f4, f5, f6⟩ := e7
        simp [results, Try.results16, go_sem, d0, d1, d2, d3, d4, d5, d6, partv]
      · have j1 : decide (fcmp m2 m1 < 0) = false := decide_eq_false k1
        have j2 : decide (fcmp x2 x1 > 0) = false := decide_eq_false k2
        have em := Lib.hid (show minOf na nb m1 m2 = m1 from by unfold minOf; rw [if_neg hna'.out, if_neg hnb'.out, if_neg k1])
        have ex := Lib.hid (show maxOf na nb x1 x2 = x1 from by unfold maxOf; rw [if_neg hna'.out, if_neg hnb'.out, if_neg k2])
        clear k1 k2
        go_wp2_with (go_at_call 49; refine (compare_calls _ _ _).mono ?_; rintro e w1 ⟨rfl, hw⟩; rw [hw]; clear hw)
        have hb := Hb.out; have hz := Hz.out; have O1 := Ho.out; have O0 := HO0.out
        have e7 := seven (put7_blk hz (.int .i64 (hiSum ah al bh bl)) (.int .u64 (loSum al bl : Nat)) (.slice p l x) (.int .u64 (IntKind.u64.wrap (na + nb))) (.complex .f64 s c) (.float .f64 m1) (.float .f64 x1))
        have O7 : Only (fun _ => False) w (put7 wc (w.heap.size + 1 + 1) (.int .i64 (hiSum ah al bh bl)) (.int .u64 (loSum al bl : Nat)) (.slice p l x) (.int .u64 (IntKind.u64.wrap (na + nb))) (.complex .f64 s c) (.float .f64 m1) (.float .f64 x1)) := (O0.trans O1).put7 (.inl (by omega)) _ _ _ _ _ _ _
        have q7 : Q p l x (put7 wc (w.heap.size + 1 + 1) (.int .i64 (hiSum ah al bh bl)) (.int .u64 (loSum al bl : Nat)) (.slice p l x) (.int .u64 (IntKind.u64.wrap (na + nb))) (.complex .f64 s c) (.float .f64 m1) (.float .f64 x1)) := HQ.out _ _ _ _ _ hq (Keep.chain7 ((Only.refl (fun _ => False) wc).keep 55) hz (by decide) _ _ _ _ _ _ _)
        refine bodyPost_ret (w := put7 wc (w.heap.size + 1 + 1) (.int .i64 (hiSum ah al bh bl)) (.int .u64 (loSum al bl : Nat)) (.slice p l x) (.int .u64 (IntKind.u64.wrap (na + nb))) (.complex .f64 s c) (.float .f64 m1) (.float .f64 x1)) (v := partv (hiSum ah al bh bl) (loSum al bl : Nat) p l x (IntKind.u64.wrap (na + nb)) s c m1 x1) ?_ rfl ⟨p, l, x, s, c, by rw [em.out, ex.out], q7, hp, O7⟩
        clear O7 q7
        generalize put7 wc (w.heap.size + 1 + 1) (.int .i64 (hiSum ah al bh bl)) (.int .u64 (loSum al bl : Nat)) (.slice p l x) (.int .u64 (IntKind.u64.wrap (na + nb))) (.complex .f64 s c) (.float .f64 m1) (.float .f64 x1) = w7 at *
        obtain ⟨d0, d1, d2, d3, d4, d5, d6, f0, f1, f2, f3, f4, f5, f6⟩ := e7
        simp [results, Try.results16, go_sem, d0, d1, d2, d3, d4, d5, d6, partv]
end Go.Proofs.Ytimiojckinpfdaa

/- Floats of 64 bits as the model has them (Ieee.double), plainly: rounding, scale, sticky bits; no program in sight. -/
namespace Go.Proofs.Ytimiojckinpfdaa.Pq.Flt
open Ieee

abbrev D : Format := Ieee.double
theorem lp : D.leastPlace = -1074 := by decide
theorem bin : D.binade = 4503599627370496 := by decide
theorem ir : D.infRung = 9218868437227405312 := by decide
theorem sw : D.signWeight = 9223372036854775808 := by decide
theorem fb : D.fractionBits = 52 := rfl

/-- n / 2^d to the nearest, of two as near the even one. -/
def rne (n d : Nat) : Nat := n / 2 ^ d + if 2 ^ d < 2 * (n % 2 ^ d) ∨ (2 ^ d = 2 * (n % 2 ^ d) ∧ n / 2 ^ d % 2 = 1) then 1 else 0

theorem cut_eq (neg : Bool) (n d : Nat) : Toward.even.cut neg n d = rne n d := by
  unfold Toward.cut rne
  simp only [Nat.shiftLeft_eq, Nat.one_mul]
  by_cases h : d ≤ n.log2 + 2
  · rw [Nat.min_eq_left h]
    generalize 2 ^ d = p
    by_cases h1 : p < 2 * (n % p)
    · simp [h1]
    · by_cases h2 : p = 2 * (n % p) ∧ n / p % 2 = 1
      · obtain ⟨h3, h4⟩ := h2
        have : (p == 2 * (n % p)) = true := by simpa using h3
        simp [← h3, h4]
      · have h5 : ((p == 2 * (n % p)) && (n / p % 2 == 1)) = false := by
          simp only [Bool.and_eq_false_imp, beq_iff_eq, beq_eq_false_iff_ne]
          exact fun a b => h2 ⟨a, b⟩
        simp [h1, h2, h5]
  · have hn : n < 2 ^ (n.log2 + 1) := Nat.lt_log2_self
    have e1 : 2 ^ (n.log2 + 2) = 2 * 2 ^ (n.log2 + 1) := by rw [Nat.pow_succ, Nat.mul_comm]
    have e2 : 2 ^ (n.log2 + 2) ≤ 2 ^ d := Nat.pow_le_pow_right (by omega) (by omega)
    rw [Nat.min_eq_right (by omega)]
    generalize 2 ^ (n.log2 + 2) = q at *
    generalize 2 ^ d = p at *
    generalize 2 ^ (n.log2 + 1) = r at *
    rw [Nat.div_eq_of_lt (show n < q by omega), Nat.mod_eq_of_lt (show n < q by omega), Nat.div_eq_of_lt (show n < p by omega), Nat.mod_eq_of_lt (show n < p by omega)]
    have h1 : ¬ q < 2 * n := by omega
    have h2 : (q == 2 * n) = false := by simp; omega
    have h3 : ¬ p < 2 * n := by omega
    have h4 : ¬ p = 2 * n := by omega
    simp [h1, h2, h3, h4]

theorem rne_zero (n : Nat) : rne n 0 = n := by
  unfold rne
  have : n % 2 ^ 0 = 0 := by simp [Nat.mod_one]
  rw [this]; simp

theorem rne_mul (n k d : Nat) : rne (n * 2 ^ k) (d + k) = rne n d := by
  unfold rne
  have hp : 0 < 2 ^ k := Nat.two_pow_pos k
  rw [Nat.pow_add, Nat.mul_div_mul_right _ _ hp, Nat.mul_mod_mul_right]
  generalize 2 ^ k = q at *
  generalize 2 ^ d = p
  generalize n % p = r
  have a : (p * q < 2 * (r * q)) ↔ (p < 2 * r) := by
    rw [← Nat.mul_assoc]; exact Nat.mul_lt_mul_right hp
  have b : (p * q = 2 * (r * q)) ↔ (p = 2 * r) := by
    rw [← Nat.mul_assoc]; exact Nat.mul_right_cancel_iff hp
  simp only [a, b]

/-- n shifted down by d; the last bit stands for all that is below it, too -/
def stk (n d : Nat) : Nat := if n % 2 ^ d = 0 then n / 2 ^ d else n / 2 ^ d / 2 * 2 + 1

theorem stk_zero (n : Nat) : stk n 0 = n := by simp [stk, Nat.mod_one]

theorem rne_stk (n k j : Nat) (hj : 2 ≤ j) : rne (stk n k) j = rne n (k + j) := by
  unfold rne
  have hk : 0 < 2 ^ k := Nat.two_pow_pos k
  obtain ⟨i, rfl⟩ : ∃ i, j = i + 2 := ⟨j - 2, by omega⟩
  have hi : 0 < 2 ^ i := Nat.two_pow_pos i
  have e1 : 2 ^ (i + 2) = 4 * 2 ^ i := by rw [Nat.pow_add]; omega
  have e2 : 2 ^ (k + (i + 2)) = 2 ^ k * (4 * 2 ^ i) := by rw [Nat.pow_add, e1]
  rw [e1, e2]
  generalize 2 ^ i = h at *
  -- n = q 2^k + r, q = a (4h) + b
  have hn := Nat.div_add_mod n (2 ^ k)
  have hr := Nat.mod_lt n hk
  have hq := Nat.div_add_mod (n / 2 ^ k) (4 * h)
  have hb := Nat.mod_lt (n / 2 ^ k) (show 0 < 4 * h by omega)
  have d1 : n / (2 ^ k * (4 * h)) = n / 2 ^ k / (4 * h) := by rw [Nat.div_div_eq_div_mul]
  have m1 : n % (2 ^ k * (4 * h)) = (n / 2 ^ k) % (4 * h) * 2 ^ k + n % 2 ^ k := by
    rw [Nat.mod_mul, Nat.add_comm, Nat.mul_comm (2 ^ k)]
  rw [d1, m1]
  by_cases h0 : n % 2 ^ k = 0
  · unfold stk
    rw [if_pos h0, h0]
    generalize n / 2 ^ k = q at *
    generalize hbb : q % (4 * h) = b at *
    generalize 2 ^ k = p at *
    have a : (p * (4 * h) < 2 * (b * p + 0)) ↔ (4 * h < 2 * b) := by
      rw [Nat.add_zero, Nat.mul_comm p, ← Nat.mul_assoc]; exact Nat.mul_lt_mul_right hk
    have b' : (p * (4 * h) = 2 * (b * p + 0)) ↔ (4 * h = 2 * b) := by
      rw [Nat.add_zero, Nat.mul_comm p, ← Nat.mul_assoc]; exact Nat.mul_right_cancel_iff hk
    simp only [a, b']
  · unfold stk
    rw [if_neg h0]
    generalize hqq : n / 2 ^ k = q at *
    generalize hrr : n % 2 ^ k = r at *
    generalize hbb : q % (4 * h) = b at *
    generalize haa : q / (4 * h) = a at *
    generalize 2 ^ k = p at *
    -- s = q / 2 * 2 + 1
    have hs : q / 2 * 2 + 1 = 4 * h * a + (b / 2 * 2 + 1) := by
      have h3 : q = 4 * h * a + b := hq.symm
      have h4 : 4 * h * a = 2 * (2 * h * a) := by rw [show 4 * h = 2 * (2 * h) by omega, Nat.mul_assoc]
      omega
    have hb2 : b / 2 * 2 + 1 < 4 * h := by omega
    have s1 : (q / 2 * 2 + 1) / (4 * h) = a := by
      rw [hs, Nat.mul_add_div (by omega), Nat.div_eq_of_lt hb2]; omega
    have s2 : (q / 2 * 2 + 1) % (4 * h) = b / 2 * 2 + 1 := by
      rw [hs, Nat.mul_add_mod, Nat.mod_eq_of_lt hb2]
    rw [s1, s2]
    have c1 : (4 * h < 2 * (b / 2 * 2 + 1)) ↔ (p * (4 * h) < 2 * (b * p + r)) := by
      constructor
      · intro hh
        have : 2 * h ≤ b := by omega
        have h5 : 2 * h * p ≤ b * p := Nat.mul_le_mul_right _ this
        have h6 : p * (4 * h) = 2 * (2 * h * p) := by rw [Nat.mul_comm p, show 4 * h = 2 * (2 * h) by omega, Nat.mul_assoc]
        omega
      · intro hh
        have h6 : p * (4 * h) = 2 * (2 * h * p) := by rw [Nat.mul_comm p, show 4 * h = 2 * (2 * h) by omega, Nat.mul_assoc]
        rcases Nat.lt_or_ge b (2 * h) with q1 | q1
        · have h5 : (b + 1) * p ≤ 2 * h * p := Nat.mul_le_mul_right _ q1
          rw [Nat.add_mul, Nat.one_mul] at h5
          omega
        · omega
    have c2 : ¬ (4 * h = 2 * (b / 2 * 2 + 1)) := by omega
    have c3 : ¬ (p * (4 * h) = 2 * (b * p + r)) := by
      intro hh
      have h6 : p * (4 * h) = 2 * (2 * h * p) := by rw [Nat.mul_comm p, show 4 * h = 2 * (2 * h) by omega, Nat.mul_assoc]
      have h7 : 2 * h * p = b * p + r := by omega
      rcases Nat.lt_or_ge b (2 * h) with q1 | q1
      · have h5 : (b + 1) * p ≤ 2 * h * p := Nat.mul_le_mul_right _ q1
        rw [Nat.add_mul, Nat.one_mul] at h5
        omega
      · have h5 : 2 * h * p ≤ b * p := Nat.mul_le_mul_right _ q1
        omega
    simp only [c1, c2, c3, false_and, or_false]

theorem stk_stk (n k : Nat) : stk (stk n k) 1 = stk n (k + 1) := by
  unfold stk
  have hk : 0 < 2 ^ k := Nat.two_pow_pos k
  have m1 : n % 2 ^ (k + 1) = n / 2 ^ k % 2 * 2 ^ k + n % 2 ^ k := by
    rw [Nat.pow_succ, Nat.mod_mul, Nat.add_comm, Nat.mul_comm (2 ^ k)]
  have d1 : n / 2 ^ (k + 1) = n / 2 ^ k / 2 := by rw [Nat.pow_succ, Nat.div_div_eq_div_mul]
  rw [m1, d1]
  generalize n / 2 ^ k = q
  generalize n % 2 ^ k = r
  generalize 2 ^ k = p at *
  by_cases h0 : r = 0
  · subst h0
    by_cases h2 : q % 2 = 0
    · simp [h2]
    · have h3 : q % 2 = 1 := by omega
      have : ¬ (1 * p = 0) := by omega
      simp [h3, Nat.pow_one]; omega
  · have h1 : ¬ (q % 2 * p + r = 0) := by omega
    rw [if_neg h0, if_neg h1]
    have : (q / 2 * 2 + 1) % 2 ^ 1 = 1 := by omega
    rw [if_neg (by omega)]
    omega

/-- the rung nearest to mag times 2^place -/
def rung (mag : Nat) (place : Int) : Nat :=
  if mag = 0 then 0 else
  let last := max (place + mag.log2 - 52) (-1074)
  min ((last + 1074).toNat * 4503599627370496 + rne (mag * 2 ^ (place - last).toNat) (last - place).toNat) 9218868437227405312

theorem nearest_eq (neg : Bool) (mag : Nat) (place : Int) : D.nearest neg mag place = D.word neg (rung mag place) := by
  unfold Format.nearest rung
  by_cases h : mag = 0
  · simp [h]
  · simp only [h, if_false, lp, bin, ir, fb, cut_eq, Nat.shiftLeft_eq, Int.sub_neg]
    rfl

theorem log2_mul_pow (m k : Nat) (h : m ≠ 0) : (m * 2 ^ k).log2 = m.log2 + k := by
  have hp := Nat.two_pow_pos k
  have h1 := Nat.log2_self_le h
  have h2 := @Nat.lt_log2_self m
  have h0 : m * 2 ^ k ≠ 0 := by
    have := Nat.mul_pos (Nat.pos_of_ne_zero h) hp; omega
  apply Nat.le_antisymm
  · have : (m * 2 ^ k).log2 < m.log2 + 1 + k := (Nat.log2_lt h0).2 (by rw [Nat.pow_add]; exact (Nat.mul_lt_mul_right hp).2 h2)
    omega
  · exact (Nat.le_log2 h0).2 (by rw [Nat.pow_add]; exact Nat.mul_le_mul_right _ h1)

theorem rung_scale (m k : Nat) (p : Int) : rung (m * 2 ^ k) p = rung m (p + k) := by
  unfold rung
  by_cases h : m = 0
  · simp [h]
  · have h0 : m * 2 ^ k ≠ 0 := by
      have := Nat.mul_pos (Nat.pos_of_ne_zero h) (Nat.two_pow_pos k); omega
    rw [if_neg h, if_neg h0, log2_mul_pow m k h]
    have e : p + ((m.log2 + k : Nat) : Int) - 52 = p + k + m.log2 - 52 := by omega
    rw [e]
    generalize max (p + (k : Int) + m.log2 - 52) (-1074) = last
    dsimp only
    congr 2
    rcases Int.le_total (p + k) last with q | q
    · have a : (p - last).toNat = 0 := by omega
      have b : (p + k - last).toNat = 0 := by omega
      have c : (last - p).toNat = (last - (p + k)).toNat + k := by omega
      rw [a, b, c, Nat.pow_zero, Nat.mul_one, Nat.mul_one, rne_mul]
    · rcases Int.le_total last p with q2 | q2
      · have a : (last - p).toNat = 0 := by omega
        have b : (last - (p + k)).toNat = 0 := by omega
        have c : (p + k - last).toNat = k + (p - last).toNat := by omega
        rw [a, b, c, rne_zero, rne_zero, Nat.pow_add, Nat.mul_assoc]
      · have a : (p - last).toNat = 0 := by omega
        have b : (last - (p + k)).toNat = 0 := by omega
        have c : k = (p + k - last).toNat + (last - p).toNat := by omega
        rw [a, b, rne_zero, Nat.pow_zero, Nat.mul_one]
        generalize hx : (p + k - last).toNat = x at *
        generalize hy : (last - p).toNat = y at *
        rw [c, Nat.pow_add, ← Nat.mul_assoc]
        have := rne_mul (m * 2 ^ x) y 0
        rw [Nat.zero_add] at this
        rw [this, rne_zero]

theorem stk_log2 (n k : Nat) (h : 2 ≤ n / 2 ^ k) : (stk n k).log2 = (n / 2 ^ k).log2 := by
  have key : ∀ q, 2 ≤ q → (q / 2 * 2 + 1).log2 = q.log2 := by
    intro q hq
    have h1 : (q / 2 * 2 + 1) / 2 = q / 2 := by omega
    rw [Nat.log2_def (q / 2 * 2 + 1), Nat.log2_def q, if_pos (by omega), if_pos hq, h1]
  unfold stk
  split
  · rfl
  · exact key _ h

theorem log2_div (n k : Nat) (h : 1 ≤ n / 2 ^ k) : (n / 2 ^ k).log2 + k = n.log2 := by
  have hp := Nat.two_pow_pos k
  have hn : n ≠ 0 := by rintro rfl; simp at h
  have h1 := Nat.log2_self_le (show n / 2 ^ k ≠ 0 by omega)
  have h2 := @Nat.lt_log2_self (n / 2 ^ k)
  apply Nat.le_antisymm
  · exact (Nat.le_log2 hn).2 (by rw [Nat.pow_add]; exact (Nat.le_div_iff_mul_le hp).1 h1)
  · have : n.log2 < (n / 2 ^ k).log2 + 1 + k := (Nat.log2_lt hn).2 (by rw [Nat.pow_add]; exact (Nat.div_lt_iff_lt_mul hp).1 h2)
    omega

/-- WHAT A STICKY BIT IS FOR: with 54 digits and more left, the nearest rung is the same. -/
theorem rung_stk (n k : Nat) (p : Int) (h : 2 ^ 54 ≤ n / 2 ^ k) : rung (stk n k) p = rung n (p - k) := by
  have h2 : 2 ≤ n / 2 ^ k := by omega
  have hl := stk_log2 n k h2
  have hd := log2_div n k (by omega)
  have h54 : 54 ≤ (n / 2 ^ k).log2 := (Nat.le_log2 (by omega)).2 h
  have hs0 : stk n k ≠ 0 := by
    unfold stk; split <;> omega
  have hn0 : n ≠ 0 := by rintro rfl; simp at h
  unfold rung
  rw [if_neg hs0, if_neg hn0, hl]
  have e : p - (k : Int) + n.log2 - 52 = p + (n / 2 ^ k).log2 - 52 := by omega
  rw [e]
  generalize hlast : max (p + ((n / 2 ^ k).log2 : Int) - 52) (-1074) = last
  dsimp only
  have hge : p + 2 ≤ last := by omega
  have a : (p - last).toNat = 0 := by omega
  have b : (p - (k : Int) - last).toNat = 0 := by omega
  have c : (last - (p - (k : Int))).toNat = k + (last - p).toNat := by omega
  rw [a, b, c, Nat.pow_zero, Nat.mul_one, Nat.mul_one, rne_stk _ _ _ (by omega)]

end Go.Proofs.Ytimiojckinpfdaa.Pq.Flt

/- Sums of floats of 64 bits, plainly: what the reference's way (three more digits, the last one sticky) comes to. -/
namespace Go.Proofs.Ytimiojckinpfdaa.Pq.Flt
open Ieee

def S : Nat := 9223372036854775808
def INF : Nat := 9218868437227405312
def NANW : Nat := 9221120237041090560
def B : Nat := 4503599627370496
def neg (a : Nat) : Bool := a / 9223372036854775808 % 2 == 1
def mag (a : Nat) : Nat := a % 9223372036854775808
def nan (a : Nat) : Bool := decide (9218868437227405312 < mag a)
/-- the significand and the exponent of a magnitude below infinity -/
def sig (g : Nat) : Nat := if g < 4503599627370496 then g else 4503599627370496 + g % 4503599627370496
def ex (g : Nat) : Int := if g < 4503599627370496 then -1074 else -1074 + ((g / 4503599627370496 - 1 : Nat) : Int)

theorem read_fin (a : Nat) (h : mag a < 9218868437227405312) : D.read a = .number (neg a) (sig (mag a)) (ex (mag a)) := by
  unfold Format.read
  simp only [lp, bin, ir, sw]
  unfold mag at *
  by_cases h1 : a % 9223372036854775808 < 4503599627370496
  · simp [h1, sig, ex, neg]
  · simp [h1, h, sig, ex, neg]
theorem read_inf (a : Nat) (h : mag a = 9218868437227405312) : D.read a = .infinity (neg a) := by
  unfold Format.read
  simp only [lp, bin, ir, sw]
  unfold mag at *
  simp [h, neg]
theorem read_nan (a : Nat) (h : nan a = true) : ∃ s t, D.read a = .nan s t := by
  unfold nan mag at h
  unfold Format.read
  simp only [lp, bin, ir, sw]
  have h' : 9218868437227405312 < a % 9223372036854775808 := by simpa using h
  have h1 : ¬ a % 9223372036854775808 < 4503599627370496 := by omega
  have h2 : ¬ a % 9223372036854775808 < 9218868437227405312 := by omega
  have h3 : ¬ a % 9223372036854775808 = 9218868437227405312 := by omega
  simp [h1, h2, h3]

/-- the sum, all NaNs as one -/
def radd (a b : Nat) : Nat := (D.add a b).getD 9221120237041090560
theorem sum_comm (x y : Datum) : x.sum y = y.sum x := by
  cases x <;> cases y <;> simp only [Datum.sum]
  · rename_i s m i t n j
    rw [Int.min_comm j i, Int.add_comm, Bool.and_comm]
  · rename_i s t
    by_cases h : s = t
    · subst h; rfl
    · rw [if_neg h, if_neg (fun e => h e.symm)]
theorem add_comm (a b : Nat) : D.add a b = D.add b a := by unfold Format.add; rw [sum_comm]
theorem radd_comm (a b : Nat) : radd a b = radd b a := by unfold radd; rw [add_comm]

theorem add_nan (a b : Nat) (h : nan a = true ∨ nan b = true) : D.add a b = none := by
  unfold Format.add
  rcases h with h | h
  · obtain ⟨s, t, e⟩ := read_nan a h
    rw [e]; rfl
  · obtain ⟨s, t, e⟩ := read_nan b h
    rw [e, sum_comm]; rfl
theorem radd_nan (a b : Nat) (h : nan a = true ∨ nan b = true) : radd a b = 9221120237041090560 := by unfold radd; rw [add_nan a b h]; rfl

theorem word_eq (s : Bool) (r : Nat) : D.word s r = (if s then 9223372036854775808 else 0) + r := by
  unfold Format.word; rw [sw]; cases s <;> simp

theorem add_inf (a b : Nat) (ha : mag a = 9218868437227405312) (hb : mag b < 9218868437227405312) : D.add a b = some (D.word (neg a) 9218868437227405312) := by
  unfold Format.add
  rw [read_inf a ha, read_fin b hb]
  simp [Datum.sum, Format.write, ir]
theorem add_inf_inf (a b : Nat) (ha : mag a = 9218868437227405312) (hb : mag b = 9218868437227405312) : D.add a b = if neg a = neg b then some (D.word (neg a) 9218868437227405312) else none := by
  unfold Format.add
  rw [read_inf a ha, read_inf b hb]
  simp only [Datum.sum]
  split <;> simp [Format.write, ir]

theorem word_of (a : Nat) (h : a < 18446744073709551616) : a = D.word (neg a) (mag a) := by
  rw [word_eq]; unfold neg mag
  by_cases h1 : a / 9223372036854775808 % 2 = 1
  · simp [h1]; omega
  · simp [h1]; omega

def flip (a : Nat) : Nat := if a < 9223372036854775808 then a + 9223372036854775808 else a - 9223372036854775808
theorem mag_flip (a : Nat) (h : a < 18446744073709551616) : mag (flip a) = mag a := by unfold flip mag; split <;> omega
theorem neg_flip (a : Nat) (h : a < 18446744073709551616) : neg (flip a) = !neg a := by
  unfold flip neg
  split
  · have e1 : (a + 9223372036854775808) / 9223372036854775808 % 2 = 1 := by omega
    have e2 : a / 9223372036854775808 % 2 = 0 := by omega
    rw [e1, e2]; rfl
  · have e1 : (a - 9223372036854775808) / 9223372036854775808 % 2 = 0 := by omega
    have e2 : a / 9223372036854775808 % 2 = 1 := by omega
    rw [e1, e2]; rfl

theorem radd_inf (a b : Nat) (ha : a < 18446744073709551616) (hb : b < 18446744073709551616) (h : mag a = 9218868437227405312) (hn : nan b = false) :
    radd a b = if b = flip a then 9221120237041090560 else a := by
  have hle : mag b ≤ 9218868437227405312 := by unfold nan at hn; simpa using hn
  have hwa := word_of a ha
  rw [h] at hwa
  by_cases hb' : mag b = 9218868437227405312
  · unfold radd
    rw [add_inf_inf a b h hb']
    have hwb := word_of b hb
    rw [hb'] at hwb
    by_cases hs : neg a = neg b
    · have : b ≠ flip a := by
        rintro rfl
        rw [neg_flip a ha] at hs
        cases hx : neg a <;> simp [hx] at hs
      rw [if_pos hs, if_neg this]
      exact hwa.symm
    · have : b = flip a := by
        have e : neg b = !neg a := by cases hx : neg a <;> cases hy : neg b <;> simp [hx, hy] at hs ⊢
        have hfl : flip a < 18446744073709551616 := by unfold flip; split <;> omega
        have hwf := word_of (flip a) hfl
        rw [mag_flip a ha, h, neg_flip a ha] at hwf
        rw [hwb, hwf, e]
      rw [if_neg hs, if_pos this]; rfl
  · unfold radd
    rw [add_inf a b h (by omega)]
    have : b ≠ flip a := by
      rintro rfl
      rw [mag_flip a ha] at hb'; exact hb' h
    rw [if_neg this]; exact hwa.symm

theorem ex_ge (g : Nat) : -1074 ≤ ex g := by unfold ex; split <;> omega
theorem ex_le (g : Nat) (h : g < 9218868437227405312) : ex g ≤ 971 := by unfold ex; split <;> omega
theorem sig_lt (g : Nat) : sig g < 9007199254740992 := by unfold sig; split <;> omega
theorem ex_mono {g h : Nat} (hgh : h ≤ g) : ex h ≤ ex g := by unfold ex; split <;> split <;> omega
theorem sig_ge {g : Nat} (h : -1074 < ex g) : 4503599627370496 ≤ sig g := by
  unfold ex at h; unfold sig
  split at h
  · omega
  · rename_i h1; rw [if_neg h1]; omega
theorem sig_mono {g h : Nat} (hgh : h ≤ g) (he : ex h = ex g) : sig h ≤ sig g := by
  unfold ex at he; unfold sig
  split at he <;> split at he <;> rename_i a b <;> simp only [a, b, if_true, if_false] <;> omega

theorem add_fin (a b : Nat) (ha : mag a < 9218868437227405312) (hb : mag b < 9218868437227405312) (hge : mag b ≤ mag a) :
    let d := (ex (mag a) - ex (mag b)).toNat
    let X := sig (mag a) * 2 ^ d
    D.add a b = some (if neg a = neg b then D.word (neg a) (rung (X + sig (mag b)) (ex (mag b)))
      else if X = sig (mag b) then 0 else D.word (neg a) (rung (X - sig (mag b)) (ex (mag b)))) := by
  have hm := ex_mono hge
  unfold Format.add
  rw [read_fin a ha, read_fin b hb]
  dsimp only [Datum.sum]
  rw [Int.min_eq_right hm, Int.sub_self]
  generalize hd : (ex (mag a) - ex (mag b)).toNat = d
  have hX : sig (mag b) ≤ sig (mag a) * 2 ^ d := by
    by_cases e : ex (mag a) = ex (mag b)
    · have : d = 0 := by omega
      subst this
      have := sig_mono hge e.symm
      omega
    · have h1 := sig_ge (g := mag a) (by have := ex_ge (mag b); omega)
      have h2 := sig_lt (mag b)
      have h3 : 2 ^ 1 ≤ 2 ^ d := Nat.pow_le_pow_right (by omega) (by omega)
      have h4 : 4503599627370496 * 2 ^ 1 ≤ sig (mag a) * 2 ^ d := Nat.mul_le_mul h1 h3
      omega
  have hsz : signed (neg b) (sig (mag b)) (0 : Int).toNat = if neg b then -(sig (mag b) : Int) else (sig (mag b) : Int) := by
    unfold signed; simp
  have hsa : signed (neg a) (sig (mag a)) d = if neg a then -((sig (mag a) * 2 ^ d : Nat) : Int) else ((sig (mag a) * 2 ^ d : Nat) : Int) := by
    unfold signed; simp only [Nat.shiftLeft_eq]
  rw [hsz, hsa]
  generalize sig (mag a) * 2 ^ d = X at *
  generalize sig (mag b) = n at *
  simp only [Option.map_some, Format.write, nearest_eq, Option.some.injEq]
  by_cases hs : neg a = neg b
  · rw [if_pos hs, ← hs]
    cases hna : neg a
    · simp only [if_false, Bool.false_eq_true]
      by_cases h0 : (X : Int) + (n : Int) = 0
      · have e1 : X + n = 0 := by omega
        have e2 : ((X : Int) + (n : Int)).natAbs = 0 := by omega
        simp [h0, e1]
      · have e2 : ((X : Int) + (n : Int)).natAbs = X + n := by omega
        have e3 : decide ((X : Int) + (n : Int) < 0) = false := by simp; omega
        rw [if_neg h0, e2, e3]
    · simp only [if_true]
      by_cases h0 : -(X : Int) + -(n : Int) = 0
      · have e1 : X + n = 0 := by omega
        simp [h0, e1]
      · have e2 : (-(X : Int) + -(n : Int)).natAbs = X + n := by omega
        have e3 : decide (-(X : Int) + -(n : Int) < 0) = true := by simp; omega
        rw [if_neg h0, e2, e3]
  · rw [if_neg hs]
    cases hna : neg a
    · have hnb : neg b = true := by cases h : neg b <;> simp_all
      simp only [hnb, if_true, if_false, Bool.false_eq_true]
      by_cases h0 : X = n
      · have e1 : (X : Int) + -(n : Int) = 0 := by omega
        rw [if_pos h0, e1]; simp [rung, word_eq]
      · have e1 : ¬ ((X : Int) + -(n : Int) = 0) := by omega
        have e2 : ((X : Int) + -(n : Int)).natAbs = X - n := by omega
        have e3 : decide ((X : Int) + -(n : Int) < 0) = false := by simp; omega
        rw [if_neg h0, if_neg e1, e2, e3]
    · have hnb : neg b = false := by cases h : neg b <;> simp_all
      simp only [hnb, if_true, if_false, Bool.false_eq_true]
      by_cases h0 : X = n
      · have e1 : -(X : Int) + (n : Int) = 0 := by omega
        rw [if_pos h0, e1]; simp [rung, word_eq]
      · have e1 : ¬ (-(X : Int) + (n : Int) = 0) := by omega
        have e2 : (-(X : Int) + (n : Int)).natAbs = X - n := by omega
        have e3 : decide (-(X : Int) + (n : Int) < 0) = true := by simp; omega
        rw [if_neg h0, if_neg e1, e2, e3]

theorem stk_add (m n d : Nat) : stk (m * 2 ^ d + n) d = if m % 2 = 0 then m + stk n d else stk (m * 2 ^ d + n) d := by
  by_cases h : m % 2 = 0
  · rw [if_pos h]
    unfold stk
    have hp := Nat.two_pow_pos d
    have e1 : (m * 2 ^ d + n) % 2 ^ d = n % 2 ^ d := by rw [Nat.add_comm, Nat.add_mul_mod_self_right]
    have e2 : (m * 2 ^ d + n) / 2 ^ d = m + n / 2 ^ d := by rw [Nat.add_comm, Nat.add_mul_div_right _ _ hp, Nat.add_comm]
    rw [e1, e2]
    split <;> omega
  · rw [if_neg h]
theorem stk_sub (m n d : Nat) (hm : m % 2 = 0) (h : n ≤ m * 2 ^ d) : stk (m * 2 ^ d - n) d = m - stk n d := by
  unfold stk
  have hp := Nat.two_pow_pos d
  have hn := Nat.div_add_mod n (2 ^ d)
  have hr := Nat.mod_lt n hp
  generalize hq : n / 2 ^ d = q at *
  generalize hrr : n % 2 ^ d = r at *
  generalize 2 ^ d = p at *
  by_cases h0 : r = 0
  · subst h0
    have hqm : q ≤ m := by
      have : p * q ≤ p * m := by rw [Nat.mul_comm p m]; omega
      exact Nat.le_of_mul_le_mul_left this hp
    have e : m * p - n = p * (m - q) := by rw [Nat.mul_sub, Nat.mul_comm p m]; omega
    rw [e, Nat.mul_mod_right, Nat.mul_div_cancel_left _ hp]
    simp
  · have hqm : q < m := by
      rcases Nat.lt_or_ge q m with h1 | h1
      · exact h1
      · have : p * m ≤ p * q := Nat.mul_le_mul_left _ h1
        rw [Nat.mul_comm p m] at this; omega
    have e : m * p - n = p * (m - q - 1) + (p - r) := by
      have h1 : p * (m - q) = p * m - p * q := Nat.mul_sub _ _ _
      have h2 : p * (m - q - 1) = p * (m - q) - p := by rw [Nat.mul_sub, Nat.mul_one]
      have h3 : p * 1 ≤ p * (m - q) := Nat.mul_le_mul_left _ (by omega)
      rw [Nat.mul_comm m p]; omega
    have e1 : (m * p - n) % p = p - r := by rw [e, Nat.mul_add_mod, Nat.mod_eq_of_lt (by omega)]
    have e2 : (m * p - n) / p = m - q - 1 := by rw [e, Nat.mul_add_div hp, Nat.div_eq_of_lt (by omega)]; omega
    rw [e1, e2, if_neg (by omega), if_neg h0]
    omega

theorem stk_le (n d : Nat) (hd : 1 ≤ d) : stk n d ≤ n / 2 + 1 := by
  unfold stk
  have h1 : 2 ^ 1 ≤ 2 ^ d := Nat.pow_le_pow_right (by omega) hd
  have h2 : n / 2 ^ d ≤ n / 2 := Nat.div_le_div_left h1 (by omega)
  split <;> omega

/-- OF FLOATS OF ONE SIGN, the way of the reference. -/
theorem radd_same (a b : Nat) (ha : mag a < 9218868437227405312) (hge : mag b ≤ mag a) (hs : neg a = neg b) :
    radd a b = D.word (neg a) (rung (8 * sig (mag a) + stk (8 * sig (mag b)) (ex (mag a) - ex (mag b)).toNat) (ex (mag a) - 3)) := by
  unfold radd
  rw [add_fin a b ha (by omega) hge, Option.getD_some, if_pos hs]
  have hm := ex_mono hge
  generalize hd : (ex (mag a) - ex (mag b)).toNat = d
  congr 1
  have hst := stk_add (8 * sig (mag a)) (8 * sig (mag b)) d
  rw [if_pos (by omega)] at hst
  rw [← hst]
  have e8 : 8 * sig (mag a) * 2 ^ d + 8 * sig (mag b) = (sig (mag a) * 2 ^ d + sig (mag b)) * 2 ^ 3 := by
    rw [Nat.mul_assoc]; omega
  by_cases h0 : d = 0
  · subst h0
    rw [stk_zero, e8, rung_scale]
    congr 1; omega
  · have h1 := sig_ge (g := mag a) (by have := ex_ge (mag b); omega)
    have hbig : 2 ^ 54 ≤ (8 * sig (mag a) * 2 ^ d + 8 * sig (mag b)) / 2 ^ d := by
      rw [Nat.le_div_iff_mul_le (Nat.two_pow_pos d)]
      have : 2 ^ 54 * 2 ^ d ≤ 8 * sig (mag a) * 2 ^ d := Nat.mul_le_mul_right _ (by omega)
      omega
    rw [rung_stk _ _ _ hbig, e8, rung_scale]
    congr 1; omega

theorem radd_diff (a b : Nat) (ha : mag a < 9218868437227405312) (hge : mag b ≤ mag a) (hs : neg a ≠ neg b) :
    radd a b = if 8 * sig (mag a) = stk (8 * sig (mag b)) (ex (mag a) - ex (mag b)).toNat then 0
      else D.word (neg a) (rung (8 * sig (mag a) - stk (8 * sig (mag b)) (ex (mag a) - ex (mag b)).toNat) (ex (mag a) - 3)) := by
  unfold radd
  rw [add_fin a b ha (by omega) hge, Option.getD_some, if_neg hs]
  have hm := ex_mono hge
  generalize hd : (ex (mag a) - ex (mag b)).toNat = d
  have e8 : ∀ X n : Nat, 8 * X - 8 * n = (X - n) * 2 ^ 3 := by intro X n; omega
  by_cases h0 : d = 0
  · subst h0
    rw [stk_zero, Nat.pow_zero, Nat.mul_one]
    by_cases h1 : sig (mag a) = sig (mag b)
    · rw [if_pos h1, if_pos (by omega)]
    · rw [if_neg h1, if_neg (by omega)]
      congr 1
      rw [e8, rung_scale]
      congr 1; omega
  · have h1 := sig_ge (g := mag a) (by have := ex_ge (mag b); omega)
    have h2 := sig_lt (mag b)
    have h3 := stk_le (8 * sig (mag b)) d (by omega)
    have hp : 2 ^ 1 ≤ 2 ^ d := Nat.pow_le_pow_right (by omega) (by omega)
    have h4 : sig (mag a) * 2 ^ 1 ≤ sig (mag a) * 2 ^ d := Nat.mul_le_mul_left _ hp
    have hne : ¬ 8 * sig (mag a) = stk (8 * sig (mag b)) d := by omega
    have hne2 : ¬ sig (mag a) * 2 ^ d = sig (mag b) := by omega
    rw [if_neg hne, if_neg hne2]
    congr 1
    have hst := stk_sub (8 * sig (mag a)) (8 * sig (mag b)) d (by omega) (by rw [Nat.mul_assoc]; omega)
    rw [← hst]
    by_cases h3d : d ≤ 3
    · have ex8 : ∃ Y, 8 * sig (mag a) * 2 ^ d - 8 * sig (mag b) = Y * 2 ^ d := by
        refine ⟨8 * sig (mag a) - sig (mag b) * 2 ^ (3 - d), ?_⟩
        rw [Nat.sub_mul]
        congr 1
        rw [Nat.mul_assoc, ← Nat.pow_add, show 3 - d + d = 3 by omega]; omega
      obtain ⟨Y, hY⟩ := ex8
      have hex : stk (Y * 2 ^ d) d = Y := by
        unfold stk
        rw [Nat.mul_mod_left, if_pos rfl, Nat.mul_div_cancel _ (Nat.two_pow_pos d)]
      rw [hY, hex]
      have e9 : (sig (mag a) * 2 ^ d - sig (mag b)) * 2 ^ 3 = Y * 2 ^ d := by rw [← hY, ← e8]; congr 1; rw [Nat.mul_assoc]
      have r1 := rung_scale (sig (mag a) * 2 ^ d - sig (mag b)) 3 (ex (mag b) - 3)
      have r2 := rung_scale Y d (ex (mag b) - 3)
      rw [e9, r2] at r1
      have e10 : ex (mag b) - 3 + ((3 : Nat) : Int) = ex (mag b) := by omega
      rw [e10] at r1
      rw [← r1]
      congr 1; omega
    have hbig : 2 ^ 54 ≤ (8 * sig (mag a) * 2 ^ d - 8 * sig (mag b)) / 2 ^ d := by
      rw [Nat.le_div_iff_mul_le (Nat.two_pow_pos d)]
      have hp2 : 2 ^ 4 ≤ 2 ^ d := Nat.pow_le_pow_right (by omega) (by omega)
      have e2 : 2 ^ 54 * 2 ^ d + 2 ^ 54 * 2 ^ d = 2 ^ 55 * 2 ^ d := by rw [← Nat.add_mul]
      have e3 : 2 ^ 55 * 2 ^ d ≤ 8 * sig (mag a) * 2 ^ d := Nat.mul_le_mul_right _ (by omega)
      have e4 : 2 ^ 54 * 2 ^ 4 ≤ 2 ^ 54 * 2 ^ d := Nat.mul_le_mul_left _ hp2
      omega
    rw [rung_stk _ _ _ hbig, Nat.mul_assoc, e8, rung_scale]
    congr 1; omega

end Go.Proofs.Ytimiojckinpfdaa.Pq.Flt

/- The order of floats of 64 bits, plainly; the reference's last step of a sum. -/
namespace Go.Proofs.Ytimiojckinpfdaa.Pq.Flt
open Ieee

/-- what a magnitude stands for, in units of 2^-1074 -/
def V (g : Nat) : Nat := sig g * 2 ^ (ex g + 1074).toNat
theorem V_lt {g h : Nat} (hgh : g < h) : V g < V h := by
  unfold V sig ex
  by_cases h1 : h < 4503599627370496
  · rw [if_pos h1, if_pos h1, if_pos (by omega), if_pos (by omega)]
    simp; omega
  · rw [if_neg h1, if_neg h1]
    have e2 : (-1074 + ((h / 4503599627370496 - 1 : Nat) : Int) + 1074).toNat = h / 4503599627370496 - 1 := by omega
    rw [e2]
    have hp := Nat.two_pow_pos (h / 4503599627370496 - 1)
    by_cases h2 : g < 4503599627370496
    · rw [if_pos h2, if_pos h2]
      have e1 : ((-1074 : Int) + 1074).toNat = 0 := by omega
      rw [e1, Nat.pow_zero, Nat.mul_one]
      have : 4503599627370496 * 1 ≤ (4503599627370496 + h % 4503599627370496) * 2 ^ (h / 4503599627370496 - 1) := Nat.mul_le_mul (by omega) hp
      omega
    · rw [if_neg h2, if_neg h2]
      have e1 : (-1074 + ((g / 4503599627370496 - 1 : Nat) : Int) + 1074).toNat = g / 4503599627370496 - 1 := by omega
      rw [e1]
      by_cases h3 : g / 4503599627370496 = h / 4503599627370496
      · rw [h3]
        exact (Nat.mul_lt_mul_right hp).2 (by omega)
      · have hk : g / 4503599627370496 - 1 + 1 ≤ h / 4503599627370496 - 1 := by omega
        have h4 : 2 ^ (g / 4503599627370496 - 1 + 1) ≤ 2 ^ (h / 4503599627370496 - 1) := Nat.pow_le_pow_right (by omega) hk
        rw [Nat.pow_succ] at h4
        have hq := Nat.two_pow_pos (g / 4503599627370496 - 1)
        generalize 2 ^ (g / 4503599627370496 - 1) = p at *
        generalize 2 ^ (h / 4503599627370496 - 1) = q at *
        have h5 : (4503599627370496 + g % 4503599627370496) * p < 9007199254740992 * p := (Nat.mul_lt_mul_right hq).2 (by omega)
        have h6 : 4503599627370496 * (p * 2) ≤ 4503599627370496 * q := Nat.mul_le_mul_left _ h4
        have h7 : 4503599627370496 * q ≤ (4503599627370496 + h % 4503599627370496) * q := Nat.mul_le_mul_right _ (by omega)
        omega

/-- a float's place in the order; both zeros at one -/
def key (a : Nat) : Int := if neg a then -(mag a : Int) else (mag a : Int)

theorem signed_eq (s : Bool) (m k : Nat) : signed s m k = if s then -((m * 2 ^ k : Nat) : Int) else ((m * 2 ^ k : Nat) : Int) := by
  unfold signed; simp only [Nat.shiftLeft_eq]

theorem cmp_of (x y x' y' : Int) (h1 : x < y ↔ x' < y') (h2 : x = y ↔ x' = y') : compare x y = compare x' y' := by
  simp only [compare, compareOfLessAndEq, h1, h2]

theorem V_inj {g h : Nat} : V g < V h ↔ g < h := by
  constructor
  · intro q
    rcases Nat.lt_trichotomy g h with a | a | a
    · exact a
    · subst a; omega
    · have := V_lt a; omega
  · exact V_lt

theorem scaled (g : Nat) (base : Int) (h1 : -1074 ≤ base) (h2 : base ≤ ex g) : sig g * 2 ^ (ex g - base).toNat * 2 ^ (base + 1074).toNat = V g := by
  unfold V
  rw [Nat.mul_assoc, ← Nat.pow_add]
  congr 2
  omega

theorem order_fin (a b : Nat) (ha : mag a < 9218868437227405312) (hb : mag b < 9218868437227405312) : D.order a b = some (compare (key a) (key b)) := by
  unfold Format.order
  rw [read_fin a ha, read_fin b hb]
  simp only [Datum.order, Option.some.injEq, signed_eq]
  have e1 := ex_ge (mag a)
  have e2 := ex_ge (mag b)
  have s1 := scaled (mag a) (min (ex (mag a)) (ex (mag b))) (by omega) (by omega)
  have s2 := scaled (mag b) (min (ex (mag a)) (ex (mag b))) (by omega) (by omega)
  have hp := Nat.two_pow_pos (min (ex (mag a)) (ex (mag b)) + 1074).toNat
  generalize sig (mag a) * 2 ^ (ex (mag a) - min (ex (mag a)) (ex (mag b))).toNat = x at *
  generalize sig (mag b) * 2 ^ (ex (mag b) - min (ex (mag a)) (ex (mag b))).toNat = y at *
  generalize 2 ^ (min (ex (mag a)) (ex (mag b)) + 1074).toNat = p at *
  have v1 := @V_inj (mag a) (mag b)
  have v2 := @V_inj (mag b) (mag a)
  rw [← s1, ← s2] at v1 v2
  have v1' : x < y ↔ mag a < mag b := by rw [← v1]; exact (Nat.mul_lt_mul_right hp).symm
  have v2' : y < x ↔ mag b < mag a := by rw [← v2]; exact (Nat.mul_lt_mul_right hp).symm
  have z1 : x = 0 ↔ mag a = 0 := by
    have v0 := @V_inj 0 (mag a)
    have : V 0 = 0 := by decide
    rw [this, ← s1] at v0
    constructor
    · rintro rfl; simp at v0; omega
    · intro h; rw [h] at v0
      rcases Nat.eq_zero_or_pos x with q | q
      · exact q
      · have := v0.1 (Nat.mul_pos q hp); omega
  have z2 : y = 0 ↔ mag b = 0 := by
    have v0 := @V_inj 0 (mag b)
    have : V 0 = 0 := by decide
    rw [this, ← s2] at v0
    constructor
    · rintro rfl; simp at v0; omega
    · intro h; rw [h] at v0
      rcases Nat.eq_zero_or_pos y with q | q
      · exact q
      · have := v0.1 (Nat.mul_pos q hp); omega
  unfold key
  generalize mag a = g at *
  generalize mag b = h at *
  cases neg a <;> cases neg b <;> simp only [if_true, if_false, Bool.false_eq_true] <;> exact cmp_of _ _ _ _ (by omega) (by omega)

theorem order_nan (a b : Nat) (h : nan a = true ∨ nan b = true) : D.order a b = none := by
  unfold Format.order
  rcases h with h | h
  · obtain ⟨s, t, e⟩ := read_nan a h
    rw [e]; rfl
  · obtain ⟨s, t, e⟩ := read_nan b h
    rw [e]; cases D.read a <;> rfl

theorem order_eq (a b : Nat) (ha : nan a = false) (hb : nan b = false) : D.order a b = some (compare (key a) (key b)) := by
  have ga : mag a ≤ 9218868437227405312 := by unfold nan at ha; simpa using ha
  have gb : mag b ≤ 9218868437227405312 := by unfold nan at hb; simpa using hb
  by_cases h1 : mag a < 9218868437227405312
  · by_cases h2 : mag b < 9218868437227405312
    · exact order_fin a b h1 h2
    · have h2' : mag b = 9218868437227405312 := by omega
      unfold Format.order
      rw [read_fin a h1, read_inf b h2']
      unfold key
      rw [h2']
      simp only [Datum.order]
      congr 1
      cases hb' : neg b <;> cases ha' : neg a <;> simp [compare, compareOfLessAndEq] <;> first | omega | (split <;> first | rfl | omega | (split <;> first | rfl | omega))
  · have h1' : mag a = 9218868437227405312 := by omega
    by_cases h2 : mag b < 9218868437227405312
    · unfold Format.order
      rw [read_inf a h1', read_fin b h2]
      unfold key
      rw [h1']
      simp only [Datum.order]
      congr 1
      cases hb' : neg b <;> cases ha' : neg a <;> simp [compare, compareOfLessAndEq] <;> first | omega | (split <;> first | rfl | omega | (split <;> first | rfl | omega))
    · have h2' : mag b = 9218868437227405312 := by omega
      unfold Format.order
      rw [read_inf a h1', read_inf b h2']
      unfold key
      rw [h1', h2']
      cases hb' : neg b <;> cases ha' : neg a <;> rfl

/-- THE LAST STEP of the reference's sum: three digits go, to the nearest. -/
def pack1 (m : Nat) : Nat := m / 8 + if 4 < m % 8 ∨ (m % 8 = 4 ∧ m / 8 % 2 = 1) then 1 else 0
theorem pack1_eq (m : Nat) : pack1 m = rne m 3 := by
  unfold pack1 rne
  have e : (2 : Nat) ^ 3 = 8 := by decide
  rw [e]
  have h1 : (8 < 2 * (m % 8) ∨ (8 = 2 * (m % 8) ∧ m / 8 % 2 = 1)) ↔ (4 < m % 8 ∨ (m % 8 = 4 ∧ m / 8 % 2 = 1)) := by omega
  simp only [h1]
/-- what comes out of the rounded significand k at exponent e -/
def pack2 (k : Nat) (e : Int) : Nat :=
  let m := if k = 9007199254740992 then 4503599627370496 else k
  let e := if k = 9007199254740992 then e + 1 else e
  if e + 1075 ≥ 2047 then 9218868437227405312 else
  if 4503599627370496 ≤ m then (e + 1075).toNat * 4503599627370496 + m % 4503599627370496 else m
theorem pack_final (m : Nat) (e : Int) (h1 : m < 72057594037927936) (h2 : 36028797018963968 ≤ m ∨ e = -1074) (he : -1074 ≤ e) : pack2 (pack1 m) e = rung m (e - 3) := by
  rw [pack1_eq]
  by_cases hz : m = 0
  · subst hz
    have he' : e = -1074 := by omega
    subst he'; decide
  · have hk : rne m 3 ≤ 9007199254740992 ∧ (36028797018963968 ≤ m → 4503599627370496 ≤ rne m 3) ∧ (m < 36028797018963968 → rne m 3 ≤ 4503599627370496) := by
      rw [← pack1_eq]; unfold pack1
      split <;> omega
    obtain ⟨k1, k2, k3⟩ := hk
    have hlast : max (e - 3 + (m.log2 : Int) - 52) (-1074) = e := by
      have l1 : m.log2 < 56 := (Nat.log2_lt hz).2 (by omega)
      rcases h2 with h2 | h2
      · have l2 : 55 ≤ m.log2 := (Nat.le_log2 hz).2 (by omega)
        omega
      · by_cases h3 : 36028797018963968 ≤ m
        · have l2 : 55 ≤ m.log2 := (Nat.le_log2 hz).2 (by omega)
          omega
        · have l3 : m.log2 < 55 := (Nat.log2_lt hz).2 (by omega)
          omega
    unfold rung
    rw [if_neg hz, hlast]
    have a : (e - 3 - e).toNat = 0 := by omega
    have b : (e - (e - 3)).toNat = 3 := by omega
    dsimp only
    rw [a, b, Nat.pow_zero, Nat.mul_one]
    generalize rne m 3 = k at *
    unfold pack2
    dsimp only
    by_cases hkm : k = 9007199254740992
    · rw [if_pos hkm, if_pos hkm]
      split
      · omega
      · rw [if_pos (Nat.le_refl _)]; omega
    · rw [if_neg hkm, if_neg hkm]
      split
      · rcases h2 with h2 | h2
        · have := k2 h2; omega
        · omega
      · split
        · omega
        · rcases h2 with h2 | h2
          · have := k2 h2; omega
          · subst h2; omega
end Go.Proofs.Ytimiojckinpfdaa.Pq.Flt
