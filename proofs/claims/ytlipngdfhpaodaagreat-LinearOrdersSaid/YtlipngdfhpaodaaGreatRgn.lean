/- The walk of registry.New. -/
import Derived.Test.YtlipngdfhpaodaaGreatFb
import Derived.Test.YtlipngdfhpaodaaGreatRec2
import Derived.Maps.Own
import Derived.Maps.OwnOps
import Derived.Deep.RegionHeld3
import Derived.Deep.RegionWith
namespace Go.Proofs.YtlipngdfhpaodaaGreat
open Go.RowKit Go.Maps
set_option maxRecDepth 1000000

theorem regnew_stripes (s p c : Int) (w : World) (h : s < 1 ∨ 16 < s) : Calls Tryz.prog 17 #[.agg #[.int .i64 s, .int .i64 p, .int .i64 c]] w fun e w' => e = .returned (.tuple #[.pointer none, .int .i64 1]) ∧ Only (fun _ => False) w w' := by
  have K := Lib.hid (fun w => poolnew_bad s w h); clear h
  go_enter Tryz.func17, Tryz.ntmps17
  go_wp2_with fail
  refine (K.out _).mono ?_
  rintro e w1 ⟨rfl, hw⟩; rw [hw]; clear hw w1
  go_wp2_with fail
  go_ret2
  exact ⟨rfl, (Only.refl _ w).alloc _⟩
theorem regnew_prec (w : World) : Calls Tryz.prog 17 #[.agg #[.int .i64 1, .int .i64 15, .int .i64 1]] w fun e w' => e = .returned (.tuple #[.pointer none, .int .i64 1]) ∧ Only (fun _ => False) w w' := by
  go_enter Tryz.func17, Tryz.ntmps17
  go_wp2_with fail
  refine (poolnew_1 _).mono ?_
  rintro e w1 ⟨rfl, hw⟩; rw [hw]; clear hw w1
  go_wp2_with fail
  go_ret2
  exact ⟨rfl, ((Only.refl _ w).alloc _).alloc _⟩
theorem regnew_cells (w : World) : Calls Tryz.prog 17 #[.agg #[.int .i64 1, .int .i64 1, .int .i64 1048577]] w fun e w' => e = .returned (.tuple #[.pointer none, .int .i64 1]) ∧ Only (fun _ => False) w w' := by
  go_enter Tryz.func17, Tryz.ntmps17
  go_wp2_with fail
  refine (poolnew_1 _).mono ?_
  rintro e w1 ⟨rfl, hw⟩; rw [hw]; clear hw w1
  go_wp2_with fail
  go_ret2
  exact ⟨rfl, ((Only.refl _ w).alloc _).alloc _⟩
theorem config_cells {w w' : World} {b : Nat} {x y z : Value} (h : w.heap[b]? = some (.cells #[x, y, z] 52 (0, 0))) (O : Only (fun _ => False) w w') : w'.cell? ⟨b, 0, none⟩ = some x ∧ w'.cell? ⟨b, 1, none⟩ = some y ∧ w'.cell? ⟨b, 2, none⟩ = some z := by
  have h' := O.blk h (by simp)
  exact ⟨by rw [blk_cell h']; rfl, by rw [blk_cell h']; rfl, by rw [blk_cell h']; rfl⟩
/-- the cells of a registry -/
def RF (s p c next serving : Int) (sh pl mp : Nat) (cells : Int) (all : Nat → Value) (many : Int) (refused : Int) : Nat → Value := fun k =>
  if k = 0 then .int .i64 s else if k = 1 then .int .i64 p else if k = 2 then .int .i64 c else if k = 3 then .int .i64 next else if k = 4 then .int .i64 serving
  else if k = 5 then .pointer (some ⟨sh, 0, none⟩) else if k = 6 then .pointer (some ⟨pl, 0, none⟩) else if k = 7 then .int .i64 cells else if k = 8 then .map (some mp)
  else if k < 265 then all (k - 9) else if k = 265 then .int .i64 many else .int .u64 refused
def ZF : Nat → Value := fun k => if k < 5 then .int .i64 0 else if k < 7 then .pointer none else if k = 7 then .int .i64 0 else if k = 8 then .map none else if k < 265 then .pointer none else if k = 265 then .int .i64 0 else .int .u64 0
theorem zero_list : Tryz.zeroCells176.toList = (List.range 267).map ZF := by kernel_rfl
theorem zero_at (k : Nat) (hk : k < 267) : Tryz.zeroCells176[k]? = some (ZF k) := by
  rw [← Array.getElem?_toList, zero_list]
  simp [hk]
theorem zero_size : Tryz.zeroCells176.size = 267 := by kernel_rfl
theorem fb_new (X : World) (s p c : Int) (sh pl mp : Nat) :
    Fb (X.alloc (.cells ((((((Tryz.zeroCells176.setIfInBounds 0 (.int .i64 s)).setIfInBounds 1 (.int .i64 p)).setIfInBounds 2 (.int .i64 c)).setIfInBounds 5 (.pointer (some ⟨sh, 0, none⟩))).setIfInBounds 6 (.pointer (some ⟨pl, 0, none⟩))).setIfInBounds 8 (.map (some mp))) 176)) X.heap.size 267 176 (RF s p c 0 0 sh pl mp 0 (fun _ => .pointer none) 0 0) := by
  refine ⟨_, blk_new X _, by simp, fun k hk => ?_⟩
  have hz := zero_at k hk
  have hs := zero_size
  simp only [Array.getElem?_setIfInBounds, Array.size_setIfInBounds, hs, hz]
  unfold RF ZF
  by_cases h0 : 0 = k
  · subst h0; rfl
  by_cases h1 : 1 = k
  · subst h1; rfl
  by_cases h2 : 2 = k
  · subst h2; rfl
  by_cases h5 : 5 = k
  · subst h5; rfl
  by_cases h6 : 6 = k
  · subst h6; rfl
  by_cases h8 : 8 = k
  · subst h8; rfl
  by_cases h3 : k = 3
  · subst h3; rfl
  by_cases h4 : k = 4
  · subst h4; rfl
  by_cases h7 : k = 7
  · subst h7; rfl
  simp only [h0, h1, h2, h5, h6, h8, if_false, show ¬ k = 0 by omega, show ¬ k = 1 by omega, show ¬ k = 2 by omega, show ¬ k = 3 by omega, show ¬ k = 4 by omega, show ¬ k = 5 by omega, show ¬ k = 6 by omega, show ¬ k = 7 by omega, show ¬ k = 8 by omega, show ¬ k < 5 by omega, show ¬ k < 7 by omega]
/-- a new registry -/
structure RgNew (base r sh ph mp pl : Nat) (s p c : Int) (fr : Int) (w : World) : Prop where
  rge : base ≤ r
  mge : base ≤ mp
  pge : base ≤ pl
  blk : Fb w r 267 176 (RF s p c 0 0 sh pl mp 0 (fun _ => .pointer none) 0 0)
  shr : RecAt base sh ph 0 (fun _ => 0) 0 0 (fun k => if k = 1 then -9223372036854775808 else 0) w
  pool : w.heap[pl]? = some (.cells #[.int .i64 s, .int .u32 fr] 273 (0, 0))
  mapb : w.heap[mp]? = some (.map #[] 0)
def RgNewRes (s p c fr : Int) (w : World) (e : Ending) (w' : World) : Prop := ∃ r sh ph mp pl, e = .returned (.tuple #[.pointer (some ⟨r, 0, none⟩), .int .i64 0]) ∧ Only (fun _ => False) w w' ∧ RgNew w.heap.size r sh ph mp pl s p c fr w'
theorem RecAt.low {base base' sh ph : Nat} {act : Int} {rf : Nat → Int} {now start : Int} {en : Nat → Int} {w : World} (h : RecAt base sh ph act rf now start en w) (hb : base' ≤ base) : RecAt base' sh ph act rf now start en w :=
  ⟨Nat.le_trans hb h.sge, Nat.le_trans hb h.pge, h.sobj, h.pobj⟩
set_option maxHeartbeats 4000000 in
theorem regnew_ok (s p c fr : Int) (w : World) (hp : 1 ≤ p ∧ p ≤ 14) (hc : 1 ≤ c ∧ c ≤ 1048576)
    (K : ∀ w, Calls Tryz.prog 58 #[.int .i64 s] w fun e w' => e = .returned (.tuple #[.pointer (some ⟨w.heap.size, 0, none⟩), .int .i64 0]) ∧ w' = w.alloc (.cells #[.int .i64 s, .int .u32 fr] 273)) :
    Calls Tryz.prog 17 #[.agg #[.int .i64 s, .int .i64 p, .int .i64 c]] w (RgNewRes s p c fr w) := by
  have hmm := @run_makeMap Tryz.prog
  have HK := Lib.hid K; clear K
  have t1 : decide (p < 1) = false := decide_eq_false (by omega)
  have t2 : decide (p > 14) = false := decide_eq_false (by omega)
  have t3 : decide (c < 1) = false := decide_eq_false (by omega)
  have t4 : decide (c > 1048576) = false := decide_eq_false (by omega)
  clear hp hc
  obtain ⟨W0, hW⟩ : ∃ W0, W0 = (w.alloc (.cells #[.int .i64 s, .int .i64 p, .int .i64 c] 52)).alloc (.cells #[.int .i64 s, .int .u32 fr] 273) := ⟨_, rfl⟩
  have q0 : W0.heap[w.heap.size]? = some (.cells #[.int .i64 s, .int .i64 p, .int .i64 c] 52 (0, 0)) := by rw [hW]; exact blk_alloc (blk_new _ _) _
  have s1 : (w.alloc (.cells #[.int .i64 s, .int .i64 p, .int .i64 c] 52)).heap.size = w.heap.size + 1 := by simp
  have q1 : W0.heap[w.heap.size + 1]? = some (.cells #[.int .i64 s, .int .u32 fr] 273 (0, 0)) := by rw [hW, ← s1]; exact blk_new _ _
  have O0 : Only (fun _ => False) w W0 := by rw [hW]; exact ((Only.refl _ w).alloc _).alloc _
  have HW := Lib.hid hW; have Q0 := Lib.hid q0; have Q1 := Lib.hid q1; have HO := Lib.hid O0
  obtain ⟨c0, c1, c2⟩ := config_cells q0 (Only.refl _ W0)
  obtain ⟨b0, b1, b2⟩ := config_cells q0 ((Only.refl _ W0).alloc (.map #[] 0))
  clear hW q0 q1 s1 O0
  go_enter Tryz.func17, Tryz.ntmps17
  go_wp2_with fail
  refine (HK.out _).mono ?_
  rintro e w1 ⟨rfl, hw⟩; rw [hw]; clear hw w1
  rw [← HW.out]
  clear HW
  go_wp2_with fail
  go_region_law (first | (go_simp; go_at_call 10; refine (recnew_calls _).mono ?_; rintro e w2 ⟨sh, ph, rfl, O2, R2⟩; (try (have M2 := Lib.hid (O2.blk (blk_drew (blk_new W0 (.map #[] 0))) (by simp)))); (try (have M2 := Lib.hid (O2.blk (blk_new W0.drew (.map #[] 0)) (by simp)))); have HR2 : Hid (RecAt w.heap.size sh ph 0 (fun _ => 0) 0 0 (fun k => if k = 1 then -9223372036854775808 else 0) w2) := Lib.hid (R2.low (by have := HO.out.size; first | exact this | (simp; omega))); have Q2 : Hid (Only (fun _ => False) W0 w2) := Lib.hid (Only.trans (by first | exact (Only.refl _ W0).drew | exact ((Only.refl _ W0).alloc _).drew | exact ((Only.refl _ W0).drew).alloc _) O2); obtain ⟨d0, d1, d2⟩ := config_cells Q0.out Q2.out; obtain ⟨g0, g1, g2⟩ := config_cells Q0.out (Q2.out.alloc (.map #[] 0)); clear O2 R2))
  all_goals
    go_wp2_with fail
    have q := Q2.out.size
    have q' := HO.out.size
    first
      | (refine bodyPost_ret (w := (w2.alloc (.map #[] 0)).alloc _) (v := .tuple #[.pointer (some ⟨(w2.alloc (.map #[] 0)).heap.size, 0, none⟩), .int .i64 0]) ?_ rfl ⟨(w2.alloc (.map #[] 0)).heap.size, sh, ph, w2.heap.size, w.heap.size + 1, rfl, (((HO.out.trans Q2.out).alloc _).alloc _), ⟨by simp; omega, by omega, by omega, fb_new _ s p c sh _ _, (HR2.out.only (((Only.refl (fun _ => False) w2).alloc _).alloc _) (by simp) (by simp)), blk_alloc (blk_alloc (Q2.out.blk Q1.out (by simp)) _) _, blk_alloc (blk_new w2 _) _⟩⟩
         simp [results, Tryz.results17, go_sem]; done)
      | (refine bodyPost_ret (w := w2.alloc _) (v := .tuple #[.pointer (some ⟨w2.heap.size, 0, none⟩), .int .i64 0]) ?_ rfl ⟨w2.heap.size, sh, ph, W0.heap.size, w.heap.size + 1, rfl, ((HO.out.trans Q2.out).alloc _), ⟨by omega, by omega, by omega, fb_new _ s p c sh _ _, (HR2.out.only ((Only.refl (fun _ => False) w2).alloc _) (by simp) (by simp)), blk_alloc (Q2.out.blk Q1.out (by simp)) _, blk_alloc M2.out _⟩⟩
         simp [results, Tryz.results17, go_sem]; done)
end Go.Proofs.YtlipngdfhpaodaaGreat
