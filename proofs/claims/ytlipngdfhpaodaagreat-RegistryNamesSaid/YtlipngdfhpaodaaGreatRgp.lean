/- The walk of snapshot, at one counter. -/
import Derived.Test.YtlipngdfhpaodaaGreatRgv
import Derived.Deep.CutBlock
import Derived.Deep.DeepCutAuto
namespace Go.Proofs.YtlipngdfhpaodaaGreat
open Go.RowKit
set_option maxRecDepth 1000000
/-- a list of one element lies at g -/
def OneAt (w : World) (v : Value) (l : List Value) : Prop := ∃ g cap, v = .slice (some ⟨g, 0, none⟩) 1 cap ∧ ∀ j u, l[j]? = some u → w.cell? ⟨g, j, none⟩ = some u
theorem one_of {w : World} {base e size : Nat} {v : Value} {l : List Value} (h : w.ownsRow base e size v 1 l) : ∃ g cap, base ≤ g ∧ v = .slice (some ⟨g, 0, none⟩) 1 cap ∧ g < w.heap.size ∧ ∀ j u, l[j]? = some u → w.cell? ⟨g, j, none⟩ = some u := by
  have h' := h
  rcases h.2 with ⟨_, h0⟩ | ⟨g, cap, cur, rfl, hb, _⟩
  · omega
  · refine ⟨g, cap, hb, rfl, (h'.lt g rfl).2, fun j u hu => ?_⟩
    have := h'.cells rfl j u hu
    by_cases hj : j = 0
    · subst hj; simpa [Addr.add] using this
    · simpa [Addr.add, hj] using this
theorem news_of (W : World) (l : List Value) (t : TypeId) {n : Nat} (hn : n = W.heap.size) (l' : List Value) (hl : l' = l) : ∀ (j : Nat) (y : Value), l'[j]? = some y → (W.alloc (.cells l.toArray t)).cell? ((⟨n, 0, none⟩ : Addr).add j) = some y := by
  intro j y hy
  subst hn hl
  have : (⟨W.heap.size, 0, none⟩ : Addr).add j = ⟨W.heap.size, j, none⟩ := by
    by_cases hj : j = 0
    · subst hj; simp [Addr.add]
    · simp [Addr.add, hj]
  rw [this, blk_cell (blk_new _ _)]; simpa using hy
theorem info178 : (Tryz.prog.info? 178).map (fun i => (i.zero, i.size, i.bytes)) = some (some (.agg #[.int .i64 0, .string ⟨#[]⟩, .string ⟨#[]⟩, .slice none 0 0, .int .i64 0, .int .u64 0, .slice none 0 0, .int .u64 0, .float .f64 0, .float .f64 0, .float .f64 0]), 11, 136) := by kernel_rfl
theorem info109 : (Tryz.prog.info? 109).map (fun i => (i.zero, i.size, i.bytes)) = some (some (.agg #[.int .i64 0, .int .u64 0, .slice none 0 0, .int .u64 0, .complex .f64 0 0, .float .f64 0, .float .f64 0]), 7, 80) := by kernel_rfl
def snapv (p : Int) (v : Value) (refused : Int) : Value := .agg #[.int .i64 p, v, .int .u64 refused]
def valL (d : ByteArray) (hi lo : Int) : List Value := [.int .i64 1, .string d, .string ⟨#[]⟩, .slice none 0 0, .int .i64 hi, .int .u64 lo, .slice none 0 0, .int .u64 0, .float .f64 0, .float .f64 0, .float .f64 0]
/-- what the round leaves -/
def SnapCut (W3 : World) (tb : Nat) (rf : Int) (l : List Value) (wx : World) : Prop := ∃ g cap, W3.heap.size ≤ g ∧ wx.heap[tb]? = some (.cells #[.int .i64 1, .slice (some ⟨g, 0, none⟩) 1 cap, .int .u64 rf] 69 (0, 0)) ∧ Only (fun k => k = tb) W3 wx ∧ ∀ j u, l[j]? = some u → wx.cell? ⟨g, j, none⟩ = some u
def SnapRes (d : ByteArray) (hi lo rf : Int) (w : World) (e : Ending) (w' : World) : Prop := ∃ v, e = .returned (snapv 1 v rf) ∧ Only (fun _ => False) w w' ∧ OneAt w' v (valL d hi lo)
set_option maxHeartbeats 4000000 in
theorem snap_1 {w : World} {r ib s g cap : Nat} {F : Nat → Value} {d : ByteArray} {hi lo a b rf : Int} (h : Fb w r 267 176 F) (e1 : F 1 = .int .i64 1) (e9 : F 9 = .pointer (some ⟨ib, 0, none⟩)) (hi' : w.heap[ib]? = some (.cells (instB s (.string d) a b 0 0 0 0 0) 187 (0, 0)))
    (hp : ∀ j u, ([.int .i64 hi, .int .u64 lo, .slice none 0 0, .int .u64 0, .complex .f64 0 0, .float .f64 0, .float .f64 0] : List Value)[j]? = some u → w.cell? ⟨g, j, none⟩ = some u) :
    Calls Tryz.prog 74 #[.pointer (some ⟨r, 0, none⟩), .slice (some ⟨g, 0, none⟩) 1 cap, .int .u64 rf] w (SnapRes d hi lo rf w) := by
  have ks1 := run_stf
  have ks2 := run_stc
  have c1 : w.cell? ⟨r, 1, none⟩ = some (.int .i64 1) := by rw [h.cell (by decide), e1]
  have p0 := hp 0 _ rfl; have p1 := hp 1 _ rfl; have p2 := hp 2 _ rfl; have p3 := hp 3 _ rfl; have p4 := hp 4 _ rfl; have p5 := hp 5 _ rfl; have p6 := hp 6 _ rfl
  have hr := h.lt
  have hg := cell_lt p0
  have hib := blk_lt hi'
  have H := Lib.hid h; have E9 := Lib.hid e9; have HI := Lib.hid hi'
  have HP := Lib.hid hp
  clear h e1 e9 hi' hp
  go_enter Tryz.func74, Tryz.ntmps74
  go_wp2_with fail
  refine wp_loop_rounds 2 ?_
  rw [rounds_succ]
  go_upto_block 1 with fail
  go_cut [8, 9] from 21 to 40 (fun _ _ wx => SnapCut (((w.alloc (.cells #[.int .i64 0, .slice none 0 0, .int .u64 0] 69)).alloc (.cells #[.int .i64 1, .slice none 0 0, .int .u64 rf] 69)).alloc (.cells #[.int .i64 hi, .int .u64 lo, .slice none 0 0, .int .u64 0, .complex .f64 0 0, .float .f64 0, .float .f64 0] 109)) (w.heap.size + 1) rf (valL d hi lo) wx)
  case rest =>
    obtain ⟨g6, cap6, hg6, hb6, O6, hc6⟩ := hcut
    have r0 : (((w.alloc (.cells #[.int .i64 0, .slice none 0 0, .int .u64 0] 69)).alloc (.cells #[.int .i64 1, .slice none 0 0, .int .u64 rf] 69)).alloc (.cells #[.int .i64 hi, .int .u64 lo, .slice none 0 0, .int .u64 0, .complex .f64 0 0, .float .f64 0, .float .f64 0] 109)).heap[w.heap.size]? = some (.cells #[.int .i64 0, .slice none 0 0, .int .u64 0] 69 (0, 0)) := blk_alloc (blk_alloc (blk_new _ _) _) _
    have z0 := O6.blk r0 (by omega)
    have hsz : w.heap.size + 3 ≤ g6 := by simp at hg6; omega
    have O06 : Only (fun _ => False) w _ := ((((Only.refl (fun _ => False) w).alloc _).alloc _).alloc _).seq2 O6 (fun k e => .inl (by omega))
    have c0 := blk_cell hb6 0
    have c1' := blk_cell hb6 1
    have c2 := blk_cell hb6 2
    have e0 := blk_cell z0 0
    have e1 := blk_cell z0 1
    have e2 := blk_cell z0 2
    have f0 := blk_free z0 0
    have f1 := blk_free z0 1
    have f2 := blk_free z0 2
    simp at c0 c1' c2 e0 e1 e2
    have HO := Lib.hid O06; have HC := Lib.hid hc6; have HZ := Lib.hid hsz; have HZ0 := Lib.hid z0
    clear O6 hb6 hc6 hsz z0 r0 O06 hg6
    go_wp2_with fail
    rw [rounds_succ]
    go_wp2_with fail
    refine (sort_1 _ _ _ _).mono ?_
    rintro e w8 ⟨rfl, hw⟩; rw [hw]; clear hw w8
    go_wp2_with fail
    have hz9 := blk_set (blk_set (blk_set HZ0.out 0 (.int .i64 1)) 1 (.slice (some ⟨g6, 0, none⟩) 1 cap6)) 2 (.int .u64 rf)
    have k0 : (((wc.setCell ⟨w.heap.size, 0, none⟩ (.int .i64 1)).setCell ⟨w.heap.size, 1, none⟩ (.slice (some ⟨g6, 0, none⟩) 1 cap6)).setCell ⟨w.heap.size, 2, none⟩ (.int .u64 rf)).cell? ⟨w.heap.size, 0, none⟩ = some (.int .i64 1) := by rw [blk_cell hz9]; rfl
    have k1 : (((wc.setCell ⟨w.heap.size, 0, none⟩ (.int .i64 1)).setCell ⟨w.heap.size, 1, none⟩ (.slice (some ⟨g6, 0, none⟩) 1 cap6)).setCell ⟨w.heap.size, 2, none⟩ (.int .u64 rf)).cell? ⟨w.heap.size, 1, none⟩ = some (.slice (some ⟨g6, 0, none⟩) 1 cap6) := by rw [blk_cell hz9]; rfl
    have k2 : (((wc.setCell ⟨w.heap.size, 0, none⟩ (.int .i64 1)).setCell ⟨w.heap.size, 1, none⟩ (.slice (some ⟨g6, 0, none⟩) 1 cap6)).setCell ⟨w.heap.size, 2, none⟩ (.int .u64 rf)).cell? ⟨w.heap.size, 2, none⟩ = some (.int .u64 rf) := by rw [blk_cell hz9]; rfl
    have O9 : Only (fun _ => False) w (((wc.setCell ⟨w.heap.size, 0, none⟩ (.int .i64 1)).setCell ⟨w.heap.size, 1, none⟩ (.slice (some ⟨g6, 0, none⟩) 1 cap6)).setCell ⟨w.heap.size, 2, none⟩ (.int .u64 rf)) := ((HO.out.setCell (p := ⟨w.heap.size, 0, none⟩) (.inl (Nat.le_refl _)) _).setCell (p := ⟨w.heap.size, 1, none⟩) (.inl (Nat.le_refl _)) _).setCell (p := ⟨w.heap.size, 2, none⟩) (.inl (Nat.le_refl _)) _
    have ng : g6 ≠ w.heap.size := by have := HZ.out; omega
    have hc9 : OneAt (((wc.setCell ⟨w.heap.size, 0, none⟩ (.int .i64 1)).setCell ⟨w.heap.size, 1, none⟩ (.slice (some ⟨g6, 0, none⟩) 1 cap6)).setCell ⟨w.heap.size, 2, none⟩ (.int .u64 rf)) (.slice (some ⟨g6, 0, none⟩) 1 cap6) (valL d hi lo) := ⟨g6, cap6, rfl, fun j u hu => cell_set_ne (cell_set_ne (cell_set_ne (HC.out j u hu) _ _ ng) _ _ ng) _ _ ng⟩
    refine bodyPost_ret (w := (((wc.setCell ⟨w.heap.size, 0, none⟩ (.int .i64 1)).setCell ⟨w.heap.size, 1, none⟩ (.slice (some ⟨g6, 0, none⟩) 1 cap6)).setCell ⟨w.heap.size, 2, none⟩ (.int .u64 rf))) (v := snapv 1 (.slice (some ⟨g6, 0, none⟩) 1 cap6) rf) ?_ rfl ⟨_, rfl, O9, hc9⟩
    generalize (((wc.setCell ⟨w.heap.size, 0, none⟩ (.int .i64 1)).setCell ⟨w.heap.size, 1, none⟩ (.slice (some ⟨g6, 0, none⟩) 1 cap6)).setCell ⟨w.heap.size, 2, none⟩ (.int .u64 rf)) = W9 at *
    simp [results, Tryz.results74, go_sem, k0, k1, k2, snapv]
  go_wp2_with fail
  have q1 : ((w.alloc (.cells #[.int .i64 0, .slice none 0 0, .int .u64 0] 69)).alloc (.cells #[.int .i64 1, .slice none 0 0, .int .u64 rf] 69)).heap[w.heap.size + 1]? = some (.cells #[.int .i64 1, .slice none 0 0, .int .u64 rf] 69 (0, 0)) := by
    have := blk_new (w.alloc (.cells #[.int .i64 0, .slice none 0 0, .int .u64 0] 69)) (.cells #[.int .i64 1, .slice none 0 0, .int .u64 rf] 69)
    simpa using this
  obtain ⟨W3, hW⟩ : ∃ W3, W3 = ((w.alloc (.cells #[.int .i64 0, .slice none 0 0, .int .u64 0] 69)).alloc (.cells #[.int .i64 1, .slice none 0 0, .int .u64 rf] 69)).alloc (.cells #[.int .i64 hi, .int .u64 lo, .slice none 0 0, .int .u64 0, .complex .f64 0 0, .float .f64 0, .float .f64 0] 109) := ⟨_, rfl⟩
  have r0 : W3.heap[w.heap.size]? = some (.cells #[.int .i64 0, .slice none 0 0, .int .u64 0] 69 (0, 0)) := by rw [hW]; exact blk_alloc (blk_alloc (blk_new _ _) _) _
  have r1 : W3.heap[w.heap.size + 1]? = some (.cells #[.int .i64 1, .slice none 0 0, .int .u64 rf] 69 (0, 0)) := by rw [hW]; exact blk_alloc q1 _
  have r2 : W3.heap[w.heap.size + 1 + 1]? = some (.cells #[.int .i64 hi, .int .u64 lo, .slice none 0 0, .int .u64 0, .complex .f64 0 0, .float .f64 0, .float .f64 0] 109 (0, 0)) := by
    have := blk_new ((w.alloc (.cells #[.int .i64 0, .slice none 0 0, .int .u64 0] 69)).alloc (.cells #[.int .i64 1, .slice none 0 0, .int .u64 rf] 69)) (.cells #[.int .i64 hi, .int .u64 lo, .slice none 0 0, .int .u64 0, .complex .f64 0 0, .float .f64 0, .float .f64 0] 109)
    rw [hW]; simpa using this
  have O3 : Only (fun _ => False) w W3 := by rw [hW]; exact (((Only.refl _ w).alloc _).alloc _).alloc _
  rw [← hW]
  have z3 : w.heap.size + 1 + 1 < W3.heap.size := blk_lt r2
  have Z3 := Lib.hid z3
  have HW := Lib.hid hW
  have R0 := Lib.hid r0; have R1 := Lib.hid r1; have R2 := Lib.hid r2; have HO3 := Lib.hid O3
  have H3 := Lib.hid (H.out.only O3 (by simp)); have I3 := Lib.hid (O3.blk HI.out (by simp))
  have hs2 : Hid (∀ w', Only (fun _ => False) W3 w' → w'.cell? ⟨w.heap.size + 1, 1, none⟩ = some (.slice none 0 0) ∧ w'.frozen? ⟨w.heap.size + 1, 1, none⟩ = false ∧ w'.cell? ⟨w.heap.size + 1 + 1, 0, none⟩ = some (.int .i64 hi) ∧ w'.cell? ⟨w.heap.size + 1 + 1, 1, none⟩ = some (.int .u64 lo) ∧ w'.cell? ⟨w.heap.size + 1 + 1, 2, none⟩ = some (.slice none 0 0) ∧ w'.cell? ⟨w.heap.size + 1 + 1, 3, none⟩ = some (.int .u64 0) ∧ w'.cell? ⟨w.heap.size + 1 + 1, 4, none⟩ = some (.complex .f64 0 0) ∧ w'.cell? ⟨w.heap.size + 1 + 1, 5, none⟩ = some (.float .f64 0) ∧ w'.cell? ⟨w.heap.size + 1 + 1, 6, none⟩ = some (.float .f64 0)) := Lib.hid (fun w' O => by
    have a1 := O.blk R1.out (by simp)
    have a2 := O.blk R2.out (by simp)
    exact ⟨by rw [blk_cell a1]; rfl, blk_free a1 _, by rw [blk_cell a2]; rfl, by rw [blk_cell a2]; rfl, by rw [blk_cell a2]; rfl, by rw [blk_cell a2]; rfl, by rw [blk_cell a2]; rfl, by rw [blk_cell a2]; rfl, by rw [blk_cell a2]; rfl⟩)
  have c9 : W3.cell? ⟨r, 9, none⟩ = some (.pointer (some ⟨ib, 0, none⟩)) := by rw [H3.out.cell (by decide), E9.out]
  have d0 : W3.cell? ⟨ib, 0, none⟩ = some (.int .i64 1) := by rw [blk_cell I3.out]; rfl
  have d1 : W3.cell? ⟨ib, 1, none⟩ = some (.string d) := by rw [blk_cell I3.out]; rfl
  have d2 : W3.cell? ⟨ib, 2, none⟩ = some (.string ⟨#[]⟩) := by rw [blk_cell I3.out]; rfl
  have d3 : W3.cell? ⟨ib, 3, none⟩ = some (.slice none 0 0) := by rw [blk_cell I3.out]; rfl
  clear c1 p0 p1 p2 p3 p4 p5 p6 hr hg hib q1 hW r0 r1 r2 O3 H HI HP H3 I3 E9
  obtain ⟨a0, af, b0, b1, b2, b3, b4, b5, b6⟩ := hs2.out _ (Only.refl _ W3)
  obtain ⟨i0, hi0, hz0, hs0, hb0⟩ := info_parts info178
  have VC := fun w => value_c d hi lo w
  unfold valc partc at VC
  have HVC := Lib.hid VC; clear VC
  go_region_law (first
    | (go_simp; go_at_call 68; refine (desc_nil 1 d ⟨#[]⟩ _).mono ?_; rintro e w4 ⟨rfl, O4⟩; have N4 : Hid (Only (fun _ => False) W3 w4) := Lib.hid ((Only.refl (fun _ => False) W3).drew.trans O4); obtain ⟨a0, af, b0, b1, b2, b3, b4, b5, b6⟩ := hs2.out _ N4.out; clear O4)
    | (go_simp; go_at_call 134; refine (HVC.out _).mono ?_; rintro e w5 ⟨rfl, O5⟩; have N5 : Hid (Only (fun _ => False) W3 w5) := Lib.hid (N4.out.trans O5); obtain ⟨a0, af, b0, b1, b2, b3, b4, b5, b6⟩ := hs2.out _ N5.out; have z5 := N5.out.size; have y5 : w.heap.size + 1 < w5.heap.size := Nat.lt_of_lt_of_le (Nat.lt_of_succ_lt Z3.out) z5; clear O5)
    | (refine step_append_kept rfl (.tmp 25) (.tmp 38) 67 rfl 178 i0 _ 11 136 Tryz.underlying67 hi0 hz0 hs0 hb0 rfl (by decide) W3.heap.size 0 (.slice none 0 0) [] (by simp [Act.eval]) (World.ownsRow_nil _ _ _ _) (by simp; omega) ⟨w5.heap.size, 0, none⟩ 1 1 (valL d hi lo) (by simp [Act.eval]) rfl (news_of _ (valL d hi lo) 178 rfl _ rfl) (by simp [valL, Value.oneCell']) (by decide) (by unfold maxLen; omega) (by omega) ?_; intro v' w6 hgr hown; have N6 : Hid (Only (fun _ => False) W3 w6) := Lib.hid ((N5.out.alloc _).grown hgr.grown (fun k hk => by cases hk)); obtain ⟨a0, af, b0, b1, b2, b3, b4, b5, b6⟩ := hs2.out _ N6.out; obtain ⟨g6, cap6, hge6, rfl, hlt6, hc6⟩ := one_of (l := valL d hi lo) hown; have HC6 := Lib.hid hc6; clear hgr hown hc6))
  all_goals
    go_wp2_with fail
    go_meet
    have hz := N6.out.size
    have hfin : SnapCut W3 (w.heap.size + 1) rf (valL d hi lo) (w6.setCell ⟨w.heap.size + 1, 1, none⟩ (.slice (some ⟨g6, 0, none⟩) 1 cap6)) := ⟨g6, cap6, hge6, blk_set (N6.out.blk R1.out (by simp)) 1 _, (N6.out.mono (T := fun k => k = w.heap.size + 1) fun _ _ q => q.elim).setCell (p := ⟨w.heap.size + 1, 1, none⟩) (.inr rfl) _, fun j u hu => cell_set_ne (HC6.out j u hu) _ _ (by show g6 ≠ w.heap.size + 1; omega)⟩
    rw [HW.out] at hfin
    exact hfin
end Go.Proofs.YtlipngdfhpaodaaGreat
