/- The walk of linear.Fits at no call. -/
import Derived.Test.YtlipngdfhpaodaaGreatLft
import Derived.Test.YtlipngdfhpaodaaGreatLor
namespace Go.Proofs.YtlipngdfhpaodaaGreat.Lo
open Go.RowKit
set_option maxRecDepth 100000
set_option maxHeartbeats 16000000 in
theorem fits_0 {w : World} {sb cb hb db : Nat} (h : FIn sb cb hb db w) :
    Calls Tryz.prog 37 #[.agg #[.int .i64 1, .int .i64 1, .int .i64 100], scrV sb, hisV hb, .slice none 0 0] w fun e w' => e = .returned (.tuple #[.bool false, .int .i64 0]) ∧ Only (fun _ => False) w w' := by
  have hmm := @run_makeMap Tryz.prog
  obtain ⟨hst, hm2, hbc⟩ := st_start h
  have hsz := w6_size w sb hb
  obtain ⟨W1, hW⟩ : ∃ W1, W1 = W6 w sb hb := ⟨_, rfl⟩
  rw [← hW] at hst hm2 hbc hsz
  have c0 : W1.cell? ⟨w.heap.size, 0, none⟩ = some (.int .i64 1) := cells_of hbc rfl
  have c1 : W1.cell? ⟨w.heap.size, 1, none⟩ = some (.int .i64 1) := cells_of hbc rfl
  have c2 : W1.cell? ⟨w.heap.size, 2, none⟩ = some (.int .i64 100) := cells_of hbc rfl
  have HS := Lib.hid hst; have HM := Lib.hid hm2
  unfold W6 at hW
  have HW := Lib.hid hW
  have SZ := Lib.hid hsz
  clear hst hm2 hbc hW h hsz
  unfold scrV hisV
  go_enter Tryz.func37, Tryz.ntmps37
  go_wp2_with fail
  rw [← HW.out]
  refine (regnew_ok 1 1 100 1 W1 (by decide) (by decide) poolnew_1).mono ?_
  rintro e w2 ⟨r, sh, ph, mp, pl, rfl, O2, N2⟩
  have S2 := HS.out.no O2
  obtain ⟨W3, hW3⟩ : ∃ W3, W3 = (w2.alloc (.map #[] 0)).alloc (.cells (slotA r w2.heap.size) 243) := ⟨_, rfl⟩
  have OO3 : Only (fun _ => False) w2 W3 := by rw [hW3]; exact ((Only.refl _ w2).alloc _).alloc _
  have S3 := Lib.hid (S2.no OO3)
  unfold slotA at hW3
  have HW3 := Lib.hid hW3
  clear S2 N2 OO3 O2 hW3 HS HM HW c0 c1 c2
  have j0 : W3.cell? ⟨w.heap.size + 1 + 1, 0, none⟩ = some (.slice (some ⟨hb, 0, none⟩) 1 1) := cells_of S3.out.bh rfl
  have j1 : W3.cell? ⟨hb, 0, none⟩ = some (.slice (some ⟨db, 0, none⟩) 1 1) := cells_of S3.out.fin.h1 rfl
  have g0 : W3.cell? ⟨db, 0, none⟩ = some (.int .i64 0) := cells_of S3.out.fin.h2 rfl
  have g1 : W3.cell? ⟨db, 1, none⟩ = some (.int .i64 0) := cells_of S3.out.fin.h2 rfl
  have g2 : W3.cell? ⟨db, 2, none⟩ = some (.int .i64 0) := cells_of S3.out.fin.h2 rfl
  have g3 : W3.cell? ⟨db, 3, none⟩ = some (.slice none 0 0) := cells_of S3.out.fin.h2 rfl
  have g4 : W3.cell? ⟨db, 4, none⟩ = some (.int .u64 0) := cells_of S3.out.fin.h2 rfl
  have g5 : W3.cell? ⟨db, 5, none⟩ = some (.int .i64 0) := cells_of S3.out.fin.h2 rfl
  have g6 : W3.cell? ⟨db, 6, none⟩ = some (.int .i64 3) := cells_of S3.out.fin.h2 rfl
  have g7 : W3.cell? ⟨db, 7, none⟩ = some (.int .i64 2) := cells_of S3.out.fin.h2 rfl
  have g8 : W3.cell? ⟨db, 8, none⟩ = some (.int .i64 3) := cells_of S3.out.fin.h2 rfl
  have g9 : W3.cell? ⟨db, 9, none⟩ = some (.int .i64 0) := cells_of S3.out.fin.h2 rfl
  have g10 : W3.cell? ⟨db, 10, none⟩ = some (.bool true) := cells_of S3.out.fin.h2 rfl
  go_wp2_with fail
  rw [← HW3.out]
  refine wp_loop_rounds 1 ?_
  rw [rounds_succ]
  go_wp2_with fail
  refine wp_loop_rounds 2 ?_
  rw [rounds_succ]
  go_wp2_with fail
  refine wp_loop_rounds 2 ?_
  rw [rounds_succ]
  have O12 : Only (fun _ => False) W3 (W3.alloc (.cells #[.int .i64 0, .int .i64 0, .int .i64 0, .slice none 0 0, .int .u64 0, .int .i64 0, .int .i64 3, .int .i64 2, .int .i64 3, .int .i64 0, .bool true] 220)) := (Only.refl _ W3).alloc _
  have s12 := S3.out.no O12
  have i0 : (W3.alloc (.cells #[.int .i64 0, .int .i64 0, .int .i64 0, .slice none 0 0, .int .u64 0, .int .i64 0, .int .i64 3, .int .i64 2, .int .i64 3, .int .i64 0, .bool true] 220)).cell? ⟨w.heap.size + 1 + 1 + 1 + 1 + 1, 0, none⟩ = some (.map (some (w.heap.size + 1 + 1 + 1))) := cells_of s12.bp rfl
  have lk := look_235e (w.heap.size + 1 + 1 + 1) (W3.alloc (.cells #[.int .i64 0, .int .i64 0, .int .i64 0, .slice none 0 0, .int .u64 0, .int .i64 0, .int .i64 3, .int .i64 2, .int .i64 3, .int .i64 0, .bool true] 220)) s12.m1
  have S12 := Lib.hid s12.only
  clear s12 O12
  go_wp2_with fail
  go_ret2
  exact ⟨rfl, S12.out⟩
end Go.Proofs.YtlipngdfhpaodaaGreat.Lo

/- The walk of awake: an order of one call fits, none does not. -/
namespace Go.Proofs.YtlipngdfhpaodaaGreat.Lo
open Go.RowKit Srt
set_option maxRecDepth 100000
def dnA : Dn := ⟨0, 0, 0, none, 0, 0, 0, 0, 3, 2, 3, 0, true⟩
theorem collA : coll (ptf fun _ _ => dnA) (fun _ => 1) 1 = [(0, 0)] := by decide
theorem run_eqA (w : World) : Sem.run Tryz.prog (binOp .eql 72 (.agg #[.int .i64 0, .int .i64 0]) (.agg #[.int .i64 0, .int .i64 0])) w = .ok (.bool true) w := by kernel_rfl
theorem hs_of {sb cb hb db : Nat} {w : World} (h : FIn sb cb hb db w) : Hs w (some ⟨hb, 0, none⟩) 1 (fun _ => 1) (fun _ _ => dnA) := by
  refine ⟨by decide, fun r hr => ?_, fun r k _ _ => by decide⟩
  obtain rfl : r = 0 := by omega
  refine ⟨hb, 0, some ⟨db, 0, none⟩, 1, rfl, blk_lt h.h1, cells_of h.h1 rfl, by decide, fun k hk => ?_⟩
  obtain rfl : k = 0 := by omega
  refine ⟨db, 0, rfl, blk_lt h.h2, fun j _ => ?_⟩
  rw [blk_cell h.h2]
  simp only [Nat.zero_mul, Nat.zero_add]
  rfl
theorem one_cell {w w' : World} {e : Ending} (h : OrdRes w 1 (fun _ => 1) (ptf fun _ _ => dnA) e w') : ∃ g cap, e = .returned (.slice (some ⟨g, 0, none⟩) 1 cap) ∧ Only (fun _ => False) w w' ∧ w'.cell? ⟨g, 0, none⟩ = some (.int .i64 0) ∧ w'.cell? ⟨g, 1, none⟩ = some (.int .i64 0) := by
  obtain ⟨v, l, rfl, O, S, R⟩ := h
  rw [collA] at S R
  have hp : l = [el (ptf fun _ _ => dnA) [(0, 0)] 0] := List.perm_singleton.1 S.perm
  subst hp
  rcases own_open R with ⟨_, q⟩ | ⟨g, cap, X, rfl, h1, h2, h3, h4, h5, h6⟩
  · simp at q
  · obtain ⟨q1, q2⟩ := own_cells R h2 h6 (i := 0) (x := el (ptf fun _ _ => dnA) [(0, 0)] 0) (by decide) rfl
    exact ⟨g, cap, rfl, O, q1, q2⟩
def A7 (w : World) : World := (((((((w.alloc (.cells #[.int .i64 1, .int .i64 1, .int .i64 100] 52)).alloc (.cells callA 217)).alloc (.cells #[.slice (some ⟨w.heap.size + 1, 0, none⟩) 1 1] 218)).alloc (.cells #[.slice (some ⟨w.heap.size + 1 + 1, 0, none⟩) 1 1, .slice none 0 0, .bool false] 96)).alloc (.cells doneA 220)).alloc (.cells #[.slice (some ⟨w.heap.size + 1 + 1 + 1 + 1, 0, none⟩) 1 1] 221)).alloc (.cells #[.slice (some ⟨w.heap.size + 1 + 1 + 1 + 1 + 1, 0, none⟩) 1 1, .int .i64 3] 90))
structure A7S (w w1 : World) : Prop where
  fin : FIn (w.heap.size + 2) (w.heap.size + 1) (w.heap.size + 5) (w.heap.size + 4) w1
  bc : w1.heap[w.heap.size]? = some (.cells #[.int .i64 1, .int .i64 1, .int .i64 100] 52 (0, 0))
  bs : w1.heap[w.heap.size + 3]? = some (.cells #[.slice (some ⟨w.heap.size + 2, 0, none⟩) 1 1, .slice none 0 0, .bool false] 96 (0, 0))
  bh : w1.heap[w.heap.size + 6]? = some (.cells #[.slice (some ⟨w.heap.size + 5, 0, none⟩) 1 1, .int .i64 3] 90 (0, 0))
  only : Only (fun _ => False) w w1
theorem A7S.next {w w1 w2 : World} (h : A7S w w1) (O : Only (fun _ => False) w1 w2) : A7S w w2 := ⟨h.fin.only O id id id id, O.blk h.bc id, O.blk h.bs id, O.blk h.bh id, h.only.trans O⟩
theorem a7_start (w : World) : A7S w (A7 w) := by
  have a0 := blk_new w (.cells #[.int .i64 1, .int .i64 1, .int .i64 100] 52)
  have a1 := blk_new (w.alloc (.cells #[.int .i64 1, .int .i64 1, .int .i64 100] 52)) (.cells callA 217)
  have a2 := blk_new ((w.alloc (.cells #[.int .i64 1, .int .i64 1, .int .i64 100] 52)).alloc (.cells callA 217)) (.cells #[.slice (some ⟨w.heap.size + 1, 0, none⟩) 1 1] 218)
  have a3 := blk_new (((w.alloc (.cells #[.int .i64 1, .int .i64 1, .int .i64 100] 52)).alloc (.cells callA 217)).alloc (.cells #[.slice (some ⟨w.heap.size + 1, 0, none⟩) 1 1] 218)) (.cells #[.slice (some ⟨w.heap.size + 1 + 1, 0, none⟩) 1 1, .slice none 0 0, .bool false] 96)
  have a4 := blk_new ((((w.alloc (.cells #[.int .i64 1, .int .i64 1, .int .i64 100] 52)).alloc (.cells callA 217)).alloc (.cells #[.slice (some ⟨w.heap.size + 1, 0, none⟩) 1 1] 218)).alloc (.cells #[.slice (some ⟨w.heap.size + 1 + 1, 0, none⟩) 1 1, .slice none 0 0, .bool false] 96)) (.cells doneA 220)
  have a5 := blk_new (((((w.alloc (.cells #[.int .i64 1, .int .i64 1, .int .i64 100] 52)).alloc (.cells callA 217)).alloc (.cells #[.slice (some ⟨w.heap.size + 1, 0, none⟩) 1 1] 218)).alloc (.cells #[.slice (some ⟨w.heap.size + 1 + 1, 0, none⟩) 1 1, .slice none 0 0, .bool false] 96)).alloc (.cells doneA 220)) (.cells #[.slice (some ⟨w.heap.size + 1 + 1 + 1 + 1, 0, none⟩) 1 1] 221)
  have a6 := blk_new ((((((w.alloc (.cells #[.int .i64 1, .int .i64 1, .int .i64 100] 52)).alloc (.cells callA 217)).alloc (.cells #[.slice (some ⟨w.heap.size + 1, 0, none⟩) 1 1] 218)).alloc (.cells #[.slice (some ⟨w.heap.size + 1 + 1, 0, none⟩) 1 1, .slice none 0 0, .bool false] 96)).alloc (.cells doneA 220)).alloc (.cells #[.slice (some ⟨w.heap.size + 1 + 1 + 1 + 1, 0, none⟩) 1 1] 221)) (.cells #[.slice (some ⟨w.heap.size + 1 + 1 + 1 + 1 + 1, 0, none⟩) 1 1, .int .i64 3] 90)
  simp only [World.size_alloc] at a1 a2 a3 a4 a5 a6
  have O : Only (fun _ => False) w (A7 w) := ((((((((Only.refl _ w).alloc _).alloc _).alloc _).alloc _).alloc _).alloc _).alloc _)
  exact ⟨⟨(blk_alloc (blk_alloc (blk_alloc (blk_alloc a2 _) _) _) _), (blk_alloc (blk_alloc (blk_alloc (blk_alloc (blk_alloc a1 _) _) _) _) _), (blk_alloc a5 _), (blk_alloc (blk_alloc a4 _) _)⟩, (blk_alloc (blk_alloc (blk_alloc (blk_alloc (blk_alloc (blk_alloc a0 _) _) _) _) _) _), (blk_alloc (blk_alloc (blk_alloc a3 _) _) _), a6, O⟩
set_option maxHeartbeats 8000000 in
theorem awake31 (w : World) : Calls Tryz.prog 31 #[] w fun e w' => e = .returned (.bool true) ∧ Only (fun _ => False) w w' := by
  have hq := run_eqA
  obtain ⟨W1, hW⟩ : ∃ W1, W1 = A7 w := ⟨_, rfl⟩
  have h1 := a7_start w
  rw [← hW] at h1
  have H1 := Lib.hid h1
  unfold A7 callA doneA at hW
  have HW := Lib.hid hW
  clear hW h1
  go_enter Tryz.func31, Tryz.ntmps31
  go_wp2_with fail
  rw [← HW.out]
  have K := order_calls W1 _ 1 1 3 _ _ (hs_of H1.out.fin) (by decide)
  refine K.mono ?_
  clear K
  intro e w2 hr
  obtain ⟨g, cap, rfl, O2, o0, o1⟩ := one_cell hr
  clear hr
  have h2 := H1.out.next O2
  have c0 : w2.cell? ⟨w.heap.size, 0, none⟩ = some (.int .i64 1) := cells_of h2.bc rfl
  have c1 : w2.cell? ⟨w.heap.size, 1, none⟩ = some (.int .i64 1) := cells_of h2.bc rfl
  have c2 : w2.cell? ⟨w.heap.size, 2, none⟩ = some (.int .i64 100) := cells_of h2.bc rfl
  have s0 : w2.cell? ⟨w.heap.size + 1 + 1 + 1, 0, none⟩ = some (.slice (some ⟨w.heap.size + 1 + 1, 0, none⟩) 1 1) := cells_of h2.bs rfl
  have s1 : w2.cell? ⟨w.heap.size + 1 + 1 + 1, 1, none⟩ = some (.slice none 0 0) := cells_of h2.bs rfl
  have s2 : w2.cell? ⟨w.heap.size + 1 + 1 + 1, 2, none⟩ = some (.bool false) := cells_of h2.bs rfl
  have b0 : w2.cell? ⟨w.heap.size + 1 + 1 + 1 + 1 + 1 + 1, 0, none⟩ = some (.slice (some ⟨w.heap.size + 1 + 1 + 1 + 1 + 1, 0, none⟩) 1 1) := cells_of h2.bh rfl
  have b1 : w2.cell? ⟨w.heap.size + 1 + 1 + 1 + 1 + 1 + 1, 1, none⟩ = some (.int .i64 3) := cells_of h2.bh rfl
  have K1 := Lib.hid (fits_1 (oc := cap) h2.fin o0 o1)
  have hgl : g < w2.heap.size := World.block_lt_of_cell? w2 _ o0
  have H2 := Lib.hid h2
  have O0 := Lib.hid o0; have O1 := Lib.hid o1
  unfold scrV hisV at K1
  clear h2 O2 o0 o1 HW H1
  go_wp2_with fail
  refine K1.out.mono ?_
  rintro e w3 ⟨rfl, O3⟩
  have h3 := H2.out.next O3
  have o0 := O0.out
  have o1 := O1.out
  rw [← O3.cellAt hgl id] at o0 o1
  have hgl3 := Nat.lt_of_lt_of_le hgl O3.size
  clear c0 c1 c2 s0 s1 s2 b0 b1 K1 O0 O1 H2 O3 hgl
  have c0 : w3.cell? ⟨w.heap.size, 0, none⟩ = some (.int .i64 1) := cells_of h3.bc rfl
  have c1 : w3.cell? ⟨w.heap.size, 1, none⟩ = some (.int .i64 1) := cells_of h3.bc rfl
  have c2 : w3.cell? ⟨w.heap.size, 2, none⟩ = some (.int .i64 100) := cells_of h3.bc rfl
  have s0 : w3.cell? ⟨w.heap.size + 1 + 1 + 1, 0, none⟩ = some (.slice (some ⟨w.heap.size + 1 + 1, 0, none⟩) 1 1) := cells_of h3.bs rfl
  have s1 : w3.cell? ⟨w.heap.size + 1 + 1 + 1, 1, none⟩ = some (.slice none 0 0) := cells_of h3.bs rfl
  have s2 : w3.cell? ⟨w.heap.size + 1 + 1 + 1, 2, none⟩ = some (.bool false) := cells_of h3.bs rfl
  have b0 : w3.cell? ⟨w.heap.size + 1 + 1 + 1 + 1 + 1 + 1, 0, none⟩ = some (.slice (some ⟨w.heap.size + 1 + 1 + 1 + 1 + 1, 0, none⟩) 1 1) := cells_of h3.bh rfl
  have b1 : w3.cell? ⟨w.heap.size + 1 + 1 + 1 + 1 + 1 + 1, 1, none⟩ = some (.int .i64 3) := cells_of h3.bh rfl
  have K2 := Lib.hid (fits_0 h3.fin)
  have H3 := Lib.hid h3
  have O0 := Lib.hid o0; have O1 := Lib.hid o1
  unfold scrV hisV at K2
  clear h3 o0 o1
  go_wp2_with fail
  refine K2.out.mono ?_
  rintro e w4 ⟨rfl, O4⟩
  have o0 := O0.out
  have o1 := O1.out
  rw [← O4.cellAt hgl3 id] at o0 o1
  have Z := Lib.hid (H3.out.only.trans O4)
  clear c0 c1 c2 s0 s1 s2 b0 b1 K2 O0 O1 H3 O4
  go_wp2_with fail
  go_ret
  exact ⟨rfl, Z.out⟩
end Go.Proofs.YtlipngdfhpaodaaGreat.Lo
