/- The walk of the reference's New: refused ways, and the good way without its cells' numbers. -/
import Derived.Test.YtimiojckinpfdaaNewf
namespace Go.Proofs.Ytimiojckinpfdaa
open Go.RowKit

theorem info81 : (Try.prog.info? 81).map (fun i => (i.zero, i.size, i.bytes)) = some (some (.slice none 0 0), 1, 24) := by kernel_rfl
theorem info2 : (Try.prog.info? 2).map (fun i => (i.zero, i.size, i.bytes)) = some (some (.int .i64 0), 1, 8) := by kernel_rfl
theorem run_make2 (wd : Nat) (h2 : wd ≤ 1048576) (W : World) : Sem.run Try.prog (Instr.makeSlice 81 (.int .i64 wd) (.int .i64 wd)) W = .ok (.slice (some ⟨W.heap.size, 0, none⟩) wd wd) (W.alloc (.cells (madeCells #[.int .i64 0] wd) 2)) := by
  obtain ⟨i4, hi4, hz4, hs4, hb4⟩ := info_parts info2
  have hmk := run_make (P := Try.prog) (w := W) 81 2 i4 (.int .i64 0) Try.underlying81 hi4 hz4 .i64 .i64 wd wd (by omega) (by omega) (by rw [hb4]; omega) (by omega)
  rw [hs4] at hmk
  simp only [Int.toNat_natCast, Nat.mul_one] at hmk
  exact hmk

/-- the reference's slab, so many rows made of the buffer b -/
structure RnAt (w : World) (s : Nat) (kind st p : Int) (b n : Nat) (u : Nat → Value) (wr : World) : Prop where
  only : Only (fun _ => False) w wr
  sge : w.heap.size ≤ s
  obj : wr.heap[s]? = some (.cells #[.int .i64 kind, .int .i64 st, .int .i64 p, u 0, u 1] 119 (0, 0))
  own : ∃ xs, wr.ownsRow w.heap.size 81 1 (u b) n xs
  rest : b = 0 → u 1 = .slice none 0 0
section
variable {w wr : World} {s : Nat} {kind st p : Int} {b n : Nat} {u : Nat → Value}
theorem RnAt.keep (h : RnAt w s kind st p b n u wr) {w1 : World} (O : Only (fun _ => False) wr w1) : RnAt w s kind st p b n u w1 := by
  obtain ⟨O0, q1, q2, ⟨xs, q3⟩, q4⟩ := h
  refine ⟨O0.trans O, q1, O.blk q2 (by simp), ⟨xs, own_block q3 fun g hg => ?_⟩, q4⟩
  obtain ⟨_, cur, q⟩ := own_tag q3 hg
  rw [q, O.blk q (by simp)]
theorem RnAt.cell (h : RnAt w s kind st p b n u wr) (hb : b < 2) : wr.cell? ⟨s, 3 + b, none⟩ = some (u b) := by
  rw [blk_cell h.obj]
  have hcs : b = 0 ∨ b = 1 := by omega
  rcases hcs with rfl | rfl <;> rfl
theorem rn_start (w : World) (kind st p : Int) : RnAt w w.heap.size kind st p 0 0 (fun _ => .slice none 0 0) (w.alloc (.cells #[.int .i64 kind, .int .i64 st, .int .i64 p, .slice none 0 0, .slice none 0 0] 119)) :=
  ⟨(Only.refl _ w).alloc _, Nat.le_refl _, blk_new w _, ⟨[], rfl, .inl ⟨rfl, rfl⟩⟩, fun _ => rfl⟩
theorem RnAt.second (h : RnAt w s kind st p 0 n u wr) : RnAt w s kind st p 1 0 u wr :=
  ⟨h.only, h.sge, h.obj, ⟨[], rfl, by rw [h.rest rfl]; exact .inl ⟨rfl, rfl⟩⟩, fun q => by omega⟩
/-- a row that is being filled -/
structure RrAt (w1 : World) (r wd : Nat) (wr : World) : Prop where
  only : Only (fun _ => False) w1 wr
  rge : w1.heap.size ≤ r
  row : ∃ cs : Array Value, wr.heap[r]? = some (.cells cs 2 (0, 0)) ∧ cs.size = wd
theorem rr_start (w : World) (wd : Nat) : RrAt w w.heap.size wd (w.alloc (.cells (madeCells #[.int .i64 0] wd) 2)) :=
  ⟨(Only.refl _ w).alloc _, Nat.le_refl _, _, blk_new w _, by simp [madeCells]⟩
theorem RrAt.cell {w1 : World} {r wd l : Nat} (h : RrAt w1 r wd wr) (hl : l < wd) : (∃ x, wr.cell? ⟨r, l, none⟩ = some x) ∧ wr.frozen? ⟨r, l, none⟩ = false := by
  obtain ⟨_, _, cs, q1, q2⟩ := h
  refine ⟨⟨cs[l]'(by omega), ?_⟩, blk_free q1 _⟩
  rw [blk_cell q1, Array.getElem?_eq_getElem (by omega)]
theorem RrAt.put {w1 : World} {r wd l : Nat} (h : RrAt w1 r wd wr) (v : Value) : RrAt w1 r wd (wr.setCell ⟨r, l, none⟩ v) := by
  obtain ⟨O, q0, cs, q1, q2⟩ := h
  exact ⟨O.setCell (.inl q0) _, q0, _, blk_set q1 _ _, by simpa using q2⟩

theorem rn_app {w2 : World} {r wd : Nat} {xs : List Value} (ho : wr.ownsRow w.heap.size 81 1 (u b) n xs) (e : w2.heap = wr.heap.push (.cells #[slv r wd] 81)) : w2.ownsRow w.heap.size 81 1 (u b) n xs := by
  refine own_block ho fun g hg => ?_
  obtain ⟨_, cur, q⟩ := own_tag ho hg
  have := blk_lt q
  rw [e, Array.getElem?_push, if_neg (by omega)]
theorem rn_news {w2 : World} {r wd : Nat} (e : w2.heap = wr.heap.push (.cells #[slv r wd] 81)) :
    ∀ (j : Nat) (x : Value), ([slv r wd] : List Value)[j]? = some x → w2.cell? ((⟨wr.heap.size, 0, none⟩ : Addr).add j) = some x := by
  intro j x hx
  match j, hx with
  | 0, hx =>
    have : w2.heap[wr.heap.size]? = some (.cells #[slv r wd] 81 (0, 0)) := by rw [e, Array.getElem?_push, if_pos rfl]
    show w2.cell? ⟨wr.heap.size, 0, none⟩ = _
    rw [blk_cell this]; simpa using hx
  | j + 1, hx => simp at hx
structure RnAfter (w : World) (s : Nat) (kind st p : Int) (b n : Nat) (u : Nat → Value) (v' : Value) (w3 : World) : Prop where
  cell : w3.cell? ⟨s, 3 + b, none⟩ = some (u b)
  free : w3.frozen? ⟨s, 3 + b, none⟩ = false
  next : RnAt w s kind st p b (n + 1) (upd u b v') (w3.setCell ⟨s, 3 + b, none⟩ v')
theorem rn_after {w2 w3 : World} {r wd : Nat} {v' : Value} {xs : List Value} (h : RnAt w s kind st p b n u wr) (hb : b < 2)
    (hx : wr.ownsRow w.heap.size 81 1 (u b) n xs) (hg : Grew w2 w3 (u b) v' (n * 1)) (ho : w3.ownsRow w.heap.size 81 1 v' (n + 1) (xs ++ [slv r wd]))
    (e : w2.heap = wr.heap.push (.cells #[slv r wd] 81)) (e1 : w2.os = wr.os) (e2 : w2.tape = wr.tape) (e3 : w2.output = wr.output) :
    ∃ g cap, v' = .slice (some ⟨g, 0, none⟩) (n + 1) cap ∧ RnAfter w s kind st p b n u v' w3 := by
  have hk : ∀ (k : Nat) (o : Obj), wr.heap[k]? = some o → w2.heap[k]? = some o := by
    intro k o q
    have := blk_lt q
    rw [e, Array.getElem?_push, if_neg (by omega), q]
  have hc2 := hk _ _ h.obj
  have hOs := h.only.size
  have hc3 : w3.heap[s]? = some (.cells #[.int .i64 kind, .int .i64 st, .int .i64 p, u 0, u 1] 119 (0, 0)) := by
    rw [hg.grown.block s (blk_lt hc2) ?_, hc2]
    intro q
    obtain ⟨_, cur, q2⟩ := own_tag hx q.symm
    rw [h.obj] at q2; injection q2 with q2; injection q2 with _ q2 _; exact absurd q2 (by decide)
  have hv : ∃ g cap, v' = .slice (some ⟨g, 0, none⟩) (n + 1) cap := by
    rcases ho.2 with ⟨_, q⟩ | ⟨g, cap, cur, q, _⟩
    · omega
    · exact ⟨g, cap, q⟩
  obtain ⟨g, cap, hv⟩ := hv
  have hset : (#[.int .i64 kind, .int .i64 st, .int .i64 p, u 0, u 1] : Array Value).setIfInBounds (3 + b) v' = #[.int .i64 kind, .int .i64 st, .int .i64 p, upd u b v' 0, upd u b v' 1] := by
    match b, hb with
    | 0, _ => rfl
    | 1, _ => rfl
  refine ⟨g, cap, hv, ?_, blk_free hc3 _, ⟨?_, h.sge, ?_, ⟨xs ++ [slv r wd], ?_⟩, ?_⟩⟩
  · rw [blk_cell hc3]
    have hcs : b = 0 ∨ b = 1 := by omega
    rcases hcs with rfl | rfl <;> rfl
  · have O2 : Only (fun _ => False) w w2 := ⟨e1.trans h.only.os, e2.trans h.only.tape, e3.trans h.only.output, by rw [e]; simp; omega, fun k q _ => by
      rw [e, Array.getElem?_push, if_neg (by omega)]
      exact h.only.block k q (by simp)⟩
    exact (O2.grown hg.grown fun k q => .inl (own_tag hx q).1).setCell (.inl h.sge) _
  · rw [blk_set hc3 (3 + b) v', hset]
  · rw [upd_same]
    refine own_block ho fun g' hg' => ?_
    have hne : g' ≠ s := by
      intro eg
      obtain ⟨_, cur, q⟩ := own_tag ho hg'
      rw [eg, hc3] at q
      injection q with q; injection q with _ q _; exact absurd q (by decide)
    rw [Below.heap_setCell _ _ _ _ hne]
  · intro q; subst q; rw [upd_ne _ _ (by decide)]; exact h.rest rfl
end
theorem rnew_bad (kind st p : Int) (w : World) (h : newE kind st p ≠ 0) :
    Calls Try.prog 11 #[.int .i64 kind, .int .i64 st, .int .i64 p] w fun e w' => e = .returned (.tuple #[.pointer none, .int .i64 (newE kind st p)]) ∧ Only (fun _ => False) w w' := by
  unfold newE at h ⊢
  by_cases h1 : wide kind 1 = 0
  · rw [if_pos h1]
    have hw := Lib.hid h1
    clear h
    go_enter Try.func11, Try.ntmps11
    go_wp2_with fail
    refine (rwidth_calls _ _ _).mono ?_
    rw [hw.out]
    rintro e w1 ⟨rfl, rfl⟩
    go_wp2_with fail
    go_ret2
    exact ⟨rfl, Only.refl _ _⟩
  rw [if_neg h1] at h ⊢
  have g1 : ((wide kind 1 : Nat) == 0) = false := by simpa using h1
  have g1' : (((wide kind 1 : Nat) : Int) == 0) = false := by simpa using h1
  clear h1
  cases hm : mayB st p with
  | false =>
    rw [hm] at h
    rw [if_pos rfl] at h ⊢
    clear h
    have g2 : (cellsN kind st p == 0) = true := by unfold cellsN; rw [hm]; rfl
    go_enter Try.func11, Try.ntmps11
    go_wp2_with fail
    refine (rwidth_calls _ _ _).mono ?_
    rintro e w1 ⟨rfl, rfl⟩
    go_wp2_with fail
    refine (rcells_calls _ _ _ _).mono ?_
    rintro e w1 ⟨rfl, rfl⟩
    go_wp2_with fail
    go_ret2
    exact ⟨rfl, Only.refl _ _⟩
  | true =>
    rw [hm] at h
    rw [if_neg (by decide)] at h ⊢
    by_cases h3 : cellsN kind st p > 1048576
    · rw [if_pos h3]
      have g3 : decide (cellsN kind st p > 1048576) = true := decide_eq_true h3
      have g2 : (cellsN kind st p == 0) = false := by rw [beq_eq_false_iff_ne]; omega
      clear hm h h3
      go_enter Try.func11, Try.ntmps11
      go_wp2_with fail
      refine (rwidth_calls _ _ _).mono ?_
      rintro e w1 ⟨rfl, rfl⟩
      go_wp2_with fail
      refine (rcells_calls _ _ _ _).mono ?_
      rintro e w1 ⟨rfl, rfl⟩
      go_wp2_with fail
      go_ret2
      exact ⟨rfl, Only.refl _ _⟩
    · rw [if_neg h3] at h; exact absurd rfl h

def RnRes (w : World) (e : Ending) (w' : World) : Prop := ∃ s, e = .returned (.tuple #[.pointer (some ⟨s, 0, none⟩), .int .i64 0]) ∧ Only (fun _ => False) w w'
set_option maxHeartbeats 2000000 in
theorem rnew_good (kind st p : Int) (w : World) (h : newE kind st p = 0) (n : Nat) (hn : st = n) :
    Calls Try.prog 11 #[.int .i64 kind, .int .i64 st, .int .i64 p] w (RnRes w) := by
  have h1 : wide kind 1 ≠ 0 := by intro q; unfold newE at h; rw [if_pos q] at h; cases h
  have hm : mayB st p = true := by
    cases hq : mayB st p with
    | true => rfl
    | false => unfold newE at h; rw [hq, if_neg h1] at h; cases h
  have h3 : ¬ cellsN kind st p > 1048576 := by
    intro q; unfold newE at h; rw [if_neg h1, hm, if_pos q] at h; cases h
  obtain ⟨a1, a2, _, _⟩ := mayB_of hm
  have hwd : wide kind p ≤ 1048576 := by have := wide_le kind p; omega
  have hwd2 := wide_le kind p
  have g1 : ((wide kind 1 : Nat) == 0) = false := by simpa using h1
  have g1' : (((wide kind 1 : Nat) : Int) == 0) = false := by simpa using h1
  have g2 : (cellsN kind st p == 0) = false := by
    rw [beq_eq_false_iff_ne]; unfold cellsN; rw [hm]
    have : 0 < wide kind p := by
      have : wide kind p ≠ 0 := by
        intro q; apply h1; revert q; unfold wide; split; · simp
        split; · omega
        split; · simp
        simp
      omega
    have q : 0 < 2 * st * ((wide kind p : Nat) : Int) := Int.mul_pos (by omega) (by omega)
    simp only [if_true]; omega
  have g3 : decide (cellsN kind st p > 1048576) = false := decide_eq_false h3
  have K1 := Lib.hid (fun w => rwidth_calls kind 1 w)
  have K2 := Lib.hid (fun w => rwidth_calls kind p w)
  have K3 := Lib.hid (fun w => rcells_calls kind st p w)
  generalize hcn : cellsN kind st p = cn at *
  generalize hwe : wide kind p = wd at *
  generalize hwe1 : wide kind 1 = wd1 at *
  clear h h1 hm h3 hcn hwe hwe1
  subst hn
  obtain ⟨i3, hi3, hz3, hs3, hb3⟩ := info_parts info81
  go_enter Try.func11, Try.ntmps11
  go_wp2_with fail
  refine (K1.out _).mono ?_
  rintro e w1 ⟨rfl, rfl⟩
  go_wp2_with fail
  refine (K3.out _).mono ?_
  rintro e w1 ⟨rfl, rfl⟩
  go_wp2_with fail
  refine (K2.out _).mono ?_
  rintro e w1 ⟨rfl, rfl⟩
  clear K1 K2 K3
  have hS0 := rn_start w1 kind n p
  go_wp2_with fail
  go_loopw [11] (fun v wr => (v = .int .i64 0 ∧ ∃ u, RnAt w1 w1.heap.size kind n p 0 0 u wr) ∨ (v = .int .i64 1 ∧ ∃ u, RnAt w1 w1.heap.size kind n p 1 0 u wr) ∨ (v = .int .i64 2 ∧ Only (fun _ => False) w1 wr)) (fun v _ => 2 - (intOf v).toNat)
  case atStart => exact .inl ⟨rfl, _, hS0⟩
  case round =>
    rcases hrel with ⟨rfl, u, hM⟩ | ⟨rfl, u, hM⟩ | ⟨rfl, hM⟩
    · have hstart := 0; clear hstart
      go_wp2_with fail
      go_loopw [12] (fun v wr => ∃ k : Nat, k ≤ n ∧ v = .int .i64 k ∧ ∃ u, RnAt w1 w1.heap.size kind n p 0 k u wr) (fun v _ => n - (intOf v).toNat)
      case atStart => exact ⟨0, by omega, rfl, _, hM⟩
      case round =>
        obtain ⟨k, hk, rfl, u', hI⟩ := hrel
        clear hM
        by_cases hlt : k < n
        · have hmk := run_make2 wd hwd wr
          go_wp2_with fail
          go_loopw [14] (fun v wr' => ∃ l : Nat, l ≤ wd ∧ v = .int .i64 l ∧ RrAt wr wr.heap.size wd wr') (fun v _ => wd - (intOf v).toNat)
          case atStart => exact ⟨0, by omega, rfl, rr_start wr wd⟩
          case round =>
            obtain ⟨l, hl, rfl, hR⟩ := hrel
            clear hmk
            by_cases hlw : l < wd
            · obtain ⟨⟨x, hx⟩, hz⟩ := hR.cell hlw
              have hl2 : l < 819202 := by omega
              go_wp2_with fail
              refine (rfirst_calls _ _ _).mono ?_
              rintro e w3 ⟨rfl, rfl⟩
              go_wp2_with fail
              go_roundw
              case rel => exact ⟨l + 1, by omega, by go_num, hR.put _⟩
              case measure => simp [intOf]; omega
            · obtain rfl : l = wd := by omega
              have hI' := hI.keep hR.only
              have hI2 := Lib.hid hI'; clear hI'
              rename World => wr2
              have c0 : wr2.cell? ⟨w1.heap.size, 3, none⟩ = some (u' 0) := hI2.out.cell (by decide)
              have c1 : wr2.frozen? ⟨w1.heap.size, 3, none⟩ = false := blk_free hI2.out.obj _
              have c2 : (wr2.alloc (.cells #[.slice (some ⟨wr.heap.size, 0, none⟩) l l] 81)).cell? ⟨w1.heap.size, 3, none⟩ = some (u' 0) := by rw [blk_cell (blk_alloc hI2.out.obj _)]; rfl
              obtain ⟨xs, hxs⟩ := hI2.out.own
              have hxs' := Lib.hid hxs; clear hxs
              have hsz := Lib.hid hI2.out.only.size
              clear hI hR
              go_wp2_with fail
              go_region_law (go_loud (refine step_append_kept rfl (.tmp 64) (.tmp 66) 75 rfl 81 i3 (.slice none 0 0) 1 24 Try.underlying75 hi3 hz3 hs3 hb3 rfl (by decide) w1.heap.size k (u' 0) xs (by simp [Act.eval]) (rn_app hxs'.out rfl) (by have := hsz.out; simp; omega) ⟨wr2.heap.size, 0, none⟩ 1 1 [slv wr.heap.size l] (by simp [Act.eval]) rfl (rn_news rfl) (by simp [slv, Value.oneCell']) (by decide) (by unfold maxLen; omega) (by omega) ?_; intro v' w' hgr hown; obtain ⟨g, cap, rfl, hA⟩ := rn_after hI2.out (by decide) hxs'.out hgr hown rfl rfl rfl rfl; have d0 := hA.cell; have d1 := hA.free; have hA' := Lib.hid hA; clear hA hgr hown))
              all_goals
                clear c0 c1 c2
                go_wp2_with fail
                go_roundw
                case rel => exact ⟨k + 1, by omega, by go_num, _, hA'.out.next⟩
                case measure => simp [intOf]; omega
        · obtain rfl : k = n := by omega
          go_wp2_with fail
          go_roundw
          case rel => exact .inr (.inl ⟨rfl, _, hI.second⟩)
          case measure => simp [intOf]
    · have hstart := 0; clear hstart
      go_wp2_with fail
      go_loopw [12] (fun v wr => ∃ k : Nat, k ≤ n ∧ v = .int .i64 k ∧ ∃ u, RnAt w1 w1.heap.size kind n p 1 k u wr) (fun v _ => n - (intOf v).toNat)
      case atStart => exact ⟨0, by omega, rfl, _, hM⟩
      case round =>
        obtain ⟨k, hk, rfl, u', hI⟩ := hrel
        clear hM
        by_cases hlt : k < n
        · have hmk := run_make2 wd hwd wr
          go_wp2_with fail
          go_loopw [14] (fun v wr' => ∃ l : Nat, l ≤ wd ∧ v = .int .i64 l ∧ RrAt wr wr.heap.size wd wr') (fun v _ => wd - (intOf v).toNat)
          case atStart => exact ⟨0, by omega, rfl, rr_start wr wd⟩
          case round =>
            obtain ⟨l, hl, rfl, hR⟩ := hrel
            clear hmk
            by_cases hlw : l < wd
            · obtain ⟨⟨x, hx⟩, hz⟩ := hR.cell hlw
              have hl2 : l < 819202 := by omega
              go_wp2_with fail
              refine (rfirst_calls _ _ _).mono ?_
              rintro e w3 ⟨rfl, rfl⟩
              go_wp2_with fail
              go_roundw
              case rel => exact ⟨l + 1, by omega, by go_num, hR.put _⟩
              case measure => simp [intOf]; omega
            · obtain rfl : l = wd := by omega
              have hI' := hI.keep hR.only
              have hI2 := Lib.hid hI'; clear hI'
              rename World => wr2
              have c0 : wr2.cell? ⟨w1.heap.size, 4, none⟩ = some (u' 1) := hI2.out.cell (by decide)
              have c1 : wr2.frozen? ⟨w1.heap.size, 4, none⟩ = false := blk_free hI2.out.obj _
              have c2 : (wr2.alloc (.cells #[.slice (some ⟨wr.heap.size, 0, none⟩) l l] 81)).cell? ⟨w1.heap.size, 4, none⟩ = some (u' 1) := by rw [blk_cell (blk_alloc hI2.out.obj _)]; rfl
              obtain ⟨xs, hxs⟩ := hI2.out.own
              have hxs' := Lib.hid hxs; clear hxs
              have hsz := Lib.hid hI2.out.only.size
              clear hI hR
              go_wp2_with fail
              go_region_law (go_loud (refine step_append_kept rfl (.tmp 64) (.tmp 66) 75 rfl 81 i3 (.slice none 0 0) 1 24 Try.underlying75 hi3 hz3 hs3 hb3 rfl (by decide) w1.heap.size k (u' 1) xs (by simp [Act.eval]) (rn_app hxs'.out rfl) (by have := hsz.out; simp; omega) ⟨wr2.heap.size, 0, none⟩ 1 1 [slv wr.heap.size l] (by simp [Act.eval]) rfl (rn_news rfl) (by simp [slv, Value.oneCell']) (by decide) (by unfold maxLen; omega) (by omega) ?_; intro v' w' hgr hown; obtain ⟨g, cap, rfl, hA⟩ := rn_after hI2.out (by decide) hxs'.out hgr hown rfl rfl rfl rfl; have d0 := hA.cell; have d1 := hA.free; have hA' := Lib.hid hA; clear hA hgr hown))
              all_goals
                clear c0 c1 c2
                go_wp2_with fail
                go_roundw
                case rel => exact ⟨k + 1, by omega, by go_num, _, hA'.out.next⟩
                case measure => simp [intOf]; omega
        · obtain rfl : k = n := by omega
          go_wp2_with fail
          go_roundw
          case rel => exact .inr (.inr ⟨rfl, hI.only⟩)
          case measure => simp [intOf]
    · go_wp2_with fail
      go_ret2
      exact ⟨_, rfl, hM⟩
end Go.Proofs.Ytimiojckinpfdaa
