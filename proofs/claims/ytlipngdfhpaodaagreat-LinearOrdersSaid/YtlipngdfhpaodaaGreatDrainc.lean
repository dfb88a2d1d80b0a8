/- The walk of Drain, at a counter. -/
import Derived.Test.YtlipngdfhpaodaaGreatDrn
import Derived.Test.YtlipngdfhpaodaaGreatRnew
import Derived.StillTailTactics
namespace Go.Proofs.YtlipngdfhpaodaaGreat
open Go.RowKit

section
variable {base s c : Nat} {kind p : Int} {st wd : Nat} {u : Nat → Value} {L : Nat → Nat} {R : Nat → Nat → Nat} {V : Nat → Nat → Nat → Int}
theorem row_at {w : World} (h : SlabAt base s c kind p st wd u L R V w) (h0 : 0 < st) (hm : st ≤ 16) (b : Nat) (hb : b < 2) (i : Int) (hi0 : 0 ≤ i) (hi : i < st) :
    Calls Tryz.prog 337 #[.pointer (some ⟨c, 0, none⟩), .int .i64 b, .int .i64 i] w fun e w' => e = .returned (.slice (some ⟨R b i.toNat, 0, none⟩) wd wd) ∧ w' = w := by
  refine (row_calls w h.held h0 hm h.l0 h.l1 b i).mono ?_
  rintro e w1 ⟨rfl, rfl⟩
  refine ⟨?_, rfl⟩
  rw [if_pos ⟨by omega, by omega, hi0, hi⟩]; rfl
theorem stripes_at {w : World} (h : SlabAt base s c kind p st wd u L R V w) (h0 : 0 < st) :
    Calls Tryz.prog 338 #[.pointer (some ⟨c, 0, none⟩)] w fun e w' => e = .returned (.int .i64 st) ∧ w' = w := by
  refine (stripes_calls w h.held (by rw [h.l0]; exact h0)).mono ?_
  rintro e w1 ⟨rfl, rfl⟩
  exact ⟨by rw [h.l0], rfl⟩
end
theorem first_1 (k : Int) : first 1 k = 0 := by unfold first; rw [if_neg (by omega), if_neg (by omega)]
theorem run_nonnil (a : Addr) (l c : Nat) (w : World) : Sem.run Tryz.prog (binOp .eql 136 (.slice (some a) l c) (.slice none 0 0)) w = .ok (.bool false) w := by kernel_rfl
theorem one_news (W : World) (n : Nat) (hn : n = W.heap.size) (x : Value) (t : TypeId) : ∀ (j : Nat) (y : Value), ([x] : List Value)[j]? = some y → (W.alloc (.cells #[x] t)).cell? ((⟨n, 0, none⟩ : Addr).add j) = some y := by
  intro j y hy
  subst hn
  match j, hy with
  | 0, hy =>
    show (W.alloc (.cells #[x] t)).cell? ⟨W.heap.size, 0, none⟩ = _
    rw [blk_cell (blk_new _ _)]; simpa using hy
  | j + 1, hy => simp at hy
/-- what Drain answers, and what it leaves -/
def DraincRes (base s c : Nat) (p : Int) (st : Nat) (u : Nat → Value) (L : Nat → Nat) (R : Nat → Nat → Nat) (V : Nat → Nat → Nat → Int) (b : Nat) (w : World) (e : Ending) (w' : World) : Prop :=
  e = .returned (.tuple #[partc (sumTo (V b) st).1 (sumTo (V b) st).2, .int .i64 0]) ∧ Only (fun j => ∃ i', i' < st ∧ j = R b i') w w' ∧ SlabAt base s c 1 p st 2 u L R (clr 1 V b st 0) w'
set_option maxRecDepth 200000 in
set_option maxHeartbeats 4000000 in
theorem drainc_calls (base s c : Nat) (p : Int) (st : Nat) (u : Nat → Value) (L : Nat → Nat) (R : Nat → Nat → Nat) (V : Nat → Nat → Nat → Int) (w : World) (h : SlabAt base s c 1 p st 2 u L R V w) (h0 : 0 < st) (hm : st ≤ 16) (b : Nat) (hb : b < 2) :
    Calls Tryz.prog 41 #[.pointer (some ⟨s, 0, none⟩), .pointer none, .int .i64 b] w (DraincRes base s c p st u L R V b w) := by
  obtain ⟨i3, hi3, hz3, hs3, hb3⟩ := info_parts info2
  have hS := drf_start (b := b) h
  have hF := Lib.hid hS; clear hS
  have c0 : (w.alloc (.cells #[.int .i64 0, .int .u64 0, .slice none 0 0, .int .u64 0, .complex .f64 0 0, .float .f64 0, .float .f64 0] 109)).cell? ⟨s, 0, none⟩ = some (.iface 132 (.agg #[.pointer (some ⟨c, 0, none⟩)])) := by rw [blk_cell (blk_alloc h.obj _)]; rfl
  have c1 := hF.out.it1
  have R0 := Lib.hid (row_at (h.only ((Only.refl (fun _ => False) w).alloc (.cells #[.int .i64 0, .int .u64 0, .slice none 0 0, .int .u64 0, .complex .f64 0 0, .float .f64 0, .float .f64 0] 109))) h0 hm b hb 0 (by omega) (by omega))
  have S0 := Lib.hid (stripes_at hF.out.slab h0)
  have hnn := run_nonnil
  have hm1 := meth_row1; have hm2 := meth_stripes1; have hm3 := meth_first1; have hm4 := meth_part1
  have H := Lib.hid h; clear h
  go_enter Tryz.func41, Tryz.ntmps41
  go_wp2_with fail
  refine R0.out.mono ?_
  rintro e w1 ⟨rfl, hw⟩; rw [hw]; clear hw R0 w1
  go_wp2_with fail
  refine S0.out.mono ?_
  rintro e w1 ⟨rfl, hw⟩; rw [hw]; clear hw S0 w1
  go_wp2_with fail
  go_loopw [26] (fun v wr => ∃ i : Nat, i ≤ st ∧ v = .int .i64 i ∧ DrF base w s c 1 p st 2 u L R V b i 0 0 (.slice none 0 0) (sumTo (V b) i).1 (sumTo (V b) i).2 wr) (fun v _ => st - (intOf v).toNat)
  case atStart => exact ⟨0, by omega, rfl, hF.out⟩
  case round =>
    obtain ⟨i, hi, rfl, hI⟩ := hrel
    clear c0 c1
    have hIt := hI.it1
    by_cases hlt : i < st
    · have RI := Lib.hid (row_at hI.slab h0 hm b hb (i : Nat) (by omega) (by omega))
      have HI := Lib.hid hI; clear hI
      go_wp2_with fail
      refine RI.out.mono ?_
      rintro e w1 ⟨rfl, hw⟩; rw [hw]; clear hw RI w1
      rw [Int.toNat_natCast]
      clear hIt
      go_wp2_with fail
      go_loopw [10, 38] (fun hv v wr => ∃ k : Nat, k ≤ 2 ∧ v = .int .i64 k ∧ DrF base w s c 1 p st 2 u L R V b i k k hv (sumTo (V b) i).1 (sumTo (V b) i).2 wr) (fun _ v _ => 2 - (intOf v).toNat)
      case atStart => exact ⟨0, by omega, rfl, HI.out⟩
      case round =>
        obtain ⟨k, hk, rfl, hJ⟩ := hrel
        clear HI
        by_cases hlk : k < 2
        · have hIt := hJ.it1
          have N0 := Lib.hid (hJ.next (Only.refl _ _).drew)
          clear hJ
          go_wp2_with fail
          go_region_held3 (fun w' => w'.cell? ⟨s, 0, none⟩ = some (.iface 132 (.agg #[.pointer (some ⟨c, 0, none⟩)])))
            ((first | (with_reducible exact N0.out.it1) | (with_reducible exact N3.out.it1) | (with_reducible exact N4.out.it1) | (with_reducible exact (N4.out.next ((Only.refl _ _).alloc _)).it1) | (with_reducible exact N5.out.it1) | (fail)))
            (first
              | (go_at_call 339; refine (first_counter _ _ _).mono ?_; rintro e w3 ⟨rfl, O3⟩; have N3 := Lib.hid (N0.out.next O3); clear N0)
              | (go_at_call 57; obtain ⟨hx, hz⟩ := N3.out.word hb hlt hlk; refine (wswap _ _ _ _ hx hz).mono ?_; rintro e w4 ⟨rfl, rfl⟩; have N4' := N3.out.put hb hlt; rw [first_1] at N4'; have N4 := Lib.hid N4'; clear N4' N3)
              | ((refine step_append_kept rfl (.tmp 41) (.tmp 53) 204 rfl 2 i3 (.int .i64 0) 1 8 Tryz.underlying204 hi3 hz3 hs3 hb3 rfl (by decide) w.heap.size k _ _ (by simp [Act.eval]) (N4.out.own_alloc _) (by have := N4.out.only.size; simp [World.setCell] at this ⊢; omega) ⟨w3.heap.size, 0, none⟩ 1 1 [.int .i64 (V b i k)] (by simp [Act.eval]) rfl (one_news _ _ (by simp [World.setCell]) _ _) (by simp [Value.oneCell']) (by decide) (by unfold maxLen; omega) (by omega) ?_; intro v' w5 hgr hown; have N5 := Lib.hid ((N4.out.next ((Only.refl _ _).alloc _)).app hgr hown); clear N4)))
          clear hIt
          go_wp2_with fail
          go_roundw
          case rel => exact ⟨k + 1, by omega, by go_num, N5.out⟩
          case measure => simp [intOf]; omega
        · obtain rfl : k = 2 := by omega
          obtain ⟨g, cap, rfl, hcell⟩ := hJ.slice (by decide)
          have HC := Lib.hid hcell; clear hcell
          have HJ := Lib.hid hJ
          have hIt := hJ.it1
          have ha := hJ.all
          obtain ⟨d0, d1, d2, d3, d4, d5, d6, f0, f1, f2, f3, f4, f5, f6⟩ := seven ha
          have hsl := Lib.hid (sumTo_le (V b) i)
          clear hJ ha
          go_wp2_with fail
          have N0 : Hid (DrF base w s c 1 p st 2 u L R V b i 2 2 (.slice (some ⟨g, 0, none⟩) 2 cap) (sumTo (V b) i).1 (sumTo (V b) i).2 wr.drew) := Lib.hid (HJ.out.next (Only.refl _ _).drew)
          have ks1 := run_stf
          have ks2 := run_stc
          go_region_law (first | (go_simp; go_at_call 341; refine (partc_calls _ g cap (V b i 0) (V b i 1) _ (HC.out _ N0.out 0 (by decide)) (HC.out _ N0.out 1 (by decide))).mono ?_; rintro e w3 ⟨rfl, O3⟩; have N3 := Lib.hid (N0.out.next O3); obtain ⟨d0, d1, d2, d3, d4, d5, d6, f0, f1, f2, f3, f4, f5, f6⟩ := seven N3.out.all; clear O3; unfold partc) | (go_simp; go_at_call 75; refine (mergec_calls _ _ _ _ _ hsl.out (u64_le _)).mono ?_; rintro e w4 ⟨rfl, O4⟩; have N4 := Lib.hid (N3.out.next O4); obtain ⟨d0, d1, d2, d3, d4, d5, d6, f0, f1, f2, f3, f4, f5, f6⟩ := seven N4.out.all; clear O4; unfold partc))
          all_goals
            go_wp2_with fail
            go_roundw
            case rel => exact ⟨i + 1, by omega, by go_num, N4.out.done rfl⟩
            case measure => simp [intOf]; omega
    · obtain rfl : i = st := by omega
      have HI := Lib.hid hI
      have ha := hI.all
      have hr := hI.res
      obtain ⟨d0, d1, d2, d3, d4, d5, d6, f0, f1, f2, f3, f4, f5, f6⟩ := seven ha
      obtain ⟨z0, z1, z2, z3, z4, z5, z6, y0, y1, y2, y3, y4, y5, y6⟩ := seven hr
      clear hI ha hr
      have ks1 := run_stf
      have ks2 := run_stc
      go_wp2_with fail
      have hr := HI.out.res
      have e7 := seven (put7_blk hr (.int .i64 (sumTo (V b) i).1) (.int .u64 (sumTo (V b) i).2) (.slice none 0 0) (.int .u64 0) (.complex .f64 0 0) (.float .f64 0) (.float .f64 0))
      have O7 : Only (fun j => ∃ i', i' < i ∧ j = R b i') w (put7 wr w.heap.size (.int .i64 (sumTo (V b) i).1) (.int .u64 (sumTo (V b) i).2) (.slice none 0 0) (.int .u64 0) (.complex .f64 0 0) (.float .f64 0) (.float .f64 0)) := HI.out.only.put7 (.inl (Nat.le_refl _)) _ _ _ _ _ _ _
      have kp : ∀ t, t ≠ 109 → Keep t wr (put7 wr w.heap.size (.int .i64 (sumTo (V b) i).1) (.int .u64 (sumTo (V b) i).2) (.slice none 0 0) (.int .u64 0) (.complex .f64 0 0) (.float .f64 0) (.float .f64 0)) := fun t ht => Keep.chain7 ((Only.refl (fun _ => False) wr).keep t) hr ht.symm _ _ _ _ _ _ _
      have S7 : SlabAt base s c 1 p i 2 u L R (clr 1 V b i 0) (put7 wr w.heap.size (.int .i64 (sumTo (V b) i).1) (.int .u64 (sumTo (V b) i).2) (.slice none 0 0) (.int .u64 0) (.complex .f64 0 0) (.float .f64 0) (.float .f64 0)) := HI.out.slab.keepT (kp _ (by decide)) (kp _ (by decide)) (kp _ (by decide)) (kp _ (by decide))
      refine bodyPost_ret (w := put7 wr w.heap.size (.int .i64 (sumTo (V b) i).1) (.int .u64 (sumTo (V b) i).2) (.slice none 0 0) (.int .u64 0) (.complex .f64 0 0) (.float .f64 0) (.float .f64 0)) (v := .tuple #[partc (sumTo (V b) i).1 (sumTo (V b) i).2, .int .i64 0]) ?_ rfl ⟨rfl, O7, S7⟩
      clear O7 kp S7 hr
      generalize put7 wr w.heap.size (.int .i64 (sumTo (V b) i).1) (.int .u64 (sumTo (V b) i).2) (.slice none 0 0) (.int .u64 0) (.complex .f64 0 0) (.float .f64 0) (.float .f64 0) = w7 at *
      obtain ⟨d0, d1, d2, d3, d4, d5, d6, f0, f1, f2, f3, f4, f5, f6⟩ := e7
      simp [results, Tryz.results41, go_sem, d0, d1, d2, d3, d4, d5, d6, partc]
end Go.Proofs.YtlipngdfhpaodaaGreat
