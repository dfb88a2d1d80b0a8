/- The walk of linear.Order. -/
import Derived.Test.YtlipngdfhpaodaaGreatLcm
import Derived.Test.YtlipngdfhpaodaaGreatLre
namespace Go.Proofs.YtlipngdfhpaodaaGreat.Lo
open Go.RowKit Srt

/-- what has been collected -/
structure Co (W : World) (a : Option Addr) (m cp : Nat) (x : Int) (L : Nat → Nat) (p : Nat → Nat → Int) (G : List (Nat × Nat)) (v : Value) (wr : World) : Prop where
  own : wr.ownsRow (W.heap.size + 1) 72 2 v G.length (flat (Tf (coll p L m)) (Nf (coll p L m)) (els p (coll p L m) G.length))
  only : Only (fun _ => False) W wr
  box : wr.heap[W.heap.size]? = some (.cells #[.slice a m cp, .int .i64 x] 90 (0, 0))
def Co1 (W : World) (a : Option Addr) (m cp : Nat) (x : Int) (L : Nat → Nat) (p : Nat → Nat → Int) (v i : Value) (wr : World) : Prop := ∃ t : Nat, i = .int .i64 t ∧ t ≤ m ∧ Co W a m cp x L p (coll p L t) v wr
def Co2 (W : World) (a : Option Addr) (m cp : Nat) (x : Int) (L : Nat → Nat) (p : Nat → Nat → Int) (t : Nat) (v j : Value) (wr : World) : Prop := ∃ k : Nat, j = .int .i64 k ∧ k ≤ L t ∧ Co W a m cp x L p (upto p L t k) v wr
theorem Co.none {W : World} {a : Option Addr} {m cp : Nat} {x : Int} {L : Nat → Nat} {p : Nat → Nat → Int} {G : List (Nat × Nat)} {v : Value} {w w' : World} (h : Co W a m cp x L p G v w) (O : Only (fun _ => False) w w') : Co W a m cp x L p G v w' :=
  ⟨own_keep h.own O, h.only.trans O, O.blk h.box id⟩
theorem Co.push {W : World} {a : Option Addr} {m cp : Nat} {x : Int} {L : Nat → Nat} {p : Nat → Nat → Int} {t k : Nat} {v v' : Value} {w w' : World} (h : Co W a m cp x L p (upto p L t k) v w) (ht : t < m) (hk : k < L t) (hp : 0 < p t k) {keep : Nat} (hg : Grew w w' v v' keep)
    (ho : w'.ownsRow (W.heap.size + 1) 72 2 v' ((upto p L t k).length + 1) (flat (Tf (coll p L m)) (Nf (coll p L m)) (els p (coll p L m) (upto p L t k).length) ++ [.int .i64 (t : Nat), .int .i64 (k : Nat)])) : Co W a m cp x L p (upto p L t (k + 1)) v' w' := by
  have hu := upto_take p L t k hp
  have hpre := upto_prefix p L (k := k + 1) hk ht
  rw [hu] at hpre
  obtain ⟨e1, _⟩ := at_prefix hpre
  refine ⟨?_, own_only h.only h.own (by omega) hg, ?_⟩
  · rw [hu, List.length_append, List.length_singleton, els_snoc, flat_app]
    have : flat (Tf (coll p L m)) (Nf (coll p L m)) [el p (coll p L m) (upto p L t k).length] = [.int .i64 (t : Nat), .int .i64 (k : Nat)] := by
      simp only [flat, el, Tf, Nf, e1]
    rw [this]; exact ho
  · have hne : some W.heap.size ≠ v.ownBlock := fun e => by have := (own_tag h.own e.symm).1; omega
    rw [hg.grown.block _ (blk_lt h.box) hne, h.box]
/-- an empty list is sorted -/
theorem insert_nil (F : Value) (w : World) : Calls Tryz.prog 209 #[.slice none 0 0, .int .i64 0, .int .i64 0, F] w fun e w' => e = .returned (.tuple #[]) ∧ w' = w := by
  go_enter Tryz.func209, Tryz.ntmps209
  go_wp2_with fail
  go_loopw [8] (fun v wr => v = .int .i64 1 ∧ wr = w) (fun _ _ => 0)
  case atStart => exact ⟨rfl, rfl⟩
  case round =>
    obtain ⟨rfl, rfl⟩ := hrel
    go_wp2_with fail
    go_end0
    exact ⟨rfl, rfl⟩
theorem stable_nil (F : Value) (w : World) : Calls Tryz.prog 148 #[.slice none 0 0, .int .i64 0, F] w fun e w' => e = .returned (.tuple #[]) ∧ w' = w := by
  go_enter Tryz.func148, Tryz.ntmps148
  go_wp2_with fail
  go_loopw [7, 8] (fun p q wr => p = .int .i64 0 ∧ q = .int .i64 20 ∧ wr = w) (fun _ _ _ => 0)
  case atStart => exact ⟨rfl, rfl, rfl⟩
  case round =>
    obtain ⟨rfl, rfl, rfl⟩ := hrel
    go_wp2_with fail
    refine (insert_nil F wr).mono ?_
    rintro e w1 ⟨rfl, hw⟩; rw [hw]; clear hw w1
    go_wp2_with fail
    go_loopw [6] (fun p wr' => p = .int .i64 20 ∧ wr' = wr) (fun _ _ => 0)
    case atStart => exact ⟨rfl, rfl⟩
    case round =>
      obtain ⟨rfl, rfl⟩ := hrel
      go_wp2_with fail
      go_end0
      exact ⟨rfl, rfl⟩
theorem sort_nil (F : Value) (w : World) : Calls Tryz.prog 85 #[.slice none 0 0, F] w fun e w' => e = .returned (.tuple #[]) ∧ w' = w := by
  go_enter Tryz.func85, Tryz.ntmps85
  go_wp2_with fail
  refine (stable_nil F w).mono ?_
  rintro e w1 ⟨rfl, hw⟩; rw [hw]; clear hw w1
  go_wp2_with fail
  go_end0
  exact ⟨rfl, rfl⟩
theorem fn_els (p : Nat → Nat → Int) (F : List (Nat × Nat)) {n i : Nat} (h : i < n) : fn (els p F n) i = el p F i := by
  unfold fn els
  rw [List.getD_eq_getElem?_getD, List.getElem?_eq_getElem (by simpa using h)]
  simp
def SoPost (W : World) (m : Nat) (L : Nat → Nat) (p : Nat → Nat → Int) (v : Value) (e : Ending) (w' : World) : Prop := e = .returned (.tuple #[]) ∧ Only (fun _ => False) W w' ∧ ∃ l, Ord p (coll p L m) (coll p L m).length l ∧ w'.ownsRow W.heap.size 72 2 v (coll p L m).length (flat (Tf (coll p L m)) (Nf (coll p L m)) l)
theorem sorted_res {W : World} {a : Option Addr} {m cp : Nat} {x : Int} {L : Nat → Nat} {D : Nat → Nat → Dn} (hs : Hs W a m L D) (hT : tots L m < 4294967296) {v : Value} {w : World} (hC : Co W a m cp x L (ptf D) (coll (ptf D) L m) v w) :
    Calls Tryz.prog 85 #[v, .func (.func 86) #[] #[.pointer (some ⟨W.heap.size, 0, none⟩)]] w (SoPost W m L (ptf D) v) := by
  rcases own_open hC.own with ⟨rfl, h0⟩ | ⟨g, cap, X, rfl, h1, h2, h3, h4, h5, h6⟩
  · refine (sort_nil _ w).mono ?_
    rintro e w' ⟨rfl, rfl⟩
    refine ⟨rfl, hC.only, els (ptf D) (coll (ptf D) L m) (coll (ptf D) L m).length, ⟨List.Perm.refl _, ?_⟩, own_low hC.own (by omega)⟩
    rw [h0]; exact sorted_nil
  · have hl := coll_len (ptf D) L m
    have hA : Arr (ho W W.heap.size a m cp x L D hs (cap * 2) hT) w g (coll (ptf D) L m).length (fn (els (ptf D) (coll (ptf D) L m) (coll (ptf D) L m).length)) :=
      arr_of (els_len _ _ _) h2 h5 (by omega) h6 ⟨by omega, by omega, hC.box, hC.only.mono fun _ _ q => q.elim⟩ (fun y hy => by
        obtain ⟨j, hj, rfl⟩ := mem_els hy
        exact ⟨hj, rfl⟩)
    refine (sort_calls (ho W W.heap.size a m cp x L D hs (cap * 2) hT) g (coll (ptf D) L m).length cap _ w (by omega) hA (fun i j h1 h2 => by rw [fn_els _ _ (by omega), fn_els _ _ h2]; exact h1)).mono ?_
    rintro e w' ⟨rfl, O1, h, R1, N1, S1⟩
    refine ⟨rfl, hC.only.seq2 O1 (fun i q => .inl (by omega)), win h 0 (coll (ptf D) L m).length, ⟨?_, S1⟩, own_of R1 rfl (by omega) h3 h4⟩
    have e1 := win_fn (els (ptf D) (coll (ptf D) L m) (coll (ptf D) L m).length)
    rw [els_len] at e1
    rw [← e1]; exact N1.perm
set_option maxHeartbeats 4000000 in
set_option maxRecDepth 100000 in
theorem order_calls (W : World) (a : Option Addr) (m cp : Nat) (x : Int) (L : Nat → Nat) (D : Nat → Nat → Dn) (hs : Hs W a m L D) (hT : tots L m < 4294967296) :
    Calls Tryz.prog 34 #[.agg #[.slice a m cp, .int .i64 x]] W (OrdRes W m L (ptf D)) := by
  obtain ⟨i3, hi3, hz3, hs3, hb3⟩ := info_parts info72
  have HS := Lib.hid hs
  have hml := hs.len
  clear hs
  go_enter Tryz.func34, Tryz.ntmps34
  go_wp2_with fail
  go_loopw [3, 11] (fun v i wr => Co1 W a m cp x L (ptf D) v i wr) (fun _ i _ => m - (intOf i).toNat)
  case atStart => exact ⟨0, rfl, Nat.zero_le _, ⟨⟨rfl, .inl ⟨rfl, rfl⟩⟩, (Only.refl _ W).alloc _, blk_new _ _⟩⟩
  case round =>
    obtain ⟨t, rfl, ht, hC⟩ := hrel
    have HC := Lib.hid hC
    clear hC
    by_cases hlt : t < m
    · obtain ⟨b, o, A, c1, ha, q1, q2, q3, q4⟩ := HS.out.row t hlt
      rw [← HC.out.only.cellAt q1 id] at q2
      subst ha
      have Q4 := Lib.hid q4
      clear q4
      go_wp2_with fail
      go_loopw [3, 18] (fun v j wr' => Co2 W (some ⟨b, o, none⟩) m cp x L (ptf D) t v j wr') (fun _ j _ => L t - (intOf j).toNat)
      case atStart => exact ⟨0, rfl, Nat.zero_le _, by rw [upto_zero]; exact HC.out⟩
      case round =>
        obtain ⟨k, rfl, hk, hC2⟩ := hrel
        have HC2 := Lib.hid hC2
        clear hC2 HC q2
        by_cases hlk : k < L t
        · obtain ⟨b', o', rfl, r1, r2⟩ := Q4.out k hlk
          have hpt := HS.out.pt t k hlt hlk
          obtain ⟨z0, z1, z2, z3, z4, z5, z6, z7, z8, z9, z10⟩ := cells11 wr b' (o' + k * 11) (D t k) (fun j hj => by rw [HC2.out.only.cellAt r1 id]; exact r2 j hj)
          have tj := HC2.out.only.size
          have hpe : ptf D t k = (D t k).pt := rfl
          have HPE := Lib.hid hpe
          clear hpe
          generalize D t k = d at *
          obtain ⟨d0, d1, d2, vp, vn, vc, d4, d5, d6, d7, d8, d9, d10⟩ := d
          dsimp only at z0 z1 z2 z3 z4 z5 z6 z7 z8 z9 z10 hpt
          clear r2
          by_cases hp : 0 < d7
          · have kp : decide (d7 > 0) = true := by simpa using hp
            have hlen := Nat.le_trans (upto_prefix (ptf D) L hk hlt).length_le (coll_len (ptf D) L m)
            have HP : Hid (0 < ptf D t k) := Lib.hid (by rw [HPE.out]; exact hp)
            go_wp2_with (at_builtin; go_loud (refine wpList_append_any _ rfl (.tmp 26) (.tmp 30) 54 rfl 72 i3 (.agg #[.int .i64 0, .int .i64 0]) 2 16 Tryz.underlying54 hi3 hz3 hs3 hb3 rfl (by decide) (W.heap.size + 1) _ _ _ (by simp [Act.eval]) (own_keep HC2.out.own (((Only.refl _ wr).alloc _).alloc _)) (by simp; omega) (some ⟨wr.heap.size + 1, 0, none⟩) 1 1 [.int .i64 (t : Nat), .int .i64 (k : Nat)] (by simp [Act.eval]) (by simp) rfl (fun ad j u h1 h2 => box_src 72 (wr.alloc _) _ _ ad j u (by simpa using h1) h2) (by simp [Value.oneCell']) (by unfold maxLen; omega) (by omega) ?_; intro v' w' hgr hown; have N := Lib.hid (show Co2 W (some ⟨b, o, none⟩) m cp x L (ptf D) t v' (.int .i64 ((k : Int) + 1)) w' from ⟨k + 1, by go_num, by omega, (HC2.out.none (((Only.refl _ wr).alloc _).alloc _)).push hlt hlk HP.out hgr hown⟩); clear hgr hown))
            go_roundw
            case rel => exact N.out
            case measure => simp [intOf]; omega
          · have kp : decide (d7 > 0) = false := by simpa using hp
            have N := Lib.hid (show Co2 W (some ⟨b, o, none⟩) m cp x L (ptf D) t u3 (.int .i64 ((k : Int) + 1)) (wr.alloc (Obj.cells #[Value.int .i64 d0, Value.int .i64 d1, Value.int .i64 d2, Value.slice vp vn vc, Value.int .u64 d4, Value.int .i64 d5, Value.int .i64 d6, Value.int .i64 d7, Value.int .i64 d8, Value.int .i64 d9, Value.bool d10] 220)) from ⟨k + 1, by go_num, by omega, by rw [upto_skip _ _ _ _ (by rw [HPE.out]; exact hp)]; exact HC2.out.none ((Only.refl _ wr).alloc _)⟩)
            go_wp2_with fail
            go_roundw
            case rel => exact N.out
            case measure => simp [intOf]; omega
        · obtain rfl : k = L t := by omega
          go_wp2_with fail
          go_roundw
          case rel => exact ⟨t + 1, by go_num, by omega, HC2.out⟩
          case measure => simp [intOf]; omega
    · obtain rfl : t = m := by omega
      have K := Lib.hid (sorted_res (x := x) HS.out hT HC.out)
      clear HC
      go_wp2_with fail
      refine K.out.mono ?_
      rintro e w1 ⟨rfl, O1, l, S1, R1⟩
      have X := Lib.hid (show OrdRes W t L (ptf D) (.returned u3) w1 from ⟨u3, l, rfl, O1, S1, R1⟩)
      clear O1 S1 R1 K
      go_wp2_with fail
      go_ret
      exact X.out
end Go.Proofs.YtlipngdfhpaodaaGreat.Lo
