/- The walk of the document's Order. -/
import Derived.Test.YtlipngdfhpaodaaGreatLre
namespace Go.Proofs.YtlipngdfhpaodaaGreat.Lo
open Go.RowKit Srt

/-- the calls by rank, so far -/
structure Do (W : World) (a : Option Addr) (m cp : Nat) (x : Int) (L : Nat → Nat) (p : Nat → Nat → Int) (G : List (Nat × Nat)) (l : List Cn) (g cap : Nat) (X : Array Value) (wr : World) : Prop where
  ord : Ord p (coll p L m) G.length l
  ge : W.heap.size + 1 ≤ g
  blk : wr.heap[g]? = some (.cells X 72 (0, 0))
  nc : G.length ≤ cap
  cm : cap ≤ maxLen
  sz : X.size = cap * 2
  tk : X.toList.take (G.length * 2) = flat (Tf (coll p L m)) (Nf (coll p L m)) l
  only : Only (fun _ => False) W wr
  box : wr.heap[W.heap.size]? = some (.cells #[.slice a m cp, .int .i64 x] 90 (0, 0))
def DoV (W : World) (a : Option Addr) (m cp : Nat) (x : Int) (L : Nat → Nat) (p : Nat → Nat → Int) (G : List (Nat × Nat)) (v : Value) (wr : World) : Prop := ∃ l g cap X, v = .slice (some ⟨g, 0, none⟩) G.length cap ∧ Do W a m cp x L p G l g cap X wr
def Do1 (W : World) (a : Option Addr) (m cp : Nat) (x : Int) (L : Nat → Nat) (p : Nat → Nat → Int) (v i : Value) (wr : World) : Prop := ∃ t : Nat, i = .int .i64 t ∧ t ≤ m ∧ DoV W a m cp x L p (coll p L t) v wr
def Do2 (W : World) (a : Option Addr) (m cp : Nat) (x : Int) (L : Nat → Nat) (p : Nat → Nat → Int) (t : Nat) (v j : Value) (wr : World) : Prop := ∃ k : Nat, j = .int .i64 k ∧ k ≤ L t ∧ DoV W a m cp x L p (upto p L t k) v wr
theorem Do.keep0 {W : World} {a : Option Addr} {m cp : Nat} {x : Int} {L : Nat → Nat} {p : Nat → Nat → Int} {G : List (Nat × Nat)} {l : List Cn} {g cap : Nat} {X : Array Value} {w w' : World} (h : Do W a m cp x L p G l g cap X w) (O : Only (fun _ => False) w w') : Do W a m cp x L p G l g cap X w' :=
  ⟨h.ord, h.ge, O.blk h.blk id, h.nc, h.cm, h.sz, h.tk, h.only.trans O, O.blk h.box id⟩
theorem Do.start {W : World} {a : Option Addr} {m cp : Nat} {x : Int} {L : Nat → Nat} {p : Nat → Nat → Int} : DoV W a m cp x L p [] (.slice (some ⟨W.heap.size + 1, 0, Option.none⟩) 0 0) ((W.alloc (.cells #[.slice a m cp, .int .i64 x] 90)).alloc (.cells #[] 72)) := by
  have s1 : (W.alloc (.cells #[.slice a m cp, .int .i64 x] 90)).heap.size = W.heap.size + 1 := by simp
  exact ⟨[], W.heap.size + 1, 0, #[], rfl, ⟨Ord.nil _ _, Nat.le_refl _, by rw [← s1]; exact blk_new _ _, Nat.le_refl _, Nat.zero_le _, rfl, rfl, ((Only.refl _ W).alloc _).alloc _, blk_alloc (blk_new _ _) _⟩⟩
theorem Do.put {W : World} {a : Option Addr} {m cp : Nat} {x : Int} {L : Nat → Nat} {p : Nat → Nat → Int} {t k : Nat} {l : List Cn} {g cap : Nat} {X : Array Value} {w9 w3 : World} {v3 : Value} {q : Nat} (H : Do W a m cp x L p (upto p L t k) l g cap X w9) (hT : tots L m < 4294967296) (ht : t < m) (hk : k < L t) (hp : 0 < p t k) (hq : q ≤ (upto p L t k).length)
    (h1 : ∀ k' y, q ≤ k' → l[k']? = some y → p t k < Pf p (coll p L m) y.2) (h2 : q = 0 ∨ ∃ y, l[q - 1]? = some y ∧ Pf p (coll p L m) y.2 ≤ p t k) (O : Only (fun _ => False) w9 w3)
    (ho : w3.ownsRow w9.heap.size 72 2 v3 (0 + q + 1 + ((upto p L t k).length - q)) ([] ++ flat (Tf (coll p L m)) (Nf (coll p L m)) (l.take q) ++ [.int .i64 (t : Nat), .int .i64 (k : Nat)] ++ flat (Tf (coll p L m)) (Nf (coll p L m)) (l.drop q))) : DoV W a m cp x L p (upto p L t (k + 1)) v3 w3 := by
  have hu := upto_take p L t k hp
  have hpre := upto_prefix p L (k := k + 1) hk ht
  rw [hu] at hpre
  obtain ⟨e1, e2⟩ := at_prefix hpre
  have hl := coll_len p L m
  have hlen : (upto p L t (k + 1)).length = (upto p L t k).length + 1 := by rw [hu]; simp
  have hfl : flat (Tf (coll p L m)) (Nf (coll p L m)) [el p (coll p L m) (upto p L t k).length] = [.int .i64 (t : Nat), .int .i64 (k : Nat)] := by
    simp only [flat, el, Tf, Nf, e1]
  have hO : Ord p (coll p L m) ((upto p L t k).length + 1) (l.take q ++ el p (coll p L m) (upto p L t k).length :: l.drop q) := by
    refine H.ord.put (by omega) hq (fun k' y hy1 hy2 => ?_) ?_
    · rw [e1]; exact h1 k' y hy1 hy2
    · rw [e1]; exact h2
  rw [show 0 + q + 1 + ((upto p L t k).length - q) = (upto p L t k).length + 1 by omega] at ho
  rcases own_open ho with ⟨_, q0⟩ | ⟨g', cap', X', rfl, r1, r2, r3, r4, r5, r6⟩
  · omega
  · have hs := H.only.size
    have hbx := blk_lt H.box
    refine ⟨_, g', cap', X', by rw [hlen], ⟨by rw [hlen]; exact hO, by omega, r2, by rw [hlen]; exact r3, r4, r5, ?_, H.only.trans O, O.blk H.box id⟩⟩
    rw [hlen, r6, ← hfl]
    simp [flat_app, flat]
theorem flat_rest {w : World} {T N : Nat → Int} {g n : Nat} {X : Array Value} {l : List Cn} (hb : w.heap[g]? = some (.cells X 72 (0, 0))) (ht : X.toList.take (n * 2) = flat T N l) (hl : l.length = n) (a : Nat) (ha : a ≤ n) (P : Option Addr) (hP : a < n → P = some ⟨g, a * 2, none⟩) :
    ∀ (ad : Addr) j u, P = some ad → (flat T N (l.drop a))[j]? = some u → w.cell? (ad.add j) = some u := by
  intro ad j u h hu
  rcases Nat.lt_or_ge a n with h1 | h1
  · rw [hP h1] at h
    refine flat_src hb ht hl a n ha (Nat.le_refl _) ad j u h ?_
    rw [List.take_of_length_le (by omega)]; exact hu
  · rw [List.drop_of_length_le (by omega)] at hu
    simp [flat] at hu
set_option maxHeartbeats 4000000 in
set_option maxRecDepth 100000 in
theorem rorder_calls (W : World) (a : Option Addr) (m cp : Nat) (x : Int) (L : Nat → Nat) (D : Nat → Nat → Dn) (hs : Hs W a m L D) (hT : tots L m < 4294967296) :
    Calls Tryz.prog 33 #[.agg #[.slice a m cp, .int .i64 x]] W (OrdRes W m L (ptf D)) := by
  obtain ⟨i3, hi3, hz3, hs3, hb3⟩ := info_parts info72
  have HS := Lib.hid hs
  have hml := hs.len
  clear hs
  go_enter Tryz.func33, Tryz.ntmps33
  go_wp2_with fail
  go_loopw [3, 4] (fun v i wr => Do1 W a m cp x L (ptf D) v i wr) (fun _ i _ => m - (intOf i).toNat)
  case atStart => exact ⟨0, rfl, Nat.zero_le _, Do.start⟩
  case round =>
    obtain ⟨t, rfl, ht, hC⟩ := hrel
    have HC := Lib.hid hC
    clear hC
    obtain ⟨l0, g0, cap0, X0, rfl, H0⟩ := HC.out
    have cb0 : wr.cell? ⟨W.heap.size, 0, none⟩ = some (.slice a m cp) := by rw [blk_cell H0.box]; rfl
    have O0 := Lib.hid H0.only
    clear H0
    by_cases hlt : t < m
    · obtain ⟨b, o, A, c1, ha, q1, q2, q3, q4⟩ := HS.out.row t hlt
      rw [← O0.out.cellAt q1 id] at q2
      subst ha
      have Q4 := Lib.hid q4
      clear q4
      go_wp2_with fail
      go_loopw [3, 5] (fun v j wr' => Do2 W (some ⟨b, o, none⟩) m cp x L (ptf D) t v j wr') (fun _ j _ => L t - (intOf j).toNat)
      case atStart => exact ⟨0, rfl, Nat.zero_le _, by rw [upto_zero]; exact HC.out⟩
      case round =>
        obtain ⟨k, rfl, hk, hC2⟩ := hrel
        obtain ⟨l, g, cap, X, rfl, H⟩ := hC2
        have HD := Lib.hid H
        have cb : wr.cell? ⟨W.heap.size, 0, none⟩ = some (.slice (some ⟨b, o, none⟩) m cp) := by rw [blk_cell H.box]; rfl
        rw [O0.out.cellAt q1 id, ← H.only.cellAt q1 id] at q2
        have tj := H.only.size
        clear HC H
        by_cases hlk : k < L t
        · obtain ⟨b', o', rfl, r1, r2⟩ := Q4.out k hlk
          have z7 : wr.cell? ⟨b', o' + k * 11 + 7, none⟩ = some (.int .i64 (ptf D t k)) := by rw [HD.out.only.cellAt r1 id]; exact r2 7 (by decide)
          clear r2
          have PT := Lib.hid (show (D t k).pt = ptf D t k from rfl)
          by_cases hp : 0 < ptf D t k
          · have kp : decide (ptf D t k ≤ 0) = false := by simpa using hp
            go_wp2_with fail
            generalize wr = w7 at *
            go_loopw [7] (fun v w8 => ∃ q : Nat, v = .int .i64 q ∧ q ≤ (upto (ptf D) L t k).length ∧ (∀ (k' : Nat) (y : Cn), q ≤ k' → l[k']? = some y → ptf D t k < Pf (ptf D) (coll (ptf D) L m) y.2) ∧ Still w7 w8) (fun v _ => (intOf v).toNat)
            case atStart => exact ⟨(upto (ptf D) L t k).length, rfl, Nat.le_refl _, (by intro k' y h1 h2; rw [List.getElem?_eq_none (by rw [HD.out.ord.len]; exact h1)] at h2; cases h2), Still.refl _⟩
            case round =>
              obtain ⟨q, rfl, hq, hq1, hst⟩ := hrel
              rw [← hst.cell] at cb q2
              by_cases hq0 : q = 0
              · subst hq0
                have kq : decide (((0 : Nat) : Int) > 0) = false := by decide
                have HD9 := Lib.hid (HD.out.keep0 ((hst.drew).only (fun _ => False)))
                have HQ1 := Lib.hid hq1
                clear hst hq1
                go_wp2_with fail
                go_region
                all_goals
                  generalize wr.drew = w9 at *
                  have hn1 := HD9.out.ord.len
                  have hlen := Nat.le_trans (upto_prefix (ptf D) L hk hlt).length_le (coll_len (ptf D) L m)
                  have hnc := HD9.out.nc
                  have hg9 := blk_lt HD9.out.blk
                  go_wp2_with (first | (at_builtin; (refine wpList_append_any _ rfl (.tmp 67) (.tmp 70) 54 rfl 72 i3 (.agg #[.int .i64 0, .int .i64 0]) 2 16 Tryz.underlying54 hi3 hz3 hs3 hb3 rfl (by decide) w9.heap.size 0 (.slice (some ⟨w9.heap.size, 0, none⟩) 0 0) [] (by simp [Act.eval]) (own_new0 w9 (Nat.le_refl _)) (by simp) (some ⟨g, 0, none⟩) 0 cap (flat (Tf (coll (ptf D) L m)) (Nf (coll (ptf D) L m)) (l.take 0)) (by simp [Act.eval]) (fun h => by cases h) (by rw [flat_len, List.length_take]; omega) (fun ad j u h1 h2 => flat_src (blk_alloc HD9.out.blk _) HD9.out.tk hn1 0 0 (Nat.zero_le _) (by omega) ad j u (by simpa using h1) (by simpa using h2)) (flat_one _ _ _) (by unfold maxLen; omega) (by omega) ?_; intro v1 w1 hgr1 hown1; have G1 := Lib.hid hown1; have O1 := Lib.hid (own_only ((Only.refl (fun _ => False) w9).alloc (.cells #[] 72)) (own_new0 w9 (Nat.le_refl _)) (Nat.le_refl _) hgr1); clear hgr1 hown1)) | (at_builtin; (refine wpList_append_any _ rfl (.tmp 72) (.tmp 76) 54 rfl 72 i3 (.agg #[.int .i64 0, .int .i64 0]) 2 16 Tryz.underlying54 hi3 hz3 hs3 hb3 rfl (by decide) w9.heap.size (0 + 0) v1 ([] ++ flat (Tf (coll (ptf D) L m)) (Nf (coll (ptf D) L m)) (l.take 0)) (by simp [Act.eval]) (own_keep G1.out ((Only.refl _ w1).alloc _)) (by have := O1.out.size; simp; omega) (some ⟨w1.heap.size, 0, none⟩) 1 1 [.int .i64 (t : Nat), .int .i64 (k : Nat)] (by simp [Act.eval]) (fun h => by cases h) rfl (box_src 72 _ _ _) (by simp [Value.oneCell']) (by unfold maxLen; omega) (by omega) ?_; intro v2 w2 hgr2 hown2; have G2 := Lib.hid hown2; have O2 := Lib.hid (own_only (O1.out.alloc (.cells #[.int .i64 (t : Nat), .int .i64 (k : Nat)] 72)) (own_keep G1.out ((Only.refl _ w1).alloc _)) (Nat.le_refl _) hgr2); clear hgr2 hown2)) | (at_builtin; (refine wpList_append_any _ rfl (.tmp 78) (.tmp 81) 54 rfl 72 i3 (.agg #[.int .i64 0, .int .i64 0]) 2 16 Tryz.underlying54 hi3 hz3 hs3 hb3 rfl (by decide) w9.heap.size (0 + 0 + 1) v2 ([] ++ flat (Tf (coll (ptf D) L m)) (Nf (coll (ptf D) L m)) (l.take 0) ++ [.int .i64 (t : Nat), .int .i64 (k : Nat)]) (by simp [Act.eval]) G2.out O2.out.size (some ⟨g, 0, none⟩) (upto (ptf D) L t k).length cap (flat (Tf (coll (ptf D) L m)) (Nf (coll (ptf D) L m)) (l.drop 0)) (by simp [Act.eval]) (fun h => by cases h) (by rw [flat_len, List.length_drop]; omega) (flat_rest (O2.out.blk HD9.out.blk id) HD9.out.tk hn1 0 (by omega) _ (fun _ => rfl)) (flat_one _ _ _) (by unfold maxLen; omega) (by omega) ?_; intro v3 w3 hgr3 hown3; have N := Lib.hid (show Do2 W (some ⟨b, o, none⟩) m cp x L (ptf D) t v3 (.int .i64 ((k : Int) + 1)) w3 from ⟨k + 1, by go_num, by omega, HD9.out.put hT hlt hlk hp (q := 0) (by omega) HQ1.out (.inl rfl) (own_only O2.out G2.out (Nat.le_refl _) hgr3) hown3⟩); clear hgr3 hown3)))
                  go_roundw
                  case rel => exact N.out
                  case measure => simp [intOf]; omega
              · obtain ⟨r, rfl⟩ : ∃ r, q = r + 1 := ⟨q - 1, by omega⟩
                have hlr : r < l.length := by rw [HD.out.ord.len]; omega
                obtain ⟨e, he, hle⟩ := HD.out.ord.mem (fn_mem hlr)
                have hg := fn_get hlr
                rw [hle] at hg
                have hen := Nat.lt_of_lt_of_le he (upto_prefix (ptf D) L hk hlt).length_le
                obtain ⟨m1, m2, m3⟩ := mem_coll (at_mem hen)
                obtain ⟨u0, u1⟩ := flat_get (Tf (coll (ptf D) L m)) (Nf (coll (ptf D) L m)) l r _ hg
                rw [← HD.out.tk, List.getElem?_take, if_pos (by omega), Array.getElem?_toList, ← blk_cell (w := wr) (by rw [hst.heap]; exact HD.out.blk)] at u0 u1
                obtain ⟨b1, o1, A1, c2, ha1, s1, s2, s3, s4⟩ := HS.out.row _ m1
                injection ha1 with ha1
                injection ha1 with e1 e2
                subst e1; subst e2
                obtain ⟨b2, o2, rfl, s5, s6⟩ := s4 _ m2
                have z1 : wr.cell? ⟨b2, o2 + (at_ (coll (ptf D) L m) e).2 * 11 + 7, none⟩ = some (.int .i64 (Pf (ptf D) (coll (ptf D) L m) e)) := by rw [hst.cell, HD.out.only.cellAt s5 id]; exact s6 7 (by decide)
                rw [← HD.out.only.cellAt s1 id, ← hst.cell] at s2
                have hlen0 := Nat.le_trans (upto_prefix (ptf D) L hk hlt).length_le (coll_len (ptf D) L m)
                have wr1 : IntKind.i64.wrap (((r + 1 : Nat) : Int) - 1) = (r : Nat) := by rw [IntKind.wrap_i64]; omega
                have hge : Hid (l[r]? = some (el (ptf D) (coll (ptf D) L m) e)) := Lib.hid hg
                have kq : decide (((r + 1 : Nat) : Int) > 0) = true := by simp
                have hrn : r < (upto (ptf D) L t k).length := by omega
                unfold Tf el at u0
                unfold Nf el at u1
                dsimp only at u0 u1
                clear s4 s6 hg hle
                generalize hat1 : (at_ (coll (ptf D) L m) e).1 = t1 at *
                generalize hat2 : (at_ (coll (ptf D) L m) e).2 = n1 at *
                have HA1 := Lib.hid hat1
                have HA2 := Lib.hid hat2
                clear hat1 hat2
                by_cases hc : ptf D t k < Pf (ptf D) (coll (ptf D) L m) e
                · have kc : decide (Pf (ptf D) (coll (ptf D) L m) e > ptf D t k) = true := by simpa using hc
                  have N := Lib.hid (show ∀ (k' : Nat) (y : Cn), r ≤ k' → l[k']? = some y → ptf D t k < Pf (ptf D) (coll (ptf D) L m) y.2 from by
                    intro k' y h1 h2
                    rcases Nat.lt_or_eq_of_le h1 with h3 | h3
                    · exact hq1 k' y h3 h2
                    · subst h3; rw [hge.out] at h2; injection h2 with h2; subst h2; exact hc)
                  have HST := Lib.hid hst.drew
                  clear hq1 hc hst
                  generalize Pf (ptf D) (coll (ptf D) L m) e = pe at *
                  go_wp2_with fail
                  go_region
                  all_goals
                    go_wp2_with fail
                    go_roundw
                    case rel => exact ⟨r, by go_num, by omega, N.out, HST.out⟩
                    case measure => first | (simp [intOf]; done) | (simp [intOf]; omega)
                · have kc : decide (Pf (ptf D) (coll (ptf D) L m) e > ptf D t k) = false := by simpa using hc
                  have HQ2 : Hid (r + 1 = 0 ∨ ∃ y, l[r + 1 - 1]? = some y ∧ Pf (ptf D) (coll (ptf D) L m) y.2 ≤ ptf D t k) := Lib.hid (.inr ⟨_, hge.out, by show Pf (ptf D) (coll (ptf D) L m) e ≤ ptf D t k; omega⟩)
                  have HD9 := Lib.hid (HD.out.keep0 ((hst.drew).only (fun _ => False)))
                  have HQ1 := Lib.hid hq1
                  clear hst hq1 hc
                  generalize Pf (ptf D) (coll (ptf D) L m) e = pe at *
                  go_wp2_with fail
                  go_region
                  all_goals
                    clear u0 u1 z1 s2
                    generalize wr.drew = w9 at *
                    have hn1 := HD9.out.ord.len
                    have hlen := Nat.le_trans (upto_prefix (ptf D) L hk hlt).length_le (coll_len (ptf D) L m)
                    have hnc := HD9.out.nc
                    have hg9 := blk_lt HD9.out.blk
                    rcases Nat.lt_or_eq_of_le (show r + 1 ≤ cap by omega) with hcp | hcp
                    · go_wp2_with (first | (at_builtin; (refine wpList_append_any _ rfl (.tmp 67) (.tmp 70) 54 rfl 72 i3 (.agg #[.int .i64 0, .int .i64 0]) 2 16 Tryz.underlying54 hi3 hz3 hs3 hb3 rfl (by decide) w9.heap.size 0 (.slice (some ⟨w9.heap.size, 0, none⟩) 0 0) [] (by simp [Act.eval]) (own_new0 w9 (Nat.le_refl _)) (by simp) (some ⟨g, 0, none⟩) (r + 1) cap (flat (Tf (coll (ptf D) L m)) (Nf (coll (ptf D) L m)) (l.take (r + 1))) (by simp [Act.eval]) (fun h => by cases h) (by rw [flat_len, List.length_take]; omega) (fun ad j u h1 h2 => flat_src (blk_alloc HD9.out.blk _) HD9.out.tk hn1 0 (r + 1) (Nat.zero_le _) (by omega) ad j u (by simpa using h1) (by simpa using h2)) (flat_one _ _ _) (by unfold maxLen; omega) (by omega) ?_; intro v1 w1 hgr1 hown1; have G1 := Lib.hid hown1; have O1 := Lib.hid (own_only ((Only.refl (fun _ => False) w9).alloc (.cells #[] 72)) (own_new0 w9 (Nat.le_refl _)) (Nat.le_refl _) hgr1); clear hgr1 hown1)) | (at_builtin; (refine wpList_append_any _ rfl (.tmp 72) (.tmp 76) 54 rfl 72 i3 (.agg #[.int .i64 0, .int .i64 0]) 2 16 Tryz.underlying54 hi3 hz3 hs3 hb3 rfl (by decide) w9.heap.size (0 + (r + 1)) v1 ([] ++ flat (Tf (coll (ptf D) L m)) (Nf (coll (ptf D) L m)) (l.take (r + 1))) (by simp [Act.eval]) (own_keep G1.out ((Only.refl _ w1).alloc _)) (by have := O1.out.size; simp; omega) (some ⟨w1.heap.size, 0, none⟩) 1 1 [.int .i64 (t : Nat), .int .i64 (k : Nat)] (by simp [Act.eval]) (fun h => by cases h) rfl (box_src 72 _ _ _) (by simp [Value.oneCell']) (by unfold maxLen; omega) (by omega) ?_; intro v2 w2 hgr2 hown2; have G2 := Lib.hid hown2; have O2 := Lib.hid (own_only (O1.out.alloc (.cells #[.int .i64 (t : Nat), .int .i64 (k : Nat)] 72)) (own_keep G1.out ((Only.refl _ w1).alloc _)) (Nat.le_refl _) hgr2); clear hgr2 hown2)) | (at_builtin; (refine wpList_append_any _ rfl (.tmp 78) (.tmp 81) 54 rfl 72 i3 (.agg #[.int .i64 0, .int .i64 0]) 2 16 Tryz.underlying54 hi3 hz3 hs3 hb3 rfl (by decide) w9.heap.size (0 + (r + 1) + 1) v2 ([] ++ flat (Tf (coll (ptf D) L m)) (Nf (coll (ptf D) L m)) (l.take (r + 1)) ++ [.int .i64 (t : Nat), .int .i64 (k : Nat)]) (by simp [Act.eval]) G2.out O2.out.size (some ⟨g, (r + 1) * 2, none⟩) ((upto (ptf D) L t k).length - (r + 1)) (cap - (r + 1)) (flat (Tf (coll (ptf D) L m)) (Nf (coll (ptf D) L m)) (l.drop (r + 1))) (by simp [Act.eval]) (fun h => by cases h) (by rw [flat_len, List.length_drop]; omega) (flat_rest (O2.out.blk HD9.out.blk id) HD9.out.tk hn1 (r + 1) (by omega) _ (fun _ => rfl)) (flat_one _ _ _) (by unfold maxLen; omega) (by omega) ?_; intro v3 w3 hgr3 hown3; have N := Lib.hid (show Do2 W (some ⟨b, o, none⟩) m cp x L (ptf D) t v3 (.int .i64 ((k : Int) + 1)) w3 from ⟨k + 1, by go_num, by omega, HD9.out.put hT hlt hlk hp (q := (r + 1)) (by omega) HQ1.out HQ2.out (own_only O2.out G2.out (Nat.le_refl _) hgr3) hown3⟩); clear hgr3 hown3)))
                      go_roundw
                      case rel => exact N.out
                      case measure => simp [intOf]; omega
                    · subst hcp
                      go_wp2_with (first | (at_builtin; (refine wpList_append_any _ rfl (.tmp 67) (.tmp 70) 54 rfl 72 i3 (.agg #[.int .i64 0, .int .i64 0]) 2 16 Tryz.underlying54 hi3 hz3 hs3 hb3 rfl (by decide) w9.heap.size 0 (.slice (some ⟨w9.heap.size, 0, none⟩) 0 0) [] (by simp [Act.eval]) (own_new0 w9 (Nat.le_refl _)) (by simp) (some ⟨g, 0, none⟩) (r + 1) (r + 1) (flat (Tf (coll (ptf D) L m)) (Nf (coll (ptf D) L m)) (l.take (r + 1))) (by simp [Act.eval]) (fun h => by cases h) (by rw [flat_len, List.length_take]; omega) (fun ad j u h1 h2 => flat_src (blk_alloc HD9.out.blk _) HD9.out.tk hn1 0 (r + 1) (Nat.zero_le _) (by omega) ad j u (by simpa using h1) (by simpa using h2)) (flat_one _ _ _) (by unfold maxLen; omega) (by omega) ?_; intro v1 w1 hgr1 hown1; have G1 := Lib.hid hown1; have O1 := Lib.hid (own_only ((Only.refl (fun _ => False) w9).alloc (.cells #[] 72)) (own_new0 w9 (Nat.le_refl _)) (Nat.le_refl _) hgr1); clear hgr1 hown1)) | (at_builtin; (refine wpList_append_any _ rfl (.tmp 72) (.tmp 76) 54 rfl 72 i3 (.agg #[.int .i64 0, .int .i64 0]) 2 16 Tryz.underlying54 hi3 hz3 hs3 hb3 rfl (by decide) w9.heap.size (0 + (r + 1)) v1 ([] ++ flat (Tf (coll (ptf D) L m)) (Nf (coll (ptf D) L m)) (l.take (r + 1))) (by simp [Act.eval]) (own_keep G1.out ((Only.refl _ w1).alloc _)) (by have := O1.out.size; simp; omega) (some ⟨w1.heap.size, 0, none⟩) 1 1 [.int .i64 (t : Nat), .int .i64 (k : Nat)] (by simp [Act.eval]) (fun h => by cases h) rfl (box_src 72 _ _ _) (by simp [Value.oneCell']) (by unfold maxLen; omega) (by omega) ?_; intro v2 w2 hgr2 hown2; have G2 := Lib.hid hown2; have O2 := Lib.hid (own_only (O1.out.alloc (.cells #[.int .i64 (t : Nat), .int .i64 (k : Nat)] 72)) (own_keep G1.out ((Only.refl _ w1).alloc _)) (Nat.le_refl _) hgr2); clear hgr2 hown2)) | (at_builtin; (refine wpList_append_any _ rfl (.tmp 78) (.tmp 81) 54 rfl 72 i3 (.agg #[.int .i64 0, .int .i64 0]) 2 16 Tryz.underlying54 hi3 hz3 hs3 hb3 rfl (by decide) w9.heap.size (0 + (r + 1) + 1) v2 ([] ++ flat (Tf (coll (ptf D) L m)) (Nf (coll (ptf D) L m)) (l.take (r + 1)) ++ [.int .i64 (t : Nat), .int .i64 (k : Nat)]) (by simp [Act.eval]) G2.out O2.out.size (some ⟨g, 0, none⟩) ((upto (ptf D) L t k).length - (r + 1)) 0 (flat (Tf (coll (ptf D) L m)) (Nf (coll (ptf D) L m)) (l.drop (r + 1))) (by simp [Act.eval]; omega) (fun h => by cases h) (by rw [flat_len, List.length_drop]; omega) (flat_rest (O2.out.blk HD9.out.blk id) HD9.out.tk hn1 (r + 1) (by omega) _ (fun h => by omega)) (flat_one _ _ _) (by unfold maxLen; omega) (by omega) ?_; intro v3 w3 hgr3 hown3; have N := Lib.hid (show Do2 W (some ⟨b, o, none⟩) m cp x L (ptf D) t v3 (.int .i64 ((k : Int) + 1)) w3 from ⟨k + 1, by go_num, by omega, HD9.out.put hT hlt hlk hp (q := (r + 1)) (by omega) HQ1.out HQ2.out (own_only O2.out G2.out (Nat.le_refl _) hgr3) hown3⟩); clear hgr3 hown3)))
                      go_roundw
                      case rel => exact N.out
                      case measure => simp [intOf]; omega
          · have kp : decide (ptf D t k ≤ 0) = true := by simpa using hp
            have N := Lib.hid (show Do2 W (some ⟨b, o, none⟩) m cp x L (ptf D) t (.slice (some ⟨g, 0, none⟩) (upto (ptf D) L t k).length cap) (.int .i64 ((k : Int) + 1)) wr from ⟨k + 1, by go_num, by omega, l, g, cap, X, by rw [upto_skip _ _ _ _ hp], by rw [upto_skip _ _ _ _ hp]; exact HD.out⟩)
            go_wp2_with fail
            go_roundw
            case rel => exact N.out
            case measure => simp [intOf]; omega
        · obtain rfl : k = L t := by omega
          go_wp2_with fail
          go_roundw
          case rel => exact ⟨t + 1, by go_num, by omega, l, g, cap, X, rfl, HD.out⟩
          case measure => simp [intOf]; omega
    · obtain rfl : t = m := by omega
      go_wp2_with fail
      go_ret
      obtain ⟨l, g, cap, X, e, H⟩ := HC.out
      injection e with e1 e2 e3
      injection e1 with e1; injection e1 with e1
      exact ⟨.slice (some ⟨g0, 0, none⟩) (coll (ptf D) L t).length cap0, l, rfl, H.only, H.ord, by rw [flat_len, H.ord.len], .inr ⟨g, cap, X, by rw [e1, e3], by have := H.ge; omega, H.blk, H.nc, H.cm, H.sz, H.tk⟩⟩
end Go.Proofs.YtlipngdfhpaodaaGreat.Lo
