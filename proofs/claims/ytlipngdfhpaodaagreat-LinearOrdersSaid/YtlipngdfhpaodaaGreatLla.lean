/- The walk of the law LinearOrders, behind awake. -/
import Derived.Test.YtlipngdfhpaodaaGreatLor
import Derived.Test.YtlipngdfhpaodaaGreatLod
import Derived.Test.YtlipngdfhpaodaaGreatLsm
namespace Go.Proofs.YtlipngdfhpaodaaGreat.Lo
open Go.RowKit Srt

theorem prs_of {w : World} {base n : Nat} {v : Value} {T N : Nat → Int} {l : List Cn} (h : w.ownsRow base 72 2 v n (flat T N l)) (hl : l.length = n) :
    ∃ p c, v = .slice p n c ∧ Prs w p n (fun i => T (fn l i).2) (fun i => N (fn l i).2) ∧ (∀ a, p = some a → base ≤ a.block ∧ a.block < w.heap.size) := by
  rcases own_open h with ⟨rfl, h0⟩ | ⟨g, cap, X, rfl, h1, h2, h3, h4, h5, h6⟩
  · exact ⟨none, 0, by rw [h0], fun i hi => by omega, fun a ha => by cases ha⟩
  · refine ⟨some ⟨g, 0, none⟩, cap, rfl, fun i hi => ?_, fun a ha => by injection ha with ha; subst ha; exact ⟨h1, blk_lt h2⟩⟩
    obtain ⟨q1, q2⟩ := own_cells h h2 h6 hi (fn_get (by omega))
    exact ⟨g, 0, rfl, blk_lt h2, by rw [Nat.zero_add]; exact q1, by rw [Nat.zero_add]; exact q2⟩
/-- the list that is spoilt: it owns its row; nothing else has changed -/
structure Sp (w5 : World) (Kp : Nat → Prop) (base : Nat) (v : Value) (n : Nat) (wr : World) : Prop where
  own : ∃ xs, wr.ownsRow base 72 2 v n xs
  only : Only (fun k => base ≤ k ∧ ¬ Kp k) w5 wr
  not : ∀ g, v.ownBlock = some g → ¬ Kp g
theorem Sp.put {w5 : World} {Kp : Nat → Prop} {base : Nat} {g n cap i : Nat} {wr : World} {X : Array Value} (h : Sp w5 Kp base (.slice (some ⟨g, 0, none⟩) n cap) n wr) (hX : wr.heap[g]? = some (.cells X 72 (0, 0))) (hn : n ≤ cap) (hc : cap ≤ maxLen) (hs : X.size = cap * 2) (hb : base ≤ g) (u v : Value) :
    Sp w5 Kp base (.slice (some ⟨g, 0, none⟩) n cap) n ((wr.setCell ⟨g, i, none⟩ u).setCell ⟨g, i + 1, none⟩ v) := by
  have hk := h.not g rfl
  refine ⟨⟨((X.setIfInBounds i u).setIfInBounds (i + 1) v).toList.take (n * 2), ?_, .inr ⟨g, cap, _, rfl, hb, blk_set (blk_set hX _ _) _ _, hn, hc, by simpa using hs, rfl⟩⟩, (h.only.setCell (p := ⟨g, i, none⟩) (.inr ⟨hb, hk⟩) _).setCell (p := ⟨g, i + 1, none⟩) (.inr ⟨hb, hk⟩) _, h.not⟩
  rw [List.length_take]; simp; omega
theorem Sp.grow {w5 : World} {Kp : Nat → Prop} {base n keep : Nat} {v v' : Value} {wr wa w' : World} {xs ys : List Value} (h : Sp w5 Kp base v n wr) (hK : ∀ k, Kp k → k < w5.heap.size) (O : Only (fun _ => False) wr wa) (ho : wa.ownsRow base 72 2 v n xs) (hg : Grew wa w' v v' keep) (hown : w'.ownsRow base 72 2 v' (n + 1) ys) : Sp w5 Kp base v' (n + 1) w' := by
  have h0 := h.only.trans (O.mono (T := fun k => base ≤ k ∧ ¬ Kp k) fun _ _ q => q.elim)
  refine ⟨⟨_, hown⟩, h0.grown hg.grown (fun k hk => .inr ⟨(own_tag ho hk).1, h.not k hk⟩), fun g hgv => ?_⟩
  rcases hg.which with q | ⟨g', q1, q2⟩
  · exact h.not g (by rw [← q]; exact hgv)
  · rw [hgv] at q1; injection q1 with q1; subst q1
    intro hk; have := hK _ hk; have := h0.size; omega
theorem Sp.drew {w5 : World} {Kp : Nat → Prop} {base : Nat} {v : Value} {n : Nat} {wr : World} (h : Sp w5 Kp base v n wr) : Sp w5 Kp base v n wr.drew := ⟨h.own, h.only.drew, h.not⟩
set_option maxHeartbeats 8000000 in
set_option maxRecDepth 100000 in
theorem law7 (KA : ∀ w, Calls Tryz.prog 31 #[] w fun e w' => e = .returned (.bool true) ∧ Only (fun _ => False) w w') (W : World) (a : Option Addr) (m cp : Nat) (x : Int) (L : Nat → Nat) (D : Nat → Nat → Dn) (hs : Hs W a m L D) :
    Calls Tryz.prog 7 #[.agg #[.slice a m cp, .int .i64 x]] W fun e w' => e = .returned (.bool true) ∧ Only (fun _ => False) W w' := by
  obtain ⟨i3, hi3, hz3, hs3, hb3⟩ := info_parts info72
  have HS := Lib.hid hs
  have HK := Lib.hid KA
  clear hs KA
  go_enter Tryz.func7, Tryz.ntmps7
  go_wp2_with fail
  refine (HK.out _).mono ?_
  rintro e w1 ⟨rfl, O1⟩
  have HB1 := Lib.hid (O1.blk (blk_new W (.cells #[.slice a m cp, .int .i64 x] 90)) id)
  have HO1 := Lib.hid (((Only.refl (fun _ => False) W).alloc (.cells #[.slice a m cp, .int .i64 x] 90)).trans O1)
  have c0 : w1.cell? ⟨W.heap.size, 0, none⟩ = some (.slice a m cp) := by rw [blk_cell HB1.out]; rfl
  have c1 : w1.cell? ⟨W.heap.size, 1, none⟩ = some (.int .i64 x) := by rw [blk_cell HB1.out]; rfl
  clear O1
  go_wp2_with fail
  refine (beyond_calls w1 a m cp x L D (HS.out.only HO1.out)).mono ?_
  rintro e w2 ⟨O2, rfl | ⟨rfl, hT⟩⟩
  · have HO2 := Lib.hid (HO1.out.trans O2)
    clear O2
    go_wp2_with fail
    go_ret
    exact ⟨rfl, HO2.out⟩
  · have HO2 := Lib.hid (HO1.out.trans O2)
    have HB2 := Lib.hid (O2.blk HB1.out id)
    have hT4 : tots L m < 4294967296 := by omega
    clear c0 c1 O2
    have c0 : w2.cell? ⟨W.heap.size, 0, none⟩ = some (.slice a m cp) := by rw [blk_cell HB2.out]; rfl
    have c1 : w2.cell? ⟨W.heap.size, 1, none⟩ = some (.int .i64 x) := by rw [blk_cell HB2.out]; rfl
    go_wp2_with fail
    refine (rorder_calls w2 a m cp x L D (HS.out.only HO2.out) hT4).mono ?_
    rintro e w3 ⟨v1, l1, rfl, O3, S1, R1⟩
    have HO3 := Lib.hid (HO2.out.trans O3)
    have HB3 := Lib.hid (O3.blk HB2.out id)
    have HS1 := Lib.hid S1; have HR1 := Lib.hid R1
    clear c0 c1 O3 S1 R1 HB1 HO1
    have c0 : w3.cell? ⟨W.heap.size, 0, none⟩ = some (.slice a m cp) := by rw [blk_cell HB3.out]; rfl
    have c1 : w3.cell? ⟨W.heap.size, 1, none⟩ = some (.int .i64 x) := by rw [blk_cell HB3.out]; rfl
    go_wp2_with fail
    refine (order_calls w3 a m cp x L D (HS.out.only HO3.out) hT4).mono ?_
    rintro e w4 ⟨v2, l2, rfl, O4, S2, R2⟩
    obtain rfl : l2 = l1 := Ord.uniq (by have := coll_len (ptf D) L m; omega) S2 HS1.out
    have HO4 := Lib.hid (HO3.out.trans O4)
    have HB4 := Lib.hid (O4.blk HB3.out id)
    have HR2 := Lib.hid R2
    have O34 := Lib.hid O4
    clear c0 c1 O4 S2 R2 HB2 HO2
    have c0 : w4.cell? ⟨W.heap.size, 0, none⟩ = some (.slice a m cp) := by rw [blk_cell HB4.out]; rfl
    have c1 : w4.cell? ⟨W.heap.size, 1, none⟩ = some (.int .i64 x) := by rw [blk_cell HB4.out]; rfl
    go_wp2_with fail
    refine (order_calls w4 a m cp x L D (HS.out.only HO4.out) hT4).mono ?_
    rintro e w5 ⟨v3, l3, rfl, O5, S3, R3⟩
    obtain rfl : l3 = l2 := Ord.uniq (by have := coll_len (ptf D) L m; omega) S3 HS1.out
    have hlen := HS1.out.len
    obtain ⟨p1, k1, e1, P1, B1⟩ := prs_of HR1.out hlen
    obtain ⟨p2, k2, e2, P2, B2⟩ := prs_of HR2.out hlen
    obtain ⟨p3, k3, e3, P3, B3⟩ := prs_of R3 hlen
    subst e1; subst e2; subst e3
    obtain ⟨n, hn⟩ : ∃ n, n = (coll (ptf D) L m).length := ⟨_, rfl⟩
    have hnt : n ≤ 2147483648 := by have := coll_len (ptf D) L m; omega
    generalize hf : (fun i => Tf (coll (ptf D) L m) (fn l3 i).2) = f at *
    generalize hg : (fun i => Nf (coll (ptf D) L m) (fn l3 i).2) = g at *
    have R2 := own_keep HR2.out O5
    rw [← hn] at P1 P2 P3 R2
    have Q1 := Lib.hid ((P1.only O34.out (fun _ _ => id)).only O5 (fun _ _ => id))
    have Q2 := Lib.hid (P2.only O5 (fun _ _ => id))
    have Q3 := Lib.hid P3
    have HO5 := Lib.hid (HO4.out.trans O5)
    have KB : Hid (∀ k, ((∃ a, p1 = some a ∧ a.block = k) ∨ (∃ a, p3 = some a ∧ a.block = k)) → k < w5.heap.size) := Lib.hid (by
      rintro k (⟨a, q, rfl⟩ | ⟨a, q, rfl⟩)
      · have := (B1 a q).2; have := O34.out.size; have := O5.size; omega
      · exact (B3 a q).2)
    have SP : Hid (Sp w5 (fun k => (∃ a, p1 = some a ∧ a.block = k) ∨ (∃ a, p3 = some a ∧ a.block = k)) w3.heap.size (.slice p2 n k2) n w5) := Lib.hid ⟨⟨_, R2⟩, Only.refl _ _, fun g hg => by
      rcases own_open R2 with ⟨q, _⟩ | ⟨g', cap, X, q, h1, h2, _⟩
      · rw [q] at hg; cases hg
      · injection q with q _ _
        rw [q] at hg
        have e : g' = g := by simpa [Value.ownBlock] using hg
        subst e
        have b2 := B2 _ q
        rintro (⟨a, q', e⟩ | ⟨a, q', e⟩)
        · have := (B1 a q').2; dsimp only at b2; omega
        · have := (B3 a q').1; dsimp only at b2; omega⟩
    have SZW : W.heap.size ≤ w3.heap.size := HO3.out.size
    have SZ5 := Lib.hid (Nat.le_trans O34.out.size O5.size)
    have BW := Lib.hid (And.intro B1 B3)
    rw [← hn]
    have HN := Lib.hid hn
    clear hn c0 c1 hf hg hlen P1 P2 P3 R2 B1 B2 B3 O5 O34 HS1 HR1 HR2 HB3 HB4 HO3 HO4 HK R3 S3
    go_wp2_with fail
    refine (same_calls p2 p1 n k2 k1 f g w5 (by omega) Q2.out Q1.out).mono ?_
    rintro e w6 ⟨rfl, ST6⟩
    have Q61 := Lib.hid (Q1.out.only (ST6.only (fun _ => False)) (fun _ _ => id))
    have Q63 := Lib.hid (Q3.out.only (ST6.only (fun _ => False)) (fun _ _ => id))
    have HST6 := Lib.hid ST6
    clear ST6
    go_wp2_with fail
    refine (same_calls p3 p1 n k3 k1 f g w6 (by omega) Q63.out Q61.out).mono ?_
    rintro e w7 ⟨rfl, ST7⟩
    have SP7 : Hid (Sp w5 (fun k => (∃ a, p1 = some a ∧ a.block = k) ∨ (∃ a, p3 = some a ∧ a.block = k)) w3.heap.size (.slice p2 n k2) n w7) := Lib.hid ⟨(by obtain ⟨xs, h⟩ := SP.out.own; exact ⟨xs, own_keep h ((HST6.out.only _).trans (ST7.only _))⟩), SP.out.only.trans ((HST6.out.only _).trans (ST7.only _)), SP.out.not⟩
    clear ST7 HST6 Q61 Q63 SP
    go_wp2_with fail
    go_loopw [7] (fun v wr => ∃ i : Nat, v = .int .i64 i ∧ i ≤ n ∧ Sp w5 (fun k => (∃ a, p1 = some a ∧ a.block = k) ∨ (∃ a, p3 = some a ∧ a.block = k)) w3.heap.size (.slice p2 n k2) n wr) (fun v _ => n - (intOf v).toNat)
    case atStart => exact ⟨0, rfl, Nat.zero_le _, SP7.out⟩
    case round =>
      obtain ⟨i, rfl, hi, hS⟩ := hrel
      by_cases hlt : i < n
      · obtain ⟨xs, ho⟩ := hS.own
        rcases own_open ho with ⟨_, q⟩ | ⟨g', cap, X, q, h1, h2, h3, h4, h5, h6⟩
        · exfalso; omega
        · injection q with q1 q2 q3
          subst q1; subst q3
          have hx0 : i * 2 < X.size := by omega
          have hx1 : i * 2 + 1 < X.size := by omega
          have x0 : wr.cell? ⟨g', i * 2, none⟩ = some (X[i * 2]) := by rw [blk_cell h2, Array.getElem?_eq_getElem hx0]
          have x1 : wr.cell? ⟨g', i * 2 + 1, none⟩ = some (X[i * 2 + 1]) := by rw [blk_cell h2, Array.getElem?_eq_getElem hx1]
          have f0 : wr.frozen? ⟨g', i * 2, none⟩ = false := blk_free h2 _
          have f1 : wr.frozen? ⟨g', i * 2 + 1, none⟩ = false := blk_free h2 _
          have N := Lib.hid (hS.put (i := i * 2) h2 h3 h4 h5 h1 (.int .i64 (-1)) (.int .i64 (-1)))
          generalize X[i * 2] = y0 at *
          generalize X[i * 2 + 1] = y1 at *
          clear hS ho h2 h5 h6 hx0 hx1
          go_wp2_with fail
          go_roundw
          case rel => exact ⟨i + 1, by go_num, by omega, N.out⟩
          case measure => simp [intOf]; omega
      · obtain rfl : i = n := by omega
        have HSP := Lib.hid hS
        clear hS SP7
        go_wp2_with fail
        go_loopw [4, 8] (fun v u wr' => ∃ n' j : Nat, u = .int .i64 j ∧ j ≤ 20 ∧ n' ≤ i + j ∧ Sp w5 (fun k => (∃ a, p1 = some a ∧ a.block = k) ∨ (∃ a, p3 = some a ∧ a.block = k)) w3.heap.size v n' wr') (fun _ u _ => 20 - (intOf u).toNat)
        case atStart => exact ⟨i, 0, rfl, Nat.zero_le _, Nat.le_refl _, HSP.out⟩
        case round =>
          obtain ⟨n', j, rfl, hj, hn', hS⟩ := hrel
          by_cases hlj : j < 20
          · obtain ⟨xs, ho⟩ := hS.own
            have HS9 := Lib.hid hS; have HO9 := Lib.hid ho
            have zz : w3.heap.size ≤ wr.heap.size := by
              have := HS9.out.only.size; have := SZ5.out; omega
            clear hS ho
            go_wp2_with (at_builtin; go_loud (refine wpList_append_any _ rfl (.tmp 41) (.tmp 43) 54 rfl 72 i3 (.agg #[.int .i64 0, .int .i64 0]) 2 16 Tryz.underlying54 hi3 hz3 hs3 hb3 rfl (by decide) w3.heap.size n' _ xs (by simp [Act.eval]) (own_keep HO9.out ((Only.refl _ wr).alloc _)) (by simp; omega) (some ⟨wr.heap.size, 0, none⟩) 1 1 [.int .i64 (-2), .int .i64 (-2)] (by simp [Act.eval]) (by simp) rfl (box_src 72 wr _ _) (by simp [Value.oneCell']) (by unfold maxLen; omega) (by omega) ?_; intro v' w' hgr hown; have N := Lib.hid (HS9.out.grow KB.out ((Only.refl _ wr).alloc _) (own_keep HO9.out ((Only.refl _ wr).alloc _)) hgr hown); clear hgr hown))
            go_roundw
            case rel => exact ⟨n' + 1, j + 1, by go_num, by omega, by omega, N.out⟩
            case measure => simp [intOf]; omega
          · obtain rfl : j = 20 := by omega
            have Z1 := Lib.hid (Q1.out.only hS.only (fun a q h => h.2 (.inl ⟨a, q, rfl⟩)))
            have Z3 := Lib.hid (Q3.out.only hS.only (fun a q h => h.2 (.inr ⟨a, q, rfl⟩)))
            have ZO := Lib.hid (HO5.out.seq2 hS.only (fun k h => .inl (Nat.le_trans SZW h.1)))
            clear hS
            go_wp2_with fail
            refine (same_calls p3 p1 i k3 k1 f g wr (by omega) Z3.out Z1.out).mono ?_
            rintro e w9 ⟨rfl, ST9⟩
            have ZZ := Lib.hid (ZO.out.trans (ST9.only _))
            clear ST9
            go_wp2_with fail
            go_ret
            exact ⟨rfl, ZZ.out⟩
end Go.Proofs.YtlipngdfhpaodaaGreat.Lo
