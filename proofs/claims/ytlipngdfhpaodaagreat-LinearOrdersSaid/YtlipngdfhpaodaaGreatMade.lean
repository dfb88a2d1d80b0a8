/- The walk of made: the program's cells. -/
import Derived.Test.YtlipngdfhpaodaaGreatCells
import Derived.Test.YtlipngdfhpaodaaGreatStepa
namespace Go.Proofs.YtlipngdfhpaodaaGreat
open Go.RowKit

section
variable {base c wd : Nat} {u : Nat → Value} {L : Nat → Nat} {R : Nat → Nat → Nat} {V : Nat → Nat → Nat → Int} {w w' : World}

/-- a row is appended to the rows of a buffer -/
theorem Held.grow (h : Held base c wd u L R V w) {b n : Nat} (hb : b < 2) (hn : L b = n) {r : Nat} {w2 w3 : World} {v' : Value}
    (hk : ∀ (k : Nat) (o : Obj), w.heap[k]? = some o → w2.heap[k]? = some o) (hr : w.heap.size = r) (hw2 : Words w2 r (fun _ => 0) wd) (hbase : base ≤ r)
    (hg : Grew w2 w3 (u b) v' (n * 1)) (ho : w3.ownsRow base 136 1 v' (n + 1) (sl (R b) wd n ++ [slv r wd])) :
    Held base c wd (upd u b v') (upd L b (n + 1)) (upd2 R b n r) (upd2 V b n (fun _ => 0)) (w3.setCell ⟨c, b, none⟩ v') := by
  subst hn
  have h2 : Held base c wd u L R V w2 := h.keep fun k o q _ => hk k o q
  have hRlt : ∀ b', b' < 2 → ∀ i, i < L b' → R b' i < r := fun b' hb' i hi => by rw [← hr]; exact (h.wrd b' hb' i hi).lt
  have hclt : c < r := by rw [← hr]; exact blk_lt h.obj
  -- blocks that stay from w2 to w3
  have stay : ∀ (k : Nat) (cur : Array Value) (t : TypeId), w2.heap[k]? = some (.cells cur t (0, 0)) → t ≠ 136 → w3.heap[k]? = some (.cells cur t (0, 0)) := by
    intro k cur t hk2 ht
    rw [hg.grown.block k (blk_lt hk2) ?_, hk2]
    intro e
    obtain ⟨_, cur', q⟩ := own_tag (h2.own b hb) e.symm
    rw [hk2] at q
    injection q with q; injection q with _ q _; exact ht q
  have hc3 := stay _ _ _ h2.obj (by decide)
  have v'lt : ∀ g, v'.ownBlock = some g → g ≠ c := by
    intro g e ec
    obtain ⟨_, cur, q⟩ := own_tag ho e
    rw [ec, hc3] at q
    injection q with q; injection q with _ q _; exact absurd q (by decide)
  have hsize : ∀ i : Nat, i < 2 → (#[u 0, u 1] : Array Value).setIfInBounds b v' = #[upd u b v' 0, upd u b v' 1] := by
    intro _ _
    match b, hb with
    | 0, _ => rfl
    | 1, _ => rfl
  refine ⟨h.cge, ?_, fun b' hb' => ?_, fun b' hb' i hi => ?_, fun b' hb' i hi => ?_, fun b1 i1 b2 i2 hb1 hb2 hi1 hi2 e => ?_, ?_⟩
  · rw [blk_set hc3 b v', hsize 0 (by decide)]
  · by_cases eb : b' = b
    · subst eb
      rw [upd_same, upd_same, sl_succ, sl_congr (R' := R b') wd (L b') (fun i hi => upd2_ne _ _ (by omega)), upd2_same]
      refine own_block ho fun g hg' => ?_
      rw [Below.heap_setCell _ _ _ _ (v'lt g hg')]
    · rw [upd_ne _ _ eb, upd_ne _ _ eb, sl_congr (R' := R b') wd (L b') (fun i hi => upd2_ne _ _ (fun e => eb e.1))]
      refine own_block (h2.own b' hb') fun g hg' => ?_
      obtain ⟨_, cur, q⟩ := own_tag (h2.own b' hb') hg'
      have hne : g ≠ c := by
        intro e; rw [e, h2.obj] at q
        injection q with q; injection q with _ q _; exact absurd q (by decide)
      rw [Below.heap_setCell _ _ _ _ hne]
      refine hg.grown.block g (blk_lt q) fun e => ?_
      have hh := h.heads
      have hcs : (b = 0 ∧ b' = 1) ∨ (b = 1 ∧ b' = 0) := by omega
      rcases hcs with ⟨rfl, rfl⟩ | ⟨rfl, rfl⟩
      · exact hh g e.symm hg'
      · exact hh g hg' e.symm
  · have hlt : (upd2 R b (L b) r) b' i < w3.heap.size ∧ Words w3 ((upd2 R b (L b) r) b' i) ((upd2 V b (L b) (fun _ => 0)) b' i) wd := by
      by_cases e : b' = b ∧ i = L b
      · obtain ⟨rfl, rfl⟩ := e
        rw [upd2_same, upd2_same]
        obtain ⟨cs, q1, q2⟩ := hw2
        have := stay _ _ _ q1 (by decide)
        exact ⟨blk_lt this, cs, this, q2⟩
      · rw [upd2_ne _ _ e, upd2_ne _ _ e]
        have hi' : i < L b' := by
          by_cases eb : b' = b
          · subst eb; rw [upd_same] at hi; omega
          · rw [upd_ne _ _ eb] at hi; exact hi
        obtain ⟨cs, q1, q2⟩ := h2.wrd b' hb' i hi'
        have := stay _ _ _ q1 (by decide)
        exact ⟨blk_lt this, cs, this, q2⟩
    refine hlt.2.of_block ?_
    have hne : (upd2 R b (L b) r) b' i ≠ c := by
      obtain ⟨cs, q1, _⟩ := hlt.2
      intro e; rw [e, hc3] at q1
      injection q1 with q1; injection q1 with _ q1 _; exact absurd q1 (by decide)
    rw [Below.heap_setCell _ _ _ _ hne]
  · by_cases e : b' = b ∧ i = L b
    · obtain ⟨rfl, rfl⟩ := e; rw [upd2_same]; exact hbase
    · rw [upd2_ne _ _ e]
      refine h.rge b' hb' i ?_
      by_cases eb : b' = b
      · subst eb; rw [upd_same] at hi; omega
      · rw [upd_ne _ _ eb] at hi; exact hi
  · have down : ∀ b' i, b' < 2 → i < (upd L b (L b + 1)) b' → ¬ (b' = b ∧ i = L b) → i < L b' := by
      intro b' i _ hi e
      by_cases eb : b' = b
      · subst eb; rw [upd_same] at hi; omega
      · rw [upd_ne _ _ eb] at hi; exact hi
    by_cases e1 : b1 = b ∧ i1 = L b
    · by_cases e2 : b2 = b ∧ i2 = L b
      · exact ⟨e1.1.trans e2.1.symm, e1.2.trans e2.2.symm⟩
      · have l2 := hRlt b2 hb2 i2 (down b2 i2 hb2 hi2 e2)
        rw [e1.1, e1.2, upd2_same, upd2_ne _ _ e2] at e
        omega
    · have l1 := hRlt b1 hb1 i1 (down b1 i1 hb1 hi1 e1)
      by_cases e2 : b2 = b ∧ i2 = L b
      · rw [e2.1, e2.2, upd2_same, upd2_ne _ _ e1] at e
        omega
      · rw [upd2_ne _ _ e1, upd2_ne _ _ e2] at e
        exact h.inj _ _ _ _ hb1 hb2 (down b1 i1 hb1 hi1 e1) (down b2 i2 hb2 hi2 e2) e
  · intro g e0 e1
    have old : ∀ b', b' < 2 → ∀ g, (u b').ownBlock = some g → g < w2.heap.size := fun b' hb' g q => by
      obtain ⟨_, _, q2⟩ := own_tag (h2.own b' hb') q; exact blk_lt q2
    have hh := h.heads
    have hwh := hg.which
    match b, hb, hwh with
    | 0, _, hwh =>
      rw [upd_same] at e0
      rw [upd_ne _ _ (by decide)] at e1
      rcases hwh with q | ⟨g', q, q2⟩
      · rw [q] at e0; exact hh g e0 e1
      · rw [q] at e0; cases e0; have := old 1 (by decide) _ e1; omega
    | 1, _, hwh =>
      rw [upd_ne _ _ (by decide)] at e0
      rw [upd_same] at e1
      rcases hwh with q | ⟨g', q, q2⟩
      · rw [q] at e1; exact hh g e0 e1
      · rw [q] at e1; cases e1; have := old 0 (by decide) _ e0; omega

theorem Held.start (w : World) (wd : Nat) : Held w.heap.size w.heap.size wd (fun _ => .slice none 0 0) (fun _ => 0) (fun _ _ => 0) (fun _ _ _ => 0) (w.alloc (.cells #[.slice none 0 0, .slice none 0 0] 140)) := by
  refine ⟨Nat.le_refl _, blk_new w _, fun b _ => ⟨rfl, .inl ⟨rfl, rfl⟩⟩, fun b _ i hi => absurd hi (by omega), fun b _ i hi => absurd hi (by omega), fun b i b' i' _ _ hi => absurd hi (by omega), fun g h => by cases h⟩
end

/-- every number is 0 -/
def MadeRes (st wd : Nat) (w : World) (e : Ending) (w' : World) : Prop :=
  e = .returned (.pointer (some ⟨w.heap.size, 0, none⟩)) ∧ Only (fun _ => False) w w' ∧ ∃ u L R V, (∀ b, b < 2 → L b = st) ∧ Held w.heap.size w.heap.size wd u L R V w'
/-- so many rows of each buffer are there -/
structure MadeAt (base wd n0 n1 : Nat) (w wr : World) : Prop where
  only : Only (fun _ => False) w wr
  held : ∃ u L R V, L 0 = n0 ∧ L 1 = n1 ∧ Held base base wd u L R V wr
def MadeOut (base st wd : Nat) (w : World) (v : Value) (wr : World) : Prop := (v = .int .i64 0 ∧ MadeAt base wd 0 0 w wr) ∨ (v = .int .i64 1 ∧ MadeAt base wd st 0 w wr) ∨ (v = .int .i64 2 ∧ MadeAt base wd st st w wr)
def MadeIn (base st wd b : Nat) (w : World) (v : Value) (wr : World) : Prop := ∃ n : Nat, n ≤ st ∧ v = .int .i64 n ∧ MadeAt base wd (if b = 0 then n else st) (if b = 0 then 0 else n) w wr

theorem run_make114 (wd : Nat) (h2 : wd ≤ 1048576) (W : World) : Sem.run Tryz.prog (Instr.makeSlice 136 (.int .i64 wd) (.int .i64 wd)) W = .ok (.slice (some ⟨W.heap.size, 0, none⟩) wd wd) (W.alloc (.cells (madeCells #[.int .i64 0] wd) 120)) := by
  obtain ⟨i4, hi4, hz4, hs4, hb4⟩ := info_parts info114
  have hmk := run_make (P := Tryz.prog) (w := W) 136 120 i4 (.agg #[.int .i64 0]) Tryz.underlying136 hi4 hz4 .i64 .i64 wd wd (by omega) (by omega) (by rw [hb4]; omega) (by omega)
  rw [hs4] at hmk
  simp only [Int.toNat_natCast, Nat.mul_one] at hmk
  exact hmk

theorem made_app {base c wd b n : Nat} {u : Nat → Value} {L : Nat → Nat} {R : Nat → Nat → Nat} {V : Nat → Nat → Nat → Int} {wr w2 : World} (h : Held base c wd u L R V wr) (hb : b < 2) (hn : L b = n)
    (e : w2.heap = (wr.heap.push (.cells (madeCells #[.int .i64 0] wd) 120)).push (.cells #[slv wr.heap.size wd] 136)) : w2.ownsRow base 136 1 (u b) n (sl (R b) wd n) := by
  subst hn
  refine own_block (h.own b hb) fun g hg => ?_
  obtain ⟨_, cur, q⟩ := own_tag (h.own b hb) hg
  have := blk_lt q
  rw [e, Array.getElem?_push, if_neg (by simp; omega), Array.getElem?_push, if_neg (by omega)]
theorem made_size {x : Nat} {wr w2 : World} {wd : Nat} (h : x ≤ wr.heap.size) (e : w2.heap = (wr.heap.push (.cells (madeCells #[.int .i64 0] wd) 120)).push (.cells #[slv wr.heap.size wd] 136)) : x ≤ w2.heap.size := by
  rw [e]; simp; omega
theorem made_news {wr w2 : World} {wd : Nat} (e : w2.heap = (wr.heap.push (.cells (madeCells #[.int .i64 0] wd) 120)).push (.cells #[slv wr.heap.size wd] 136)) :
    ∀ (j : Nat) (x : Value), ([slv wr.heap.size wd] : List Value)[j]? = some x → w2.cell? ((⟨wr.heap.size + 1, 0, none⟩ : Addr).add j) = some x := by
  intro j x hx
  match j, hx with
  | 0, hx =>
    have : w2.heap[wr.heap.size + 1]? = some (.cells #[slv wr.heap.size wd] 136 (0, 0)) := by rw [e, Array.getElem?_push, if_pos (by simp)]
    show w2.cell? ⟨wr.heap.size + 1, 0, none⟩ = _
    rw [blk_cell this]; simpa using hx
  | j + 1, hx => simp at hx
structure After (w : World) (base c wd b n : Nat) (u : Nat → Value) (L : Nat → Nat) (R : Nat → Nat → Nat) (V : Nat → Nat → Nat → Int) (r : Nat) (v' : Value) (w3 : World) : Prop where
  cell : w3.cell? ⟨c, b, none⟩ = some (u b)
  free : w3.frozen? ⟨c, b, none⟩ = false
  held : Held base c wd (upd u b v') (upd L b (n + 1)) (upd2 R b n r) (upd2 V b n (fun _ => 0)) (w3.setCell ⟨c, b, none⟩ v')
  only : Only (fun _ => False) w (w3.setCell ⟨c, b, none⟩ v')
theorem made_after {c wd b n : Nat} {u : Nat → Value} {L : Nat → Nat} {R : Nat → Nat → Nat} {V : Nat → Nat → Nat → Int} {w wr w2 w3 : World} {v' : Value} (O : Only (fun _ => False) w wr) (h : Held w.heap.size c wd u L R V wr) (hb : b < 2) (hn : L b = n)
    (hg : Grew w2 w3 (u b) v' (n * 1)) (ho : w3.ownsRow w.heap.size 136 1 v' (n + 1) (sl (R b) wd n ++ [slv wr.heap.size wd]))
    (e : w2.heap = (wr.heap.push (.cells (madeCells #[.int .i64 0] wd) 120)).push (.cells #[slv wr.heap.size wd] 136)) (e1 : w2.os = wr.os) (e2 : w2.tape = wr.tape) (e3 : w2.output = wr.output) :
    ∃ g cap, v' = .slice (some ⟨g, 0, none⟩) (n + 1) cap ∧ After w w.heap.size c wd b n u L R V wr.heap.size v' w3 := by
  have hk : ∀ (k : Nat) (o : Obj), w.heap.size ≤ w.heap.size → wr.heap[k]? = some o → w2.heap[k]? = some o := by
    intro k o _ q
    have := blk_lt q
    rw [e, Array.getElem?_push, if_neg (by simp; omega), Array.getElem?_push, if_neg (by omega), q]
  have hsz : w2.heap.size = wr.heap.size + 2 := by rw [e]; simp
  have hOs := O.size
  have hW : Words w2 wr.heap.size (fun _ => 0) wd := by
    have q : Words (wr.alloc (.cells (madeCells #[.int .i64 0] wd) 120)) wr.heap.size (fun _ => 0) wd := Words.made wr wd
    refine q.of_block ?_
    rw [e, Array.getElem?_push, if_neg (by simp)]; rfl
  have hH := h.grow hb hn (fun k o q => hk k o (Nat.le_refl _) q) rfl hW hOs hg ho
  have hc2 := hk _ _ (Nat.le_refl _) h.obj
  have hc3 : w3.heap[c]? = some (.cells #[u 0, u 1] 140 (0, 0)) := by
    rw [hg.grown.block c (blk_lt hc2) ?_, hc2]
    intro q
    obtain ⟨_, cur, q2⟩ := own_tag (h.own b hb) q.symm
    rw [h.obj] at q2; injection q2 with q2; injection q2 with _ q2 _; exact absurd q2 (by decide)
  have hv : ∃ g cap, v' = .slice (some ⟨g, 0, none⟩) (n + 1) cap := by
    rcases ho.2 with ⟨_, q⟩ | ⟨g, cap, cur, q, _⟩
    · omega
    · exact ⟨g, cap, q⟩
  obtain ⟨g, cap, hv⟩ := hv
  refine ⟨g, cap, hv, ⟨?_, blk_free hc3 _, hH, ?_⟩⟩
  · rw [blk_cell hc3]
    have hcs : b = 0 ∨ b = 1 := by omega
    rcases hcs with rfl | rfl <;> rfl
  · have O2 : Only (fun _ => False) w w2 := ⟨e1.trans O.os, e2.trans O.tape, e3.trans O.output, by omega, fun k q _ => by
      have q2 : k < wr.heap.size := by omega
      rw [e, Array.getElem?_push, if_neg (by simp; omega), Array.getElem?_push, if_neg (by omega)]
      exact O.block k q (by simp)⟩
    refine (O2.grown hg.grown fun k q => .inl (own_tag (h.own b hb) q).1).setCell (.inl h.cge) _

set_option maxHeartbeats 1000000 in
theorem made_calls (st wd : Nat) (w : World) (h1 : st ≤ 16) (h2 : wd ≤ 1048576) : Calls Tryz.prog 46 #[.int .i64 st, .int .i64 wd] w (MadeRes st wd w) := by
  obtain ⟨i3, hi3, hz3, hs3, hb3⟩ := info_parts info103
  go_enter Tryz.func46, Tryz.ntmps46
  go_wp2_with fail
  go_loopw [9] (fun v wr => MadeOut w.heap.size st wd w v wr) (fun v _ => 2 - (intOf v).toNat)
  case atStart => exact .inl ⟨rfl, (Only.refl _ w).alloc _, fun _ => .slice none 0 0, fun _ => 0, fun _ _ => 0, fun _ _ _ => 0, rfl, rfl, Held.start w wd⟩
  case round =>
    rcases hrel with ⟨rfl, hM⟩ | ⟨rfl, hM⟩ | ⟨rfl, hM⟩
    · go_wp2_with fail
      go_loopw [13] (fun v wr => MadeIn w.heap.size st wd 0 w v wr) (fun v _ => st - (intOf v).toNat)
      case atStart => exact ⟨0, by omega, rfl, hM⟩
      case round =>
        obtain ⟨k, hk, rfl, hI⟩ := hrel
        clear hM
        by_cases hlt : k < st
        · obtain ⟨O1, u, L, R, V, E0, E1, hH⟩ := hI
          have e0 : L 0 = k := by simpa using E0
          have e1 : L 1 = 0 := by simpa using E1
          clear E0 E1
          have c0 : wr.cell? ⟨w.heap.size, 0, none⟩ = some (u 0) := by rw [blk_cell hH.obj]; rfl
          have c1 : wr.frozen? ⟨w.heap.size, 0, none⟩ = false := blk_free hH.obj _
          have hmk := run_make114 wd h2
          have hsz := Lib.hid O1.size
          have c2 : (wr.alloc (.cells (madeCells #[.int .i64 0] wd) 120)).cell? ⟨w.heap.size, 0, none⟩ = some (u 0) := by rw [blk_cell (blk_alloc hH.obj _)]; rfl
          have c3 : ((wr.alloc (.cells (madeCells #[.int .i64 0] wd) 120)).alloc (.cells #[.slice (some ⟨wr.heap.size, 0, none⟩) wd wd] 136)).cell? ⟨w.heap.size, 0, none⟩ = some (u 0) := by rw [blk_cell (blk_alloc (blk_alloc hH.obj _) _)]; rfl
          have hH' := Lib.hid hH; clear hH
          go_wp2_with fail
          go_region_law (refine step_append_kept rfl (.tmp 22) (.tmp 25) 137 rfl 136 i3 (.slice none 0 0) 1 24 Tryz.underlying137 hi3 hz3 hs3 hb3 rfl (by decide) w.heap.size k (u 0) (sl (R 0) wd k) (by simp [Act.eval]) (made_app hH'.out (by decide) e0 rfl) (made_size hsz.out rfl) ⟨wr.heap.size + 1, 0, none⟩ 1 1 [slv wr.heap.size wd] (by simp [Act.eval]) rfl (made_news rfl) (by simp [slv, Value.oneCell']) (by decide) (by unfold maxLen; omega) (by omega) ?_; intro v' w' hgr hown; obtain ⟨g, cap, rfl, hA⟩ := made_after O1 hH'.out (by decide) e0 hgr hown rfl rfl rfl rfl; have d0 := hA.cell; have d1 := hA.free; have hA' := Lib.hid hA; clear hA hgr hown)
          · clear c0 c1 c2 c3
            go_wp2_with fail
            go_roundw
            case rel => exact ⟨k + 1, by omega, by go_num, hA'.out.only, _, _, _, _, by simp [upd], by simpa [upd] using e1, hA'.out.held⟩
            case measure => simp [intOf]; omega
          · clear c0 c1 c2 c3
            go_wp2_with fail
            go_roundw
            case rel => exact ⟨k + 1, by omega, by go_num, hA'.out.only, _, _, _, _, by simp [upd], by simpa [upd] using e1, hA'.out.held⟩
            case measure => simp [intOf]; omega
          · clear c0 c1 c2 c3
            go_wp2_with fail
            go_roundw
            case rel => exact ⟨k + 1, by omega, by go_num, hA'.out.only, _, _, _, _, by simp [upd], by simpa [upd] using e1, hA'.out.held⟩
            case measure => simp [intOf]; omega
        · obtain rfl : k = st := by omega
          go_wp2_with fail
          go_roundw
          case rel => exact .inr (.inl ⟨rfl, by simpa [MadeAt] using hI⟩)
          case measure => simp [intOf]
    · go_wp2_with fail
      go_loopw [13] (fun v wr => MadeIn w.heap.size st wd 1 w v wr) (fun v _ => st - (intOf v).toNat)
      case atStart => exact ⟨0, by omega, rfl, hM⟩
      case round =>
        obtain ⟨k, hk, rfl, hI⟩ := hrel
        clear hM
        by_cases hlt : k < st
        · obtain ⟨O1, u, L, R, V, E0, E1, hH⟩ := hI
          have e0 : L 0 = st := by simpa using E0
          have e1 : L 1 = k := by simpa using E1
          clear E0 E1
          have c0 : wr.cell? ⟨w.heap.size, 1, none⟩ = some (u 1) := by rw [blk_cell hH.obj]; rfl
          have c1 : wr.frozen? ⟨w.heap.size, 1, none⟩ = false := blk_free hH.obj _
          have hmk := run_make114 wd h2
          have hsz := Lib.hid O1.size
          have c2 : (wr.alloc (.cells (madeCells #[.int .i64 0] wd) 120)).cell? ⟨w.heap.size, 1, none⟩ = some (u 1) := by rw [blk_cell (blk_alloc hH.obj _)]; rfl
          have c3 : ((wr.alloc (.cells (madeCells #[.int .i64 0] wd) 120)).alloc (.cells #[.slice (some ⟨wr.heap.size, 0, none⟩) wd wd] 136)).cell? ⟨w.heap.size, 1, none⟩ = some (u 1) := by rw [blk_cell (blk_alloc (blk_alloc hH.obj _) _)]; rfl
          have hH' := Lib.hid hH; clear hH
          go_wp2_with fail
          go_region_law (refine step_append_kept rfl (.tmp 22) (.tmp 25) 137 rfl 136 i3 (.slice none 0 0) 1 24 Tryz.underlying137 hi3 hz3 hs3 hb3 rfl (by decide) w.heap.size k (u 1) (sl (R 1) wd k) (by simp [Act.eval]) (made_app hH'.out (by decide) e1 rfl) (made_size hsz.out rfl) ⟨wr.heap.size + 1, 0, none⟩ 1 1 [slv wr.heap.size wd] (by simp [Act.eval]) rfl (made_news rfl) (by simp [slv, Value.oneCell']) (by decide) (by unfold maxLen; omega) (by omega) ?_; intro v' w' hgr hown; obtain ⟨g, cap, rfl, hA⟩ := made_after O1 hH'.out (by decide) e1 hgr hown rfl rfl rfl rfl; have d0 := hA.cell; have d1 := hA.free; have hA' := Lib.hid hA; clear hA hgr hown)
          · clear c0 c1 c2 c3
            go_wp2_with fail
            go_roundw
            case rel => exact ⟨k + 1, by omega, by go_num, hA'.out.only, _, _, _, _, by simpa [upd] using e0, by simp [upd], hA'.out.held⟩
            case measure => simp [intOf]; omega
          · clear c0 c1 c2 c3
            go_wp2_with fail
            go_roundw
            case rel => exact ⟨k + 1, by omega, by go_num, hA'.out.only, _, _, _, _, by simpa [upd] using e0, by simp [upd], hA'.out.held⟩
            case measure => simp [intOf]; omega
          · clear c0 c1 c2 c3
            go_wp2_with fail
            go_roundw
            case rel => exact ⟨k + 1, by omega, by go_num, hA'.out.only, _, _, _, _, by simpa [upd] using e0, by simp [upd], hA'.out.held⟩
            case measure => simp [intOf]; omega
        · obtain rfl : k = st := by omega
          go_wp2_with fail
          go_roundw
          case rel => exact .inr (.inr ⟨rfl, by simpa [MadeAt] using hI⟩)
          case measure => simp [intOf]
    · obtain ⟨O1, u, L, R, V, e0, e1, hH⟩ := hM
      go_wp2_with fail
      go_ret
      exact ⟨rfl, O1, u, L, R, V, fun b hb => by
        have hb' : b = 0 ∨ b = 1 := by omega
        rcases hb' with rfl | rfl
        · simpa using e0
        · simpa using e1, hH⟩
end Go.Proofs.YtlipngdfhpaodaaGreat
