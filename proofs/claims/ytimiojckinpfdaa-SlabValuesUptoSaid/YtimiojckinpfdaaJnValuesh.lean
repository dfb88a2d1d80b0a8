/- The walks of the book's add and stays: lists that came out, each of which bears a mark of its own. -/
import Derived.Test.YtimiojckinpfdaaRows
import Derived.Deep.RegionHeld3
import Derived.StillTailTactics
import Derived.Test.YtimiojckinpfdaaJnValuesg
namespace Go.Proofs.Ytimiojckinpfdaa
open Go.RowKit Srt

theorem info36 : (Try.prog.info? 36).map (fun i => (i.zero, i.size, i.bytes)) = some (some (.slice none 0 0), 1, 24) := by kernel_rfl
def mrk (k : Nat) : Cn := (-1 - (k : Int), 0)
def vs (L : Nat → Value) (K : Nat) : List Value := (List.range K).map L
theorem vs_len (L : Nat → Value) (K : Nat) : (vs L K).length = K := by simp [vs]
theorem vs_get (L : Nat → Value) {K k : Nat} (h : k < K) : (vs L K)[k]? = some (L k) := by simp [vs, h]
theorem vs_snoc (L : Nat → Value) (K : Nat) : vs L (K + 1) = vs L K ++ [L K] := by simp [vs, List.range_succ]
theorem vs_congr {L M : Nat → Value} {K : Nat} (h : ∀ k, k < K → L k = M k) : vs L K = vs M K := by
  unfold vs; exact List.map_congr_left fun k hk => h k (by simpa using hk)
/-- a slice whose counts all bear the mark of k -/
def Mk (w : World) (S : Nat → Prop) (v : Value) (k : Nat) : Prop :=
  ∃ p n c, v = .slice p n c ∧ n ≤ maxLen ∧ Cnts w p n (fun _ => mrk k) ∧ ∀ a, p = some a → S a.block ∧ ∃ cur, w.heap[a.block]? = some (.cells cur 55 (0, 0))
theorem Mk.only {S T : Nat → Prop} {w w' : World} {v : Value} {k : Nat} (h : Mk w S v k) (O : Only T w w') (hT : ∀ i cur, S i → w.heap[i]? = some (.cells cur 55 (0, 0)) → ¬ T i) : Mk w' S v k := by
  obtain ⟨p, n, c, e, h1, h2, h3⟩ := h
  have key : ∀ a, p = some a → ¬ T a.block := fun a ha => by
    obtain ⟨q1, cur, q2⟩ := h3 a ha
    exact hT _ cur q1 q2
  exact ⟨p, n, c, e, h1, h2.only O key, fun a ha => ⟨(h3 a ha).1, by obtain ⟨cur, q⟩ := (h3 a ha).2; exact ⟨cur, O.blk q (key a ha)⟩⟩⟩
theorem Mk.mono {S T : Nat → Prop} {w : World} {v : Value} {k : Nat} (h : Mk w S v k) (hs : ∀ i, S i → T i) : Mk w T v k := by
  obtain ⟨p, n, c, e, h1, h2, h3⟩ := h
  exact ⟨p, n, c, e, h1, h2, fun a ha => ⟨hs _ (h3 a ha).1, (h3 a ha).2⟩⟩
/-- the book in memory; S: the blocks that are its own -/
structure BookC (w : World) (b A B : Nat) (lv gv : Value) (n : Int) (L G : Nat → Value) (S : Nat → Prop) : Prop where
  obj : w.heap[b]? = some (.cells #[lv, gv, .int .i64 n, .bool false] 59 (0, 0))
  sb : S b
  rl : w.ownsRow 0 36 1 lv A (vs L A)
  rg : w.ownsRow 0 36 1 gv B (vs G B)
  sl : ∀ g, lv.ownBlock = some g → S g
  sg : ∀ g, gv.ownBlock = some g → S g
  ne : ∀ g, lv.ownBlock = some g → gv.ownBlock = some g → False
  el : ∀ k, k < A → Mk w S (L k) k
  eg : ∀ k, k < B → Mk w S (G k) k
theorem BookC.only {S T : Nat → Prop} {w w' : World} {b A B : Nat} {lv gv : Value} {n : Int} {L G : Nat → Value} (h : BookC w b A B lv gv n L G S) (O : Only T w w') (hT : ∀ i, S i → ¬ T i) : BookC w' b A B lv gv n L G S :=
  ⟨O.blk h.obj (hT _ h.sb), h.sb, own_block h.rl fun g hg => by obtain ⟨_, cur, q⟩ := own_tag h.rl hg; rw [O.blk q (hT _ (h.sl g hg)), q],
    own_block h.rg fun g hg => by obtain ⟨_, cur, q⟩ := own_tag h.rg hg; rw [O.blk q (hT _ (h.sg g hg)), q], h.sl, h.sg, h.ne,
    fun k hk => (h.el k hk).only O fun i _ hi _ => hT i hi, fun k hk => (h.eg k hk).only O fun i _ hi _ => hT i hi⟩
theorem tag_ne {w : World} {i : Nat} {c c' : Array Value} {t t' : TypeId} {f f' : Nat × Nat} (h : w.heap[i]? = some (.cells c t f)) (h' : w.heap[i]? = some (.cells c' t' f')) (hne : t ≠ t') : False := by
  rw [h] at h'; injection h' with h'; injection h' with _ e _; exact hne e
theorem BookC.app_l {S S' : Nat → Prop} {w w2 w3 : World} {b A B keep : Nat} {lv gv lv' x : Value} {n : Int} {L G : Nat → Value} (h : BookC w b A B lv gv n L G S) (O2 : Only (fun _ => False) w w2) (hg : Grew w2 w3 lv lv' keep)
    (ho : w3.ownsRow 0 36 1 lv' (A + 1) (vs L A ++ [x])) (hx : Mk w S' x A) (hS : ∀ k, S k → S' k) (hnew : ∀ k, w.heap.size ≤ k → S' k) :
    BookC (w3.setCell ⟨b, 0, none⟩ lv') b (A + 1) B lv' gv n (fun k => if k = A then x else L k) G S' ∧ Only (fun k => S k) w (w3.setCell ⟨b, 0, none⟩ lv') ∧ ∀ v k, Mk w S' v k → Mk (w3.setCell ⟨b, 0, none⟩ lv') S' v k := by
  have O3 : Only (fun k => lv.ownBlock = some k) w w3 := (O2.mono (T := fun k => lv.ownBlock = some k) (fun _ _ q => q.elim)).grown hg.grown (fun k hk => .inr hk)
  have O4 : Only (fun k => lv.ownBlock = some k ∨ k = b) w (w3.setCell ⟨b, 0, none⟩ lv') := (O3.mono (T := fun k => lv.ownBlock = some k ∨ k = b) (fun _ _ q => .inl q)).setCell (p := ⟨b, 0, none⟩) (.inr (.inr rfl)) lv'
  have lb : lv.ownBlock ≠ some b := fun e => by
    obtain ⟨_, cur, q⟩ := own_tag h.rl e
    exact tag_ne q h.obj (by decide)
  have hb3 := O3.blk h.obj lb
  have mk : ∀ v k, Mk w S v k → Mk (w3.setCell ⟨b, 0, none⟩ lv') S' v k := fun v k hm => (hm.only O4 fun i cur _ hi hT => by
    rcases hT with hT | rfl
    · obtain ⟨_, c', q⟩ := own_tag h.rl hT
      exact tag_ne hi q (by decide)
    · exact tag_ne hi h.obj (by decide)).mono hS
  have mk' : ∀ v k, Mk w S' v k → Mk (w3.setCell ⟨b, 0, none⟩ lv') S' v k := fun v k hm => hm.only O4 fun i cur _ hi hT => by
    rcases hT with hT | rfl
    · obtain ⟨_, c', q⟩ := own_tag h.rl hT
      exact tag_ne hi q (by decide)
    · exact tag_ne hi h.obj (by decide)
  refine ⟨⟨?_, hS _ h.sb, ?_, ?_, ?_, fun g hg' => hS _ (h.sg g hg'), ?_, ?_, fun k hk => mk _ _ (h.eg k hk)⟩, O4.mono ?_, mk'⟩
  · rw [blk_set hb3]; rfl
  · rw [vs_snoc, if_pos rfl, vs_congr (M := L) (fun k hk => if_neg (by omega))]
    refine own_block ho fun g hg' => ?_
    obtain ⟨_, cur, q⟩ := own_tag ho hg'
    exact Below.heap_setCell _ _ _ _ (fun e => by subst e; exact tag_ne q hb3 (by decide))
  · refine own_block h.rg fun g hg' => ?_
    obtain ⟨_, cur, q⟩ := own_tag h.rg hg'
    rw [O4.blk q (fun hT => by
      rcases hT with hT | rfl
      · exact h.ne g hT hg'
      · exact tag_ne q h.obj (by decide)), q]
  · intro g hg'
    rcases hg.which with e | ⟨g', e, hge⟩
    · exact hS _ (h.sl g (by rw [← e]; exact hg'))
    · rw [e] at hg'; injection hg' with hg'; subst hg'
      exact hnew _ (Nat.le_trans O2.size hge)
  · intro g h1 h2
    rcases hg.which with e | ⟨g', e, hge⟩
    · exact h.ne g (by rw [← e]; exact h1) h2
    · rw [e] at h1; injection h1 with h1; subst h1
      obtain ⟨_, cur, q⟩ := own_tag h.rg h2
      have := blk_lt q
      have := O2.size
      omega
  · intro k hk
    by_cases e : k = A
    · subst e; rw [if_pos rfl]; exact mk' _ _ hx
    · rw [if_neg e]; exact mk _ _ (h.el k (by omega))
  · rintro k _ (hk | rfl)
    · exact h.sl k hk
    · exact h.sb
theorem BookC.app_g {S S' : Nat → Prop} {w w2 w3 : World} {b A B keep : Nat} {lv gv gv' x : Value} {n : Int} {L G : Nat → Value} (h : BookC w b A B lv gv n L G S) (O2 : Only (fun _ => False) w w2) (hg : Grew w2 w3 gv gv' keep)
    (ho : w3.ownsRow 0 36 1 gv' (B + 1) (vs G B ++ [x])) (hx : Mk w S' x B) (hS : ∀ k, S k → S' k) (hnew : ∀ k, w.heap.size ≤ k → S' k) :
    BookC (w3.setCell ⟨b, 1, none⟩ gv') b A (B + 1) lv gv' n L (fun k => if k = B then x else G k) S' ∧ Only (fun k => S k) w (w3.setCell ⟨b, 1, none⟩ gv') ∧ ∀ v k, Mk w S' v k → Mk (w3.setCell ⟨b, 1, none⟩ gv') S' v k := by
  have O3 : Only (fun k => gv.ownBlock = some k) w w3 := (O2.mono (T := fun k => gv.ownBlock = some k) (fun _ _ q => q.elim)).grown hg.grown (fun k hk => .inr hk)
  have O4 : Only (fun k => gv.ownBlock = some k ∨ k = b) w (w3.setCell ⟨b, 1, none⟩ gv') := (O3.mono (T := fun k => gv.ownBlock = some k ∨ k = b) (fun _ _ q => .inl q)).setCell (p := ⟨b, 1, none⟩) (.inr (.inr rfl)) gv'
  have lb : gv.ownBlock ≠ some b := fun e => by
    obtain ⟨_, cur, q⟩ := own_tag h.rg e
    exact tag_ne q h.obj (by decide)
  have hb3 := O3.blk h.obj lb
  have mk : ∀ v k, Mk w S v k → Mk (w3.setCell ⟨b, 1, none⟩ gv') S' v k := fun v k hm => (hm.only O4 fun i cur _ hi hT => by
    rcases hT with hT | rfl
    · obtain ⟨_, c', q⟩ := own_tag h.rg hT
      exact tag_ne hi q (by decide)
    · exact tag_ne hi h.obj (by decide)).mono hS
  have mk' : ∀ v k, Mk w S' v k → Mk (w3.setCell ⟨b, 1, none⟩ gv') S' v k := fun v k hm => hm.only O4 fun i cur _ hi hT => by
    rcases hT with hT | rfl
    · obtain ⟨_, c', q⟩ := own_tag h.rg hT
      exact tag_ne hi q (by decide)
    · exact tag_ne hi h.obj (by decide)
  refine ⟨⟨?_, hS _ h.sb, ?r2, ?r1, fun g hg' => hS _ (h.sl g hg'), ?_, ?_, fun k hk => mk _ _ (h.el k hk), ?_⟩, O4.mono ?_, mk'⟩
  · rw [blk_set hb3]; rfl
  case r1 =>
    rw [vs_snoc, if_pos rfl, vs_congr (M := G) (fun k hk => if_neg (by omega))]
    refine own_block ho fun g hg' => ?_
    obtain ⟨_, cur, q⟩ := own_tag ho hg'
    exact Below.heap_setCell _ _ _ _ (fun e => by subst e; exact tag_ne q hb3 (by decide))
  case r2 =>
    refine own_block h.rl fun g hg' => ?_
    obtain ⟨_, cur, q⟩ := own_tag h.rl hg'
    rw [O4.blk q (fun hT => by
      rcases hT with hT | rfl
      · exact h.ne g hg' hT
      · exact tag_ne q h.obj (by decide)), q]
  · intro g hg'
    rcases hg.which with e | ⟨g', e, hge⟩
    · exact hS _ (h.sg g (by rw [← e]; exact hg'))
    · rw [e] at hg'; injection hg' with hg'; subst hg'
      exact hnew _ (Nat.le_trans O2.size hge)
  · intro g h1 h2
    rcases hg.which with e | ⟨g', e, hge⟩
    · exact h.ne g h1 (by rw [← e]; exact h2)
    · rw [e] at h2; injection h2 with h2; subst h2
      obtain ⟨_, cur, q⟩ := own_tag h.rl h1
      have := blk_lt q
      have := O2.size
      omega
  · intro k hk
    by_cases e : k = B
    · subst e; rw [if_pos rfl]; exact mk' _ _ hx
    · rw [if_neg e]; exact mk _ _ (h.eg k (by omega))
  · rintro k _ (hk | rfl)
    · exact h.sg k hk
    · exact h.sb
def BookAt (w : World) (b : Nat) (S : Nat → Prop) : Prop := ∃ K lv gv n L G, BookC w b K K lv gv n L G S ∧ 40 * (K : Int) ≤ n ∧ n < 2048
theorem BookAt.only {S T : Nat → Prop} {w w' : World} {b : Nat} (h : BookAt w b S) (O : Only T w w') (hT : ∀ i, S i → ¬ T i) : BookAt w' b S := by
  obtain ⟨K, lv, gv, n, L, G, h, h1, h2⟩ := h
  exact ⟨K, lv, gv, n, L, G, h.only O hT, h1, h2⟩
theorem row_get {w : World} {base e n : Nat} {v : Value} {xs : List Value} (h : w.ownsRow base e 1 v n xs) {i : Nat} {x : Value} (hx : xs[i]? = some x) :
    ∃ g cap, v = .slice (some ⟨g, 0, none⟩) n cap ∧ w.cell? ⟨g, i, none⟩ = some x := by
  have hi : i < n := by
    have := (List.getElem?_eq_some_iff.1 hx).1
    have := h.1; omega
  rcases h.2 with ⟨_, e⟩ | ⟨g, cap, cur, rfl, _, hb, _, _, hs, ht⟩
  · omega
  · refine ⟨g, cap, rfl, ?_⟩
    rw [blk_cell hb, ← hx, ← ht, List.getElem?_take, if_pos (by omega), Array.getElem?_toList]
theorem row_shape {w : World} {base e n : Nat} {v : Value} {xs : List Value} {s : Nat} (h : w.ownsRow base e s v n xs) : ∃ p cap, v = .slice p n cap := by
  rcases h.2 with ⟨rfl, rfl⟩ | ⟨g, cap, cur, rfl, _⟩
  · exact ⟨none, 0, rfl⟩
  · exact ⟨_, cap, rfl⟩

/-- what a round of stays reads -/
structure StayOut (wr : World) (b bm k K : Nat) (pl : Option Addr) (nl cl : Nat) (pg : Option Addr) (ng cg : Nat) (gl gg capl capg : Nat) : Prop where
  c0 : wr.cell? ⟨b, 0, none⟩ = some (.slice (some ⟨gl, 0, none⟩) K capl)
  c1 : wr.cell? ⟨b, 1, none⟩ = some (.slice (some ⟨gg, 0, none⟩) K capg)
  r0 : wr.cell? ⟨gl, k, none⟩ = some (.slice pl nl cl)
  r1 : wr.cell? ⟨gg, k, none⟩ = some (.slice pg ng cg)
  m0 : wr.cell? ⟨bm, 0, none⟩ = some (.int .i64 (-1 - (k : Int)))
  m1 : wr.cell? ⟨bm, 1, none⟩ = some (.int .u64 0)
  xl : Cnts wr pl nl (fun _ => mrk k)
  xg : Cnts wr pg ng (fun _ => mrk k)

set_option maxRecDepth 100000 in
set_option maxHeartbeats 4000000 in
theorem stays_in (w : World) (b K : Nat) (lv gv : Value) (n : Int) (L G : Nat → Value) (S : Nat → Prop) (hK : K ≤ 60) (h : BookC w b K K lv gv n L G S) :
    Calls Try.prog 21 #[.pointer (some ⟨b, 0, none⟩)] w fun e w' => e = .returned (.bool true) ∧ Only (fun _ => False) w w' := by
  have H := Lib.hid h
  obtain ⟨pl, capl, el⟩ := row_shape h.rl
  obtain ⟨pg, capg, eg⟩ := row_shape h.rg
  have EL := Lib.hid el
  have EG := Lib.hid eg
  clear h el eg
  have kn := run_ne55s
  go_enter Try.func21, Try.ntmps21
  go_wp2_with fail
  go_loopw [3] (fun i wr => ∃ k : Nat, k ≤ K ∧ i = .int .i64 k ∧ Only (fun _ => False) w wr) (fun i _ => K - (intOf i).toNat)
  case atStart => exact ⟨0, Nat.zero_le _, rfl, Only.refl _ _⟩
  case round =>
    obtain ⟨k, hk, rfl, O⟩ := hrel
    have HO := Lib.hid O; clear O
    have c0 : wr.cell? ⟨b, 0, none⟩ = some (.slice pl K capl) := by rw [blk_cell (HO.out.blk H.out.obj id), ← EL.out]; rfl
    have c3 : wr.cell? ⟨b, 3, none⟩ = some (.bool false) := blk_cell (HO.out.blk H.out.obj id) 3
    by_cases hlt : k < K
    · obtain ⟨gl, cpl, q1, r0⟩ := row_get H.out.rl (vs_get L hlt)
      obtain ⟨gg, cpg, q2, r1⟩ := row_get H.out.rg (vs_get G hlt)
      obtain ⟨p1, n1, x1, e1, b1, m1, t1⟩ := H.out.el k hlt
      obtain ⟨p2, n2, x2, e2, b2, m2, t2⟩ := H.out.eg k hlt
      rw [e1] at r0
      rw [e2] at r1
      have key : ∀ wx, Only (fun _ => False) w wx → wx.heap[wr.heap.size]? = some (.cells #[.int .i64 (-1 - (k : Int)), .int .u64 0] 55 (0, 0)) → StayOut wx b wr.heap.size k K p1 n1 x1 p2 n2 x2 gl gg cpl cpg := by
        intro wx hO hm
        have hb := hO.blk H.out.obj id
        exact ⟨by rw [blk_cell hb, q1]; rfl, by rw [blk_cell hb, q2]; rfl, hO.cel r0 id, hO.cel r1 id, blk_cell hm 0, blk_cell hm 1, m1.only hO (fun _ _ => id), m2.only hO (fun _ _ => id)⟩
      have KEY := Lib.hid key
      have B1 : n1 ≤ 9223372036854775807 := by unfold maxLen at b1; omega
      have B2 : n2 ≤ 9223372036854775807 := by unfold maxLen at b2; omega
      clear key q1 q2 r0 r1 e1 e2 m1 m2 t1 t2 b1 b2 c3
      go_wp2_with fail
      have HN := Lib.hid (blk_new wr (.cells #[.int .i64 (-1 - (k : Int)), .int .u64 0] 55))
      have HO1 := Lib.hid (HO.out.alloc (.cells #[.int .i64 (-1 - (k : Int)), .int .u64 0] 55))
      clear c0
      generalize wr.heap.size = bm at *
      generalize wr.alloc (.cells #[.int .i64 (-1 - (k : Int)), .int .u64 0] 55) = wm at *
      go_loopw [5] (fun i wx => ∃ j : Nat, j ≤ n2 ∧ i = .int .i64 j ∧ Only (fun _ => False) wm wx) (fun i _ => n2 - (intOf i).toNat)
      case atStart => exact ⟨0, Nat.zero_le _, rfl, Only.refl _ _⟩
      case round =>
        obtain ⟨j, hj, rfl, Q⟩ := hrel
        obtain ⟨c0, c1, r0, r1, d0, d1, xl, xg⟩ := KEY.out _ (HO1.out.trans Q) (Q.blk HN.out id)
        have HQ := Lib.hid Q
        have HL := Lib.hid xl
        have HG := Lib.hid xg
        clear Q xl xg
        by_cases hjl : j < n2
        · obtain ⟨bg, og, rfl, _, y0, y1⟩ := HG.out j hjl
          unfold ci mrk at y0
          unfold cn mrk at y1
          dsimp only at y0 y1
          by_cases hj1 : j < n1
          · obtain ⟨bl, ol, rfl, _, z0, z1⟩ := HL.out j hj1
            unfold ci mrk at z0
            unfold cn mrk at z1
            dsimp only at z0 z1
            go_wp2_with fail
            go_quiet (fail)
            go_wp2
            go_roundw
            case rel => exact ⟨j + 1, by omega, by go_num, HQ.out.drewN _⟩
            case measure => simp [intOf]; omega
          · go_wp2_with fail
            go_quiet (fail)
            go_wp2
            go_roundw
            case rel => exact ⟨j + 1, by omega, by go_num, HQ.out.drewN _⟩
            case measure => simp [intOf]; omega
        · obtain rfl : j = n2 := by omega
          go_wp2_with fail
          go_roundw
          case rel => exact ⟨k + 1, by omega, by go_num, HO1.out.trans HQ.out⟩
          case measure => simp [intOf]; omega
    · obtain rfl : k = K := by omega
      go_wp2_with fail
      go_ret
      exact ⟨rfl, HO.out⟩

/-- behind i rounds of writing marks -/
structure WrIn (w : World) (v : Value) (m K : Nat) (f : Nat → Cn) (i : Nat) (wr : World) : Prop where
  le : i ≤ m
  only : Only (fun k => v.ownBlock = some k) w wr
  own : wr.ownsRow 0 55 2 v m (cl (fun k => if k < i then mrk K else f k) m)
theorem WrIn.next {w wr : World} {g m cap K i : Nat} {f : Nat → Cn} (h : WrIn w (hv g m cap) m K f i wr) (hi : i < m) :
    WrIn w (hv g m cap) m K f (i + 1) ((wr.setCell ⟨g, i * 2, none⟩ (.int .i64 (-1 - (K : Int)))).setCell ⟨g, i * 2 + 1, none⟩ (.int .u64 0)) := by
  rcases own_row h.own with ⟨_, e⟩ | ⟨g', cap', e, _, R⟩
  · omega
  · simp [hv] at e
    obtain ⟨rfl, rfl⟩ := e
    have := (R.put i (mrk K)).congr (f' := fun k => if k < i + 1 then mrk K else f k) (fun k hk => by
      by_cases e : k = i
      · rw [if_pos e, if_pos (by omega)]
      · rw [if_neg e]
        by_cases e' : k < i
        · rw [if_pos e', if_pos (by omega)]
        · rw [if_neg e', if_neg (by omega)])
    exact ⟨hi, (h.only.setCell (p := ⟨g, i * 2, none⟩) (.inr rfl) _).setCell (p := ⟨g, i * 2 + 1, none⟩) (.inr rfl) _, this.own (Nat.zero_le _)⟩
/-- behind t rounds of append -/
structure ApIn (w : World) (v : Value) (m K t : Nat) (gv : Value) (wr : World) : Prop where
  le : t ≤ 30
  only : Only (fun k => v.ownBlock = some k) w wr
  own : wr.ownsRow 0 55 2 gv (m + t) (cl (fun _ => mrk K) (m + t))
  which : gv.ownBlock = v.ownBlock ∨ ∃ g, gv.ownBlock = some g ∧ w.heap.size ≤ g
  tag : ∀ i, v.ownBlock = some i → ∃ cur, wr.heap[i]? = some (.cells cur 55 (0, 0))
  old : ∃ p c, v = .slice p m c ∧ Cnts wr p m (fun _ => mrk K) ∧ (p = none → m = 0) ∧ ∀ a, p = some a → ∃ g, a = ⟨g, 0, none⟩
theorem mkd (K : Nat) : cl (fun _ => mrk K) 1 = [.int .i64 (-1 - (K : Int)), .int .u64 0] := rfl
theorem ApIn.next {w wr wa w' : World} {v gv v' : Value} {m K t : Nat} (h : ApIn w v m K t gv wr) (ht : t < 30) (O : Only (fun _ => False) wr wa) (hg : Grew wa w' gv v' ((m + t) * 2)) (ho : w'.ownsRow 0 55 2 v' (m + t + 1) (cl (fun _ => mrk K) (m + t) ++ [.int .i64 (-1 - (K : Int)), .int .u64 0])) :
    ApIn w v m K (t + 1) v' w' := by
  have Oa : Only (fun k => v.ownBlock = some k) w wa := h.only.trans (O.mono (fun _ _ q => q.elim))
  have hw : ∀ k, gv.ownBlock = some k → w.heap.size ≤ k ∨ v.ownBlock = some k := fun k hk => by
    rcases h.which with e | ⟨g, e, hge⟩
    · exact .inr (by rw [← e]; exact hk)
    · rw [e] at hk; injection hk with hk; subst hk; exact .inl hge
  obtain ⟨p, c, e, q, q0, qh⟩ := h.old
  refine ⟨by omega, Oa.grown hg.grown hw, ?_, ?_, ?_, p, c, e, ?_, q0, qh⟩
  · rw [← Nat.add_assoc, cl_snoc]; exact ho
  · rcases hg.which with e' | ⟨g, e', hge⟩
    · rw [e']; exact h.which
    · exact .inr ⟨g, e', Nat.le_trans Oa.size hge⟩
  · intro i hi
    obtain ⟨cur, hq⟩ := h.tag i hi
    have hq := O.blk hq id
    by_cases e : gv.ownBlock = some i
    · exact hg.tag i cur 55 e hq
    · exact ⟨cur, by rw [hg.grown.block i (blk_lt hq) (fun q => e q.symm), hq]⟩
  · intro i hi
    obtain ⟨b, o, eb, h1, h2, h3⟩ := (q.only O (fun _ _ => id)) i hi
    have hb1 : b < w'.heap.size := Nat.lt_of_lt_of_le h1 hg.grown.size
    obtain ⟨g, eg⟩ := qh _ eb
    injection eg with eg1 eg2; subst eg2; subst eg1
    by_cases hbl : gv.ownBlock = some b
    · exact ⟨b, 0, eb, hb1, by rw [hg.cells b _ hbl (by omega), h2], by rw [hg.cells b _ hbl (by omega), h3]⟩
    · have := hg.grown.block b h1 (fun e => hbl e.symm)
      exact ⟨b, 0, eb, hb1, by rw [World.cell?_of_block (w := wa) this, h2], by rw [World.cell?_of_block (w := wa) this, h3]⟩
theorem WrIn.done {w wr : World} {v : Value} {m K : Nat} {f : Nat → Cn} (h : WrIn w v m K f m wr) : ApIn w v m K 0 v wr := by
  have ho : wr.ownsRow 0 55 2 v m (cl (fun _ => mrk K) m) := by
    have := h.own
    rwa [cl_congr (c' := fun _ => mrk K) (fun i hi => if_pos hi)] at this
  refine ⟨Nat.zero_le _, h.only, ho, .inl rfl, fun i hi => (own_tag ho hi).2, ?_⟩
  rcases own_row ho with ⟨rfl, e⟩ | ⟨g, cap, rfl, _, R⟩
  · exact ⟨none, 0, by rw [e], by intro i hi; omega, fun _ => e, by intro a ha; cases ha⟩
  · exact ⟨_, cap, rfl, R.cnts (Nat.le_refl _), (fun q => by cases q), fun a ha => by injection ha with ha; exact ⟨g, ha.symm⟩⟩
theorem ApIn.marks {w wr : World} {v gv : Value} {m K t : Nat} {S : Nat → Prop} (h : ApIn w v m K t gv wr) (hm : m + 30 ≤ maxLen) (hS : ∀ k, v.ownBlock = some k ∨ w.heap.size ≤ k → S k) : Mk wr S v K ∧ Mk wr S gv K := by
  obtain ⟨p, c, e, q, q0, qh⟩ := h.old
  constructor
  · refine ⟨p, m, c, e, by omega, q, fun a ha => ?_⟩
    have : v.ownBlock = some a.block := by rw [e, ha]; rfl
    exact ⟨hS _ (.inl this), h.tag _ this⟩
  · rcases own_row h.own with ⟨rfl, e⟩ | ⟨g, cap, rfl, _, R⟩
    · exact ⟨none, 0, 0, rfl, Nat.zero_le _, by intro i hi; omega, by intro a ha; cases ha⟩
    · refine ⟨_, _, cap, rfl, by have := h.le; omega, R.cnts (Nat.le_refl _), fun a ha => ?_⟩
      injection ha with ha; subst ha
      refine ⟨?_, by obtain ⟨X, hX, _⟩ := R; exact ⟨X, hX⟩⟩
      rcases h.which with e | ⟨g', e, hge⟩
      · exact hS _ (.inl (by rw [← e]; rfl))
      · injection e with e; subst e; exact hS _ (.inr hge)

theorem box1_src (w : World) (x : Value) (t : TypeId) : ∀ (ad : Addr) j u, some (⟨w.heap.size, 0, none⟩ : Addr) = some ad → [x][j]? = some u → (w.alloc (.cells #[x] t)).cell? (ad.add j) = some u := by
  intro ad j u h hu
  injection h with h; subst h
  have hb := blk_new w (.cells #[x] t)
  have ha : (⟨w.heap.size, 0, none⟩ : Addr).add j = ⟨w.heap.size, j, none⟩ := by unfold Addr.add; split <;> simp_all
  rw [ha, blk_cell hb]; simpa using hu
/-- what the walk reads of the book -/
structure BookRd (w : World) (b : Nat) (lv gv : Value) (n : Int) : Prop where
  c0 : w.cell? ⟨b, 0, none⟩ = some lv
  c1 : w.cell? ⟨b, 1, none⟩ = some gv
  c2 : w.cell? ⟨b, 2, none⟩ = some (.int .i64 n)
  c3 : w.cell? ⟨b, 3, none⟩ = some (.bool false)
  f0 : w.frozen? ⟨b, 0, none⟩ = false
  f1 : w.frozen? ⟨b, 1, none⟩ = false
  f2 : w.frozen? ⟨b, 2, none⟩ = false
  f3 : w.frozen? ⟨b, 3, none⟩ = false
theorem book_rd {w : World} {b : Nat} {lv gv : Value} {n : Int} (h : w.heap[b]? = some (.cells #[lv, gv, .int .i64 n, .bool false] 59 (0, 0))) : BookRd w b lv gv n :=
  ⟨blk_cell h 0, blk_cell h 1, blk_cell h 2, blk_cell h 3, blk_free h 0, blk_free h 1, blk_free h 2, blk_free h 3⟩
theorem BookC.mid_l {S : Nat → Prop} {w w2 w3 : World} {b A B keep : Nat} {lv gv lv' : Value} {n : Int} {L G : Nat → Value} (h : BookC w b A B lv gv n L G S) (O2 : Only (fun _ => False) w w2) (hg : Grew w2 w3 lv lv' keep) : BookRd w3 b lv gv n := by
  refine book_rd ?_
  have h2 := O2.blk h.obj id
  rw [hg.grown.block b (blk_lt h2) (fun e => by
    obtain ⟨_, cur, q⟩ := own_tag h.rl e.symm
    exact tag_ne q h.obj (by decide)), h2]
theorem BookC.mid_g {S : Nat → Prop} {w w2 w3 : World} {b A B keep : Nat} {lv gv gv' : Value} {n : Int} {L G : Nat → Value} (h : BookC w b A B lv gv n L G S) (O2 : Only (fun _ => False) w w2) (hg : Grew w2 w3 gv gv' keep) : BookRd w3 b lv gv n := by
  refine book_rd ?_
  have h2 := O2.blk h.obj id
  rw [hg.grown.block b (blk_lt h2) (fun e => by
    obtain ⟨_, cur, q⟩ := own_tag h.rg e.symm
    exact tag_ne q h.obj (by decide)), h2]
theorem BookC.setn {S : Nat → Prop} {w : World} {b A B : Nat} {lv gv : Value} {n : Int} {L G : Nat → Value} (h : BookC w b A B lv gv n L G S) (n' : Int) : BookC (w.setCell ⟨b, 2, none⟩ (.int .i64 n')) b A B lv gv n' L G S := by
  have O := Only.set1 b w 2 (.int .i64 n')
  refine ⟨by rw [blk_set h.obj]; rfl, h.sb, own_block h.rl fun g hg => ?_, own_block h.rg fun g hg => ?_, h.sl, h.sg, h.ne, fun k hk => (h.el k hk).only O ?_, fun k hk => (h.eg k hk).only O ?_⟩
  · obtain ⟨_, cur, q⟩ := own_tag h.rl hg
    exact Below.heap_setCell _ _ _ _ (fun e => by subst e; exact tag_ne q h.obj (by decide))
  · obtain ⟨_, cur, q⟩ := own_tag h.rg hg
    exact Below.heap_setCell _ _ _ _ (fun e => by subst e; exact tag_ne q h.obj (by decide))
  · rintro i cur _ hi rfl; exact tag_ne hi h.obj (by decide)
  · rintro i cur _ hi rfl; exact tag_ne hi h.obj (by decide)
theorem BookC.wipe {S : Nat → Prop} {w : World} {b A B : Nat} {lv gv : Value} {n : Int} {L G : Nat → Value} (h : BookC w b A B lv gv n L G S) :
    BookAt ((((w.setCell ⟨b, 3, none⟩ (.bool false)).setCell ⟨b, 0, none⟩ (.slice none 0 0)).setCell ⟨b, 1, none⟩ (.slice none 0 0)).setCell ⟨b, 2, none⟩ (.int .i64 0)) b S := by
  refine ⟨0, .slice none 0 0, .slice none 0 0, 0, L, G, ⟨blk_set (blk_set (blk_set (blk_set h.obj _ _) _ _) _ _) _ _, h.sb, ⟨rfl, .inl ⟨rfl, rfl⟩⟩, ⟨rfl, .inl ⟨rfl, rfl⟩⟩, (fun g q => by cases q), (fun g q => by cases q), (fun g q => by cases q), (fun k q => by omega), (fun k q => by omega)⟩, by omega, by omega⟩
theorem only_wipe (w : World) (b : Nat) : Only (· = b) w ((((w.setCell ⟨b, 3, none⟩ (.bool false)).setCell ⟨b, 0, none⟩ (.slice none 0 0)).setCell ⟨b, 1, none⟩ (.slice none 0 0)).setCell ⟨b, 2, none⟩ (.int .i64 0)) :=
  ((((Only.refl (· = b) w).setCell (p := ⟨b, 3, none⟩) (.inr rfl) _).setCell (p := ⟨b, 0, none⟩) (.inr rfl) _).setCell (p := ⟨b, 1, none⟩) (.inr rfl) _).setCell (p := ⟨b, 2, none⟩) (.inr rfl) _

set_option maxRecDepth 100000 in
set_option maxHeartbeats 4000000 in
theorem badd_in (w : World) (b K : Nat) (lv gv : Value) (n : Int) (L G : Nat → Value) (S : Nat → Prop) (h : BookC w b K K lv gv n L G S) (hlo : 40 * (K : Int) ≤ n) (hhi : n < 2048)
    (p : Option Addr) (m c : Nat) (f : Nat → Cn) (hm : m ≤ 8796093022000) (hv : w.ownsRow 0 55 2 (.slice p m c) m (cl f m)) (hs : ∀ g, (Value.slice p m c).ownBlock = some g → ¬ S g) :
    Calls Try.prog 20 #[.pointer (some ⟨b, 0, none⟩), .slice p m c] w fun e w' => e = .returned (.tuple #[]) ∧ BookAt w' b (fun k => S k ∨ (Value.slice p m c).ownBlock = some k ∨ w.heap.size ≤ k) ∧ Only (fun k => S k ∨ (Value.slice p m c).ownBlock = some k) w w' := by
  obtain ⟨i3, hi3, hz3, hs3, hb3⟩ := info_parts info55
  obtain ⟨i6, hi6, hz6, hs6, hb6⟩ := info_parts info36
  obtain ⟨pl, capl, el⟩ := row_shape h.rl
  obtain ⟨pg, capg, eg⟩ := row_shape h.rg
  have hK : K ≤ 51 := by omega
  have H := Lib.hid h
  have HV := Lib.hid hv
  have HS := Lib.hid hs
  have EL := Lib.hid el
  have EG := Lib.hid eg
  have c0 : w.cell? ⟨b, 0, none⟩ = some (.slice pl K capl) := by rw [blk_cell h.obj, ← el]; rfl
  clear h hv hs el eg
  go_enter Try.func20, Try.ntmps20
  go_wp2_with fail
  have HN := Lib.hid (blk_new w (.cells #[.int .i64 (-1 - (K : Int)), .int .u64 0] 55))
  have HO := Lib.hid ((Only.refl (fun _ => False) w).alloc (.cells #[.int .i64 (-1 - (K : Int)), .int .u64 0] 55))
  have HZ := Lib.hid (show (w.alloc (.cells #[.int .i64 (-1 - (K : Int)), .int .u64 0] 55)).heap.size = w.heap.size + 1 by simp)
  clear c0
  have HB : ∀ k, (Value.slice p m c).ownBlock = some k → k < w.heap.size := fun k hk => (HV.out.lt k hk).2
  have HB' := Lib.hid HB
  clear HB
  obtain ⟨bm, hbm⟩ : ∃ bm, bm = w.heap.size := ⟨_, rfl⟩
  rw [← hbm] at HN ⊢
  have BM := Lib.hid hbm
  clear hbm
  generalize w.alloc (.cells #[.int .i64 (-1 - (K : Int)), .int .u64 0] 55) = w1 at *
  have W1 := Lib.hid (show w1.ownsRow 0 55 2 (.slice p m c) m (cl f m) from own_keep HV.out HO.out)
  have NB : ∀ k, (Value.slice p m c).ownBlock = some k → bm ≠ k := fun k hk => by have := HB'.out k hk; have := BM.out; omega
  have NB' := Lib.hid NB
  clear NB
  go_loopw [5] (fun i wr => ∃ k : Nat, i = .int .i64 k ∧ WrIn w1 (.slice p m c) m K f k wr) (fun i _ => m - (intOf i).toNat)
  case atStart => exact ⟨0, rfl, Nat.zero_le _, Only.refl _ _, by rw [cl_congr (c' := f) (fun i _ => if_neg (by omega))]; exact W1.out⟩
  case round =>
    obtain ⟨k, rfl, R⟩ := hrel
    have hk := R.le
    have hbm' := R.only.blk HN.out (fun e => NB'.out _ e rfl)
    have d0 : wr.cell? ⟨bm, 0, none⟩ = some (.int .i64 (-1 - (K : Int))) := blk_cell hbm' 0
    have d1 : wr.cell? ⟨bm, 1, none⟩ = some (.int .u64 0) := blk_cell hbm' 1
    have HR := Lib.hid R
    clear hbm' R
    by_cases hlt : k < m
    · rcases own_row HR.out.own with ⟨_, e⟩ | ⟨g, cap, e, _, RC⟩
      · omega
      · simp [Ytimiojckinpfdaa.hv] at e
        obtain ⟨rfl, rfl⟩ := e
        obtain ⟨x0, x1, x2, x3⟩ := RC.arr.get hlt
        have HN1 := Lib.hid (HR.out.next hlt)
        clear RC
        go_wp2_with fail
        exact ⟨⟨k + 1, by go_num, HN1.out⟩, by simp [intOf]; omega⟩
    · obtain rfl : k = m := by omega
      have A0 := Lib.hid HR.out.done
      clear d0 d1
      go_wp2_with fail
      go_loopw [6, 7] (fun v i wx => ∃ t : Nat, i = .int .i64 t ∧ ApIn w1 (.slice p k c) k K t v wx) (fun _ i _ => 30 - (intOf i).toNat)
      case atStart => exact ⟨0, rfl, A0.out⟩
      case round =>
        obtain ⟨t, rfl, R⟩ := hrel
        have ht := R.le
        have hbm' := R.only.blk HN.out (fun e => NB'.out _ e rfl)
        have d0 : wr.cell? ⟨bm, 0, none⟩ = some (.int .i64 (-1 - (K : Int))) := blk_cell hbm' 0
        have d1 : wr.cell? ⟨bm, 1, none⟩ = some (.int .u64 0) := blk_cell hbm' 1
        have HT := Lib.hid R
        clear hbm' R
        by_cases hlt : t < 30
        · go_wp2_with (at_builtin; go_loud (refine wpList_append_kept _ rfl (.tmp 31) (.tmp 33) 36 rfl 55 i3 (.agg #[.int .i64 0, .int .u64 0]) 2 16 Try.underlying36 hi3 hz3 hs3 hb3 rfl (by decide) 0 (k + t) _ (cl (fun _ => mrk K) (k + t)) (by simp [Act.eval]) (own_keep HT.out.own ((Only.refl _ _).alloc _)) (Nat.zero_le _) ⟨wr.heap.size, 0, none⟩ 1 1 [.int .i64 (-1 - (K : Int)), .int .u64 0] (by simp [Act.eval]) rfl (fun j u hj => box_src wr _ _ _ j u rfl hj) (by simp [Value.oneCell']) (by decide) (by unfold maxLen; omega) (by omega) ?_; intro v' w' hgr hown; have N := Lib.hid (HT.out.next hlt ((Only.refl _ _).alloc _) hgr hown); clear hgr hown))
          exact ⟨⟨t + 1, by go_num, N.out⟩, by simp [intOf]; omega⟩
        · obtain rfl : t = 30 := by omega
          clear d0 d1
          have OW : Only (fun i => (Value.slice p k c).ownBlock = some i) w wr := (HO.out.mono (T := fun i => (Value.slice p k c).ownBlock = some i) (fun _ _ q => q.elim)).trans HT.out.only
          have C1 := H.out.only OW (fun i hi hT => HS.out i hT hi)
          obtain ⟨M1, M2⟩ := HT.out.marks (S := fun i => S i ∨ (Value.slice p k c).ownBlock = some i ∨ w.heap.size ≤ i) (by unfold maxLen; omega) (fun i hi => by rcases hi with hi | hi; exact .inr (.inl hi); exact .inr (.inr (by have := HO.out.size; omega)))
          have HC1 := Lib.hid C1
          have HM1 := Lib.hid M1
          have HM2 := Lib.hid M2
          have HOW := Lib.hid OW
          obtain ⟨p6, c6, rfl⟩ := row_shape HT.out.own
          have c0 : wr.cell? ⟨b, 0, none⟩ = some (.slice pl K capl) := by rw [blk_cell HC1.out.obj, ← EL.out]; rfl
          have gS : ∀ i, wr.heap.size ≤ i → w.heap.size ≤ i := fun i hi => Nat.le_trans HOW.out.size hi
          have GS := Lib.hid gS
          have RL := Lib.hid (show wr.ownsRow 0 36 1 (.slice pl K capl) K (vs L K) by rw [← EL.out]; exact HC1.out.rl)
          clear OW C1 M1 M2 gS
          have Q : ∀ i, wr.heap.size ≤ i → S i ∨ (Value.slice p k c).ownBlock = some i ∨ w.heap.size ≤ i := fun i hi => .inr (.inr (GS.out i hi))
          have HQ := Lib.hid Q
          clear Q
          by_cases hbig : n + (40 + (k : Int)) < 2048
          all_goals
            go_wp2_with (first
              | (at_builtin; refine wpList_append_kept _ rfl (.tmp 39) (.tmp 41) 57 rfl 36 i6 (.slice none 0 0) 1 24 Try.underlying57 hi6 hz6 hs6 hb6 rfl (by decide) 0 K _ (vs L K) (by simp [Act.eval]) (own_keep RL.out ((Only.refl _ _).alloc _)) (Nat.zero_le _) ⟨wr.heap.size, 0, none⟩ 1 1 [.slice p k c] (by simp [Act.eval]) rfl (fun j u hj => box1_src wr _ _ _ j u rfl hj) (by simp [Value.oneCell']) (by decide) (by unfold maxLen; omega) (by omega) ?_
                 intro v1 w2 hgr hown
                 obtain ⟨pv, cv, rfl⟩ := row_shape hown
                 rw [← EL.out] at hgr
                 obtain ⟨c0, c1, c2, c3, f0, f1, f2, f3⟩ := HC1.out.mid_l ((Only.refl _ _).alloc _) hgr
                 obtain ⟨C2, O2, X2⟩ := HC1.out.app_l ((Only.refl _ _).alloc _) hgr hown HM1.out (fun _ q => .inl q) HQ.out
                 rw [EG.out] at c1
                 have HC2 := Lib.hid C2
                 have HO2 := Lib.hid O2
                 have HM3 := Lib.hid (X2 _ _ HM2.out)
                 have RG := Lib.hid (show (w2.setCell ⟨b, 0, none⟩ (.slice pv (K + 1) cv)).ownsRow 0 36 1 (.slice pg K capg) K (vs G K) by rw [← EG.out]; exact C2.rg)
                 clear hgr hown C2 O2 X2)
              | (at_builtin; refine wpList_append_kept _ rfl (.tmp 49) (.tmp 51) 57 rfl 36 i6 (.slice none 0 0) 1 24 Try.underlying57 hi6 hz6 hs6 hb6 rfl (by decide) 0 K _ (vs G K) (by simp [Act.eval]) (own_keep RG.out ((Only.refl _ _).alloc _)) (Nat.zero_le _) ⟨World.heap (World.setCell _ _ _) |>.size, 0, none⟩ 1 1 [.slice p6 (k + 30) c6] (by simp [Act.eval]) rfl (fun j u hj => box1_src _ _ _ _ j u rfl hj) (by simp [Value.oneCell']) (by decide) (by unfold maxLen; omega) (by omega) ?_
                 intro v3 w3 hgr hown
                 obtain ⟨pu, cu, rfl⟩ := row_shape hown
                 rw [← EG.out] at hgr
                 obtain ⟨c0, c1, c2, c3, f0, f1, f2, f3⟩ := HC2.out.mid_g ((Only.refl _ _).alloc _) hgr
                 obtain ⟨C3, O3, _⟩ := HC2.out.app_g (S' := fun i => S i ∨ (Value.slice p k c).ownBlock = some i ∨ w.heap.size ≤ i) ((Only.refl _ _).alloc _) hgr hown HM3.out (fun _ q => q) (fun i hi => HQ.out i (Nat.le_trans HO2.out.size hi))
                 have HC3 := Lib.hid C3
                 have HO3 := Lib.hid O3
                 clear hgr hown C3 O3))
          · have O12 := (HOW.out.mono (T := fun i => S i ∨ (Value.slice p k c).ownBlock = some i) (fun _ _ q => .inr q)).trans (HO2.out.mono (T := fun i => S i ∨ (Value.slice p k c).ownBlock = some i) (fun _ _ q => .inl q))
            have O13 := (O12.seq2 HO3.out (by rintro i (q | q | q); exact .inr (.inl q); exact .inr (.inr q); exact .inl q)).setCell (p := ⟨b, 2, none⟩) (.inr (.inl H.out.sb)) (.int .i64 (n + (40 + (k : Int))))
            have FIN := Lib.hid O13
            clear O12 O13
            go_end0
            exact ⟨rfl, ⟨K + 1, _, _, _, _, _, HC3.out.setn _, by omega, by omega⟩, FIN.out⟩
          · have O12 := (HOW.out.mono (T := fun i => S i ∨ (Value.slice p k c).ownBlock = some i) (fun _ _ q => .inr q)).trans (HO2.out.mono (T := fun i => S i ∨ (Value.slice p k c).ownBlock = some i) (fun _ _ q => .inl q))
            have O13 := (O12.seq2 HO3.out (by rintro i (q | q | q); exact .inr (.inl q); exact .inr (.inr q); exact .inl q)).setCell (p := ⟨b, 2, none⟩) (.inr (.inl H.out.sb)) (.int .i64 (n + (40 + (k : Int))))
            have FIN := Lib.hid O13
            clear O12 O13
            refine (stays_in _ b (K + 1) _ _ _ _ _ _ (by omega) (HC3.out.setn _)).mono ?_
            rintro e w5 ⟨rfl, O5⟩
            have C5 := (HC3.out.setn (n + (40 + (k : Int)))).only O5 (fun _ _ => id)
            obtain ⟨c0, c1, c2, c3, f0, f1, f2, f3⟩ := book_rd C5.obj
            have HC5 := Lib.hid C5
            have HO5 := Lib.hid O5
            clear C5 O5
            go_wp2_with fail
            go_end0
            exact ⟨rfl, HC5.out.wipe, (FIN.out.trans (HO5.out.mono (fun _ _ q => q.elim))).trans ((only_wipe w5 b).mono (by rintro i _ rfl; exact .inl H.out.sb))⟩
theorem badd_calls (w : World) (b : Nat) (S : Nat → Prop) (h : BookAt w b S) (p : Option Addr) (m c : Nat) (f : Nat → Cn) (hm : m ≤ 8796093022000) (hv : w.ownsRow 0 55 2 (.slice p m c) m (cl f m)) (hs : ∀ g, (Value.slice p m c).ownBlock = some g → ¬ S g) :
    Calls Try.prog 20 #[.pointer (some ⟨b, 0, none⟩), .slice p m c] w fun e w' => e = .returned (.tuple #[]) ∧ BookAt w' b (fun k => S k ∨ (Value.slice p m c).ownBlock = some k ∨ w.heap.size ≤ k) ∧ Only (fun k => S k ∨ (Value.slice p m c).ownBlock = some k) w w' := by
  obtain ⟨K, lv, gv, n, L, G, h, h1, h2⟩ := h
  exact badd_in w b K lv gv n L G S h h1 h2 p m c f hm hv hs
theorem stays_calls (w : World) (b : Nat) (S : Nat → Prop) (h : BookAt w b S) :
    Calls Try.prog 21 #[.pointer (some ⟨b, 0, none⟩)] w fun e w' => e = .returned (.bool true) ∧ Only (fun _ => False) w w' := by
  obtain ⟨K, lv, gv, n, L, G, h, h1, h2⟩ := h
  exact stays_in w b K lv gv n L G S (by omega) h
theorem book_new (w : World) : BookAt (w.alloc (.cells #[.slice none 0 0, .slice none 0 0, .int .i64 0, .bool false] 59)) w.heap.size (· = w.heap.size) :=
  ⟨0, _, _, 0, fun _ => .bool false, fun _ => .bool false, ⟨blk_new _ _, rfl, ⟨rfl, .inl ⟨rfl, rfl⟩⟩, ⟨rfl, .inl ⟨rfl, rfl⟩⟩, (fun g q => by cases q), (fun g q => by cases q), (fun g q => by cases q), (fun k q => by omega), (fun k q => by omega)⟩, by omega, by omega⟩
end Go.Proofs.Ytimiojckinpfdaa

/- The walk of Merge at the parts of counters; what an append leaves of the slab; the sum of a buffer. -/
namespace Go.Proofs.Ytimiojckinpfdaa
open Go.RowKit

theorem mergec_calls (ah al bh bl : Int) (w : World) (h2 : al ≤ 18446744073709551615) (h4 : bl ≤ 18446744073709551615) :
    Calls Try.prog 16 #[partc ah al, partc bh bl] w fun e w' => e = .returned (partc (hiSum ah al bh bl) (loSum al bl : Nat)) ∧ Only (fun _ => False) w w' := by
  rw [partc_eq, partc_eq]
  refine (merge_calls ah al 0 bh bl 0 0 0 0 0 0 0 0 0 none none 0 0 0 0 w h2 h4 (fun p l x _ => p = none ∧ l = 0 ∧ x = 0) (fun s c => s = 0 ∧ c = 0) (fun _ _ _ _ _ h _ => h) ?_ ?_).mono ?_
  · intro w1 _
    refine (rmerge_nil w1).mono ?_
    rintro e w2 ⟨rfl, O⟩
    exact ⟨none, 0, 0, rfl, O, rfl, rfl, rfl⟩
  · intro w1
    refine (pmerge_zero w1).mono ?_
    rintro e w2 ⟨rfl, rfl⟩
    exact ⟨0, 0, rfl, Only.refl _ _, rfl, rfl⟩
  · rintro e w1 ⟨p, l, x, s, c, rfl, ⟨rfl, rfl, rfl⟩, ⟨rfl, rfl⟩, O⟩
    exact ⟨rfl, O⟩

section
variable {base s c : Nat} {kind p : Int} {st wd : Nat} {u : Nat → Value} {L : Nat → Nat} {R : Nat → Nat → Nat} {V : Nat → Nat → Nat → Int} {w w' : World}
theorem SlabAt.keepT (h : SlabAt base s c kind p st wd u L R V w) (k1 : Keep 97 w w') (k2 : Keep 103 w w') (k3 : Keep 107 w w') (k4 : Keep 114 w w') : SlabAt base s c kind p st wd u L R V w' := by
  refine ⟨h.sge, k1 _ _ _ h.obj, h.l0, h.l1, h.held.cge, k3 _ _ _ h.held.obj, fun b hb => own_block (h.held.own b hb) fun g hg => ?_, fun b hb i hi => ?_, h.held.rge, h.held.inj, h.held.heads⟩
  · obtain ⟨_, cur, q2⟩ := own_tag (h.held.own b hb) hg
    rw [k2 _ _ _ q2, q2]
  · obtain ⟨cs, r1, r2⟩ := h.held.wrd b hb i hi
    exact ⟨cs, k4 _ _ _ r1, r2⟩
theorem SlabAt.congr {V' : Nat → Nat → Nat → Int} (h : SlabAt base s c kind p st wd u L R V w) (e : ∀ b i k, b < 2 → i < st → k < wd → V b i k = V' b i k) : SlabAt base s c kind p st wd u L R V' w := by
  have e0 := h.l0; have e1 := h.l1
  refine ⟨h.sge, h.obj, h.l0, h.l1, h.held.cge, h.held.obj, h.held.own, fun b hb i hi => (h.held.wrd b hb i hi).congr fun k hk => e b i k hb ?_ hk, h.held.rge, h.held.inj, h.held.heads⟩
  have hcs : b = 0 ∨ b = 1 := by omega
  rcases hcs with rfl | rfl <;> omega
end
theorem Grew.keep {t e : TypeId} {w w' : World} {v v' : Value} {n m base : Nat} {xs : List Value} (h : Grew w w' v v' n) (ho : w.ownsRow base e 1 v m xs) (ht : t ≠ e) : Keep t w w' := fun k cs f q => by
  rw [h.grown.block k (blk_lt q) ?_, q]
  intro hk
  obtain ⟨_, cur, q2⟩ := own_tag ho hk.symm
  rw [q] at q2; injection q2 with q2; injection q2 with _ q2 _; exact ht q2
theorem keep_alloc {t : TypeId} (w : World) (o : Obj) : Keep t w (w.alloc o) := fun _ _ _ q => blk_alloc q o
theorem keep_drew {t : TypeId} (w : World) : Keep t w w.drew := fun _ _ _ q => q

/-- the words that are emptied: rows ahead of i, and of row i the words ahead of k -/
def clr (kind : Int) (V : Nat → Nat → Nat → Int) (b i k : Nat) : Nat → Nat → Nat → Int := fun b' j l => if b' = b ∧ (j < i ∨ j = i ∧ l < k) then first kind l else V b' j l
theorem clr_start (kind : Int) (V : Nat → Nat → Nat → Int) (b : Nat) : clr kind V b 0 0 = V := by
  funext b' j l; unfold clr; rw [if_neg (by omega)]
theorem clr_next (kind : Int) (V : Nat → Nat → Nat → Int) (b i k wd : Nat) (b' j l : Nat) (hk : wd ≤ k) (hl : l < wd) : clr kind V b i k b' j l = clr kind V b (i + 1) 0 b' j l := by
  unfold clr
  by_cases h : b' = b ∧ (j < i ∨ j = i ∧ l < k)
  · rw [if_pos h, if_pos (by omega)]
  · rw [if_neg h, if_neg (by omega)]
theorem clr_here (kind : Int) (V : Nat → Nat → Nat → Int) (b i k : Nat) : clr kind V b i k b i k = V b i k := by unfold clr; rw [if_neg (by omega)]
theorem clr_put (kind : Int) (V : Nat → Nat → Nat → Int) (b i k : Nat) : upd2 (clr kind V b i k) b i (upd (clr kind V b i k b i) k (first kind k)) = clr kind V b i (k + 1) := by
  funext b' j l
  by_cases h : b' = b ∧ j = i
  · obtain ⟨rfl, rfl⟩ := h
    rw [upd2_same]
    by_cases hl : l = k
    · subst hl; rw [upd_same]; unfold clr; rw [if_pos (by omega)]
    · rw [upd_ne _ _ hl]; unfold clr
      by_cases h2 : l < k
      · rw [if_pos (by omega), if_pos (by omega)]
      · rw [if_neg (by omega), if_neg (by omega)]
  · rw [upd2_ne _ _ h]; unfold clr
    by_cases h2 : b' = b ∧ (j < i ∨ j = i ∧ l < k)
    · rw [if_pos h2, if_pos (by omega)]
    · rw [if_neg h2, if_neg (by omega)]
def nums (V : Nat → Int) (k : Nat) : List Value := (List.range k).map fun l => .int .i64 (V l)
theorem nums_succ (V : Nat → Int) (k : Nat) : nums V (k + 1) = nums V k ++ [.int .i64 (V k)] := by simp [nums, List.range_succ]
/-- the sum of the stripes ahead of n: high and low -/
def sumTo (V : Nat → Nat → Int) : Nat → Int × Int
  | 0 => (0, 0)
  | n + 1 => (hiSum (sumTo V n).1 (sumTo V n).2 (V n 1) (IntKind.u64.wrap (V n 0)), (loSum (sumTo V n).2 (IntKind.u64.wrap (V n 0)) : Nat))
theorem lo_le (al bl : Int) : ((loSum al bl : Nat) : Int) ≤ 18446744073709551615 := by unfold loSum lowOf; omega
theorem sumTo_le (V : Nat → Nat → Int) (n : Nat) : (sumTo V n).2 ≤ 18446744073709551615 := by
  cases n with
  | zero => simp [sumTo]
  | succ n => exact lo_le _ _
theorem u64_mod (x : Int) : IntKind.u64.wrap x = x % 18446744073709551616 := by
  simp [IntKind.wrap, IntKind.signed, IntKind.bits]
theorem u64_le (x : Int) : IntKind.u64.wrap x ≤ 18446744073709551615 := by
  rw [u64_mod]; omega
end Go.Proofs.Ytimiojckinpfdaa

/- Contracts of both Merges at any lists and pairs; what two answers have in common. -/
namespace Go.Proofs.Ytimiojckinpfdaa
open Go.RowKit Srt

theorem own_base {w : World} {base base' e size n : Nat} {v : Value} {xs : List Value} (h : w.ownsRow base e size v n xs) (hb : base' ≤ base) : w.ownsRow base' e size v n xs := by
  refine ⟨h.1, ?_⟩
  rcases h.2 with h | ⟨g, cap, cur, e1, e2, r⟩
  · exact .inl h
  · exact .inr ⟨g, cap, cur, e1, Nat.le_trans hb e2, r⟩
/-- the merged counts of L, in a row made since B -/
def PRow (B : Nat) (L : List Cn) (p : Option Addr) (l x : Nat) (w : World) : Prop := ∃ h, w.ownsRow B 55 2 (.slice p l x) l (cl h l) ∧ Norm L (win h 0 l) ∧ l ≤ L.length
theorem PRow.keep {B : Nat} {L : List Cn} {p : Option Addr} {l x : Nat} {w w' : World} (h : PRow B L p l x w) (k : Keep 55 w w') : PRow B L p l x w' := by
  obtain ⟨c, h1, h2⟩ := h
  refine ⟨c, own_block h1 fun g hg => ?_, h2⟩
  obtain ⟨_, cur, q⟩ := own_tag h1 hg
  rw [k _ _ _ q, q]
theorem PRow.only {B : Nat} {L : List Cn} {p : Option Addr} {l x : Nat} {w w' : World} {S : Nat → Prop} (h : PRow B L p l x w) (O : Only S w w') (hs : ∀ k, B ≤ k → k < w.heap.size → ¬ S k) : PRow B L p l x w' := by
  obtain ⟨c, h1, h2⟩ := h
  refine ⟨c, own_block h1 fun g hg => ?_, h2⟩
  obtain ⟨hb, cur, q⟩ := own_tag h1 hg
  rw [O.blk q (hs g hb (blk_lt q)), q]
theorem PRow.base {B B' : Nat} {L : List Cn} {p : Option Addr} {l x : Nat} {w : World} (h : PRow B L p l x w) (hb : B' ≤ B) : PRow B' L p l x w := by
  obtain ⟨c, h1, h2⟩ := h
  exact ⟨c, own_base h1 hb, h2⟩
theorem win0_get (f : Nat → Cn) {n i : Nat} (h : i < n) : (win f 0 n)[i]? = some (f i) := by simp [win, h]
theorem PRow.eql {B B' : Nat} {L : List Cn} {p q : Option Addr} {l l' x x' : Nat} {w : World} (h : PRow B L p l x w) (h' : PRow B' L q l' x' w) : l = l' ∧ ∃ c, Cnts w p l c ∧ Cnts w q l' c := by
  obtain ⟨c, h1, h2, _⟩ := h
  obtain ⟨c', h1', h2', _⟩ := h'
  have e := h2.uniq h2' (fun _ => rfl)
  have el : l = l' := by have := congrArg List.length e; simpa [win_len] using this
  subst el
  refine ⟨rfl, c, ?_, ?_⟩
  · rcases own_row h1 with ⟨ev, e0⟩ | ⟨g, cap, ev, _, R⟩
    · subst e0; intro i hi; omega
    · injection ev with e1 e2 e3; subst e1; exact R.cnts (Nat.le_refl _)
  · have key : ∀ i, i < l → c' i = c i := fun i hi => by
      have := congrArg (fun L => L[i]?) e
      rw [win0_get c hi, win0_get c' hi] at this
      injection this with this; exact this.symm
    rcases own_row h1' with ⟨ev, e0⟩ | ⟨g, cap, ev, _, R⟩
    · subst e0; intro i hi; omega
    · injection ev with e1 e2 e3; subst e1; exact (R.congr key).cnts (Nat.le_refl _)
/-- the pair that came of both -/
def PPair (q : Nat × Nat) (s c : Nat) : Prop := Pq.Sim s q.1 ∧ Pq.Sim c q.2 ∧ s < 18446744073709551616 ∧ c < 18446744073709551616
def M16 (w : World) (L : List Cn) (q : Nat × Nat) (hi lo n : Int) (m g : Nat) (e : Ending) (w' : World) : Prop :=
  ∃ p l x s c, e = .returned (partv hi lo p l x n s c m g) ∧ PRow w.heap.size L p l x w' ∧ PPair q s c ∧ Only (fun _ => False) w w'
def M14 (w : World) (L : List Cn) (q : Nat × Nat) (hi lo n : Int) (m g : Nat) (e : Ending) (w' : World) : Prop :=
  ∃ p l x s c, e = .returned (partr hi lo p l x n s c m g) ∧ PRow w.heap.size L p l x w' ∧ PPair q s c ∧ Only (fun _ => False) w w'
theorem rk_row {w w1 : World} {L : List Cn} {e : Ending} {w2 : World} (O : Only (fun _ => False) w w1) (h : RkRes w1 L e w2) : ∃ p l x, e = .returned (.slice p l x) ∧ Only (fun _ => False) w1 w2 ∧ PRow w.heap.size L p l x w2 := by
  obtain ⟨v, m, c, rfl, O2, ho, hn, hm⟩ := h
  obtain ⟨p, x, rfl⟩ := row_shape ho
  exact ⟨p, m, x, rfl, O2, c, own_base ho O.size, hn, hm⟩
theorem m16_calls (ah al na bh bl nb : Int) (s1 c1 m1 x1 s2 c2 m2 x2 : Nat) (pa pb : Option Addr) (la xa lb xb : Nat) (f g : Nat → Cn) (w : World) (h2 : al ≤ 18446744073709551615) (h4 : bl ≤ 18446744073709551615)
    (hf : Cnts w pa la f) (hg : Cnts w pb lb g) (e1 : pa = none → la = 0) (e2 : pb = none → lb = 0) (hn : la + lb ≤ 8796093022208) (bf : ∀ i, i < la → (f i).2 < 18446744073709551616) (bg : ∀ i, i < lb → (g i).2 < 18446744073709551616)
    (o1 : Pq.Ok2 (s1, c1)) (o2 : Pq.Ok2 (s2, c2)) :
    Calls Try.prog 16 #[partv ah al pa la xa na s1 c1 m1 x1, partv bh bl pb lb xb nb s2 c2 m2 x2] w (M16 w (win f 0 la ++ win g 0 lb) (Pq.rmerge (s1, c1) (s2, c2)) (hiSum ah al bh bl) (loSum al bl : Nat) (IntKind.u64.wrap (na + nb)) (minOf na nb m1 m2) (maxOf na nb x1 x2)) := by
  refine (merge_calls ah al na bh bl nb s1 c1 m1 x1 s2 c2 m2 x2 pa pb la xa lb xb w h2 h4 (PRow w.heap.size (win f 0 la ++ win g 0 lb)) (PPair (Pq.rmerge (s1, c1) (s2, c2))) (fun p l x w1 w2 h k => h.keep k)
    (fun w1 O => (rkmerge_calls pa pb la lb xa xb f g w1 (hf.only O (fun _ _ => id)) (hg.only O (fun _ _ => id)) e1 e2 hn bf bg).mono fun e w2 h => rk_row O h)
    (fun w1 => (Pq.pmerge_any (s1, c1) (s2, c2) w1 o1 o2).mono ?_)).mono ?_
  · rintro e w2 ⟨⟨s, c⟩, rfl, h1, h2, st⟩
    exact ⟨s, c, rfl, st.only _, h1.1, h1.2, h2.1, h2.2⟩
  · rintro e w' ⟨p, l, x, s, c, rfl, q, pq, O⟩
    exact ⟨p, l, x, s, c, rfl, q, pq, O⟩
theorem m14_calls (ah al na bh bl nb : Int) (s1 c1 m1 x1 s2 c2 m2 x2 : Nat) (pa pb : Option Addr) (la xa lb xb : Nat) (f g : Nat → Cn) (w : World) (h2 : 0 ≤ al ∧ al ≤ 18446744073709551615) (h4 : 0 ≤ bl ∧ bl ≤ 18446744073709551615)
    (hM : m1 < 18446744073709551616 ∧ m2 < 18446744073709551616 ∧ x1 < 18446744073709551616 ∧ x2 < 18446744073709551616)
    (hf : Cnts w pa la f) (hg : Cnts w pb lb g) (e1 : pa = none → la = 0) (e2 : pb = none → lb = 0) (hn : la + lb ≤ 8796093022208)
    (o1 : Pq.Ok2 (s1, c1)) (o2 : Pq.Ok2 (s2, c2)) :
    Calls Try.prog 14 #[partr ah al pa la xa na s1 c1 m1 x1, partr bh bl pb lb xb nb s2 c2 m2 x2] w (M14 w (win f 0 la ++ win g 0 lb) (Pq.rmerge (s1, c1) (s2, c2)) (hiSum ah al bh bl) (loSum al bl : Nat) (IntKind.u64.wrap (na + nb)) (minOf na nb m1 m2) (maxOf na nb x1 x2)) := by
  refine (r11merge_calls ah al na bh bl nb s1 c1 m1 x1 s2 c2 m2 x2 pa pb la xa lb xb w h2 h4 hM (PRow w.heap.size (win f 0 la ++ win g 0 lb)) (PPair (Pq.rmerge (s1, c1) (s2, c2))) (fun p l x w1 w2 h k => h.keep k)
    (fun w1 O => (rmer5_calls pa pb la lb xa xb f g w1 (hf.only O (fun _ _ => id)) (hg.only O (fun _ _ => id)) e1 e2 hn).mono fun e w2 h => rk_row O h)
    (fun w1 => (Pq.rmerge_any (s1, c1) (s2, c2) w1 o1 o2).mono ?_)).mono ?_
  · rintro e w2 ⟨rfl, O⟩
    exact ⟨_, _, rfl, O, Pq.Sim.refl _, Pq.Sim.refl _, (Pq.rmerge_ok _ _).1, (Pq.rmerge_ok _ _).2⟩
  · rintro e w' ⟨p, l, x, s, c, rfl, q, pq, O⟩
    exact ⟨p, l, x, s, c, rfl, q, pq, O⟩
theorem like_parts (hi lo N : Int) (p q : Option Addr) (l l' x x' : Nat) (L : List Cn) (B B' : Nat) (Q : Nat × Nat) (S C S' C' Mn Mx : Nat) (w : World) (hn : L.length ≤ 9223372036854775807)
    (h : PRow B L p l x w) (h' : PRow B' L q l' x' w) (hq : PPair Q S C) (hq' : PPair Q S' C') (hm : Mn < 18446744073709551616 ∧ Mx < 18446744073709551616) :
    Calls Try.prog 17 #[partr hi lo p l x N S C Mn Mx, partr hi lo q l' x' N S' C' Mn Mx] w fun e w' => e = .returned (.bool true) ∧ Only (fun _ => False) w w' := by
  obtain ⟨el, c, h1, h2⟩ := h.eql h'
  subst el
  have hl : l ≤ L.length := by obtain ⟨_, _, _, q⟩ := h; exact q
  exact like_calls hi lo N p q l x x' c S C Mn Mx S' C' Mn Mx w (by omega) h1 h2 ⟨hq.2.2.1, hq.2.2.2, hm.1, hm.2⟩ ⟨hq'.2.2.1, hq'.2.2.2, hm.1, hm.2⟩ (Pq.sameW_of (hq.1.trans hq'.1.symm)) (Pq.sameW_of (hq.2.1.trans hq'.2.1.symm)) (Pq.sameW_of (Pq.Sim.refl _)) (Pq.sameW_of (Pq.Sim.refl _))
end Go.Proofs.Ytimiojckinpfdaa

/- What holds while a buffer is emptied. -/
namespace Go.Proofs.Ytimiojckinpfdaa
open Go.RowKit

theorem put_ne {w : World} {b b2 : Nat} {c1 c2 : Array Value} {t1 t2 : TypeId} {f1 f2 : Nat × Nat} (h1 : w.heap[b]? = some (.cells c1 t1 f1)) (h2 : w.heap[b2]? = some (.cells c2 t2 f2)) (ht : t1 ≠ t2) : b ≠ b2 := by
  intro e; rw [e, h2] at h1; injection h1 with h1; injection h1 with _ h1 _; exact ht h1.symm
/-- so far a buffer is emptied: i rows, ks words of the next, kh of which are in the list hv; the sum of the rows ahead -/
structure DrF (base : Nat) (w : World) (s c : Nat) (kind p : Int) (st wd : Nat) (u : Nat → Value) (L : Nat → Nat) (R : Nat → Nat → Nat) (V : Nat → Nat → Nat → Int) (b i ks kh : Nat) (hv : Value) (hi lo : Int) (wr : World) : Prop where
  only : Only (fun j => ∃ i', i' < st ∧ j = R b i') w wr
  slab : SlabAt base s c kind p st wd u L R (clr kind V b i ks) wr
  own : wr.ownsRow w.heap.size 2 1 hv kh (nums (V b i) kh)
  all : wr.heap[w.heap.size + 1]? = some (.cells #[.int .i64 hi, .int .u64 lo, .slice none 0 0, .int .u64 0, .complex .f64 0 0, .float .f64 0, .float .f64 0] 42 (0, 0))
  res : wr.heap[w.heap.size]? = some (.cells #[.int .i64 0, .int .u64 0, .slice none 0 0, .int .u64 0, .complex .f64 0 0, .float .f64 0, .float .f64 0] 42 (0, 0))
section
variable {base : Nat} {w : World} {s c : Nat} {kind p : Int} {st wd : Nat} {u : Nat → Value} {L : Nat → Nat} {R : Nat → Nat → Nat} {V : Nat → Nat → Nat → Int} {b i ks kh : Nat} {hv : Value} {hi lo : Int} {wr : World}
theorem DrF.next {w1 : World} (h : DrF base w s c kind p st wd u L R V b i ks kh hv hi lo wr) (O : Only (fun _ => False) wr w1) : DrF base w s c kind p st wd u L R V b i ks kh hv hi lo w1 := by
  refine ⟨h.only.trans (O.mono fun _ _ q => q.elim), h.slab.only O, own_block h.own fun g hg => ?_, O.blk h.all (by simp), O.blk h.res (by simp)⟩
  obtain ⟨_, cur, q⟩ := own_tag h.own hg
  rw [q, O.blk q (by simp)]
theorem SlabAt.len (h : SlabAt base s c kind p st wd u L R V wr) (hb : b < 2) : L b = st := by
  have e0 := h.l0; have e1 := h.l1
  have hcs : b = 0 ∨ b = 1 := by omega
  rcases hcs with rfl | rfl <;> omega
theorem DrF.it (h : DrF base w s c kind p st wd u L R V b i ks kh hv hi lo wr) : wr.cell? ⟨s, 0, none⟩ = some (inst kind c p) := by rw [blk_cell h.slab.obj]; rfl
theorem DrF.it1 (h : DrF base w s c 1 p st wd u L R V b i ks kh hv hi lo wr) : wr.cell? ⟨s, 0, none⟩ = some (.iface 99 (.agg #[.pointer (some ⟨c, 0, none⟩)])) := h.it
theorem DrF.word (h : DrF base w s c kind p st wd u L R V b i ks kh hv hi lo wr) (hb : b < 2) (hi' : i < st) (hk : ks < wd) : wr.cell? ⟨R b i, ks, none⟩ = some (.int .i64 (V b i ks)) ∧ wr.frozen? ⟨R b i, ks, none⟩ = false := by
  have hw := h.slab.held.wrd b hb i (by rw [h.slab.len hb]; exact hi')
  refine ⟨?_, hw.free ks⟩
  rw [hw.cell hk, clr_here]
theorem DrF.put (h : DrF base w s c kind p st wd u L R V b i ks kh hv hi lo wr) (hb : b < 2) (hi' : i < st) : DrF base w s c kind p st wd u L R V b i (ks + 1) kh hv hi lo (wr.setCell ⟨R b i, ks, none⟩ (.int .i64 (first kind ks))) := by
  have hw := h.slab.held.wrd b hb i (by rw [h.slab.len hb]; exact hi')
  obtain ⟨cs, q1, _⟩ := hw
  refine ⟨h.only.setCell (.inr ⟨i, hi', rfl⟩) _, ?_, own_block h.own fun g hg => ?_, blk_set_ne h.all _ _ (put_ne h.all q1 (by decide)), blk_set_ne h.res _ _ (put_ne h.res q1 (by decide))⟩
  · have := h.slab.store hb hi' ks (first kind ks)
    rw [clr_put] at this; exact this
  · obtain ⟨_, cur, q⟩ := own_tag h.own hg
    rw [q, blk_set_ne q _ _ (put_ne q q1 (by decide))]
theorem DrF.own_alloc (h : DrF base w s c kind p st wd u L R V b i ks kh hv hi lo wr) (o : Obj) : (wr.alloc o).ownsRow w.heap.size 2 1 hv kh (nums (V b i) kh) :=
  (h.next ((Only.refl _ wr).alloc o)).own
theorem DrF.app {w1 : World} {v' : Value} (h : DrF base w s c kind p st wd u L R V b i ks kh hv hi lo wr) (hg : Grew wr w1 hv v' (kh * 1)) (ho : w1.ownsRow w.heap.size 2 1 v' (kh + 1) (nums (V b i) kh ++ [.int .i64 (V b i kh)])) :
    DrF base w s c kind p st wd u L R V b i ks (kh + 1) v' hi lo w1 := by
  refine ⟨h.only.grown hg.grown fun k q => .inl (own_tag h.own q).1, h.slab.keepT (hg.keep h.own (by decide)) (hg.keep h.own (by decide)) (hg.keep h.own (by decide)) (hg.keep h.own (by decide)), by rw [nums_succ]; exact ho, hg.keep h.own (t := 42) (by decide) _ _ _ h.all, hg.keep h.own (t := 42) (by decide) _ _ _ h.res⟩
theorem DrF.slice (h : DrF base w s c kind p st wd u L R V b i ks kh hv hi lo wr) (hk : 0 < kh) : ∃ g cap, hv = .slice (some ⟨g, 0, none⟩) kh cap ∧ ∀ w1, DrF base w s c kind p st wd u L R V b i ks kh hv hi lo w1 → ∀ k, k < kh → w1.cell? ⟨g, k, none⟩ = some (.int .i64 (V b i k)) := by
  rcases h.own.2 with ⟨_, q⟩ | ⟨g, cap, cur, q1, _⟩
  · omega
  · subst q1
    refine ⟨g, cap, rfl, fun w1 h1 k hk => ?_⟩
    rcases h1.own.2 with ⟨q, _⟩ | ⟨g', cap', cur', q1, q2, q3, q4, q5, q6, q7⟩
    · cases q
    · injection q1 with q1; injection q1 with q1; injection q1 with q1
      subst q1
      rw [blk_cell q3]
      have : (cur'.toList.take (kh * 1))[k]? = (nums (V b i) kh)[k]? := by rw [q7]
      rw [List.getElem?_take, if_pos (by omega)] at this
      simp [nums, hk] at this
      simpa using this
/-- a row is done: its part is laid to the sum -/
theorem DrF.done {hi' lo' : Int} {w1 : World} (h : DrF base w s c kind p st wd u L R V b i wd kh hv hi lo wr)
    (e : w1 = put7 wr (w.heap.size + 1) (.int .i64 hi') (.int .u64 lo') (.slice none 0 0) (.int .u64 0) (.complex .f64 0 0) (.float .f64 0) (.float .f64 0)) :
    DrF base w s c kind p st wd u L R V b (i + 1) 0 0 (.slice none 0 0) hi' lo' w1 := by
  subst e
  have kp : ∀ t, t ≠ 42 → Keep t wr (put7 wr (w.heap.size + 1) (.int .i64 hi') (.int .u64 lo') (.slice none 0 0) (.int .u64 0) (.complex .f64 0 0) (.float .f64 0) (.float .f64 0)) := fun t ht =>
    Keep.chain7 ((Only.refl (fun _ => False) wr).keep t) h.all ht.symm _ _ _ _ _ _ _
  refine ⟨h.only.put7 (.inl (by omega)) _ _ _ _ _ _ _, (h.slab.keepT (kp _ (by decide)) (kp _ (by decide)) (kp _ (by decide)) (kp _ (by decide))).congr fun b' j l _ _ hl => clr_next kind V b i wd wd b' j l (Nat.le_refl _) hl, ⟨rfl, .inl ⟨rfl, rfl⟩⟩, put7_blk h.all _ _ _ _ _ _ _, ?_⟩
  have hne : w.heap.size ≠ w.heap.size + 1 := by omega
  exact blk_set_ne (blk_set_ne (blk_set_ne (blk_set_ne (blk_set_ne (blk_set_ne (blk_set_ne h.res _ _ hne) _ _ hne) _ _ hne) _ _ hne) _ _ hne) _ _ hne) _ _ hne
theorem drf_start (h : SlabAt base s c kind p st wd u L R V w) : DrF base w s c kind p st wd u L R V b 0 0 0 (.slice none 0 0) 0 0
    ((w.alloc (.cells #[.int .i64 0, .int .u64 0, .slice none 0 0, .int .u64 0, .complex .f64 0 0, .float .f64 0, .float .f64 0] 42)).alloc (.cells #[.int .i64 0, .int .u64 0, .slice none 0 0, .int .u64 0, .complex .f64 0 0, .float .f64 0, .float .f64 0] 42)) := by
  have O : Only (fun _ => False) w ((w.alloc (.cells #[.int .i64 0, .int .u64 0, .slice none 0 0, .int .u64 0, .complex .f64 0 0, .float .f64 0, .float .f64 0] 42)).alloc (.cells #[.int .i64 0, .int .u64 0, .slice none 0 0, .int .u64 0, .complex .f64 0 0, .float .f64 0, .float .f64 0] 42)) := ((Only.refl _ w).alloc _).alloc _
  refine ⟨O.mono fun _ _ q => q.elim, by rw [clr_start]; exact h.only O, ⟨rfl, .inl ⟨rfl, rfl⟩⟩, ?_, blk_alloc (blk_new _ _) _⟩
  have e1 : (w.alloc (.cells #[.int .i64 0, .int .u64 0, .slice none 0 0, .int .u64 0, .complex .f64 0 0, .float .f64 0, .float .f64 0] 42)).heap.size = w.heap.size + 1 := by simp
  rw [← e1]; exact blk_new _ _
end
end Go.Proofs.Ytimiojckinpfdaa

/- The walk of the reference's New: refused ways, and the good way without its cells' numbers. -/
namespace Go.Proofs.Ytimiojckinpfdaa
open Go.RowKit

theorem info81 : (Try.prog.info? 81).map (fun i => (i.zero, i.size, i.bytes)) = some (some (.slice none 0 0), 1, 24) := by kernel_rfl
theorem info2 : (Try.prog.info? 2).map (fun i => (i.zero, i.size, i.bytes)) = some (some (.int .i64 0), 1, 8) := by kernel_rfl
theorem run_make2 (wd : Nat) (h2 : wd ≤ 1048576) (W : World) : Sem.run Try.prog (Instr.makeSlice 81 (.int .i64 wd) (.int .i64 wd)) W = .ok (.slice (some ⟨W.heap.size, 0, none⟩) wd wd) (W.alloc (.cells (madeCells #[.int .i64 0] wd) 2)) := by
  obtain ⟨i4, hi4, hz4, hs4, hb4⟩ := info_parts info2
  have hmk := run_make (P := Try.prog) (w := W) 81 2 i4 (.int .i64 0) Try.underlying81 hi4 hz4 .i64 .i64 wd wd (by omega) (by omega) (by rw [hb4]; omega) (by omega)
  rw [hs4] at hmk
  simp only [Int.toNat_natCast, Nat.mul_one] at hmk
  exact hmk

/-- the reference's slab, so many rows made of the buffer b -/
structure RnAt (w : World) (s : Nat) (kind st p : Int) (b n : Nat) (u : Nat → Value) (wr : World) : Prop where
  only : Only (fun _ => False) w wr
  sge : w.heap.size ≤ s
  obj : wr.heap[s]? = some (.cells #[.int .i64 kind, .int .i64 st, .int .i64 p, u 0, u 1] 119 (0, 0))
  own : ∃ xs, wr.ownsRow w.heap.size 81 1 (u b) n xs
  rest : b = 0 → u 1 = .slice none 0 0
section
variable {w wr : World} {s : Nat} {kind st p : Int} {b n : Nat} {u : Nat → Value}
theorem RnAt.keep (h : RnAt w s kind st p b n u wr) {w1 : World} (O : Only (fun _ => False) wr w1) : RnAt w s kind st p b n u w1 := by
  obtain ⟨O0, q1, q2, ⟨xs, q3⟩, q4⟩ := h
  refine ⟨O0.trans O, q1, O.blk q2 (by simp), ⟨xs, own_block q3 fun g hg => ?_⟩, q4⟩
  obtain ⟨_, cur, q⟩ := own_tag q3 hg
  rw [q, O.blk q (by simp)]
theorem RnAt.cell (h : RnAt w s kind st p b n u wr) (hb : b < 2) : wr.cell? ⟨s, 3 + b, none⟩ = some (u b) := by
  rw [blk_cell h.obj]
  have hcs : b = 0 ∨ b = 1 := by omega
  rcases hcs with rfl | rfl <;> rfl
theorem rn_start (w : World) (kind st p : Int) : RnAt w w.heap.size kind st p 0 0 (fun _ => .slice none 0 0) (w.alloc (.cells #[.int .i64 kind, .int .i64 st, .int .i64 p, .slice none 0 0, .slice none 0 0] 119)) :=
  ⟨(Only.refl _ w).alloc _, Nat.le_refl _, blk_new w _, ⟨[], rfl, .inl ⟨rfl, rfl⟩⟩, fun _ => rfl⟩
theorem RnAt.second (h : RnAt w s kind st p 0 n u wr) : RnAt w s kind st p 1 0 u wr :=
  ⟨h.only, h.sge, h.obj, ⟨[], rfl, by rw [h.rest rfl]; exact .inl ⟨rfl, rfl⟩⟩, fun q => by omega⟩
/-- a row that is being filled -/
structure RrAt (w1 : World) (r wd : Nat) (wr : World) : Prop where
  only : Only (fun _ => False) w1 wr
  rge : w1.heap.size ≤ r
  row : ∃ cs : Array Value, wr.heap[r]? = some (.cells cs 2 (0, 0)) ∧ cs.size = wd
theorem rr_start (w : World) (wd : Nat) : RrAt w w.heap.size wd (w.alloc (.cells (madeCells #[.int .i64 0] wd) 2)) :=
  ⟨(Only.refl _ w).alloc _, Nat.le_refl _, _, blk_new w _, by simp [madeCells]⟩
theorem RrAt.cell {w1 : World} {r wd l : Nat} (h : RrAt w1 r wd wr) (hl : l < wd) : (∃ x, wr.cell? ⟨r, l, none⟩ = some x) ∧ wr.frozen? ⟨r, l, none⟩ = false := by
  obtain ⟨_, _, cs, q1, q2⟩ := h
  refine ⟨⟨cs[l]'(by omega), ?_⟩, blk_free q1 _⟩
  rw [blk_cell q1, Array.getElem?_eq_getElem (by omega)]
theorem RrAt.put {w1 : World} {r wd l : Nat} (h : RrAt w1 r wd wr) (v : Value) : RrAt w1 r wd (wr.setCell ⟨r, l, none⟩ v) := by
  obtain ⟨O, q0, cs, q1, q2⟩ := h
  exact ⟨O.setCell (.inl q0) _, q0, _, blk_set q1 _ _, by simpa using q2⟩

theorem rn_app {w2 : World} {r wd : Nat} {xs : List Value} (ho : wr.ownsRow w.heap.size 81 1 (u b) n xs) (e : w2.heap = wr.heap.push (.cells #[slv r wd] 81)) : w2.ownsRow w.heap.size 81 1 (u b) n xs := by
  refine own_block ho fun g hg => ?_
  obtain ⟨_, cur, q⟩ := own_tag ho hg
  have := blk_lt q
  rw [e, Array.getElem?_push, if_neg (by omega)]
theorem rn_news {w2 : World} {r wd : Nat} (e : w2.heap = wr.heap.push (.cells #[slv r wd] 81)) :
    ∀ (j : Nat) (x : Value), ([slv r wd] : List Value)[j]? = some x → w2.cell? ((⟨wr.heap.size, 0, none⟩ : Addr).add j) = some x := by
  intro j x hx
  match j, hx with
  | 0, hx =>
    have : w2.heap[wr.heap.size]? = some (.cells #[slv r wd] 81 (0, 0)) := by rw [e, Array.getElem?_push, if_pos rfl]
    show w2.cell? ⟨wr.heap.size, 0, none⟩ = _
    rw [blk_cell this]; simpa using hx
  | j + 1, hx => simp at hx
structure RnAfter (w : World) (s : Nat) (kind st p : Int) (b n : Nat) (u : Nat → Value) (v' : Value) (w3 : World) : Prop where
  cell : w3.cell? ⟨s, 3 + b, none⟩ = some (u b)
  free : w3.frozen? ⟨s, 3 + b, none⟩ = false
  next : RnAt w s kind st p b (n + 1) (upd u b v') (w3.setCell ⟨s, 3 + b, none⟩ v')
theorem rn_after {w2 w3 : World} {r wd : Nat} {v' : Value} {xs : List Value} (h : RnAt w s kind st p b n u wr) (hb : b < 2)
    (hx : wr.ownsRow w.heap.size 81 1 (u b) n xs) (hg : Grew w2 w3 (u b) v' (n * 1)) (ho : w3.ownsRow w.heap.size 81 1 v' (n + 1) (xs ++ [slv r wd]))
    (e : w2.heap = wr.heap.push (.cells #[slv r wd] 81)) (e1 : w2.os = wr.os) (e2 : w2.tape = wr.tape) (e3 : w2.output = wr.output) :
    ∃ g cap, v' = .slice (some ⟨g, 0, none⟩) (n + 1) cap ∧ RnAfter w s kind st p b n u v' w3 := by
  have hk : ∀ (k : Nat) (o : Obj), wr.heap[k]? = some o → w2.heap[k]? = some o := by
    intro k o q
    have := blk_lt q
    rw [e, Array.getElem?_push, if_neg (by omega), q]
  have hc2 := hk _ _ h.obj
  have hOs := h.only.size
  have hc3 : w3.heap[s]? = some (.cells #[.int .i64 kind, .int .i64 st, .int .i64 p, u 0, u 1] 119 (0, 0)) := by
    rw [hg.grown.block s (blk_lt hc2) ?_, hc2]
    intro q
    obtain ⟨_, cur, q2⟩ := own_tag hx q.symm
    rw [h.obj] at q2; injection q2 with q2; injection q2 with _ q2 _; exact absurd q2 (by decide)
  have hv : ∃ g cap, v' = .slice (some ⟨g, 0, none⟩) (n + 1) cap := by
    rcases ho.2 with ⟨_, q⟩ | ⟨g, cap, cur, q, _⟩
    · omega
    · exact ⟨g, cap, q⟩
  obtain ⟨g, cap, hv⟩ := hv
  have hset : (#[.int .i64 kind, .int .i64 st, .int .i64 p, u 0, u 1] : Array Value).setIfInBounds (3 + b) v' = #[.int .i64 kind, .int .i64 st, .int .i64 p, upd u b v' 0, upd u b v' 1] := by
    match b, hb with
    | 0, _ => rfl
    | 1, _ => rfl
  refine ⟨g, cap, hv, ?_, blk_free hc3 _, ⟨?_, h.sge, ?_, ⟨xs ++ [slv r wd], ?_⟩, ?_⟩⟩
  · rw [blk_cell hc3]
    have hcs : b = 0 ∨ b = 1 := by omega
    rcases hcs with rfl | rfl <;> rfl
  · have O2 : Only (fun _ => False) w w2 := ⟨e1.trans h.only.os, e2.trans h.only.tape, e3.trans h.only.output, by rw [e]; simp; omega, fun k q _ => by
      rw [e, Array.getElem?_push, if_neg (by omega)]
      exact h.only.block k q (by simp)⟩
    exact (O2.grown hg.grown fun k q => .inl (own_tag hx q).1).setCell (.inl h.sge) _
  · rw [blk_set hc3 (3 + b) v', hset]
  · rw [upd_same]
    refine own_block ho fun g' hg' => ?_
    have hne : g' ≠ s := by
      intro eg
      obtain ⟨_, cur, q⟩ := own_tag ho hg'
      rw [eg, hc3] at q
      injection q with q; injection q with _ q _; exact absurd q (by decide)
    rw [Below.heap_setCell _ _ _ _ hne]
  · intro q; subst q; rw [upd_ne _ _ (by decide)]; exact h.rest rfl
end
theorem rnew_bad (kind st p : Int) (w : World) (h : newE kind st p ≠ 0) :
    Calls Try.prog 11 #[.int .i64 kind, .int .i64 st, .int .i64 p] w fun e w' => e = .returned (.tuple #[.pointer none, .int .i64 (newE kind st p)]) ∧ Only (fun _ => False) w w' := by
  unfold newE at h ⊢
  by_cases h1 : wide kind 1 = 0
  · rw [if_pos h1]
    have hw := Lib.hid h1
    clear h
    go_enter Try.func11, Try.ntmps11
    go_wp2_with fail
    refine (rwidth_calls _ _ _).mono ?_
    rw [hw.out]
    rintro e w1 ⟨rfl, rfl⟩
    go_wp2_with fail
    go_ret2
    exact ⟨rfl, Only.refl _ _⟩
  rw [if_neg h1] at h ⊢
  have g1 : ((wide kind 1 : Nat) == 0) = false := by simpa using h1
  have g1' : (((wide kind 1 : Nat) : Int) == 0) = false := by simpa using h1
  clear h1
  cases hm : mayB st p with
  | false =>
    rw [hm] at h
    rw [if_pos rfl] at h ⊢
    clear h
    have g2 : (cellsN kind st p == 0) = true := by unfold cellsN; rw [hm]; rfl
    go_enter Try.func11, Try.ntmps11
    go_wp2_with fail
    refine (rwidth_calls _ _ _).mono ?_
    rintro e w1 ⟨rfl, rfl⟩
    go_wp2_with fail
    refine (rcells_calls _ _ _ _).mono ?_
    rintro e w1 ⟨rfl, rfl⟩
    go_wp2_with fail
    go_ret2
    exact ⟨rfl, Only.refl _ _⟩
  | true =>
    rw [hm] at h
    rw [if_neg (by decide)] at h ⊢
    by_cases h3 : cellsN kind st p > 1048576
    · rw [if_pos h3]
      have g3 : decide (cellsN kind st p > 1048576) = true := decide_eq_true h3
      have g2 : (cellsN kind st p == 0) = false := by rw [beq_eq_false_iff_ne]; omega
      clear hm h h3
      go_enter Try.func11, Try.ntmps11
      go_wp2_with fail
      refine (rwidth_calls _ _ _).mono ?_
      rintro e w1 ⟨rfl, rfl⟩
      go_wp2_with fail
      refine (rcells_calls _ _ _ _).mono ?_
      rintro e w1 ⟨rfl, rfl⟩
      go_wp2_with fail
      go_ret2
      exact ⟨rfl, Only.refl _ _⟩
    · rw [if_neg h3] at h; exact absurd rfl h

def RnRes (w : World) (e : Ending) (w' : World) : Prop := ∃ s, e = .returned (.tuple #[.pointer (some ⟨s, 0, none⟩), .int .i64 0]) ∧ Only (fun _ => False) w w'
set_option maxHeartbeats 2000000 in
theorem rnew_good (kind st p : Int) (w : World) (h : newE kind st p = 0) (n : Nat) (hn : st = n) :
    Calls Try.prog 11 #[.int .i64 kind, .int .i64 st, .int .i64 p] w (RnRes w) := by
  have h1 : wide kind 1 ≠ 0 := by intro q; unfold newE at h; rw [if_pos q] at h; cases h
  have hm : mayB st p = true := by
    cases hq : mayB st p with
    | true => rfl
    | false => unfold newE at h; rw [hq, if_neg h1] at h; cases h
  have h3 : ¬ cellsN kind st p > 1048576 := by
    intro q; unfold newE at h; rw [if_neg h1, hm, if_pos q] at h; cases h
  obtain ⟨a1, a2, _, _⟩ := mayB_of hm
  have hwd : wide kind p ≤ 1048576 := by have := wide_le kind p; omega
  have hwd2 := wide_le kind p
  have g1 : ((wide kind 1 : Nat) == 0) = false := by simpa using h1
  have g1' : (((wide kind 1 : Nat) : Int) == 0) = false := by simpa using h1
  have g2 : (cellsN kind st p == 0) = false := by
    rw [beq_eq_false_iff_ne]; unfold cellsN; rw [hm]
    have : 0 < wide kind p := by
      have : wide kind p ≠ 0 := by
        intro q; apply h1; revert q; unfold wide; split; · simp
        split; · omega
        split; · simp
        simp
      omega
    have q : 0 < 2 * st * ((wide kind p : Nat) : Int) := Int.mul_pos (by omega) (by omega)
    simp only [if_true]; omega
  have g3 : decide (cellsN kind st p > 1048576) = false := decide_eq_false h3
  have K1 := Lib.hid (fun w => rwidth_calls kind 1 w)
  have K2 := Lib.hid (fun w => rwidth_calls kind p w)
  have K3 := Lib.hid (fun w => rcells_calls kind st p w)
  generalize hcn : cellsN kind st p = cn at *
  generalize hwe : wide kind p = wd at *
  generalize hwe1 : wide kind 1 = wd1 at *
  clear h h1 hm h3 hcn hwe hwe1
  subst hn
  obtain ⟨i3, hi3, hz3, hs3, hb3⟩ := info_parts info81
  go_enter Try.func11, Try.ntmps11
  go_wp2_with fail
  refine (K1.out _).mono ?_
  rintro e w1 ⟨rfl, rfl⟩
  go_wp2_with fail
  refine (K3.out _).mono ?_
  rintro e w1 ⟨rfl, rfl⟩
  go_wp2_with fail
  refine (K2.out _).mono ?_
  rintro e w1 ⟨rfl, rfl⟩
  clear K1 K2 K3
  have hS0 := rn_start w1 kind n p
  go_wp2_with fail
  go_loopw [11] (fun v wr => (v = .int .i64 0 ∧ ∃ u, RnAt w1 w1.heap.size kind n p 0 0 u wr) ∨ (v = .int .i64 1 ∧ ∃ u, RnAt w1 w1.heap.size kind n p 1 0 u wr) ∨ (v = .int .i64 2 ∧ Only (fun _ => False) w1 wr)) (fun v _ => 2 - (intOf v).toNat)
  case atStart => exact .inl ⟨rfl, _, hS0⟩
  case round =>
    rcases hrel with ⟨rfl, u, hM⟩ | ⟨rfl, u, hM⟩ | ⟨rfl, hM⟩
    · have hstart := 0; clear hstart
      go_wp2_with fail
      go_loopw [12] (fun v wr => ∃ k : Nat, k ≤ n ∧ v = .int .i64 k ∧ ∃ u, RnAt w1 w1.heap.size kind n p 0 k u wr) (fun v _ => n - (intOf v).toNat)
      case atStart => exact ⟨0, by omega, rfl, _, hM⟩
      case round =>
        obtain ⟨k, hk, rfl, u', hI⟩ := hrel
        clear hM
        by_cases hlt : k < n
        · have hmk := run_make2 wd hwd wr
          go_wp2_with fail
          go_loopw [14] (fun v wr' => ∃ l : Nat, l ≤ wd ∧ v = .int .i64 l ∧ RrAt wr wr.heap.size wd wr') (fun v _ => wd - (intOf v).toNat)
          case atStart => exact ⟨0, by omega, rfl, rr_start wr wd⟩
          case round =>
            obtain ⟨l, hl, rfl, hR⟩ := hrel
            clear hmk
            by_cases hlw : l < wd
            · obtain ⟨⟨x, hx⟩, hz⟩ := hR.cell hlw
              have hl2 : l < 819202 := by omega
              go_wp2_with fail
              refine (rfirst_calls _ _ _).mono ?_
              rintro e w3 ⟨rfl, rfl⟩
              go_wp2_with fail
              go_roundw
              case rel => exact ⟨l + 1, by omega, by go_num, hR.put _⟩
              case measure => simp [intOf]; omega
            · obtain rfl : l = wd := by omega
              have hI' := hI.keep hR.only
              have hI2 := Lib.hid hI'; clear hI'
              rename World => wr2
              have c0 : wr2.cell? ⟨w1.heap.size, 3, none⟩ = some (u' 0) := hI2.out.cell (by decide)
              have c1 : wr2.frozen? ⟨w1.heap.size, 3, none⟩ = false := blk_free hI2.out.obj _
              have c2 : (wr2.alloc (.cells #[.slice (some ⟨wr.heap.size, 0, none⟩) l l] 81)).cell? ⟨w1.heap.size, 3, none⟩ = some (u' 0) := by rw [blk_cell (blk_alloc hI2.out.obj _)]; rfl
              obtain ⟨xs, hxs⟩ := hI2.out.own
              have hxs' := Lib.hid hxs; clear hxs
              have hsz := Lib.hid hI2.out.only.size
              clear hI hR
              go_wp2_with fail
              go_region_law (go_loud (refine step_append_kept rfl (.tmp 64) (.tmp 66) 75 rfl 81 i3 (.slice none 0 0) 1 24 Try.underlying75 hi3 hz3 hs3 hb3 rfl (by decide) w1.heap.size k (u' 0) xs (by simp [Act.eval]) (rn_app hxs'.out rfl) (by have := hsz.out; simp; omega) ⟨wr2.heap.size, 0, none⟩ 1 1 [slv wr.heap.size l] (by simp [Act.eval]) rfl (rn_news rfl) (by simp [slv, Value.oneCell']) (by decide) (by unfold maxLen; omega) (by omega) ?_; intro v' w' hgr hown; obtain ⟨g, cap, rfl, hA⟩ := rn_after hI2.out (by decide) hxs'.out hgr hown rfl rfl rfl rfl; have d0 := hA.cell; have d1 := hA.free; have hA' := Lib.hid hA; clear hA hgr hown))
              all_goals
                clear c0 c1 c2
                go_wp2_with fail
                go_roundw
                case rel => exact ⟨k + 1, by omega, by go_num, _, hA'.out.next⟩
                case measure => simp [intOf]; omega
        · obtain rfl : k = n := by omega
          go_wp2_with fail
          go_roundw
          case rel => exact .inr (.inl ⟨rfl, _, hI.second⟩)
          case measure => simp [intOf]
    · have hstart := 0; clear hstart
      go_wp2_with fail
      go_loopw [12] (fun v wr => ∃ k : Nat, k ≤ n ∧ v = .int .i64 k ∧ ∃ u, RnAt w1 w1.heap.size kind n p 1 k u wr) (fun v _ => n - (intOf v).toNat)
      case atStart => exact ⟨0, by omega, rfl, _, hM⟩
      case round =>
        obtain ⟨k, hk, rfl, u', hI⟩ := hrel
        clear hM
        by_cases hlt : k < n
        · have hmk := run_make2 wd hwd wr
          go_wp2_with fail
          go_loopw [14] (fun v wr' => ∃ l : Nat, l ≤ wd ∧ v = .int .i64 l ∧ RrAt wr wr.heap.size wd wr') (fun v _ => wd - (intOf v).toNat)
          case atStart => exact ⟨0, by omega, rfl, rr_start wr wd⟩
          case round =>
            obtain ⟨l, hl, rfl, hR⟩ := hrel
            clear hmk
            by_cases hlw : l < wd
            · obtain ⟨⟨x, hx⟩, hz⟩ := hR.cell hlw
              have hl2 : l < 819202 := by omega
              go_wp2_with fail
              refine (rfirst_calls _ _ _).mono ?_
              rintro e w3 ⟨rfl, rfl⟩
              go_wp2_with fail
              go_roundw
              case rel => exact ⟨l + 1, by omega, by go_num, hR.put _⟩
              case measure => simp [intOf]; omega
            · obtain rfl : l = wd := by omega
              have hI' := hI.keep hR.only
              have hI2 := Lib.hid hI'; clear hI'
              rename World => wr2
              have c0 : wr2.cell? ⟨w1.heap.size, 4, none⟩ = some (u' 1) := hI2.out.cell (by decide)
              have c1 : wr2.frozen? ⟨w1.heap.size, 4, none⟩ = false := blk_free hI2.out.obj _
              have c2 : (wr2.alloc (.cells #[.slice (some ⟨wr.heap.size, 0, none⟩) l l] 81)).cell? ⟨w1.heap.size, 4, none⟩ = some (u' 1) := by rw [blk_cell (blk_alloc hI2.out.obj _)]; rfl
              obtain ⟨xs, hxs⟩ := hI2.out.own
              have hxs' := Lib.hid hxs; clear hxs
              have hsz := Lib.hid hI2.out.only.size
              clear hI hR
              go_wp2_with fail
              go_region_law (go_loud (refine step_append_kept rfl (.tmp 64) (.tmp 66) 75 rfl 81 i3 (.slice none 0 0) 1 24 Try.underlying75 hi3 hz3 hs3 hb3 rfl (by decide) w1.heap.size k (u' 1) xs (by simp [Act.eval]) (rn_app hxs'.out rfl) (by have := hsz.out; simp; omega) ⟨wr2.heap.size, 0, none⟩ 1 1 [slv wr.heap.size l] (by simp [Act.eval]) rfl (rn_news rfl) (by simp [slv, Value.oneCell']) (by decide) (by unfold maxLen; omega) (by omega) ?_; intro v' w' hgr hown; obtain ⟨g, cap, rfl, hA⟩ := rn_after hI2.out (by decide) hxs'.out hgr hown rfl rfl rfl rfl; have d0 := hA.cell; have d1 := hA.free; have hA' := Lib.hid hA; clear hA hgr hown))
              all_goals
                clear c0 c1 c2
                go_wp2_with fail
                go_roundw
                case rel => exact ⟨k + 1, by omega, by go_num, _, hA'.out.next⟩
                case measure => simp [intOf]; omega
        · obtain rfl : k = n := by omega
          go_wp2_with fail
          go_roundw
          case rel => exact .inr (.inr ⟨rfl, hI.only⟩)
          case measure => simp [intOf]
    · go_wp2_with fail
      go_ret2
      exact ⟨_, rfl, hM⟩
end Go.Proofs.Ytimiojckinpfdaa

/- The walk of Drain, at a counter. -/
namespace Go.Proofs.Ytimiojckinpfdaa
open Go.RowKit

section
variable {base s c : Nat} {kind p : Int} {st wd : Nat} {u : Nat → Value} {L : Nat → Nat} {R : Nat → Nat → Nat} {V : Nat → Nat → Nat → Int}
theorem row_at {w : World} (h : SlabAt base s c kind p st wd u L R V w) (h0 : 0 < st) (hm : st ≤ 16) (b : Nat) (hb : b < 2) (i : Int) (hi0 : 0 ≤ i) (hi : i < st) :
    Calls Try.prog 136 #[.pointer (some ⟨c, 0, none⟩), .int .i64 b, .int .i64 i] w fun e w' => e = .returned (.slice (some ⟨R b i.toNat, 0, none⟩) wd wd) ∧ w' = w := by
  refine (row_calls w h.held h0 hm h.l0 h.l1 b i).mono ?_
  rintro e w1 ⟨rfl, rfl⟩
  refine ⟨?_, rfl⟩
  rw [if_pos ⟨by omega, by omega, hi0, hi⟩]; rfl
theorem stripes_at {w : World} (h : SlabAt base s c kind p st wd u L R V w) (h0 : 0 < st) :
    Calls Try.prog 137 #[.pointer (some ⟨c, 0, none⟩)] w fun e w' => e = .returned (.int .i64 st) ∧ w' = w := by
  refine (stripes_calls w h.held (by rw [h.l0]; exact h0)).mono ?_
  rintro e w1 ⟨rfl, rfl⟩
  exact ⟨by rw [h.l0], rfl⟩
end
theorem first_1 (k : Int) : first 1 k = 0 := by unfold first; rw [if_neg (by omega), if_neg (by omega)]
theorem run_nonnil (a : Addr) (l c : Nat) (w : World) : Sem.run Try.prog (binOp .eql 103 (.slice (some a) l c) (.slice none 0 0)) w = .ok (.bool false) w := by kernel_rfl
theorem one_news (W : World) (n : Nat) (hn : n = W.heap.size) (x : Value) (t : TypeId) : ∀ (j : Nat) (y : Value), ([x] : List Value)[j]? = some y → (W.alloc (.cells #[x] t)).cell? ((⟨n, 0, none⟩ : Addr).add j) = some y := by
  intro j y hy
  subst hn
  match j, hy with
  | 0, hy =>
    show (W.alloc (.cells #[x] t)).cell? ⟨W.heap.size, 0, none⟩ = _
    rw [blk_cell (blk_new _ _)]; simpa using hy
  | j + 1, hy => simp at hy
/-- what Drain answers, and what it leaves -/
def DraincRes (base s c : Nat) (p : Int) (st : Nat) (u : Nat → Value) (L : Nat → Nat) (R : Nat → Nat → Nat) (V : Nat → Nat → Nat → Int) (b : Nat) (w : World) (e : Ending) (w' : World) : Prop :=
  e = .returned (.tuple #[partc (sumTo (V b) st).1 (sumTo (V b) st).2, .int .i64 0]) ∧ Only (fun j => ∃ i', i' < st ∧ j = R b i') w w' ∧ SlabAt base s c 1 p st 2 u L R (clr 1 V b st 0) w'
set_option maxRecDepth 200000 in
set_option maxHeartbeats 4000000 in
theorem drainc_calls (base s c : Nat) (p : Int) (st : Nat) (u : Nat → Value) (L : Nat → Nat) (R : Nat → Nat → Nat) (V : Nat → Nat → Nat → Int) (w : World) (h : SlabAt base s c 1 p st 2 u L R V w) (h0 : 0 < st) (hm : st ≤ 16) (b : Nat) (hb : b < 2) :
    Calls Try.prog 32 #[.pointer (some ⟨s, 0, none⟩), .pointer none, .int .i64 b] w (DraincRes base s c p st u L R V b w) := by
  obtain ⟨i3, hi3, hz3, hs3, hb3⟩ := info_parts info2
  have hS := drf_start (b := b) h
  have hF := Lib.hid hS; clear hS
  have c0 : (w.alloc (.cells #[.int .i64 0, .int .u64 0, .slice none 0 0, .int .u64 0, .complex .f64 0 0, .float .f64 0, .float .f64 0] 42)).cell? ⟨s, 0, none⟩ = some (.iface 99 (.agg #[.pointer (some ⟨c, 0, none⟩)])) := by rw [blk_cell (blk_alloc h.obj _)]; rfl
  have c1 := hF.out.it1
  have R0 := Lib.hid (row_at (h.only ((Only.refl (fun _ => False) w).alloc (.cells #[.int .i64 0, .int .u64 0, .slice none 0 0, .int .u64 0, .complex .f64 0 0, .float .f64 0, .float .f64 0] 42))) h0 hm b hb 0 (by omega) (by omega))
  have S0 := Lib.hid (stripes_at hF.out.slab h0)
  have hnn := run_nonnil
  have hm1 := meth_row1; have hm2 := meth_stripes1; have hm3 := meth_first1; have hm4 := meth_part1
  have H := Lib.hid h; clear h
  go_enter Try.func32, Try.ntmps32
  go_wp2_with fail
  refine R0.out.mono ?_
  rintro e w1 ⟨rfl, hw⟩; rw [hw]; clear hw R0 w1
  go_wp2_with fail
  refine S0.out.mono ?_
  rintro e w1 ⟨rfl, hw⟩; rw [hw]; clear hw S0 w1
  go_wp2_with fail
  go_loopw [26] (fun v wr => ∃ i : Nat, i ≤ st ∧ v = .int .i64 i ∧ DrF base w s c 1 p st 2 u L R V b i 0 0 (.slice none 0 0) (sumTo (V b) i).1 (sumTo (V b) i).2 wr) (fun v _ => st - (intOf v).toNat)
  case atStart => exact ⟨0, by omega, rfl, hF.out⟩
  case round =>
    obtain ⟨i, hi, rfl, hI⟩ := hrel
    clear c0 c1
    have hIt := hI.it1
    by_cases hlt : i < st
    · have RI := Lib.hid (row_at hI.slab h0 hm b hb (i : Nat) (by omega) (by omega))
      have HI := Lib.hid hI; clear hI
      go_wp2_with fail
      refine RI.out.mono ?_
      rintro e w1 ⟨rfl, hw⟩; rw [hw]; clear hw RI w1
      rw [Int.toNat_natCast]
      clear hIt
      go_wp2_with fail
      go_loopw [10, 38] (fun hv v wr => ∃ k : Nat, k ≤ 2 ∧ v = .int .i64 k ∧ DrF base w s c 1 p st 2 u L R V b i k k hv (sumTo (V b) i).1 (sumTo (V b) i).2 wr) (fun _ v _ => 2 - (intOf v).toNat)
      case atStart => exact ⟨0, by omega, rfl, HI.out⟩
      case round =>
        obtain ⟨k, hk, rfl, hJ⟩ := hrel
        clear HI
        by_cases hlk : k < 2
        · have hIt := hJ.it1
          have N0 := Lib.hid (hJ.next (Only.refl _ _).drew)
          clear hJ
          go_wp2_with fail
          go_region_held3 (fun w' => w'.cell? ⟨s, 0, none⟩ = some (.iface 99 (.agg #[.pointer (some ⟨c, 0, none⟩)])))
            ((first | (with_reducible exact N0.out.it1) | (with_reducible exact N3.out.it1) | (with_reducible exact N4.out.it1) | (with_reducible exact (N4.out.next ((Only.refl _ _).alloc _)).it1) | (with_reducible exact N5.out.it1) | (fail)))
            (first
              | (go_at_call 138; refine (first_counter _ _ _).mono ?_; rintro e w3 ⟨rfl, O3⟩; have N3 := Lib.hid (N0.out.next O3); clear N0)
              | (go_at_call 62; obtain ⟨hx, hz⟩ := N3.out.word hb hlt hlk; refine (wswap _ _ _ _ hx hz).mono ?_; rintro e w4 ⟨rfl, rfl⟩; have N4' := N3.out.put hb hlt; rw [first_1] at N4'; have N4 := Lib.hid N4'; clear N4' N3)
              | ((refine step_append_kept rfl (.tmp 41) (.tmp 53) 81 rfl 2 i3 (.int .i64 0) 1 8 Try.underlying81 hi3 hz3 hs3 hb3 rfl (by decide) w.heap.size k _ _ (by simp [Act.eval]) (N4.out.own_alloc _) (by have := N4.out.only.size; simp [World.setCell] at this ⊢; omega) ⟨w3.heap.size, 0, none⟩ 1 1 [.int .i64 (V b i k)] (by simp [Act.eval]) rfl (one_news _ _ (by simp [World.setCell]) _ _) (by simp [Value.oneCell']) (by decide) (by unfold maxLen; omega) (by omega) ?_; intro v' w5 hgr hown; have N5 := Lib.hid ((N4.out.next ((Only.refl _ _).alloc _)).app hgr hown); clear N4)))
          clear hIt
          go_wp2_with fail
          go_roundw
          case rel => exact ⟨k + 1, by omega, by go_num, N5.out⟩
          case measure => simp [intOf]; omega
        · obtain rfl : k = 2 := by omega
          obtain ⟨g, cap, rfl, hcell⟩ := hJ.slice (by decide)
          have HC := Lib.hid hcell; clear hcell
          have HJ := Lib.hid hJ
          have hIt := hJ.it1
          have ha := hJ.all
          obtain ⟨d0, d1, d2, d3, d4, d5, d6, f0, f1, f2, f3, f4, f5, f6⟩ := seven ha
          have hsl := Lib.hid (sumTo_le (V b) i)
          clear hJ ha
          go_wp2_with fail
          have N0 : Hid (DrF base w s c 1 p st 2 u L R V b i 2 2 (.slice (some ⟨g, 0, none⟩) 2 cap) (sumTo (V b) i).1 (sumTo (V b) i).2 wr.drew) := Lib.hid (HJ.out.next (Only.refl _ _).drew)
          have ks1 := run_stf
          have ks2 := run_stc
          go_region_law (first | (go_simp; go_at_call 140; refine (partc_calls _ g cap (V b i 0) (V b i 1) _ (HC.out _ N0.out 0 (by decide)) (HC.out _ N0.out 1 (by decide))).mono ?_; rintro e w3 ⟨rfl, O3⟩; have N3 := Lib.hid (N0.out.next O3); obtain ⟨d0, d1, d2, d3, d4, d5, d6, f0, f1, f2, f3, f4, f5, f6⟩ := seven N3.out.all; clear O3; unfold partc) | (go_simp; go_at_call 16; refine (mergec_calls _ _ _ _ _ hsl.out (u64_le _)).mono ?_; rintro e w4 ⟨rfl, O4⟩; have N4 := Lib.hid (N3.out.next O4); obtain ⟨d0, d1, d2, d3, d4, d5, d6, f0, f1, f2, f3, f4, f5, f6⟩ := seven N4.out.all; clear O4; unfold partc))
          all_goals
            go_wp2_with fail
            go_roundw
            case rel => exact ⟨i + 1, by omega, by go_num, N4.out.done rfl⟩
            case measure => simp [intOf]; omega
    · obtain rfl : i = st := by omega
      have HI := Lib.hid hI
      have ha := hI.all
      have hr := hI.res
      obtain ⟨d0, d1, d2, d3, d4, d5, d6, f0, f1, f2, f3, f4, f5, f6⟩ := seven ha
      obtain ⟨z0, z1, z2, z3, z4, z5, z6, y0, y1, y2, y3, y4, y5, y6⟩ := seven hr
      clear hI ha hr
      have ks1 := run_stf
      have ks2 := run_stc
      go_wp2_with fail
      have hr := HI.out.res
      have e7 := seven (put7_blk hr (.int .i64 (sumTo (V b) i).1) (.int .u64 (sumTo (V b) i).2) (.slice none 0 0) (.int .u64 0) (.complex .f64 0 0) (.float .f64 0) (.float .f64 0))
      have O7 : Only (fun j => ∃ i', i' < i ∧ j = R b i') w (put7 wr w.heap.size (.int .i64 (sumTo (V b) i).1) (.int .u64 (sumTo (V b) i).2) (.slice none 0 0) (.int .u64 0) (.complex .f64 0 0) (.float .f64 0) (.float .f64 0)) := HI.out.only.put7 (.inl (Nat.le_refl _)) _ _ _ _ _ _ _
      have kp : ∀ t, t ≠ 42 → Keep t wr (put7 wr w.heap.size (.int .i64 (sumTo (V b) i).1) (.int .u64 (sumTo (V b) i).2) (.slice none 0 0) (.int .u64 0) (.complex .f64 0 0) (.float .f64 0) (.float .f64 0)) := fun t ht => Keep.chain7 ((Only.refl (fun _ => False) wr).keep t) hr ht.symm _ _ _ _ _ _ _
      have S7 : SlabAt base s c 1 p i 2 u L R (clr 1 V b i 0) (put7 wr w.heap.size (.int .i64 (sumTo (V b) i).1) (.int .u64 (sumTo (V b) i).2) (.slice none 0 0) (.int .u64 0) (.complex .f64 0 0) (.float .f64 0) (.float .f64 0)) := HI.out.slab.keepT (kp _ (by decide)) (kp _ (by decide)) (kp _ (by decide)) (kp _ (by decide))
      refine bodyPost_ret (w := put7 wr w.heap.size (.int .i64 (sumTo (V b) i).1) (.int .u64 (sumTo (V b) i).2) (.slice none 0 0) (.int .u64 0) (.complex .f64 0 0) (.float .f64 0) (.float .f64 0)) (v := .tuple #[partc (sumTo (V b) i).1 (sumTo (V b) i).2, .int .i64 0]) ?_ rfl ⟨rfl, O7, S7⟩
      clear O7 kp S7 hr
      generalize put7 wr w.heap.size (.int .i64 (sumTo (V b) i).1) (.int .u64 (sumTo (V b) i).2) (.slice none 0 0) (.int .u64 0) (.complex .f64 0 0) (.float .f64 0) (.float .f64 0) = w7 at *
      obtain ⟨d0, d1, d2, d3, d4, d5, d6, f0, f1, f2, f3, f4, f5, f6⟩ := e7
      simp [results, Try.results32, go_sem, d0, d1, d2, d3, d4, d5, d6, partc]
end Go.Proofs.Ytimiojckinpfdaa
