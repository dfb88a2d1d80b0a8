/- What a Turn, Drains and Refused do while RecorderTurns runs. -/
import Derived.Test.YtimiojckinpfdaaTurns1
namespace Go.Proofs.Ytimiojckinpfdaa
open Go.RowKit

/-- behind a Turn -/
structure TT (w : World) (sh ph s c lb : Nat) (rb : Nat → Nat) (u : Nat → Value) (L : Nat → Nat) (R : Nat → Nat → Nat) (b : Nat) (x : Int) (S : Int) (wr : World) : Prop where
  only : Only (fun _ => False) w wr
  rcd : ∃ rf en, RecAt w.heap.size sh ph (1 - b : Nat) rf (1 - b : Nat) (bg (1 - b)) en wr ∧ rf b = x ∧ rf (1 - b) = 0 ∧ en (1 - b) = bg (1 - b)
  slab : ∃ V, SlabAt w.heap.size s c 1 1 3 2 u L R V wr ∧ (∀ i j, i < 3 → j < 2 → V (1 - b) i j = 0) ∧ tot (V b) 3 = S ∧ ∀ i, i < 3 → -9223372036854775808 ≤ V b i 0 ∧ V b i 0 ≤ 9223372036854775807
  lobj : wr.heap[lb]? = some (.cells #[.pointer (some ⟨rb 0, 0, none⟩), .pointer (some ⟨rb 1, 0, none⟩), .pointer (some ⟨rb 2, 0, none⟩)] 78 (0, 0))
  robj : ∀ j, j < 3 → wr.heap[rb j]? = some (.cells #[.pointer (some ⟨sh, 0, none⟩), .int .i64 (j : Nat), .bool false] 140 (0, 0))
/-- both buffers are empty -/
structure TD (w : World) (sh ph s c lb : Nat) (rb : Nat → Nat) (u : Nat → Value) (L : Nat → Nat) (R : Nat → Nat → Nat) (b : Nat) (x : Int) (wr : World) : Prop where
  only : Only (fun _ => False) w wr
  rcd : ∃ rf en, RecAt w.heap.size sh ph (1 - b : Nat) rf (1 - b : Nat) (bg (1 - b)) en wr ∧ rf b = x ∧ rf (1 - b) = 0 ∧ en (1 - b) = bg (1 - b)
  slab : ∃ V, SlabAt w.heap.size s c 1 1 3 2 u L R V wr ∧ ∀ q i j, q < 2 → i < 3 → j < 2 → V q i j = 0
  lobj : wr.heap[lb]? = some (.cells #[.pointer (some ⟨rb 0, 0, none⟩), .pointer (some ⟨rb 1, 0, none⟩), .pointer (some ⟨rb 2, 0, none⟩)] 78 (0, 0))
  robj : ∀ j, j < 3 → wr.heap[rb j]? = some (.cells #[.pointer (some ⟨sh, 0, none⟩), .int .i64 (j : Nat), .bool false] 140 (0, 0))
/-- what the drain of the turned buffer answers -/
def TDr (w : World) (sh ph s c lb : Nat) (rb : Nat → Nat) (u : Nat → Value) (L : Nat → Nat) (R : Nat → Nat → Nat) (b : Nat) (x S : Int) (wr : World) (e : Ending) (w' : World) : Prop :=
  ∃ hi lo, e = .returned (.tuple #[partc hi lo, .int .i64 0]) ∧ T hi lo = S ∧ 0 ≤ lo ∧ lo ≤ 18446744073709551615 ∧ (-9223372036854775808 ≤ hi ∧ hi ≤ 9223372036854775807) ∧ TD w sh ph s c lb rb u L R b x w' ∧ Keep 35 wr w' ∧ Keep 42 wr w'
theorem Only.keepR {base s c : Nat} {kind p : Int} {st wd : Nat} {u : Nat → Value} {L : Nat → Nat} {R : Nat → Nat → Nat} {V : Nat → Nat → Nat → Int} {w w' : World} {b : Nat} (O : Only (fun k => ∃ j, j < st ∧ k = R b j) w w') (hS : SlabAt base s c kind p st wd u L R V w) (hb : b < 2) (t : TypeId) (ht : (114 : Nat) ≠ t) : Keep t w w' := fun k cs f q => O.blk q (by
  rintro ⟨j, hj, e⟩
  obtain ⟨cs2, q1, _⟩ := hS.held.wrd b hb j (by rw [hS.len hb]; exact hj)
  subst e; rw [q1] at q; injection q with q; injection q with _ q _; exact ht q)
theorem sum_zero3 (f : Nat → Nat → Int) (h : ∀ i, i < 3 → f i 0 = 0 ∧ f i 1 = 0) : sumTo f 3 = (0, 0) := by
  simp only [sumTo, (h 0 (by decide)).1, (h 0 (by decide)).2, (h 1 (by decide)).1, (h 1 (by decide)).2, (h 2 (by decide)).1, (h 2 (by decide)).2]; kernel_rfl
section
variable {w : World} {sh ph s c lb : Nat} {rb : Nat → Nat} {u : Nat → Value} {L : Nat → Nat} {R : Nat → Nat → Nat} {x : Int} {k : Nat} {S : Int} {wr : World}
theorem TT.next {b : Nat} {w' : World} (h : TT w sh ph s c lb rb u L R b x S wr) (O : Only (fun _ => False) wr w') : TT w sh ph s c lb rb u L R b x S w' := by
  obtain ⟨O0, ⟨rf, en, hR, h1, h2, h3⟩, ⟨V, hS, h4, h5, h6⟩, hl, hr⟩ := h
  exact ⟨O0.trans O, ⟨rf, en, hR.only O (by simp) (by simp), h1, h2, h3⟩, ⟨V, hS.only O, h4, h5, h6⟩, O.blk hl (by simp), fun j hj => O.blk (hr j hj) (by simp)⟩
theorem TD.next {b : Nat} {w' : World} (h : TD w sh ph s c lb rb u L R b x wr) (O : Only (fun _ => False) wr w') : TD w sh ph s c lb rb u L R b x w' := by
  obtain ⟨O0, ⟨rf, en, hR, h1, h2, h3⟩, ⟨V, hS, h4⟩, hl, hr⟩ := h
  exact ⟨O0.trans O, ⟨rf, en, hR.only O (by simp) (by simp), h1, h2, h3⟩, ⟨V, hS.only O, h4⟩, O.blk hl (by simp), fun j hj => O.blk (hr j hj) (by simp)⟩
theorem TS.turn0 (h : TS w sh ph s c lb rb u L R 0 x k S wr) (hk : k ≤ 9223372036854775807) :
    Calls Try.prog 31 #[.pointer (some ⟨sh, 0, none⟩), .pointer none] wr fun e w' => e = .returned (.tuple #[.int .i64 0, .int .i64 0]) ∧ TT w sh ph s c lb rb u L R 0 x S w' ∧ Keep 35 wr w' := by
  obtain ⟨O0, ⟨rf, en, hR, h1, h2, h3⟩, ⟨V, hS, h4, h5, h6⟩, hl, hr⟩ := h
  refine (turn_0 hR (phase_bg (b := 0) (by decide) (by omega)) h3).mono ?_
  rintro e w' ⟨rfl, O1, R1⟩
  refine ⟨rfl, ⟨O0.seq2 O1 ?_, ⟨rf, _, R1, h1, h2, upd_same _ _ _⟩, ⟨V, hS.rec2 hR O1, h4, h5, h6⟩, O1.keep2 hR.sobj hR.pobj 78 (by decide) (by decide) _ _ _ hl, fun m hm => O1.keep2 hR.sobj hR.pobj 140 (by decide) (by decide) _ _ _ (hr m hm)⟩, O1.keep2 hR.sobj hR.pobj 35 (by decide) (by decide)⟩
  rintro y (e | e)
  · exact .inl (by rw [e]; exact hR.sge)
  · exact .inl (by rw [e]; exact hR.pge)
theorem TT.drain0 (h : TT w sh ph s c lb rb u L R 0 x S wr) :
    Calls Try.prog 32 #[.pointer (some ⟨s, 0, none⟩), .pointer none, .int .i64 0] wr (TDr w sh ph s c lb rb u L R 0 x S wr) := by
  obtain ⟨O0, ⟨rf, en, hR, h1, h2, h3⟩, ⟨V, hS, h4, h5, h6⟩, hl, hr⟩ := h
  have K : Calls Try.prog 32 #[.pointer (some ⟨s, 0, none⟩), .pointer none, .int .i64 0] wr (DraincRes w.heap.size s c 1 3 u L R V 0 wr) := drainc_calls w.heap.size s c 1 3 u L R V wr hS (by decide) (by decide) 0 (by decide)
  refine K.mono ?_
  rintro e w' ⟨rfl, O1, S1⟩
  have kp : ∀ t, (114 : Nat) ≠ t → Keep t wr w' := fun t ht => O1.keepR hS (by decide) t ht
  refine ⟨_, _, rfl, by rw [T_sumTo]; exact h5, sumTo_ge _ _, sumTo_le _ _, sumTo_hi _ _, ⟨O0.seq2 O1 ?_, ⟨rf, en, hR.rows hS (by decide) O1, h1, h2, h3⟩, ⟨_, S1, ?_⟩, kp 78 (by decide) _ _ _ hl, fun m hm => kp 140 (by decide) _ _ _ (hr m hm)⟩, kp 35 (by decide), kp 42 (by decide)⟩
  · rintro y ⟨j, hj, e⟩; exact .inl (by rw [e]; exact rge_at hS (by decide) hj)
  · intro q i j hq hi hj
    unfold clr
    by_cases e : q = 0
    · subst e; rw [if_pos ⟨rfl, .inl hi⟩, first_1]
    · rw [if_neg (by omega)]
      obtain rfl : q = 1 := by omega
      exact h4 i j hi hj
theorem TD.drain0 (h : TD w sh ph s c lb rb u L R 0 x wr) :
    Calls Try.prog 32 #[.pointer (some ⟨s, 0, none⟩), .pointer none, .int .i64 1] wr fun e w' => e = .returned (.tuple #[partc 0 0, .int .i64 0]) ∧ TD w sh ph s c lb rb u L R 0 x w' ∧ Keep 35 wr w' ∧ Keep 42 wr w' := by
  obtain ⟨O0, ⟨rf, en, hR, h1, h2, h3⟩, ⟨V, hS, h4⟩, hl, hr⟩ := h
  have K : Calls Try.prog 32 #[.pointer (some ⟨s, 0, none⟩), .pointer none, .int .i64 1] wr (DraincRes w.heap.size s c 1 3 u L R V 1 wr) := drainc_calls w.heap.size s c 1 3 u L R V wr hS (by decide) (by decide) 1 (by decide)
  refine K.mono ?_
  rintro e w' ⟨rfl, O1, S1⟩
  have kp : ∀ t, (114 : Nat) ≠ t → Keep t wr w' := fun t ht => O1.keepR hS (by decide) t ht
  have hz : sumTo (V 1) 3 = (0, 0) := sum_zero3 _ (fun i hi => ⟨h4 1 i 0 (by decide) hi (by decide), h4 1 i 1 (by decide) hi (by decide)⟩)
  refine ⟨by rw [hz], ⟨O0.seq2 O1 ?_, ⟨rf, en, hR.rows hS (by decide) O1, h1, h2, h3⟩, ⟨_, S1, ?_⟩, kp 78 (by decide) _ _ _ hl, fun m hm => kp 140 (by decide) _ _ _ (hr m hm)⟩, kp 35 (by decide), kp 42 (by decide)⟩
  · rintro y ⟨j, hj, e⟩; exact .inl (by rw [e]; exact rge_at hS (by decide) hj)
  · intro q i j hq hi hj
    unfold clr
    by_cases e : q = 1
    · subst e; rw [if_pos ⟨rfl, .inl hi⟩, first_1]
    · rw [if_neg (by omega)]; exact h4 q i j hq hi hj
theorem TD.ref0 (h : TD w sh ph s c lb rb u L R 0 x wr) (h0 : 0 ≤ x) (h9 : x ≤ 9223372036854775807) :
    Calls Try.prog 33 #[.pointer (some ⟨sh, 0, none⟩), .pointer none, .int .i64 0] wr fun e w' => e = .returned (.int .u64 x) ∧ TD w sh ph s c lb rb u L R 0 0 w' := by
  obtain ⟨O0, ⟨rf, en, hR, h1, h2, h3⟩, ⟨V, hS, h4⟩, hl, hr⟩ := h
  have K : Calls Try.prog 33 #[.pointer (some ⟨sh, 0, none⟩), .pointer none, .int .i64 0] wr _ := refused_calls hR 0 (by decide)
  refine K.mono ?_
  rintro e w' ⟨rfl, hw⟩
  have R1 : RecAt w.heap.size sh ph 1 (upd rf 0 0) 1 (bg 1) en w' := by rw [hw]; exact hR.setRef 0 (by decide) 0
  have O1 : Only (fun y => y = sh) wr w' := by rw [hw]; exact (Only.refl (fun y => y = sh) wr).setCell (p := ⟨sh, 2 + 0, none⟩) (.inr rfl) _
  refine ⟨?_, ⟨O0.seq2 O1 (fun y e => .inl (by rw [e]; exact hR.sge)), ⟨_, en, R1, upd_same _ _ _, by rw [upd_ne _ _ (by decide)]; exact h2, h3⟩, ⟨V, hS.keep1 O1 hR.sobj (by decide), h4⟩, O1.keep1 hR.sobj 78 (by decide) _ _ _ hl, fun m hm => O1.keep1 hR.sobj 140 (by decide) _ _ _ (hr m hm)⟩⟩
  rw [h1, u64_mod, Int.emod_eq_of_lt h0 (by omega)]
theorem TD.refo0 (h : TD w sh ph s c lb rb u L R 0 0 wr) :
    Calls Try.prog 33 #[.pointer (some ⟨sh, 0, none⟩), .pointer none, .int .i64 1] wr fun e w' => e = .returned (.int .u64 0) ∧ TS w sh ph s c lb rb u L R 1 0 0 0 w' := by
  obtain ⟨O0, ⟨rf, en, hR, h1, h2, h3⟩, ⟨V, hS, h4⟩, hl, hr⟩ := h
  have K : Calls Try.prog 33 #[.pointer (some ⟨sh, 0, none⟩), .pointer none, .int .i64 1] wr _ := refused_calls hR 1 (by decide)
  refine K.mono ?_
  rintro e w' ⟨rfl, hw⟩
  have R1 : RecAt w.heap.size sh ph 1 (upd rf 1 0) 1 (bg 1) en w' := by rw [hw]; exact hR.setRef 1 (by decide) 0
  have O1 : Only (fun y => y = sh) wr w' := by rw [hw]; exact (Only.refl (fun y => y = sh) wr).setCell (p := ⟨sh, 2 + 1, none⟩) (.inr rfl) _
  have e0 : bg 1 + ((0 : Nat) : Int) = bg 1 := Int.add_zero _
  refine ⟨?_, ⟨O0.seq2 O1 (fun y e => .inl (by rw [e]; exact hR.sge)), ⟨_, en, by rw [e0]; exact R1, upd_same _ _ _, by rw [upd_ne _ _ (by decide)]; exact h1, by rw [e0]; exact h3⟩, ⟨V, hS.keep1 O1 hR.sobj (by decide), fun i j hi hj => h4 _ i j (by decide) hi hj, tot_zero _ _ (fun i hi => ⟨h4 _ i 0 (by decide) hi (by decide), h4 _ i 1 (by decide) hi (by decide)⟩), fun i hi => by rw [h4 1 i 0 (by decide) hi (by decide)]; decide⟩, O1.keep1 hR.sobj 78 (by decide) _ _ _ hl, fun m hm => O1.keep1 hR.sobj 140 (by decide) _ _ _ (hr m hm)⟩⟩
  rw [show rf 1 = 0 from h2]; rfl
theorem TS.turn1 (h : TS w sh ph s c lb rb u L R 1 x k S wr) (hk : k ≤ 9223372036854775807) :
    Calls Try.prog 31 #[.pointer (some ⟨sh, 0, none⟩), .pointer none] wr fun e w' => e = .returned (.tuple #[.int .i64 1, .int .i64 0]) ∧ TT w sh ph s c lb rb u L R 1 x S w' ∧ Keep 35 wr w' := by
  obtain ⟨O0, ⟨rf, en, hR, h1, h2, h3⟩, ⟨V, hS, h4, h5, h6⟩, hl, hr⟩ := h
  refine (turn_1 hR (phase_bg (b := 1) (by decide) (by omega)) h3).mono ?_
  rintro e w' ⟨rfl, O1, R1⟩
  refine ⟨rfl, ⟨O0.seq2 O1 ?_, ⟨rf, _, R1, h1, h2, upd_same _ _ _⟩, ⟨V, hS.rec2 hR O1, h4, h5, h6⟩, O1.keep2 hR.sobj hR.pobj 78 (by decide) (by decide) _ _ _ hl, fun m hm => O1.keep2 hR.sobj hR.pobj 140 (by decide) (by decide) _ _ _ (hr m hm)⟩, O1.keep2 hR.sobj hR.pobj 35 (by decide) (by decide)⟩
  rintro y (e | e)
  · exact .inl (by rw [e]; exact hR.sge)
  · exact .inl (by rw [e]; exact hR.pge)
theorem TT.drain1 (h : TT w sh ph s c lb rb u L R 1 x S wr) :
    Calls Try.prog 32 #[.pointer (some ⟨s, 0, none⟩), .pointer none, .int .i64 1] wr (TDr w sh ph s c lb rb u L R 1 x S wr) := by
  obtain ⟨O0, ⟨rf, en, hR, h1, h2, h3⟩, ⟨V, hS, h4, h5, h6⟩, hl, hr⟩ := h
  have K : Calls Try.prog 32 #[.pointer (some ⟨s, 0, none⟩), .pointer none, .int .i64 1] wr (DraincRes w.heap.size s c 1 3 u L R V 1 wr) := drainc_calls w.heap.size s c 1 3 u L R V wr hS (by decide) (by decide) 1 (by decide)
  refine K.mono ?_
  rintro e w' ⟨rfl, O1, S1⟩
  have kp : ∀ t, (114 : Nat) ≠ t → Keep t wr w' := fun t ht => O1.keepR hS (by decide) t ht
  refine ⟨_, _, rfl, by rw [T_sumTo]; exact h5, sumTo_ge _ _, sumTo_le _ _, sumTo_hi _ _, ⟨O0.seq2 O1 ?_, ⟨rf, en, hR.rows hS (by decide) O1, h1, h2, h3⟩, ⟨_, S1, ?_⟩, kp 78 (by decide) _ _ _ hl, fun m hm => kp 140 (by decide) _ _ _ (hr m hm)⟩, kp 35 (by decide), kp 42 (by decide)⟩
  · rintro y ⟨j, hj, e⟩; exact .inl (by rw [e]; exact rge_at hS (by decide) hj)
  · intro q i j hq hi hj
    unfold clr
    by_cases e : q = 1
    · subst e; rw [if_pos ⟨rfl, .inl hi⟩, first_1]
    · rw [if_neg (by omega)]
      obtain rfl : q = 0 := by omega
      exact h4 i j hi hj
theorem TD.drain1 (h : TD w sh ph s c lb rb u L R 1 x wr) :
    Calls Try.prog 32 #[.pointer (some ⟨s, 0, none⟩), .pointer none, .int .i64 0] wr fun e w' => e = .returned (.tuple #[partc 0 0, .int .i64 0]) ∧ TD w sh ph s c lb rb u L R 1 x w' ∧ Keep 35 wr w' ∧ Keep 42 wr w' := by
  obtain ⟨O0, ⟨rf, en, hR, h1, h2, h3⟩, ⟨V, hS, h4⟩, hl, hr⟩ := h
  have K : Calls Try.prog 32 #[.pointer (some ⟨s, 0, none⟩), .pointer none, .int .i64 0] wr (DraincRes w.heap.size s c 1 3 u L R V 0 wr) := drainc_calls w.heap.size s c 1 3 u L R V wr hS (by decide) (by decide) 0 (by decide)
  refine K.mono ?_
  rintro e w' ⟨rfl, O1, S1⟩
  have kp : ∀ t, (114 : Nat) ≠ t → Keep t wr w' := fun t ht => O1.keepR hS (by decide) t ht
  have hz : sumTo (V 0) 3 = (0, 0) := sum_zero3 _ (fun i hi => ⟨h4 0 i 0 (by decide) hi (by decide), h4 0 i 1 (by decide) hi (by decide)⟩)
  refine ⟨by rw [hz], ⟨O0.seq2 O1 ?_, ⟨rf, en, hR.rows hS (by decide) O1, h1, h2, h3⟩, ⟨_, S1, ?_⟩, kp 78 (by decide) _ _ _ hl, fun m hm => kp 140 (by decide) _ _ _ (hr m hm)⟩, kp 35 (by decide), kp 42 (by decide)⟩
  · rintro y ⟨j, hj, e⟩; exact .inl (by rw [e]; exact rge_at hS (by decide) hj)
  · intro q i j hq hi hj
    unfold clr
    by_cases e : q = 0
    · subst e; rw [if_pos ⟨rfl, .inl hi⟩, first_1]
    · rw [if_neg (by omega)]; exact h4 q i j hq hi hj
theorem TD.ref1 (h : TD w sh ph s c lb rb u L R 1 x wr) (h0 : 0 ≤ x) (h9 : x ≤ 9223372036854775807) :
    Calls Try.prog 33 #[.pointer (some ⟨sh, 0, none⟩), .pointer none, .int .i64 1] wr fun e w' => e = .returned (.int .u64 x) ∧ TD w sh ph s c lb rb u L R 1 0 w' := by
  obtain ⟨O0, ⟨rf, en, hR, h1, h2, h3⟩, ⟨V, hS, h4⟩, hl, hr⟩ := h
  have K : Calls Try.prog 33 #[.pointer (some ⟨sh, 0, none⟩), .pointer none, .int .i64 1] wr _ := refused_calls hR 1 (by decide)
  refine K.mono ?_
  rintro e w' ⟨rfl, hw⟩
  have R1 : RecAt w.heap.size sh ph 0 (upd rf 1 0) 0 (bg 0) en w' := by rw [hw]; exact hR.setRef 1 (by decide) 0
  have O1 : Only (fun y => y = sh) wr w' := by rw [hw]; exact (Only.refl (fun y => y = sh) wr).setCell (p := ⟨sh, 2 + 1, none⟩) (.inr rfl) _
  refine ⟨?_, ⟨O0.seq2 O1 (fun y e => .inl (by rw [e]; exact hR.sge)), ⟨_, en, R1, upd_same _ _ _, by rw [upd_ne _ _ (by decide)]; exact h2, h3⟩, ⟨V, hS.keep1 O1 hR.sobj (by decide), h4⟩, O1.keep1 hR.sobj 78 (by decide) _ _ _ hl, fun m hm => O1.keep1 hR.sobj 140 (by decide) _ _ _ (hr m hm)⟩⟩
  rw [h1, u64_mod, Int.emod_eq_of_lt h0 (by omega)]
theorem TD.refo1 (h : TD w sh ph s c lb rb u L R 1 0 wr) :
    Calls Try.prog 33 #[.pointer (some ⟨sh, 0, none⟩), .pointer none, .int .i64 0] wr fun e w' => e = .returned (.int .u64 0) ∧ TS w sh ph s c lb rb u L R 0 0 0 0 w' := by
  obtain ⟨O0, ⟨rf, en, hR, h1, h2, h3⟩, ⟨V, hS, h4⟩, hl, hr⟩ := h
  have K : Calls Try.prog 33 #[.pointer (some ⟨sh, 0, none⟩), .pointer none, .int .i64 0] wr _ := refused_calls hR 0 (by decide)
  refine K.mono ?_
  rintro e w' ⟨rfl, hw⟩
  have R1 : RecAt w.heap.size sh ph 0 (upd rf 0 0) 0 (bg 0) en w' := by rw [hw]; exact hR.setRef 0 (by decide) 0
  have O1 : Only (fun y => y = sh) wr w' := by rw [hw]; exact (Only.refl (fun y => y = sh) wr).setCell (p := ⟨sh, 2 + 0, none⟩) (.inr rfl) _
  have e0 : bg 0 + ((0 : Nat) : Int) = bg 0 := Int.add_zero _
  refine ⟨?_, ⟨O0.seq2 O1 (fun y e => .inl (by rw [e]; exact hR.sge)), ⟨_, en, by rw [e0]; exact R1, upd_same _ _ _, by rw [upd_ne _ _ (by decide)]; exact h1, by rw [e0]; exact h3⟩, ⟨V, hS.keep1 O1 hR.sobj (by decide), fun i j hi hj => h4 _ i j (by decide) hi hj, tot_zero _ _ (fun i hi => ⟨h4 _ i 0 (by decide) hi (by decide), h4 _ i 1 (by decide) hi (by decide)⟩), fun i hi => by rw [h4 0 i 0 (by decide) hi (by decide)]; decide⟩, O1.keep1 hR.sobj 78 (by decide) _ _ _ hl, fun m hm => O1.keep1 hR.sobj 140 (by decide) _ _ _ (hr m hm)⟩⟩
  rw [show rf 0 = 0 from h2]; rfl
end
end Go.Proofs.Ytimiojckinpfdaa
