/- What holds while RecorderTurns runs: recorders, slab, sums. -/
import Derived.Test.YtimiojckinpfdaaAwake
namespace Go.Proofs.Ytimiojckinpfdaa
open Go.RowKit

def bg (b : Nat) : Int := if b = 1 then -9223372036854775808 else 0
/-- the recorders and the slab of the law: k records done in the buffer b, rfb of them refused, the sum S -/
structure TS (w : World) (sh ph s c lb : Nat) (rb : Nat → Nat) (u : Nat → Value) (L : Nat → Nat) (R : Nat → Nat → Nat) (b : Nat) (rfb : Int) (k : Nat) (S : Int) (wr : World) : Prop where
  only : Only (fun _ => False) w wr
  rcd : ∃ rf en, RecAt w.heap.size sh ph b rf b (bg b + k) en wr ∧ rf b = rfb ∧ rf (1 - b) = 0 ∧ en b = bg b + k
  slab : ∃ V, SlabAt w.heap.size s c 1 1 3 2 u L R V wr ∧ (∀ i j, i < 3 → j < 2 → V (1 - b) i j = 0) ∧ tot (V b) 3 = S ∧ ∀ i, i < 3 → -9223372036854775808 ≤ V b i 0 ∧ V b i 0 ≤ 9223372036854775807
  lobj : wr.heap[lb]? = some (.cells #[.pointer (some ⟨rb 0, 0, none⟩), .pointer (some ⟨rb 1, 0, none⟩), .pointer (some ⟨rb 2, 0, none⟩)] 78 (0, 0))
  robj : ∀ j, j < 3 → wr.heap[rb j]? = some (.cells #[.pointer (some ⟨sh, 0, none⟩), .int .i64 (j : Nat), .bool false] 140 (0, 0))
section
variable {w : World} {sh ph s c lb : Nat} {rb : Nat → Nat} {u : Nat → Value} {L : Nat → Nat} {R : Nat → Nat → Nat} {b : Nat} {rfb : Int} {k : Nat} {S : Int} {wr : World}
theorem TS.next {w' : World} (h : TS w sh ph s c lb rb u L R b rfb k S wr) (O : Only (fun _ => False) wr w') : TS w sh ph s c lb rb u L R b rfb k S w' := by
  obtain ⟨O0, ⟨rf, en, hR, h1, h2, h3⟩, ⟨V, hS, h4, h5, h6⟩, hl, hr⟩ := h
  exact ⟨O0.trans O, ⟨rf, en, hR.only O (by simp) (by simp), h1, h2, h3⟩, ⟨V, hS.only O, h4, h5, h6⟩, O.blk hl (by simp), fun j hj => O.blk (hr j hj) (by simp)⟩
theorem TS.sum1 {w' : World} {sb : Nat} (h : TS w sh ph s c lb rb u L R b rfb k S wr) {cs : Array Value} {f : Nat × Nat} (hb : wr.heap[sb]? = some (.cells cs 35 f)) (hs : w.heap.size ≤ sb) (O : Only (fun x => x = sb) wr w') : TS w sh ph s c lb rb u L R b rfb k S w' := by
  obtain ⟨O0, ⟨rf, en, hR, h1, h2, h3⟩, ⟨V, hS, h4, h5, h6⟩, hl, hr⟩ := h
  have keepR : RecAt w.heap.size sh ph b rf b (bg b + k) en w' := ⟨hR.sge, hR.pge, O.keep1 hb 138 (by decide) _ _ _ hR.sobj, O.keep1 hb 166 (by decide) _ _ _ hR.pobj⟩
  exact ⟨O0.seq2 O (fun x e => .inl (by rw [e]; exact hs)), ⟨rf, en, keepR, h1, h2, h3⟩, ⟨V, hS.keep1 O hb (by decide), h4, h5, h6⟩, O.keep1 hb 78 (by decide) _ _ _ hl, fun j hj => O.keep1 hb 140 (by decide) _ _ _ (hr j hj)⟩
theorem phase_bg (hb : b < 2) (hk : k ≤ 9223372036854775807) : phaseOf (bg b + k) = b := by
  have hcs : b = 0 ∨ b = 1 := by omega
  rcases hcs with rfl | rfl
  · have e : bg 0 = 0 := rfl
    rw [e]; exact phaseOf_pos (by omega)
  · have e : bg 1 = -9223372036854775808 := rfl
    rw [e]; exact phaseOf_neg (by omega)
theorem bg_next (_ : b < 2) (hk : k ≤ 9223372036854775806) : add64 (bg b + k) 1 = bg b + (k + 1 : Nat) := by
  unfold add64 bg wrap64
  split <;> omega
theorem bg_range (_ : b < 2) (hk : k ≤ 9223372036854775807) : -9223372036854775808 ≤ bg b + k ∧ bg b + k ≤ 9223372036854775807 := by
  unfold bg; split <;> omega
/-- what a record does -/
def TSadd (w : World) (sh ph s c lb : Nat) (rb : Nat → Nat) (u : Nat → Value) (L : Nat → Nat) (R : Nat → Nat → Nat) (b : Nat) (rfb : Int) (k : Nat) (S : Int) (n : Int) (wr : World) (e : Ending) (w' : World) : Prop :=
  if n ≥ 0 then e = .returned (.int .i64 0) ∧ TS w sh ph s c lb rb u L R b rfb (k + 1) ((S + n) % 340282366920938463463374607431768211456) w' ∧ Keep 35 wr w'
  else e = .returned (.int .i64 2) ∧ TS w sh ph s c lb rb u L R b (rfb + 1) (k + 1) S w' ∧ Keep 35 wr w'
theorem addV_range (V : Nat → Nat → Nat → Int) (b j : Nat) (n : Int) (i : Nat) (h : -9223372036854775808 ≤ V b i 0 ∧ V b i 0 ≤ 9223372036854775807) : -9223372036854775808 ≤ addV V b j n b i 0 ∧ addV V b j n b i 0 ≤ 9223372036854775807 := by
  unfold addV
  by_cases e : i = j
  · subst e; rw [upd2_same, upd_ne _ _ (by decide), upd_same]; unfold add64 wrap64; omega
  · rw [upd2_ne _ _ (by omega)]; exact h
theorem TS.add_calls (h : TS w sh ph s c lb rb u L R b rfb k S wr) (hb : b < 2) (hk : k ≤ 9223372036854775806) (hr0 : 0 ≤ rfb) (hr1 : rfb ≤ k) (j : Nat) (hj : j < 3) (n : Int) (hn : n ≤ 9223372036854775807) :
    Calls Try.prog 30 #[.pointer (some ⟨rb j, 0, none⟩), .pointer none, .pointer (some ⟨s, 0, none⟩), .int .i64 n] wr (TSadd w sh ph s c lb rb u L R b rfb k S n wr) := by
  obtain ⟨O0, ⟨rf, en, hR, h1, h2, h3⟩, ⟨V, hS, h4, h5, h6⟩, hl, hr⟩ := h
  refine (radd_calls (n := n) (i := j) (hr j hj) hS b hR (by decide) (by decide) hb hj b hb (phase_bg hb (by omega)) (h6 j hj) (bg_range hb (by omega))).mono ?_
  intro e w' q
  have rge := rge_at hS hb hj
  obtain ⟨cs, qr, _⟩ := hS.held.wrd b hb j (by rw [hS.len hb]; exact hj)
  have hen : upd en b (add64 (en b) 1) b = bg b + (k + 1 : Nat) := by rw [upd_same, h3, bg_next hb (by omega)]
  unfold RaddRes at q
  unfold TSadd
  split at q
  · rename_i hn0
    rw [if_pos hn0]
    obtain ⟨rfl, R1, S1, O1⟩ := q
    rw [bg_next hb (by omega)] at R1
    refine ⟨rfl, ⟨O0.seq2 O1 ?_, ⟨rf, _, R1, h1, h2, hen⟩, ⟨_, S1, fun i l hi hl' => ?_, ?_, fun i hi => addV_range V b j n i (h6 i hi)⟩, ?_, fun m hm => ?_⟩, O1.keep2 hR.pobj qr 35 (by decide) (by decide)⟩
    · rintro x (e | e)
      · exact .inl (by rw [e]; exact hR.pge)
      · exact .inl (by rw [e]; exact rge)
    · unfold addV; rw [upd2_ne _ _ (by omega)]; exact h4 i l hi hl'
    · rw [tot_add V b j 3 hj n hn0 hn, h5]
    · exact O1.keep2 hR.pobj qr 78 (by decide) (by decide) _ _ _ hl
    · exact O1.keep2 hR.pobj qr 140 (by decide) (by decide) _ _ _ (hr m hm)
  · rename_i hn0
    rw [if_neg hn0]
    obtain ⟨rfl, R1, S1, O1⟩ := q
    rw [bg_next hb (by omega)] at R1
    refine ⟨rfl, ⟨O0.seq2 O1 ?_, ⟨_, _, R1, ?_, ?_, hen⟩, ⟨V, S1, h4, h5, h6⟩, ?_, fun m hm => ?_⟩, O1.keep2 hR.pobj hR.sobj 35 (by decide) (by decide)⟩
    · rintro x (e | e)
      · exact .inl (by rw [e]; exact hR.pge)
      · exact .inl (by rw [e]; exact hR.sge)
    · rw [upd_same, h1]; unfold add64 wrap64; omega
    · rw [upd_ne _ _ (by omega)]; exact h2
    · exact O1.keep2 hR.pobj hR.sobj 78 (by decide) (by decide) _ _ _ hl
    · exact O1.keep2 hR.pobj hR.sobj 140 (by decide) (by decide) _ _ _ (hr m hm)
end
end Go.Proofs.Ytimiojckinpfdaa
