/-
  RealPrints: for every list of floats, given by their bits, the law returns true: each float's text is the one that the document lays down, and both tell alike which floats may be recorded. The row lists Go's own tables.
-/
import Derived.Test.YthjfdhkahmlolaaGreatDoorTie
import Derived.Test.YthjfdhkahmlolaaGreatDoorCards
import Derived.Test.YthjfdhkahmlolaaGreatDoorJP13
import Derived.Test.YthjfdhkahmlolaaGreatDoorJP52
import Derived.ProofKit
import Derived.OpenShut
import Derived.LaidMore
import Derived.Lay
import Derived.SevenTiedAt
import Derived.Stop.Joined
import Derived.Below
import Derived.SizedLaws
namespace Go.Proofs.YthjfdhkahmlolaaGreatDoor.realPrints
open Go.ChangeShapes Go.WideShapes Go.ChangeAt Go.RowKit
set_option maxRecDepth 100000
theorem own : ownKnob Tryz.prog.godebug = none := by kernel_rfl
def L : List (String × DataW Unit) := Rows.realPrintsRow.laid
theorem plain : (L.all fun x => x.2.handleName?.isNone) = true := by kernel_rfl
theorem env_of {W : World} (h : laidMetH Tryz.prog L W) : Env W ∧ Env2 W := by
  rw [MakeChecks.laidMetH_plain _ _ _ plain] at h
  obtain ⟨ps, hl, _, _⟩ := h
  have hp := pow_of hl (by unfold L Rows.realPrintsRow; simp)
  have hi := info_of hl (by unfold L Rows.realPrintsRow; simp)
  exact ⟨⟨tab_of hl (by unfold L Rows.realPrintsRow; simp), tab2_of hl (by unfold L Rows.realPrintsRow; simp)⟩, hi.1, hi.2.1, hi.2.2, opt_of hl (by unfold L Rows.realPrintsRow; simp), hp⟩
theorem laidOut : laidOutB Tryz.prog = true := by kernel_rfl
theorem ws23 : Tryz.prog.wantsStandIn 23 = false := by kernel_rfl
theorem spot_none {x : Addr} {v : Value} {w : World} (h : w.cell? x = some v) : x.spot = none := by
  cases hs : x.spot with
  | none => rfl
  | some y =>
    simp only [World.cell?, hs] at h
    split at h <;> simp at h
theorem add_at {x : Addr} {v : Value} {w : World} {i : Nat} (hs : x.spot = none) (h : w.cell? (x.add i) = some v) : w.cell? ⟨x.block, x.off + i, none⟩ = some v := by
  rw [← h]; congr 1
  unfold Addr.add
  split
  · rename_i h0; subst h0; cases x; simp_all
  · rfl
theorem nat_of {a : Int} (h : (Lit.int IntKind.u64 a).wf = true) : ∃ n : Nat, a = (n : Int) ∧ n < 18446744073709551616 := by
  have h' : 0 ≤ a ∧ a ≤ 18446744073709551615 := by simpa [Lit.wf, IntKind.min, IntKind.max, IntKind.signed, IntKind.bits] using h
  exact ⟨a.toNat, by omega, by omega⟩
theorem words_of {w : World} {x : Addr} {len cap : Nat} {zs : List Int} (hl : len ≤ cap) (hz : zs.length = cap) (hc : ∀ i, i < zs.length → w.cell? (x.add i) = some (.int .u64 (zs.getD i 0))) (hwz : ∀ n ∈ zs, (Lit.int .u64 n).wf = true) :
    Words w (some x) len (fun j => (zs.getD j 0).toNat) :=
  ⟨fun j hj => by
    have h0 := hc 0 (by omega)
    have hsp : x.spot = none := spot_none (x := x) h0
    have hb := World.block_lt_of_cell? w x h0
    have hmem : zs.getD j 0 ∈ zs := by rw [List.getD_eq_getElem?_getD, List.getElem?_eq_getElem (by omega)]; exact List.getElem_mem _
    obtain ⟨n, hn, hlt⟩ := nat_of (hwz _ hmem)
    refine ⟨x.block, x.off, ?_, hb, ?_, ?_⟩
    · cases x with
      | mk b o s => dsimp only at hsp; subst hsp; rfl
    · have := add_at hsp (hc j (by omega))
      rw [this, hn]; rfl
    · rw [hn]; exact hlt⟩
theorem below_only {w w' : World} (ho : Only (fun _ => False) w w') : Below w.heap.size w w' :=
  (ho.mono (T := fun k => w.heap.size ≤ k) (by intro k _ h; exact h.elim)).below (Nat.le_refl _)
theorem lifted (os : Os) (started : os.Started) (H : Type) (enc : TypeId × Value → H) :
    ReturnsInHanded {} Tryz.checked os 4 .any (fun w args => (Rows.realPrintsSpec.pre enc Tryz.prog Tryz.f4 Rows.realPrintsRow.domain false w args ∧ laidMetH Tryz.prog L w) ∧ sizedMet enc Tryz.prog Tryz.f4 (OpenSpec.ofChange Rows.realPrintsSpec) false w args)
      (Rows.realPrintsSpec.post enc Tryz.prog Tryz.f4 false true false false) := by
  refine returnsInHanded_of_change_and (C := Tryz.checked) (X := fun w _ => laidMetH Tryz.prog L w) (fun _ _ _ hh h => h.of_heap hh) own started (by kernel_rfl) Tryz.func4
    (ChangeSpec.witness_shaped (enc := enc) (C := Tryz.checked) (os := os) (X := fun w _ => laidMetH Tryz.prog L w) false (World.laidAll Tryz.prog os L) #[.slice none 0 0] 8 (World.laidAll_os _ _ _)
      (World.shaped_of_ZipB (by kernel_rfl) (by kernel_rfl)) (by kernel_rfl) (by kernel_rfl) (by kernel_rfl)
      (by rw [MakeChecks.laidMetH_plain _ _ _ plain]; exact laidMet_laidAll _ (by kernel_rfl) (by kernel_rfl))) ?_
  intro W base args ds gs before hval0 hW hc hS hL hT
  have hval : ∀ (j : Nat) t v, Tryz.f4.params[j]? = some t → args[j]? = some v → Value.okWide Tryz.prog W .any base t v := hval0
  have hW' := hW
  obtain ⟨p, q, hA0, hV, rfl, _, _⟩ := hW
  have hA : DataW.TrodAll enc Tryz.prog W 0 (fun _ => true) true Tryz.f4.params.toList args.toList ds p := hA0
  rw [Tryz.params4] at hA hval
  obtain ⟨v0, vs0, d0, ds0, p0, q0, hargs, rfl, rfl, h0, r0⟩ := trodAll_cons hA
  obtain ⟨rfl, rfl, rfl⟩ := trodAll_nil r0
  obtain rfl : args = #[v0] := by cases args; simp_all
  obtain ⟨rfl, rfl⟩ := trodVars_none hV
  obtain ⟨a1, len1, cap1, rfl⟩ := okWide_slice Tryz.underlying23 (hval 0 23 v0 rfl rfl)
  have k1 := h0
  have lt1 : ∀ x ∈ p0, x.block < W.heap.size := by obtain ⟨m, hm⟩ := k1; exact DataW.trod_lt m _ _ _ hm
  obtain ⟨us, hl1, w1⟩ : ∃ us, len1 ≤ 9223372036854775807 ∧ Words W a1 len1 us := by
    obtain ⟨fuel, hf⟩ := h0
    rcases open_ints Tryz.underlying23 Tryz.underlying24 (by kernel_rfl) hf with ⟨hcs, _⟩ | ⟨x, l, c, zs, hcs, _, hl, hm, hz, _, hcell, hwz⟩
    · simp [Value.cells] at hcs
      obtain ⟨rfl, rfl, rfl⟩ := hcs
      exact ⟨fun _ => 0, by decide, ⟨fun j hj => absurd hj (by omega)⟩⟩
    · simp [Value.cells] at hcs
      obtain ⟨rfl, rfl, rfl⟩ := hcs
      exact ⟨_, by unfold maxLen at hm; omega, words_of hl (by simpa using hz) hcell hwz⟩
  clear hA0 hval0
  simp only [List.append_nil] at hW'
  obtain ⟨e1, e2⟩ := env_of hL
  refine (prints_calls a1 len1 cap1 us W hl1 w1 e1 e2).mono fun e W' ⟨he, hg⟩ => ?_
  subst he
  have bel := below_only hg
  exact ⟨_, rfl, _, _, _, [], _, [], hW', trodAll_mk1 (shut_bool Tryz.underlying4 _), (trodAll_cons_mk (Below.trod laidOut (by kernel_rfl) (of_decide_eq_true (by kernel_rfl)) k1 bel lt1) trodAll_mk0), rfl, bel.frame _, fun h => by cases h⟩

theorem holds : Rows.RealPrintsSaid :=
  OpenClaim.holds_of_wide 4 Tryz.f4 rfl rfl rfl rfl rfl rfl rfl ⟨rfl, rfl, rfl, rfl, rfl⟩ rfl rfl rfl rfl rfl (by kernel_rfl) Tryz.func4 (by kernel_rfl)
    (of_decide_eq_true (by kernel_rfl)) (by unfold Func.isWrapper; first | (rw [if_pos (by decide +kernel)]; kernel_rfl) | (rw [if_neg (by decide +kernel)]; exact ⟨rfl, rfl⟩))
    (fun os started H enc _ => lifted os started H enc)
/-- THE STATEMENT -/
theorem proved : Rows.RealPrintsCardSaid :=
  Claim7.holds_tied_plain_at .later [] [.data, .data, .widerDeep, .widerDeep, .data, .data, .data, .data, .data, .data, .sentinel, .sentinel, .pinned, .pinned, .pinned] true (true, "82c53dc2d0325197a1a0b0c6d8807039be144e4be661e4f367ebdcbc4756d7b0") true holds (fun _ h => by cases h) (by kernel_rfl) (fun _ h => by cases h) realPrints_row_tie rfl ⟨rfl, rfl⟩ (by kernel_rfl) rfl
    (fun f fn hf hfn => by
      obtain rfl : f = 4 := Option.some.inj ((show Tryz.prog.funcNamed "gnomon/gnomonlaw02.RealPrints" = some 4 by kernel_rfl).symm.trans hf) |>.symm
      obtain rfl : fn = Tryz.f4 := (Option.some.inj (Tryz.func4.symm.trans hfn)).symm
      exact ⟨by kernel_rfl, fun j t ht => by
        rw [Tryz.params4] at ht
        match j, ht with
        | 0, ht => obtain rfl := Option.some.inj ht; exact ws23
        | j + 1, ht => simp at ht⟩)
    (by kernel_rfl)
#print axioms proved
end Go.Proofs.YthjfdhkahmlolaaGreatDoor.realPrints
