/-
  RealParses: for every list of texts, the law returns true: Parse tells of each text the float and the error that the document lays down. The row lists Go's own tables.
-/
import Derived.Test.YthjfdhkahmlolaaGreatDoorTie
import Derived.Test.YthjfdhkahmlolaaGreatDoorCards
import Derived.Test.YthjfdhkahmlolaaGreatDoorJQ31
import Derived.Test.YthjfdhkahmlolaaGreatDoorJQ52
import Derived.SliceStrings
import Derived.Below
import Derived.ProofKit
import Derived.OpenShut
import Derived.LaidMore
import Derived.Lay
import Derived.SevenTiedAt
import Derived.Stop.Joined
import Derived.ChangeMaps5
import Derived.SizedLaws
namespace Go.Proofs.YthjfdhkahmlolaaGreatDoor.realParses
open Go.ChangeShapes Go.WideShapes Go.ChangeAt Go.RowKit
set_option maxRecDepth 100000
theorem own : ownKnob Tryz.prog.godebug = none := by kernel_rfl
def L : List (String × DataW Unit) := Rows.realParsesRow.laid
theorem plain : (L.all fun x => x.2.handleName?.isNone) = true := by kernel_rfl
theorem env_of {W : World} (h : laidMetH Tryz.prog L W) (hs : W.ShapedOpen Tryz.prog) : EnvZ W ∧ Env2 W ∧ Errs W := by
  rw [MakeChecks.laidMetH_plain _ _ _ plain] at h
  obtain ⟨ps, hl, _, _⟩ := h
  have hp := pow_of hl (by unfold L Rows.realParsesRow; simp)
  have hi := info_of hl (by unfold L Rows.realParsesRow; simp)
  have hq := powall_of hl (by unfold L Rows.realParsesRow; simp)
  have ho := opt_of hl (by unfold L Rows.realParsesRow; simp)
  obtain ⟨bb, oo, hch⟩ := cheats_of hl (by unfold L Rows.realParsesRow; simp)
  obtain ⟨bp, op, hpv, hpc⟩ := ptab_of hl (by unfold L Rows.realParsesRow; simp)
  have he := errs_of hl (by unfold L Rows.realParsesRow; simp) (by unfold L Rows.realParsesRow; simp)
  exact ⟨⟨⟨tab_of hl (by unfold L Rows.realParsesRow; simp), tab2_of hl (by unfold L Rows.realParsesRow; simp)⟩, ⟨hi.1, ho, hq⟩, kinds_of hs, bb, oo, bp, op, hch, hpv, hpc, hi.1, hi.2.1, hi.2.2⟩, ⟨hi.1, hi.2.1, hi.2.2, ho, hp⟩, he⟩
theorem laidOut : laidOutB Tryz.prog = true := by kernel_rfl
theorem ws30 : Tryz.prog.wantsStandIn 30 = false := by kernel_rfl
theorem spot_none {x : Addr} {v : Value} {w : World} (h : w.cell? x = some v) : x.spot = none := by
  cases hs : x.spot with
  | none => rfl
  | some y =>
    simp only [World.cell?, hs] at h
    split at h <;> simp at h
theorem add_at {x : Addr} {v : Value} {w : World} {i : Nat} (hs : x.spot = none) (h : w.cell? (x.add i) = some v) : w.cell? ⟨x.block, x.off + i, none⟩ = some v := by
  rw [← h]; congr 1
  unfold Addr.add
  split
  · rename_i h0; subst h0; cases x; simp_all
  · rfl
theorem texts_of {w : World} {x : Addr} {len : Nat} {ss : List ByteArray} (hl : len ≤ ss.length) (hc : ∀ i, i < ss.length → w.cell? (x.add i) = some (.string (ss.getD i ByteArray.empty))) (hz : ∀ s ∈ ss, s.size ≤ 140737488355328) :
    Texts w (some x) len (fun j => ss.getD j ByteArray.empty) :=
  ⟨fun j hj => by
    have h0 := hc 0 (by omega)
    have hsp : x.spot = none := spot_none (x := x) h0
    have hb := World.block_lt_of_cell? w x h0
    refine ⟨x.block, x.off, ?_, hb, add_at hsp (hc j (by omega)), hz _ ?_⟩
    · cases x with
      | mk b o s => dsimp only at hsp; subst hsp; rfl
    · rw [List.getD_eq_getElem?_getD, List.getElem?_eq_getElem (by omega)]; exact List.getElem_mem _⟩
theorem all_weighed {H : Type} {e : TypeId} : ∀ (ss : List ByteArray), ∀ s ∈ ss, s.size ∈ DataW.weightsAll Tryz.prog e (strs (H := H) ss)
  | a :: ss, s, hs => by
    rw [show strs (H := H) (a :: ss) = .lit (.string a.data.toList) :: strs ss from rfl, DataW.weightsAll]
    rcases List.mem_cons.1 hs with rfl | hs
    · rw [DataW.weights]
      exact List.mem_append_left _ (List.mem_singleton.2 rfl)
    · exact List.mem_append_right _ (all_weighed ss s hs)
theorem slice_sized {H : Type} {ts : List TypeId} {ds : List (DataW H)} {j : Nat} {ss : List ByteArray} {len : Nat} (h : (DataW.weightsEach Tryz.prog ts ds).all (· ≤ reachBytes) = true) (ht : ts[j]? = some 30) (hd : ds[j]? = some (.slice (strs (ss.take len)) (strs (ss.drop len)))) :
    ∀ s ∈ ss, s.size ≤ 140737488355328 := by
  intro s hs
  have hw : s.size ∈ (DataW.slice (strs (H := H) (ss.take len)) (strs (ss.drop len))).weights Tryz.prog 30 := by
    rw [DataW.weights, Tryz.underlying30]
    refine List.mem_cons_of_mem _ ?_
    rw [← List.take_append_drop len ss] at hs
    rcases List.mem_append.1 hs with g | g
    · exact List.mem_append_left _ (all_weighed _ s g)
    · exact List.mem_append_right _ (all_weighed _ s g)
  have := List.all_eq_true.1 h _ (DataW.weights_mem_each ht hd _ hw)
  have h2 : s.size ≤ reachBytes := by simpa using this
  simp only [reachBytes] at h2
  omega
theorem below_only {w w' : World} (ho : Only (fun _ => False) w w') : Below w.heap.size w w' :=
  (ho.mono (T := fun k => w.heap.size ≤ k) (by intro k _ h; exact h.elim)).below (Nat.le_refl _)
theorem contract {H : Type} (enc : TypeId × Value → H) (W : World) (base : Nat) (args : Array Value) (ds gs : List (DataW H)) (before : List MemPlace)
    (hval0 : ∀ (j : Nat) t v, Tryz.f5.params[j]? = some t → args[j]? = some v → Value.okWide Tryz.prog W .any base t v)
    (hW : DataW.Whole enc Tryz.prog Tryz.f5.params.toList Rows.realParsesSpec.vars false W args.toList ds gs before)
    (hsz0 : (DataW.weightsEach Tryz.prog (Tryz.f5.params.toList ++ Rows.realParsesSpec.plain.varTypes Tryz.prog) (ds ++ gs)).all (· ≤ reachBytes) = true)
    (hL : laidMetH Tryz.prog L W) (hS : W.ShapedOpen Tryz.prog) :
    Calls Tryz.prog 5 args W fun e W' => ∃ v, e = .returned v ∧ Rows.realParsesSpec.post enc Tryz.prog Tryz.f5 false true false false W args v W' := by
  have hval : ∀ (j : Nat) t v, Tryz.f5.params[j]? = some t → args[j]? = some v → Value.okWide Tryz.prog W .any base t v := hval0
  have hW' := hW
  obtain ⟨p, q, hA0, hV, rfl, _, _⟩ := hW
  have hA : DataW.TrodAll enc Tryz.prog W 0 (fun _ => true) true Tryz.f5.params.toList args.toList ds p := hA0
  rw [Tryz.params5] at hA hval hsz0
  obtain ⟨v0, vs0, d0, ds0, p0, q0, hargs, rfl, rfl, h0, r0⟩ := trodAll_cons hA
  obtain ⟨rfl, rfl, rfl⟩ := trodAll_nil r0
  obtain rfl : args = #[v0] := by cases args; simp_all
  obtain ⟨rfl, rfl⟩ := trodVars_none hV
  obtain ⟨a1, len1, cap1, rfl⟩ := okWide_slice Tryz.underlying30 (hval 0 30 v0 rfl rfl)
  have k1 := h0
  have lt1 : ∀ x ∈ p0, x.block < W.heap.size := by obtain ⟨m, hm⟩ := k1; exact DataW.trod_lt m _ _ _ hm
  obtain ⟨us, hl1, w1⟩ : ∃ us, len1 ≤ 9223372036854775807 ∧ Texts W a1 len1 us := by
    obtain ⟨fuel, hf⟩ := h0
    rcases open_strings Tryz.underlying30 Tryz.underlying9 (by kernel_rfl) hf with ⟨hcs, _⟩ | ⟨x, l, c, ss, hcs, _, hl, hm, hz, hx, hcell, _⟩
    · simp [Value.cells] at hcs
      obtain ⟨rfl, rfl, rfl⟩ := hcs
      exact ⟨fun _ => ByteArray.empty, by decide, ⟨fun j hj => absurd hj (by omega)⟩⟩
    · simp [Value.cells] at hcs
      obtain ⟨rfl, rfl, rfl⟩ := hcs
      obtain ⟨rfl, _⟩ := Prod.mk.inj hx
      have hsz := slice_sized hsz0 (j := 0) (ss := ss) (len := len1) rfl rfl
      refine ⟨_, by unfold maxLen at hm; omega, texts_of ?_ hcell hsz⟩
      rw [hz]; split <;> omega
  clear hA0 hval0
  simp only [List.append_nil] at hW'
  obtain ⟨e1, e2, e3⟩ := env_of hL hS
  refine (parses_calls a1 len1 cap1 us W hl1 w1 e1 e2 e3).mono fun e W' ⟨he, hg⟩ => ?_
  subst he
  have bel := below_only hg
  exact ⟨_, rfl, _, _, _, [], _, [], hW', trodAll_mk1 (shut_bool Tryz.underlying4 _), (trodAll_cons_mk (Below.trod laidOut (by kernel_rfl) (of_decide_eq_true (by kernel_rfl)) k1 bel lt1) trodAll_mk0), rfl, bel.frame _, fun h => by cases h⟩
theorem lifted (os : Os) (started : os.Started) (H : Type) (enc : TypeId × Value → H) :
    ReturnsInHanded {} Tryz.checked os 5 .any (fun w args => (Rows.realParsesSpec.pre enc Tryz.prog Tryz.f5 Rows.realParsesRow.domain false w args ∧ laidMetH Tryz.prog L w) ∧ sizedMet enc Tryz.prog Tryz.f5 (OpenSpec.ofChange Rows.realParsesSpec) false w args)
      (Rows.realParsesSpec.post enc Tryz.prog Tryz.f5 false true false false) := by
  refine returnsInHanded_of_calls (C := Tryz.checked) own started (by kernel_rfl)
    (ChangeSpec.witness_shaped (enc := enc) (C := Tryz.checked) (os := os) (X := fun w _ => laidMetH Tryz.prog L w) false (World.laidAll Tryz.prog os L) #[.slice none 0 0] 8 (World.laidAll_os _ _ _)
      (World.shaped_of_ZipB (by kernel_rfl) (by kernel_rfl)) (by kernel_rfl) (by kernel_rfl) (by kernel_rfl)
      (by rw [MakeChecks.laidMetH_plain _ _ _ plain]; exact laidMet_laidAll _ (by kernel_rfl) (by kernel_rfl))) ?_
  intro w tape i _ hsh _ hok hpre _
  obtain ⟨_, _, _, fn', hfn', _, _, _, _, hval⟩ := hok
  obtain rfl : Tryz.f5 = fn' := Option.some.inj (Tryz.func5.symm.trans hfn')
  obtain ⟨⟨⟨ds, gs, before, hw, hc⟩, hx⟩, hz⟩ := hpre
  have hw' := DataW.Whole.of_heap (w' := w.forCall tape i) (by rfl) hw
  have hx' : laidMetH Tryz.prog L (w.forCall tape i) := hx.of_heap (by rfl)
  refine (contract enc (w.forCall tape i) w.heap.size i.args ds gs before hval hw' (hz.weights hw) hx' hsh).mono fun e W' ⟨v, he, hp⟩ => ?_
  subst he
  exact ChangeSpec.post_blind hp
theorem holds : Rows.RealParsesSaid :=
  OpenClaim.holds_of_wide 5 Tryz.f5 rfl rfl rfl rfl rfl rfl rfl ⟨rfl, rfl, rfl, rfl, rfl⟩ rfl rfl rfl rfl rfl (by kernel_rfl) Tryz.func5 (by kernel_rfl)
    (of_decide_eq_true (by kernel_rfl)) (by unfold Func.isWrapper; first | (rw [if_pos (by decide +kernel)]; kernel_rfl) | (rw [if_neg (by decide +kernel)]; exact ⟨rfl, rfl⟩))
    (fun os started H enc _ => lifted os started H enc)
/-- THE STATEMENT -/
theorem proved : Rows.RealParsesCardSaid :=
  Claim7.holds_tied_plain_at .later [] [.data, .data, .widerDeep, .widerDeep, .data, .data, .data, .data, .data, .data, .sentinel, .sentinel, .pinned, .pinned, .pinned] true (true, "82c53dc2d0325197a1a0b0c6d8807039be144e4be661e4f367ebdcbc4756d7b0") true holds (fun _ h => by cases h) (by kernel_rfl) (fun _ h => by cases h) realParses_row_tie rfl ⟨rfl, rfl⟩ (by kernel_rfl) rfl
    (fun f fn hf hfn => by
      obtain rfl : f = 5 := Option.some.inj ((show Tryz.prog.funcNamed "gnomon/gnomonlaw02.RealParses" = some 5 by kernel_rfl).symm.trans hf) |>.symm
      obtain rfl : fn = Tryz.f5 := (Option.some.inj (Tryz.func5.symm.trans hfn)).symm
      exact ⟨by kernel_rfl, fun j t ht => by
        rw [Tryz.params5] at ht
        match j, ht with
        | 0, ht => obtain rfl := Option.some.inj ht; exact ws30
        | j + 1, ht => simp at ht⟩)
    (by kernel_rfl)
#print axioms proved
end Go.Proofs.YthjfdhkahmlolaaGreatDoor.realParses
