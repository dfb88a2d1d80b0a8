/- The statement RealOneForm. -/
import Derived.Test.YthjfdhkahmlolaaGreatDoorTie
import Derived.Test.YthjfdhkahmlolaaGreatDoorCards
import Derived.Test.YthjfdhkahmlolaaGreatDoorJF52
import Derived.ProofKit
import Derived.OpenShut
import Derived.LaidMore
import Derived.Lay
import Derived.SevenTiedAt
import Derived.Stop.Joined
import Derived.ChangeMaps5
import Derived.SizedLaws
namespace Go.Proofs.YthjfdhkahmlolaaGreatDoor.realOneForm
open Go.ChangeShapes Go.WideShapes Go.ChangeAt Go.RowKit
set_option maxRecDepth 100000
theorem own : ownKnob Tryz.prog.godebug = none := by kernel_rfl
def L : List (String × DataW Unit) := Rows.realOneFormRow.laid
theorem plain : (L.all fun x => x.2.handleName?.isNone) = true := by kernel_rfl
theorem env_of {W : World} (h : laidMetH Tryz.prog L W) (hs : W.ShapedOpen Tryz.prog) : EnvZ W ∧ Env2 W ∧ Errs W := by
  rw [MakeChecks.laidMetH_plain _ _ _ plain] at h
  obtain ⟨ps, hl, _, _⟩ := h
  have hp := pow_of hl (by unfold L Rows.realOneFormRow; simp)
  have hi := info_of hl (by unfold L Rows.realOneFormRow; simp)
  have hq := powall_of hl (by unfold L Rows.realOneFormRow; simp)
  have ho := opt_of hl (by unfold L Rows.realOneFormRow; simp)
  obtain ⟨bb, oo, hch⟩ := cheats_of hl (by unfold L Rows.realOneFormRow; simp)
  obtain ⟨bp, op, hpv, hpc⟩ := ptab_of hl (by unfold L Rows.realOneFormRow; simp)
  have he := errs_of hl (by unfold L Rows.realOneFormRow; simp) (by unfold L Rows.realOneFormRow; simp)
  exact ⟨⟨⟨tab_of hl (by unfold L Rows.realOneFormRow; simp), tab2_of hl (by unfold L Rows.realOneFormRow; simp)⟩, ⟨hi.1, ho, hq⟩, kinds_of hs, bb, oo, bp, op, hch, hpv, hpc, hi.1, hi.2.1, hi.2.2⟩, ⟨hi.1, hi.2.1, hi.2.2, ho, hp⟩, he⟩
theorem ws9 : Tryz.prog.wantsStandIn 9 = false := by kernel_rfl
theorem below_only {w w' : World} (ho : Only (fun _ => False) w w') : Below w.heap.size w w' :=
  (ho.mono (T := fun k => w.heap.size ≤ k) (by intro k _ h; exact h.elim)).below (Nat.le_refl _)
theorem contract {H : Type} (enc : TypeId × Value → H) (W : World) (base : Nat) (args : Array Value) (ds gs : List (DataW H)) (before : List MemPlace)
    (hval0 : ∀ (j : Nat) t v, Tryz.f7.params[j]? = some t → args[j]? = some v → Value.okWide Tryz.prog W .any base t v)
    (hW : DataW.Whole enc Tryz.prog Tryz.f7.params.toList Rows.realOneFormSpec.vars false W args.toList ds gs before)
    (hsz0 : (DataW.weightsEach Tryz.prog (Tryz.f7.params.toList ++ Rows.realOneFormSpec.plain.varTypes Tryz.prog) (ds ++ gs)).all (· ≤ reachBytes) = true)
    (hL : laidMetH Tryz.prog L W) (hS : W.ShapedOpen Tryz.prog) :
    Calls Tryz.prog 7 args W fun e W' => ∃ v, e = .returned v ∧ Rows.realOneFormSpec.post enc Tryz.prog Tryz.f7 false true false false W args v W' := by
  have hval : ∀ (j : Nat) t v, Tryz.f7.params[j]? = some t → args[j]? = some v → Value.okWide Tryz.prog W .any base t v := hval0
  have hW' := hW
  obtain ⟨p, q, hA0, hV, rfl, _, _⟩ := hW
  have hA : DataW.TrodAll enc Tryz.prog W 0 (fun _ => true) true Tryz.f7.params.toList args.toList ds p := hA0
  rw [Tryz.params7] at hA hval hsz0
  obtain ⟨v0, vs0, d0, ds0, p0, q0, hargs, rfl, rfl, h0, r0⟩ := trodAll_cons hA
  obtain ⟨rfl, rfl, rfl⟩ := trodAll_nil r0
  obtain rfl : args = #[v0] := by cases args; simp_all
  obtain ⟨rfl, rfl⟩ := trodVars_none hV
  obtain ⟨s, rfl, rfl, rfl, w0⟩ := Go.ChangeMaps.open_string Tryz.underlying9 (hval 0 9 v0 rfl rfl) h0
  have hs := sized_string hsz0 (j := 0) (t := 9) rfl rfl
  have hs2 : s.size ≤ 140737488355328 := by
    have e : s.data.toList.length = s.size := rfl
    rw [e] at hs
    simp only [reachBytes] at hs
    omega
  clear hA0 hval0
  simp only [List.append_nil] at hW'
  obtain ⟨e1, e2, e3⟩ := env_of hL hS
  refine (one_calls s W hs2 e1 e2 e3).mono fun e W' ⟨he, hg⟩ => ?_
  subst he
  have bel := below_only hg
  exact ⟨_, rfl, _, _, _, [], _, [], hW', trodAll_mk1 (shut_bool Tryz.underlying4 _), (trodAll_cons_mk (Go.ChangeMaps.shut_string Tryz.underlying9 w0) trodAll_mk0), rfl, bel.frame _, fun h => by cases h⟩
theorem lifted (os : Os) (started : os.Started) (H : Type) (enc : TypeId × Value → H) :
    ReturnsInHanded {} Tryz.checked os 7 .any (fun w args => (Rows.realOneFormSpec.pre enc Tryz.prog Tryz.f7 Rows.realOneFormRow.domain false w args ∧ laidMetH Tryz.prog L w) ∧ sizedMet enc Tryz.prog Tryz.f7 (OpenSpec.ofChange Rows.realOneFormSpec) false w args)
      (Rows.realOneFormSpec.post enc Tryz.prog Tryz.f7 false true false false) := by
  refine returnsInHanded_of_calls (C := Tryz.checked) own started (by kernel_rfl)
    (ChangeSpec.witness_shaped (enc := enc) (C := Tryz.checked) (os := os) (X := fun w _ => laidMetH Tryz.prog L w) false (World.laidAll Tryz.prog os L) #[.string ⟨#[]⟩] 8 (World.laidAll_os _ _ _)
      (World.shaped_of_ZipB (by kernel_rfl) (by kernel_rfl)) (by kernel_rfl) (by kernel_rfl) (by kernel_rfl)
      (by rw [MakeChecks.laidMetH_plain _ _ _ plain]; exact laidMet_laidAll _ (by kernel_rfl) (by kernel_rfl))) ?_
  intro w tape i _ hsh _ hok hpre _
  obtain ⟨_, _, _, fn', hfn', _, _, _, _, hval⟩ := hok
  obtain rfl : Tryz.f7 = fn' := Option.some.inj (Tryz.func7.symm.trans hfn')
  obtain ⟨⟨⟨ds, gs, before, hw, hc⟩, hx⟩, hz⟩ := hpre
  have hw' := DataW.Whole.of_heap (w' := w.forCall tape i) (by rfl) hw
  have hx' : laidMetH Tryz.prog L (w.forCall tape i) := hx.of_heap (by rfl)
  refine (contract enc (w.forCall tape i) w.heap.size i.args ds gs before hval hw' (hz.weights hw) hx' hsh).mono fun e W' ⟨v, he, hp⟩ => ?_
  subst he
  exact ChangeSpec.post_blind hp
theorem holds : Rows.RealOneFormSaid :=
  OpenClaim.holds_of_wide 7 Tryz.f7 rfl rfl rfl rfl rfl rfl rfl ⟨rfl, rfl, rfl, rfl, rfl⟩ rfl rfl rfl rfl rfl (by kernel_rfl) Tryz.func7 (by kernel_rfl)
    (of_decide_eq_true (by kernel_rfl)) (by unfold Func.isWrapper; first | (rw [if_pos (by decide +kernel)]; kernel_rfl) | (rw [if_neg (by decide +kernel)]; exact ⟨rfl, rfl⟩))
    (fun os started H enc _ => lifted os started H enc)
/-- THE STATEMENT -/
theorem proved : Rows.RealOneFormCardSaid :=
  Claim7.holds_tied_plain_at .later [] [.data, .data, .widerDeep, .widerDeep, .data, .data, .data, .data, .data, .data, .sentinel, .sentinel, .pinned, .pinned, .pinned] true (true, "82c53dc2d0325197a1a0b0c6d8807039be144e4be661e4f367ebdcbc4756d7b0") true holds (fun _ h => by cases h) (by kernel_rfl) (fun _ h => by cases h) realOneForm_row_tie rfl ⟨rfl, rfl⟩ (by kernel_rfl) rfl
    (fun f fn hf hfn => by
      obtain rfl : f = 7 := Option.some.inj ((show Tryz.prog.funcNamed "gnomon/gnomonlaw02.RealOneForm" = some 7 by kernel_rfl).symm.trans hf) |>.symm
      obtain rfl : fn = Tryz.f7 := (Option.some.inj (Tryz.func7.symm.trans hfn)).symm
      exact ⟨by kernel_rfl, fun j t ht => by
        rw [Tryz.params7] at ht
        match j, ht with
        | 0, ht => obtain rfl := Option.some.inj ht; exact ws9
        | j + 1, ht => simp at ht⟩)
    (by kernel_rfl)
#print axioms proved
end Go.Proofs.YthjfdhkahmlolaaGreatDoor.realOneForm
