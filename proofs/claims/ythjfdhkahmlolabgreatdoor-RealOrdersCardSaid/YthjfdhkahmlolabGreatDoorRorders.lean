/-
  RealOrders: for every three floats, given by their bits, the law returns true. The row lists Go's own tables.
-/
import Derived.Test.YthjfdhkahmlolabGreatDoorTie
import Derived.Test.YthjfdhkahmlolabGreatDoorCards
import Derived.Test.YthjfdhkahmlolabGreatDoorLayb
import Derived.Test.YthjfdhkahmlolabGreatDoorOrw
import Derived.ProofKit
import Derived.OpenShut
import Derived.LaidMore
import Derived.Lay
import Derived.SevenTiedAt
import Derived.Stop.Joined
namespace Go.Proofs.YthjfdhkahmlolabGreatDoor.realOrders
open Go.ChangeShapes Go.WideShapes Go.ChangeAt Go.RowKit
set_option maxRecDepth 100000
theorem own : ownKnob Tryz.prog.godebug = none := by kernel_rfl
def L : List (String × DataW Unit) := Rows.realOrdersRow.laid
theorem plain : (L.all fun x => x.2.handleName?.isNone) = true := by kernel_rfl
theorem env_of {W : World} (h : laidMetH Tryz.prog L W) : Env W ∧ Env2 W := by
  rw [MakeChecks.laidMetH_plain _ _ _ plain] at h
  obtain ⟨ps, hl, _, _⟩ := h
  have hp := pow_of hl (by unfold L Rows.realOrdersRow; simp)
  have hi := info_of hl (by unfold L Rows.realOrdersRow; simp)
  exact ⟨⟨tab_of hl (by unfold L Rows.realOrdersRow; simp), tab2_of hl (by unfold L Rows.realOrdersRow; simp)⟩, hi.1, hi.2.1, hi.2.2, opt_of hl (by unfold L Rows.realOrdersRow; simp), hp⟩
theorem ws22 : Tryz.prog.wantsStandIn 22 = false := by kernel_rfl
theorem nat_of {a : Int} (h : (Lit.int IntKind.u64 a).wf = true) : ∃ n : Nat, a = (n : Int) ∧ n < 18446744073709551616 := by
  have h' : 0 ≤ a ∧ a ≤ 18446744073709551615 := by simpa [Lit.wf, IntKind.min, IntKind.max, IntKind.signed, IntKind.bits] using h
  exact ⟨a.toNat, by omega, by omega⟩
theorem below_only {w w' : World} (ho : Only (fun _ => False) w w') : Below w.heap.size w w' :=
  (ho.mono (T := fun k => w.heap.size ≤ k) (by intro k _ h; exact h.elim)).below (Nat.le_refl _)
theorem lifted (os : Os) (started : os.Started) (H : Type) (enc : TypeId × Value → H) :
    ReturnsInHanded {} Tryz.checked os 3 .any (fun w args => (Rows.realOrdersSpec.pre enc Tryz.prog Tryz.f3 Rows.realOrdersRow.domain false w args ∧ laidMetH Tryz.prog L w) ∧ sizedMet enc Tryz.prog Tryz.f3 (OpenSpec.ofChange Rows.realOrdersSpec) false w args)
      (Rows.realOrdersSpec.post enc Tryz.prog Tryz.f3 false true false false) := by
  refine returnsInHanded_of_change_and (C := Tryz.checked) (X := fun w _ => laidMetH Tryz.prog L w) (fun _ _ _ hh h => h.of_heap hh) own started (by kernel_rfl) Tryz.func3
    (ChangeSpec.witness_shaped (enc := enc) (C := Tryz.checked) (os := os) (X := fun w _ => laidMetH Tryz.prog L w) false (World.laidAll Tryz.prog os L) #[.int .u64 0, .int .u64 0, .int .u64 0] 8 (World.laidAll_os _ _ _)
      (World.shaped_of_ZipB (by kernel_rfl) (by kernel_rfl)) (by kernel_rfl) (by kernel_rfl) (by kernel_rfl)
      (by rw [MakeChecks.laidMetH_plain _ _ _ plain]; exact laidMet_laidAll _ (by kernel_rfl) (by kernel_rfl))) ?_
  intro W base args ds gs before hval0 hW hc hS hL hT
  have hval : ∀ (j : Nat) t v, Tryz.f3.params[j]? = some t → args[j]? = some v → Value.okWide Tryz.prog W .any base t v := hval0
  have hW' := hW
  obtain ⟨p, q, hA0, hV, rfl, _, _⟩ := hW
  have hA : DataW.TrodAll enc Tryz.prog W 0 (fun _ => true) true Tryz.f3.params.toList args.toList ds p := hA0
  rw [Tryz.params3] at hA hval
  obtain ⟨v0, vs0, d0, ds0, p0, q0, hargs, rfl, rfl, h0, r0⟩ := trodAll_cons hA
  obtain ⟨v1, vs1, d1, ds1, p1, q1, rfl, rfl, rfl, h1, r1⟩ := trodAll_cons r0
  obtain ⟨v2, vs2, d2, ds2, p2, q2, rfl, rfl, rfl, h2, r2⟩ := trodAll_cons r1
  obtain ⟨rfl, rfl, rfl⟩ := trodAll_nil r2
  obtain rfl : args = #[v0, v1, v2] := by cases args; simp_all
  obtain ⟨rfl, rfl⟩ := trodVars_none hV
  obtain ⟨a0, rfl, rfl, rfl, w0⟩ := open_int Tryz.underlying22 (hval 0 22 v0 rfl rfl) h0
  obtain ⟨a1, rfl, rfl, rfl, w1⟩ := open_int Tryz.underlying22 (hval 1 22 v1 rfl rfl) h1
  obtain ⟨a2, rfl, rfl, rfl, w2⟩ := open_int Tryz.underlying22 (hval 2 22 v2 rfl rfl) h2
  clear hA0 hval0
  simp only [List.append_nil] at hW'
  obtain ⟨e1, e2⟩ := env_of hL
  obtain ⟨n0, rfl, b0⟩ := nat_of w0
  obtain ⟨n1, rfl, b1⟩ := nat_of w1
  obtain ⟨n2, rfl, b2⟩ := nat_of w2
  refine (orders_calls n0 n1 n2 W b0 b1 b2 e1 e2).mono fun e W' ⟨he, hg⟩ => ?_
  subst he
  have bel := below_only hg
  exact ⟨_, rfl, _, _, _, [], _, [], hW', trodAll_mk1 (shut_bool Tryz.underlying4 _), (trodAll_cons_mk (shut_int Tryz.underlying22 w0) (trodAll_cons_mk (shut_int Tryz.underlying22 w1) (trodAll_cons_mk (shut_int Tryz.underlying22 w2) trodAll_mk0))), rfl, bel.frame _, fun h => by cases h⟩

theorem holds : Rows.RealOrdersSaid :=
  OpenClaim.holds_of_wide 3 Tryz.f3 rfl rfl rfl rfl rfl rfl rfl ⟨rfl, rfl, rfl, rfl, rfl⟩ rfl rfl rfl rfl rfl (by kernel_rfl) Tryz.func3 (by kernel_rfl)
    (of_decide_eq_true (by kernel_rfl)) (by unfold Func.isWrapper; first | (rw [if_pos (by decide +kernel)]; kernel_rfl) | (rw [if_neg (by decide +kernel)]; exact ⟨rfl, rfl⟩))
    (fun os started H enc _ => lifted os started H enc)
/-- THE STATEMENT -/
theorem proved : Rows.RealOrdersCardSaid :=
  Claim7.holds_tied_plain_at .later [] [.data, .data, .widerDeep, .widerDeep, .data, .data, .data, .data, .data, .data, .sentinel, .sentinel, .pinned, .pinned, .pinned] true (true, "5da93f4540d11a10ab69a4217e3daf76508bd75902695f30f7d648fd01f97ee0") true holds (fun _ h => by cases h) (by kernel_rfl) (fun _ h => by cases h) realOrders_row_tie rfl ⟨rfl, rfl⟩ (by kernel_rfl) rfl
    (fun f fn hf hfn => by
      obtain rfl : f = 3 := Option.some.inj ((show Tryz.prog.funcNamed "gnomon/gnomonlaw02.RealOrders" = some 3 by kernel_rfl).symm.trans hf) |>.symm
      obtain rfl : fn = Tryz.f3 := (Option.some.inj (Tryz.func3.symm.trans hfn)).symm
      exact ⟨by kernel_rfl, fun j t ht => by
        rw [Tryz.params3] at ht
        match j, ht with
        | 0, ht => obtain rfl := Option.some.inj ht; exact ws22
        | 1, ht => obtain rfl := Option.some.inj ht; exact ws22
        | 2, ht => obtain rfl := Option.some.inj ht; exact ws22
        | j + 3, ht => simp at ht⟩)
    (by kernel_rfl)
#print axioms proved
end Go.Proofs.YthjfdhkahmlolabGreatDoor.realOrders
