/-
  LinearOrders: for every history the law returns true; its argument reads behind the call as before. No condition.
-/
import Derived.Test.YtlipngdfhpaodaaGreatLla
import Derived.Test.YtlipngdfhpaodaaGreatJlc
import Derived.Test.YtlipngdfhpaodaaGreatBridge
import Derived.Test.YtlipngdfhpaodaaGreatLry
import Derived.Test.YtlipngdfhpaodaaGreatLryb
import Derived.Conc.HoldsTime
import Derived.StillGives
import Derived.Below
import Derived.ProofKit
import Derived.OpenShut
import Derived.ChangeOld
import Derived.Deep.Matrix
namespace Go.Proofs.YtlipngdfhpaodaaGreat.linearOrders
open Go.ChangeShapes Go.WideShapes Go.ChangeAt Go.RowKit Go.Deep Go.Conc

theorem own : ownKnob Tryz.prog.godebug = none := by kernel_rfl
theorem laidOut : laidOutB Tryz.prog = true := by kernel_rfl
theorem below_only {w w' : World} (ho : Only (fun _ => False) w w') : Below w.heap.size w w' :=
  (ho.mono (T := fun k => w.heap.size ≤ k) (by intro k _ h; exact h.elim)).below (Nat.le_refl _)

set_option maxRecDepth 100000 in
theorem lifted (os : Os) (started : os.Started) (H : Type) (enc : TypeId × Value → H) :
    ReturnsInHanded { calm := true } Tryz.checked os 7 .any (Rows.linearOrdersSpec.pre6 enc Tryz.prog Tryz.f7 Rows.linearOrdersRow.domain false) (Rows.linearOrdersSpec.post enc Tryz.prog Tryz.f7 false true false false) := by
  refine returnsInHanded_of_change (C := Tryz.checked) own started (by kernel_rfl) Tryz.func7
    (ChangeSpec.witness6c (enc := enc) (C := Tryz.checked) ⟨#[], #[.agg #[.slice none 0 0, .int .i64 0]], []⟩ 8 (by kernel_rfl) (by kernel_rfl) (by kernel_rfl) (by kernel_rfl)) ?_
  intro W base args ds gs before hval0 hW hcnd _
  have hval : ∀ (j : Nat) t v, Tryz.f7.params[j]? = some t → args[j]? = some v → Value.okWide Tryz.prog W .any base t v := hval0
  have hW' := hW
  obtain ⟨p, q, hA0, hV, rfl, hfz, hnd⟩ := hW
  have hA : DataW.TrodAll enc Tryz.prog W 0 (fun _ => true) true Tryz.f7.params.toList args.toList ds p := hA0
  rw [Tryz.params7] at hA hval
  obtain ⟨v0, vs0, d0, ds0, p0, q0, hargs, rfl, rfl, h0, r0⟩ := trodAll_cons hA
  obtain ⟨rfl, rfl, rfl⟩ := trodAll_nil r0
  obtain rfl : args = #[v0] := by cases args; simp_all
  obtain ⟨rfl, rfl⟩ := trodVars_none hV
  have k0 := h0
  have lt0 : ∀ x ∈ p0, x.block < W.heap.size := by obtain ⟨m, hm⟩ := k0; exact DataW.trod_lt m _ _ _ hm
  obtain ⟨a, m, C, x, L, D, rfl, hs⟩ := Lo.open_hist (hval 0 90 v0 rfl rfl) h0
  clear hA0 hval0
  refine (Lo.law7 Lo.awake31 W a m C x L D hs).mono fun e W' ⟨he, hg⟩ => ?_
  subst he
  have bel := below_only hg
  exact ⟨_, rfl, _, _, _, [], _, [], hW', trodAll_mk1 (shut_bool Tryz.underlying4 _), trodAll_mk1 (Below.trod laidOut (by kernel_rfl) (of_decide_eq_true (by kernel_rfl)) k0 bel lt0), rfl, bel.frame _, fun h => by cases h⟩

theorem timed {H : Type} {enc : TypeId × Value → H} {P : Program} {f : Func} {s : ChangeSpec} {F : Stop.Interp} {apart fresh handsOn : Bool} {W W' : World} {args : Array Value} {v : Value}
    (h : s.post enc P f apart fresh handsOn false W args v W') : (OpenSpec.ofChange s).postWith enc P f F (outsideKept [.timePasses]) apart fresh handsOn W args v W' := by
  obtain ⟨ds, gs, before, pr, pa, pv, h1, h2, h3, h4, h5, _⟩ := h
  exact ⟨ds, gs, before, pr, pa, pv, h1, h2, h3, h4, leftAs_later ⟨0, h5.1⟩, h5.2⟩

theorem lifted2 (os : Os) (started : os.Started) (H : Type) (enc : TypeId × Value → H) (F : Stop.Interp) :
    ReturnsInLeavingWide { calm := true } Tryz.checked os 7 .any (Rows.linearOrdersSpec.pre6 enc Tryz.prog Tryz.f7 Rows.linearOrdersRow.domain false) ((OpenSpec.ofChange Rows.linearOrdersSpec).postWith enc Tryz.prog Tryz.f7 F (outsideKept [.timePasses]) false true false) :=
  fun enter => ReturnsInOpen.mono_post (fun _ _ _ _ h => timed h) (ReturnsInHanded.leaving (lifted os started H enc) enter)

theorem over : Rows.linearOrdersRow.holds Tryz.pinned (OpenSpec.ofChange Rows.linearOrdersSpec) :=
  OpenClaim.holds_of_wide_leaving_time 7 Tryz.f7 rfl rfl rfl rfl rfl rfl rfl ⟨rfl, rfl, rfl, rfl, rfl⟩ rfl rfl rfl rfl rfl named7 Tryz.func7 closed7 inst7 wrap7
    (fun os started H enc _ F => lifted2 os started H enc F)

/-- THE STATEMENT -/
theorem proved : Rows.LinearOrdersSaid :=
  over
#print axioms proved
end Go.Proofs.YtlipngdfhpaodaaGreat.linearOrders
