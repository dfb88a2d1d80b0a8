/-
  RegistryNames: the law returns true. No condition.
-/
import Derived.Test.YtlipngdfhpaodaaGreatRgl
import Derived.Test.YtlipngdfhpaodaaGreatBridge
import Derived.Test.YtlipngdfhpaodaaGreatRgy
import Derived.Test.YtlipngdfhpaodaaGreatRgyb
import Derived.Conc.HoldsTime
import Derived.StillGives
import Derived.Below
import Derived.ProofKit
import Derived.OpenShut
import Derived.ChangeOld
import Derived.Deep.Matrix
namespace Go.Proofs.YtlipngdfhpaodaaGreat.registryNames
open Go.ChangeShapes Go.WideShapes Go.ChangeAt Go.RowKit Go.Deep Go.Conc

theorem own : ownKnob Tryz.prog.godebug = none := by kernel_rfl
theorem laidOut : laidOutB Tryz.prog = true := by kernel_rfl
theorem below_only {w w' : World} (ho : Only (fun _ => False) w w') : Below w.heap.size w w' :=
  (ho.mono (T := fun k => w.heap.size ≤ k) (by intro k _ h; exact h.elim)).below (Nat.le_refl _)

set_option maxRecDepth 100000 in
theorem lifted (os : Os) (started : os.Started) (H : Type) (enc : TypeId × Value → H) :
    ReturnsInHanded { calm := true } Tryz.checked os 4 .any (Rows.registryNamesSpec.pre6 enc Tryz.prog Tryz.f4 Rows.registryNamesRow.domain false) (Rows.registryNamesSpec.post enc Tryz.prog Tryz.f4 false true false false) := by
  refine returnsInHanded_of_change (C := Tryz.checked) own started (by kernel_rfl) Tryz.func4
    (ChangeSpec.witness6c (enc := enc) (C := Tryz.checked) ⟨#[], #[], []⟩ 8 (by kernel_rfl) (by kernel_rfl) (by kernel_rfl) (by kernel_rfl)) ?_
  intro W base args ds gs before hval0 hW hcnd _
  have hW' := hW
  obtain ⟨p, q, hA0, hV, rfl, hfz, hnd⟩ := hW
  have hA : DataW.TrodAll enc Tryz.prog W 0 (fun _ => true) true Tryz.f4.params.toList args.toList ds p := hA0
  rw [Tryz.params4] at hA
  obtain ⟨hargs, rfl, rfl⟩ := trodAll_nil hA
  obtain rfl : args = #[] := by cases args; simp_all
  obtain ⟨rfl, rfl⟩ := trodVars_none hV
  clear hA0 hval0
  refine (law4 W).mono fun e W' ⟨he, hg⟩ => ?_
  subst he
  have bel := below_only hg
  exact ⟨_, rfl, _, _, _, [], _, [], hW', trodAll_mk1 (shut_bool Tryz.underlying4 _), trodAll_mk0, rfl, bel.frame _, fun h => by cases h⟩

theorem timed {H : Type} {enc : TypeId × Value → H} {P : Program} {f : Func} {s : ChangeSpec} {F : Stop.Interp} {apart fresh handsOn : Bool} {W W' : World} {args : Array Value} {v : Value}
    (h : s.post enc P f apart fresh handsOn false W args v W') : (OpenSpec.ofChange s).postWith enc P f F (outsideKept [.timePasses]) apart fresh handsOn W args v W' := by
  obtain ⟨ds, gs, before, pr, pa, pv, h1, h2, h3, h4, h5, _⟩ := h
  exact ⟨ds, gs, before, pr, pa, pv, h1, h2, h3, h4, leftAs_later ⟨0, h5.1⟩, h5.2⟩

theorem lifted2 (os : Os) (started : os.Started) (H : Type) (enc : TypeId × Value → H) (F : Stop.Interp) :
    ReturnsInLeavingWide { calm := true } Tryz.checked os 4 .any (Rows.registryNamesSpec.pre6 enc Tryz.prog Tryz.f4 Rows.registryNamesRow.domain false) ((OpenSpec.ofChange Rows.registryNamesSpec).postWith enc Tryz.prog Tryz.f4 F (outsideKept [.timePasses]) false true false) :=
  fun enter => ReturnsInOpen.mono_post (fun _ _ _ _ h => timed h) (ReturnsInHanded.leaving (lifted os started H enc) enter)

theorem over : Rows.registryNamesRow.holds Tryz.pinned (OpenSpec.ofChange Rows.registryNamesSpec) :=
  OpenClaim.holds_of_wide_leaving_time 4 Tryz.f4 rfl rfl rfl rfl rfl rfl rfl ⟨rfl, rfl, rfl, rfl, rfl⟩ rfl rfl rfl rfl rfl named4 Tryz.func4 closed4 inst4 wrap4
    (fun os started H enc _ F => lifted2 os started H enc F)

/-- THE STATEMENT -/
theorem proved : Rows.RegistryNamesSaid :=
  over
#print axioms proved
end Go.Proofs.YtlipngdfhpaodaaGreat.registryNames
