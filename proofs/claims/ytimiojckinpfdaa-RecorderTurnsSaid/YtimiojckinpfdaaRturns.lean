/-
  RecorderTurns: for every list of rounds the law returns true; its argument reads behind the call as before. No condition.
-/
import Derived.Test.YtimiojckinpfdaaTurns3
import Derived.Test.YtimiojckinpfdaaBridge
import Derived.Conc.Holds
import Derived.Below
import Derived.ProofKit
import Derived.OpenShut
import Derived.ChangeOld
import Derived.Deep.Matrix
namespace Go.Proofs.Ytimiojckinpfdaa.recorderTurns
open Go.ChangeShapes Go.WideShapes Go.ChangeAt Go.RowKit Go.Deep

theorem own : ownKnob Try.prog.godebug = none := by kernel_rfl
theorem laidOut : laidOutB Try.prog = true := by kernel_rfl
theorem below_only {w w' : World} (ho : Only (fun _ => False) w w') : Below w.heap.size w w' :=
  (ho.mono (T := fun k => w.heap.size ≤ k) (by intro k _ h; exact h.elim)).below (Nat.le_refl _)
theorem spot_none {x : Addr} {v : Value} {w : World} (h : w.cell? x = some v) : x.spot = none := by
  cases hs : x.spot with
  | none => rfl
  | some y =>
    simp only [World.cell?, hs] at h
    split at h <;> simp at h
theorem add_at {x : Addr} {v : Value} {w : World} {i : Nat} (hs : x.spot = none) (h : w.cell? (x.add i) = some v) : w.cell? ⟨x.block, x.off + i, none⟩ = some v := by
  rw [← h]; congr 1
  unfold Addr.add
  split
  · rename_i h0; subst h0; cases x; simp_all
  · rfl
theorem addr_eq {x : Addr} (hs : x.spot = none) : x = ⟨x.block, x.off, none⟩ := by cases x; simp_all
theorem i64_le {k : Int} (h : (Lit.int .i64 k).wf = true) : k ≤ 9223372036854775807 := by
  have h2 : -9223372036854775808 ≤ k ∧ k ≤ 9223372036854775807 := by simpa [Lit.wf, IntKind.min, IntKind.max, IntKind.signed, IntKind.bits] using h
  exact h2.2
theorem rows_of {w : World} {x : Addr} {len cap : Nat} {A : Nat → Option Addr} {Lr C : Nat → Nat} {Zr : Nat → List Int} (hl : len ≤ cap)
    (hrows : ∀ r, r < cap → w.cell? (x.add r) = some (.slice (A r) (Lr r) (C r)) ∧ Lr r ≤ C r ∧ C r ≤ maxLen ∧ (Zr r).length = C r ∧ (∀ n ∈ Zr r, (Lit.int .i64 n).wf = true) ∧ (A r = none → C r = 0) ∧
        ∀ a', A r = some a' → 0 ≤ a'.block ∧ ∀ c, c < C r → w.cell? (a'.add c) = some (.int .i64 ((Zr r).getD c 0))) :
    Rd w (some x) len Lr (fun r k => (Zr r).getD k 0) := ⟨fun r hr => by
  obtain ⟨h1, h2, h3, h4, h5, h6, h7⟩ := hrows r (by omega)
  have hs : x.spot = none := spot_none (x := x) (hrows 0 (by omega)).1
  refine ⟨x.block, x.off, A r, C r, by rw [← addr_eq hs], add_at hs h1, by unfold maxLen at h3; omega, fun k hk => ?_⟩
  cases hA : A r with
  | none => have := h6 hA; omega
  | some a' =>
    have hc := (h7 a' hA).2 k (by omega)
    have hs2 : a'.spot = none := spot_none (x := a') ((h7 a' hA).2 0 (by omega))
    refine ⟨a'.block, a'.off, by rw [← addr_eq hs2], add_at hs2 hc, i64_le (h5 _ ?_)⟩
    rw [List.getD_eq_getElem?_getD, List.getElem?_eq_getElem (by omega)]; exact List.getElem_mem _⟩

set_option maxRecDepth 100000 in
theorem lifted (os : Os) (started : os.Started) (H : Type) (enc : TypeId × Value → H) :
    ReturnsInHanded {} Try.checked os 6 .any (Rows.recorderTurnsSpec.pre6 enc Try.prog Try.f6 Rows.recorderTurnsRow.domain false) (Rows.recorderTurnsSpec.post enc Try.prog Try.f6 false true false false) := by
  refine returnsInHanded_of_change (C := Try.checked) own started (by kernel_rfl) Try.func6
    (ChangeSpec.witness6 (enc := enc) (C := Try.checked) false ⟨#[], #[.slice none 0 0], []⟩ 8 (by kernel_rfl) (by kernel_rfl) (by kernel_rfl) (by kernel_rfl)) ?_
  intro W base args ds gs before hval0 hW hcnd _
  have hval : ∀ (j : Nat) t v, Try.f6.params[j]? = some t → args[j]? = some v → Value.okWide Try.prog W .any base t v := hval0
  have hW' := hW
  obtain ⟨p, q, hA0, hV, rfl, hfz, hnd⟩ := hW
  have hA : DataW.TrodAll enc Try.prog W 0 (fun _ => true) true Try.f6.params.toList args.toList ds p := hA0
  rw [Try.params6] at hA hval
  obtain ⟨v0, vs0, d0, ds0, p0, q0, hargs, rfl, rfl, h0, r0⟩ := trodAll_cons hA
  obtain ⟨rfl, rfl, rfl⟩ := trodAll_nil r0
  obtain rfl : args = #[v0] := by cases args; simp_all
  obtain ⟨rfl, rfl⟩ := trodVars_none hV
  have k0 := h0
  have lt0 : ∀ x ∈ p0, x.block < W.heap.size := by obtain ⟨m, hm⟩ := k0; exact DataW.trod_lt m _ _ _ hm
  obtain ⟨a0, len, cap, rfl⟩ := okWide_slice Try.underlying75 (hval 0 75 v0 rfl rfl)
  obtain ⟨Ln, Z, hlen, hrd⟩ : ∃ Ln Z, len ≤ 9223372036854775807 ∧ Rd W a0 len Ln Z := by
    obtain ⟨fuel, hf⟩ := h0
    rcases open_int_rows Try.underlying75 Try.underlying81 Try.underlying2 (by kernel_rfl) (by kernel_rfl) hf with ⟨hcs, _⟩ | ⟨xa, l, cp, A, Lr, C, Zr, hcs, _, hl, hm, hx, hrows⟩
    · simp [Value.cells] at hcs
      obtain ⟨rfl, rfl, rfl⟩ := hcs
      exact ⟨fun _ => 0, fun _ _ => 0, by omega, ⟨fun r hr => by omega⟩⟩
    · simp [Value.cells] at hcs
      obtain ⟨rfl, rfl, rfl⟩ := hcs
      exact ⟨_, _, by unfold maxLen at hm; omega, rows_of hl hrows⟩
  clear hA0 hval0
  refine (turns_calls a0 len cap Ln Z W hlen hrd).mono fun e W' ⟨he, hg⟩ => ?_
  subst he
  have bel := below_only hg
  exact ⟨_, rfl, _, _, _, [], _, [], hW', trodAll_mk1 (shut_bool Try.underlying4 _), trodAll_mk1 (Below.trod laidOut (by kernel_rfl) (of_decide_eq_true (by kernel_rfl)) k0 bel lt0), rfl, bel.frame _, fun h => by cases h⟩

theorem over : Rows.recorderTurnsRow.holds Try.pinned (OpenSpec.ofChange Rows.recorderTurnsSpec) :=
  OpenClaim.holds_of_wide_leaving 6 Try.f6 rfl rfl rfl rfl rfl rfl rfl ⟨rfl, rfl, rfl, rfl, rfl⟩ rfl rfl rfl rfl rfl (by kernel_rfl) Try.func6 (by kernel_rfl)
    (of_decide_eq_true (by kernel_rfl)) (by unfold Func.isWrapper; first | (rw [if_pos (by decide +kernel)]; kernel_rfl) | (rw [if_neg (by decide +kernel)]; exact ⟨rfl, rfl⟩))
    (fun os started H enc _ => ReturnsInHanded.leaving (lifted os started H enc))

/-- THE STATEMENT -/
theorem proved : Rows.RecorderTurnsSaid :=
  over
#print axioms proved
end Go.Proofs.Ytimiojckinpfdaa.recorderTurns
