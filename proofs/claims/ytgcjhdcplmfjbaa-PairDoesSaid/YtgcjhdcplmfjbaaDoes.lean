/-
  PairDoes: for every two pairs and every list of words the law returns true, and its arguments read behind the call as before. No condition.
-/
import Derived.Test.YtgcjhdcplmfjbaaDoes2
import Derived.ProofKit
import Derived.OpenShut
import Derived.ChangeOld
import Derived.Below
import Derived.SizedLaws
import Derived.Lib.SmallJoins
namespace Go.Proofs.Ytgcjhdcplmfjbaa.pairDoes
open Go.ChangeShapes Go.WideShapes Go.ChangeAt Go.RowKit Go.Joins

theorem own : ownKnob Try.prog.godebug = none := by kernel_rfl
theorem laidOut : laidOutB Try.prog = true := by kernel_rfl
theorem bytes22 : Try.prog.bytesOf 22 = 8 := by kernel_rfl
theorem cells24 : Try.prog.cellsOf 24 = 2 := by kernel_rfl
theorem below_only {w w' : World} (ho : Only (fun _ => False) w w') : Below w.heap.size w w' :=
  (ho.mono (T := fun k => w.heap.size ≤ k) (by intro k _ h; exact h.elim)).below (Nat.le_refl _)
theorem word {k : Int} (h : (Lit.int .u64 k).wf = true) : ∃ n : Nat, k = n ∧ n < 18446744073709551616 := by
  have h2 : 0 ≤ k ∧ k ≤ 18446744073709551615 := by simpa [Lit.wf, IntKind.min, IntKind.max, IntKind.signed, IntKind.bits] using h
  exact ⟨k.toNat, by omega, by omega⟩
theorem spot_none {x : Addr} {v : Value} {w : World} (h : w.cell? x = some v) : x.spot = none := by
  cases hs : x.spot with
  | none => rfl
  | some y =>
    simp only [World.cell?, hs] at h
    split at h <;> simp at h
theorem add_at {x : Addr} {v : Value} {w : World} {i : Nat} (hs : x.spot = none) (h : w.cell? (x.add i) = some v) : w.cell? ⟨x.block, x.off + i, none⟩ = some v := by
  rw [← h]; congr 1
  unfold Addr.add
  split
  · rename_i h0; subst h0; cases x; simp_all
  · rfl

theorem words_of {w : World} {x : Addr} {len cap : Nat} {zs : List Int} (hl : len ≤ cap) (hz : zs.length = cap) (hc : ∀ i, i < zs.length → w.cell? (x.add i) = some (.int .u64 (zs.getD i 0))) (hwz : ∀ n ∈ zs, (Lit.int .u64 n).wf = true) :
    Words w (some x) len (fun j => (zs.getD j 0).toNat) :=
  ⟨fun j hj => by
    have h0 := hc 0 (by omega)
    have hsp : x.spot = none := spot_none (x := x) h0
    have hb := World.block_lt_of_cell? w x h0
    have hmem : zs.getD j 0 ∈ zs := by rw [List.getD_eq_getElem?_getD, List.getElem?_eq_getElem (by omega)]; exact List.getElem_mem _
    obtain ⟨n, hn, hlt⟩ := word (hwz _ hmem)
    refine ⟨x.block, x.off, ?_, hb, ?_, ?_⟩
    · cases x with
      | mk b o s => dsimp only at hsp; subst hsp; rfl
    · have := add_at hsp (hc j (by omega))
      rw [this, hn]; rfl
    · rw [hn]; exact hlt⟩

set_option maxRecDepth 100000 in
theorem lifted (os : Os) (started : os.Started) (H : Type) (enc : TypeId × Value → H) :
    ReturnsInHanded {} Try.checked os 3 .any (Rows.pairDoesSpec.pre6 enc Try.prog Try.f3 Rows.pairDoesRow.domain false) (Rows.pairDoesSpec.post enc Try.prog Try.f3 false true false false) := by
  refine returnsInHanded_of_change_sized (C := Try.checked) own started (by kernel_rfl) Try.func3
    (ChangeSpec.witness6 (enc := enc) (C := Try.checked) false ⟨#[], #[.agg #[.int .u64 0, .int .u64 0], .agg #[.int .u64 0, .int .u64 0], .slice none 0 0], []⟩ 8 (by kernel_rfl) (by kernel_rfl) (by kernel_rfl) (by kernel_rfl)) ?_
  intro W base args ds gs before hval0 hW hcnd hsz0 _
  have hsz : (DataW.weightsEach Try.prog (Try.f3.params.toList ++ Rows.pairDoesSpec.plain.varTypes Try.prog) (ds ++ gs)).all (· ≤ reachBytes) = true := hsz0
  have hval : ∀ (j : Nat) t v, Try.f3.params[j]? = some t → args[j]? = some v → Value.okWide Try.prog W .any base t v := hval0
  have hW' := hW
  obtain ⟨p, q, hA0, hV, rfl, hfz, hnd⟩ := hW
  have hA : DataW.TrodAll enc Try.prog W 0 (fun _ => true) true Try.f3.params.toList args.toList ds p := hA0
  rw [Try.params3] at hA hval hsz
  obtain ⟨v0, vs0, d0, ds0, p0, q0, hargs, rfl, rfl, h0, r0⟩ := trodAll_cons hA
  obtain ⟨v1, vs1, d1, ds1, p1, q1, rfl, rfl, rfl, h1, r1⟩ := trodAll_cons r0
  obtain ⟨v2, vs2, d2, ds2, p2, q2, rfl, rfl, rfl, h2, r2⟩ := trodAll_cons r1
  obtain ⟨rfl, rfl, rfl⟩ := trodAll_nil r2
  obtain rfl : args = #[v0, v1, v2] := by cases args; simp_all
  obtain ⟨rfl, rfl⟩ := trodVars_none hV
  have k0 := h0
  have k1 := h1
  have k2 := h2
  have lt0 : ∀ x ∈ p0, x.block < W.heap.size := by obtain ⟨m, hm⟩ := k0; exact DataW.trod_lt m _ _ _ hm
  have lt1 : ∀ x ∈ p1, x.block < W.heap.size := by obtain ⟨m, hm⟩ := k1; exact DataW.trod_lt m _ _ _ hm
  have lt2 : ∀ x ∈ p2, x.block < W.heap.size := by obtain ⟨m, hm⟩ := k2; exact DataW.trod_lt m _ _ _ hm
  obtain ⟨s, c, rfl, hp⟩ : ∃ s c : Nat, v0 = .agg #[.int .u64 (s : Nat), .int .u64 (c : Nat)] ∧ Ok2 (s, c) := by
    obtain ⟨c0, c1, y0, y1, m, rfl, _, _, hy0, hy1⟩ := open_agg2 Try.underlying24 (by kernel_rfl) cells24 (hval 0 24 v0 rfl rfl) h0
    obtain ⟨a, e0, _, wa⟩ := DataW.trod_int Try.underlying22 hy0
    obtain ⟨b, e1, _, wb⟩ := DataW.trod_int Try.underlying22 hy1
    obtain ⟨a', rfl, la⟩ := word wa
    obtain ⟨b', rfl, lb⟩ := word wb
    simp at e0 e1
    subst e0 e1
    exact ⟨a', b', rfl, la, lb⟩
  obtain ⟨x, d, rfl, hq⟩ : ∃ s c : Nat, v1 = .agg #[.int .u64 (s : Nat), .int .u64 (c : Nat)] ∧ Ok2 (s, c) := by
    obtain ⟨c0, c1, y0, y1, m, rfl, _, _, hy0, hy1⟩ := open_agg2 Try.underlying24 (by kernel_rfl) cells24 (hval 1 24 v1 rfl rfl) h1
    obtain ⟨a, e0, _, wa⟩ := DataW.trod_int Try.underlying22 hy0
    obtain ⟨b, e1, _, wb⟩ := DataW.trod_int Try.underlying22 hy1
    obtain ⟨a', rfl, la⟩ := word wa
    obtain ⟨b', rfl, lb⟩ := word wb
    simp at e0 e1
    subst e0 e1
    exact ⟨a', b', rfl, la, lb⟩
  obtain ⟨a2, len2, cap2, rfl⟩ := okWide_slice Try.underlying25 (hval 2 25 v2 rfl rfl)
  obtain ⟨us, hlen, hus⟩ : ∃ us, len2 * 8 ≤ 140737488355328 ∧ Words W a2 len2 us := by
    obtain ⟨fuel, hf⟩ := h2
    rcases open_ints Try.underlying25 Try.underlying22 (by kernel_rfl) hf with ⟨hcs, _⟩ | ⟨xa, l, cp, zs, hcs, _, hl, hm, hz, hx, hcell, hwz⟩
    · simp [Value.cells] at hcs
      obtain ⟨rfl, rfl, rfl⟩ := hcs
      exact ⟨fun _ => 0, by omega, ⟨by omega⟩⟩
    · simp [Value.cells] at hcs
      obtain ⟨rfl, rfl, rfl⟩ := hcs
      have hz' : zs.length = cap2 := by simpa using hz
      refine ⟨_, ?_, words_of hl hz' hcell hwz⟩
      simp only [Prod.mk.injEq] at hx
      have hx1 := hx.1
      rw [hx1] at hsz
      have := sized_slice hsz (j := 2) (t := 25) (e := 22) rfl rfl Try.underlying25
      rw [bytes22] at this
      simp only [lits, List.length_map, List.length_take, List.length_drop, reachBytes] at this
      omega
  clear hA0 hval0
  refine (does_any (s, c) (x, d) a2 len2 cap2 us W hp hq hlen hus).mono fun e W' ⟨he, ho⟩ => ?_
  subst he
  have bel := below_only ho
  exact ⟨_, rfl, _, _, _, [], _, [], hW', trodAll_mk1 (shut_bool Try.underlying4 _), (trodAll_cons_mk (Below.trod laidOut (by kernel_rfl) (of_decide_eq_true (by kernel_rfl)) k0 bel lt0) (trodAll_cons_mk (Below.trod laidOut (by kernel_rfl) (of_decide_eq_true (by kernel_rfl)) k1 bel lt1) (trodAll_cons_mk (Below.trod laidOut (by kernel_rfl) (of_decide_eq_true (by kernel_rfl)) k2 bel lt2) trodAll_mk0))), rfl, bel.frame _, fun h => by cases h⟩

theorem over : Rows.pairDoesRow.holds Try.pinned (OpenSpec.ofChange Rows.pairDoesSpec) :=
  OpenClaim.holds_of_wide 3 Try.f3 rfl rfl rfl rfl rfl rfl rfl ⟨rfl, rfl, rfl, rfl, rfl⟩ rfl rfl rfl rfl rfl (by kernel_rfl) Try.func3 (by kernel_rfl)
    (of_decide_eq_true (by kernel_rfl)) (by unfold Func.isWrapper; first | (rw [if_pos (by decide +kernel)]; kernel_rfl) | (rw [if_neg (by decide +kernel)]; exact ⟨rfl, rfl⟩))
    (fun os started H enc _ => lifted os started H enc)

theorem proved : Rows.PairDoesSaid := over
end Go.Proofs.Ytgcjhdcplmfjbaa.pairDoes
