/-
  PoolDoes (the second form): for every two sizes and every script the law returns true, and its arguments read behind the call as before, where what they hold is of bulk at most 1048576. No other condition.
-/
import Derived.Test.YtmfgagfkkhfliaaDoesW
import Derived.ProofKit
import Derived.OpenShut
import Derived.JoinedCond
import Derived.ChangeOld
import Derived.Below
import Derived.Deep.Slices
import Derived.Deep.Fields
import Derived.ChangeSame
namespace Go.Proofs.Ytmfgagfkkhfliaa.poolDoes
open Go.ChangeShapes Go.WideShapes Go.ChangeAt Go.RowKit Go.Deep

section
variable {H : Type} {enc : TypeId × Value → H} {P : Program} {w : World} {base : Nat} {spare : Nat → Bool} {held : Bool}
theorem open_slice_fields {t e : TypeId} {fs : Array Field} {fuel : Nat} {cs : List Value} {x : DataW H × List MemPlace} (ht : P.underlying t = some (.slice e)) (he : P.underlying e = some (.struct fs))
    (hone : oneCellFields P fs = true) (hC : P.cellsOf e = fs.size) (h : DataW.trod enc P w base spare held fuel t cs = some x) :
    (cs = [.slice none 0 0] ∧ x = (.nil, [])) ∨
    ∃ (a : Addr) (len cap m : Nat) (D : Nat → DataW H) (Pl : Nat → List MemPlace), cs = [.slice (some a) len cap] ∧ base ≤ a.block ∧ len ≤ cap ∧ cap ≤ maxLen ∧ m = (if spare a.block then cap else len) ∧
      x = (.slice ((List.range len).map D) ((List.range (m - len)).map fun j => D (len + j)), MemPlace.row a (m * fs.size) ++ (List.range m).flatMap Pl) ∧
      ∀ i, i < m → ∃ (ys : List (DataW H × List MemPlace)) (n : Nat), D i = .agg (ys.map (·.1)) ∧ Pl i = ys.flatMap (·.2) ∧ ys.length = fs.size ∧
        ∀ (j : Nat) (f : Field), fs[j]? = some f → ∃ (v : Value) (y : DataW H × List MemPlace), w.cell? (a.add (i * fs.size + j)) = some v ∧ ys[j]? = some y ∧ DataW.trod enc P w base spare held n f.type [v] = some y := by
  rcases open_slice ht h with h0 | ⟨a, len, cap, m, n, D, Pl, hcs, hb, hl, hm, hmm, hx, hi⟩
  · exact .inl h0
  · refine .inr ⟨a, len, cap, m, D, Pl, hcs, hb, hl, hm, hmm, by rw [hC] at hx; exact hx, fun i him => ?_⟩
    obtain ⟨cs', hc, ht'⟩ := hi i him
    rw [hC] at hc
    obtain ⟨ys, n', hn', hy, hlen, hyl, hf⟩ := DataW.trod_struct he ht'
    obtain ⟨_, hcl, hat⟩ := World.cells?_some hc
    simp only [Prod.mk.injEq] at hy
    refine ⟨ys, n', hy.1, hy.2, hyl, fun j f hj => ?_⟩
    obtain ⟨ho, hk⟩ := hone_of hone j f hj
    have hjl : j < fs.size := (Array.getElem?_eq_some_iff.1 hj).1
    have hcell := hat j hjl
    have hv : cs'[j]? = some (cs'[j]'(by omega)) := List.getElem?_eq_getElem (by omega)
    have h1 := hf j f hj
    rw [ho, hk] at h1
    have hone' : (cs'.drop j).take 1 = [cs'[j]'(by omega)] := by
      rw [List.drop_eq_getElem_cons (by omega)]
      rfl
    rw [hone'] at h1
    have hys : ys[j]? = some (ys[j]'(by omega)) := List.getElem?_eq_getElem (by omega)
    refine ⟨_, _, ?_, hys, h1.trans hys⟩
    rw [← Go.Deep.add_add, hcell, hv]
end

theorem own : ownKnob Try.prog.godebug = none := by kernel_rfl
theorem laidOut : laidOutB Try.prog = true := by kernel_rfl
theorem below_only {w w' : World} (ho : Only (fun _ => False) w w') : Below w.heap.size w w' :=
  (ho.mono (T := fun k => w.heap.size ≤ k) (by intro k _ h; exact h.elim)).below (Nat.le_refl _)
theorem bounds {k : Int} (h : (Lit.int .i64 k).wf = true) : -9223372036854775808 ≤ k ∧ k ≤ 9223372036854775807 := by
  simpa [Lit.wf, IntKind.min, IntKind.max, IntKind.signed, IntKind.bits] using h

theorem walk (n m : Int) (a : Option Addr) (len cap : Nat) (K N : Nat → Int) (O : Nat → Bool) (w : World) (hn : (Lit.int .i64 n).wf = true) (hm : (Lit.int .i64 m).wf = true) (hlen : len ≤ 9223372036854775807) (hs : Script w a len K N O) :
    Calls Try.prog 4 #[.int .i64 n, .int .i64 m, .slice a len cap] w fun e w' => e = .returned (.bool true) ∧ Below w.heap.size w w' := by
  have b1 := bounds hn
  have b2 := bounds hm
  by_cases h1 : n < 1 ∨ 16 < n
  · by_cases h2 : m < 1 ∨ 16 < m
    · exact (does_badbad n m a len cap K N O w h1 h2 hlen hs).mono fun e w' ⟨he, ho⟩ => ⟨he, below_only ho⟩
    · obtain ⟨m', rfl⟩ := Int.eq_ofNat_of_zero_le (show 0 ≤ m by omega)
      exact (does_badgood n m' a len cap K N O w h1 (by omega) (by omega) hlen hs).mono fun e w' ⟨he, ho⟩ => ⟨he, below_only ho⟩
  · obtain ⟨n', rfl⟩ := Int.eq_ofNat_of_zero_le (show 0 ≤ n by omega)
    by_cases h2 : m < 1 ∨ 16 < m
    · exact (does_goodbad n' m a len cap K N O w (by omega) (by omega) h2 hlen hs).mono fun e w' ⟨he, ho⟩ => ⟨he, below_only ho⟩
    · obtain ⟨m', rfl⟩ := Int.eq_ofNat_of_zero_le (show 0 ≤ m by omega)
      exact (does_goodgood n' m' a len cap K N O w (by omega) (by omega) (by omega) (by omega) hlen hs).mono fun e w' ⟨he, ho⟩ => ⟨he, below_only ho⟩

theorem one : oneCellFields Try.prog (Try.prog.fieldsOf 38) = true := by kernel_rfl
theorem cells38 : Try.prog.cellsOf 38 = 3 := by kernel_rfl

theorem add_at {x : Addr} {v : Value} {w : World} {i : Nat} (hs : x.spot = none) (h : w.cell? (x.add i) = some v) : w.cell? ⟨x.block, x.off + i, none⟩ = some v := by
  rw [← h]; congr 1
  unfold Addr.add
  split
  · rename_i h0; subst h0; cases x; simp_all
  · rfl

theorem spot_none {x : Addr} {v : Value} {w : World} (h : w.cell? x = some v) : x.spot = none := by
  cases hs : x.spot with
  | none => rfl
  | some y =>
    simp only [World.cell?, hs] at h
    split at h <;> simp at h

/-- what the reading of the third argument says of its cells -/
theorem opened {H : Type} {enc : TypeId × Value → H} {w : World} {base : Nat} {spare : Nat → Bool} {held : Bool} {fuel : Nat} {a : Option Addr} {len cap : Nat} {x : DataW H × List MemPlace}
    (h : DataW.trod enc Try.prog w base spare held fuel 33 [.slice a len cap] = some x) : len ≤ 9223372036854775807 ∧ ∃ K N O, Script w a len K N O := by
  rcases open_slice_fields Try.underlying33 Try.underlying38 one cells38 h with ⟨hcs, _⟩ | ⟨ad, l, c, m, D, Pl, hcs, hb, hl, hm, hmm, hx, hi⟩
  · simp at hcs
    obtain ⟨rfl, rfl, rfl⟩ := hcs
    exact ⟨by omega, fun _ => 0, fun _ => 0, fun _ => false, ⟨by omega⟩⟩
  · simp at hcs
    obtain ⟨rfl, rfl, rfl⟩ := hcs
    unfold maxLen at hm
    have hml : len ≤ m := by rw [hmm]; split <;> omega
    refine ⟨by omega, ?_⟩
    have key : ∀ i, ∃ (k n : Int) (o : Bool), i < len → ad.spot = none ∧ ad.block < w.heap.size ∧ w.cell? ⟨ad.block, ad.off + i * 3, none⟩ = some (.int .i64 k) ∧ w.cell? ⟨ad.block, ad.off + i * 3 + 1, none⟩ = some (.int .i64 n) ∧ w.cell? ⟨ad.block, ad.off + i * 3 + 2, none⟩ = some (.bool o) ∧ -9223372036854775808 ≤ n ∧ n ≤ 9223372036854775807 := by
      intro i
      by_cases hil : i < len
      · have cellAt : ∀ i, i < len → ∃ (k n : Int) (o : Bool), w.cell? (ad.add (i * 3 + 0)) = some (.int .i64 k) ∧ w.cell? (ad.add (i * 3 + 1)) = some (.int .i64 n) ∧ w.cell? (ad.add (i * 3 + 2)) = some (.bool o) ∧ (Lit.int .i64 n).wf = true := by
          intro i hil
          obtain ⟨ys, n, _, _, _, hf⟩ := hi i (by omega)
          obtain ⟨v0, y0, c0, _, t0⟩ := hf 0 _ rfl
          obtain ⟨v1, y1, c1, _, t1⟩ := hf 1 _ rfl
          obtain ⟨v2, y2, c2, _, t2⟩ := hf 2 _ rfl
          obtain ⟨k0, e0, _, _⟩ := DataW.trod_int Try.underlying3 t0
          obtain ⟨k1, e1, _, wf1⟩ := DataW.trod_int Try.underlying3 t1
          obtain ⟨o2, e2, _⟩ := DataW.trod_bool Try.underlying4 t2
          simp at e0 e1 e2
          subst e0 e1 e2
          exact ⟨k0, k1, o2, c0, c1, c2, wf1⟩
        obtain ⟨k, n, o, c0, c1, c2, wf⟩ := cellAt i hil
        obtain ⟨k', _, _, d0, _⟩ := cellAt 0 (by omega)
        have hsp : ad.spot = none := spot_none (x := ad) d0
        have hbk : ad.block < w.heap.size := World.block_lt_of_cell? w ad d0
        exact ⟨k, n, o, fun _ => ⟨hsp, hbk, by have := add_at hsp c0; simpa using this, by have := add_at hsp c1; rw [← Nat.add_assoc] at this; exact this, by have := add_at hsp c2; rw [← Nat.add_assoc] at this; exact this, bounds wf⟩⟩
      · exact ⟨0, 0, false, fun h => absurd h hil⟩
    refine ⟨fun i => Classical.choose (key i), fun i => Classical.choose (Classical.choose_spec (key i)), fun i => Classical.choose (Classical.choose_spec (Classical.choose_spec (key i))), ⟨fun j hj => ?_⟩⟩
    obtain ⟨h1, h2, h3, h4, h5, h6⟩ := Classical.choose_spec (Classical.choose_spec (Classical.choose_spec (key j))) hj
    refine ⟨ad.block, ad.off, ?_, h2, h3, h4, h5, h6⟩
    cases ad with
    | mk blk off sp => dsimp only at h1; subst h1; rfl

theorem contract (H : Type) (enc : TypeId × Value → H) (W : World) (base : Nat) (args : Array Value) (ds gs : List (DataW H)) (before : List MemPlace)
    (hval : ∀ (j : Nat) t v, Try.f4.params[j]? = some t → args[j]? = some v → Value.okWide Try.prog W .any base t v)
    (hW : DataW.Whole enc Try.prog Try.f4.params.toList Rows.poolDoesSpec.vars false W args.toList ds gs before) :
    Calls Try.prog 4 args W fun e W' => ∃ v, e = .returned v ∧ Rows.poolDoesSpec.post enc Try.prog Try.f4 false true false false W args v W' := by
  have hW' := hW
  obtain ⟨p, q, hA0, hV, rfl, hfz, hnd⟩ := hW
  have hA : DataW.TrodAll enc Try.prog W 0 (fun _ => true) true Try.f4.params.toList args.toList ds p := hA0
  rw [Try.params4] at hA hval
  obtain ⟨v0, vs0, d0, ds0, p0, q0, hargs, rfl, rfl, h0, r0⟩ := trodAll_cons hA
  obtain ⟨v1, vs1, d1, ds1, p1, q1, rfl, rfl, rfl, h1, r1⟩ := trodAll_cons r0
  obtain ⟨v2, vs2, d2, ds2, p2, q2, rfl, rfl, rfl, h2, r2⟩ := trodAll_cons r1
  obtain ⟨rfl, rfl, rfl⟩ := trodAll_nil r2
  obtain rfl : args = #[v0, v1, v2] := by cases args; simp_all
  obtain ⟨rfl, rfl⟩ := trodVars_none hV
  obtain ⟨a0, rfl, rfl, rfl, w0⟩ := open_int Try.underlying3 (hval 0 3 v0 rfl rfl) h0
  obtain ⟨a1, rfl, rfl, rfl, w1⟩ := open_int Try.underlying3 (hval 1 3 v1 rfl rfl) h1
  obtain ⟨a2, len2, cap2, rfl⟩ := okWide_slice Try.underlying33 (hval 2 33 v2 rfl rfl)
  have k2 := h2
  have lt2 : ∀ x ∈ p2, x.block < W.heap.size := by obtain ⟨m, hm⟩ := k2; exact DataW.trod_lt m _ _ _ hm
  obtain ⟨hlen, K, N, O, hs⟩ : len2 ≤ 9223372036854775807 ∧ ∃ K N O, Script W a2 len2 K N O := by
    obtain ⟨fuel, hf⟩ := h2
    exact opened (by simpa [Value.cells] using hf)
  clear hA0
  refine (walk a0 a1 a2 len2 cap2 K N O W w0 w1 hlen hs).mono fun e W' ⟨he, bel⟩ => ?_
  subst he
  exact ⟨_, rfl, _, _, _, [], _, [], hW', trodAll_mk1 (shut_bool Try.underlying4 _), (trodAll_cons_mk (shut_int Try.underlying3 w0) (trodAll_cons_mk (shut_int Try.underlying3 w1) (trodAll_cons_mk (Below.trod laidOut (by kernel_rfl) (of_decide_eq_true (by kernel_rfl)) k2 bel lt2) trodAll_mk0))), rfl, bel.frame _, fun h => by cases h⟩

set_option maxRecDepth 100000 in
theorem lifted (os : Os) (started : os.Started) (H : Type) (enc : TypeId × Value → H) (F : Stop.Interp) :
    ReturnsInHanded {} Try.checked os 4 .any ((Rows.OpenSpec.upto Rows.poolDoesSpec).pre6 enc Try.prog Try.f4 Rows.poolDoesUptoRow.domain false) (((Rows.OpenSpec.upto Rows.poolDoesSpec).at F).post enc Try.prog Try.f4 false true false false) := by
  refine returnsInHanded_of_cond (C := Try.checked) (s := Rows.OpenSpec.upto Rows.poolDoesSpec) (k := Rows.uptoSmall) rfl own started (by kernel_rfl) Try.func4
    (OpenSpec.witness (enc := enc) (C := Try.checked) (s := Rows.OpenSpec.upto Rows.poolDoesSpec) (k := Rows.uptoSmall) rfl false ⟨#[], #[.int .i64 0, .int .i64 0, .slice none 0 0], []⟩ 8 (by kernel_rfl) (by kernel_rfl) (by kernel_rfl)
      (x := ([.lit (.int .i64 0), .lit (.int .i64 0), .nil], [], [])) (by kernel_rfl) rfl (by kernel_rfl)) ?_
  intro W base args ds gs before hval hW _ hk _
  exact contract H enc W base args ds gs before hval hW

theorem over : Rows.poolDoesUptoRow.holds Try.pinned (Rows.OpenSpec.upto Rows.poolDoesSpec) :=
  OpenClaim.holds_of_cond 4 Try.f4 rfl rfl rfl rfl rfl rfl rfl ⟨rfl, rfl, rfl, rfl, rfl⟩ rfl rfl rfl rfl rfl (by kernel_rfl) Try.func4 (by kernel_rfl)
    (of_decide_eq_true (by kernel_rfl)) (by unfold Func.isWrapper; first | (rw [if_pos (by decide +kernel)]; kernel_rfl) | (rw [if_neg (by decide +kernel)]; exact ⟨rfl, rfl⟩))
    (fun os started H enc _ F => lifted os started H enc F)

theorem proved : Rows.PoolDoesUptoSaid := over

end Go.Proofs.Ytmfgagfkkhfliaa.poolDoes
