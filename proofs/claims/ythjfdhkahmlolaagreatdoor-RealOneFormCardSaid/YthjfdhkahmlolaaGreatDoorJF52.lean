/- What the laid variables leftcheats, powtab, ErrSyntax and ErrRange give the walks; the two kinds of floats. -/
import Derived.Test.YthjfdhkahmlolaaGreatDoorJF09
import Derived.Test.YthjfdhkahmlolaaGreatDoorJF51
namespace Go.Proofs.YthjfdhkahmlolaaGreatDoor
open Go.RowKit
set_option maxRecDepth 100000
theorem gl1 : Tryz.prog.globalNamed "strconv.ErrSyntax" = some 1 := by kernel_rfl
theorem gt1 : (Tryz.prog.globals[1]?).map (·.type) = some 49 := by kernel_rfl
theorem gl2 : Tryz.prog.globalNamed "strconv.ErrRange" = some 2 := by kernel_rfl
theorem gt2 : (Tryz.prog.globals[2]?).map (·.type) = some 49 := by kernel_rfl
theorem gl11 : Tryz.prog.globalNamed "internal/strconv.powtab" = some 11 := by kernel_rfl
theorem gt11 : (Tryz.prog.globals[11]?).map (·.type) = some 190 := by kernel_rfl
theorem gl14 : Tryz.prog.globalNamed "internal/strconv.leftcheats" = some 14 := by kernel_rfl
theorem gt14 : (Tryz.prog.globals[14]?).map (·.type) = some 199 := by kernel_rfl
theorem trod_face {H : Type} {enc : TypeId × Value → H} {P : Program} {w : World} {base : Nat} {sp : Nat → Bool} {held : Bool} {fuel : Nat} {t : TypeId} {ms : Array (String × TypeId)} {cs : List Value} {x : DataW H × List MemPlace}
    (ht : P.underlying t = some (.interface ms)) (h : DataW.trod enc P w base sp held fuel t cs = some x) : cs = [.nilIface] ∨ ∃ u v, cs = [.iface u v] := by
  cases fuel with
  | zero => simp [DataW.trod] at h
  | succ n =>
    unfold DataW.trod at h
    rw [ht] at h
    split at h <;> simp_all
theorem face_of {W : World} {g : Nat} {n : String} {l : List (String × DataW Unit)} {ps : List MemPlace} {d : DataW Unit} (hgn : Tryz.prog.globalNamed n = some g) (hgt : (Tryz.prog.globals[g]?).map (·.type) = some 49)
    (h : DataW.LaidVars Tryz.prog W l ps) (hm : (n, d) ∈ l) : ∃ v, W.cell? ⟨g, 0, none⟩ = some v ∧ (v = .nilIface ∨ ∃ te pe, v = .iface te pe) := by
  obtain ⟨g', t, cs, fuel, p, hg, ht, hv, hd⟩ := laid_at h _ _ hm
  obtain rfl := Option.some.inj (hgn.symm.trans hg)
  obtain rfl := Option.some.inj (hgt.symm.trans ht)
  have v0 := World.var?_cell hg hv 0
  obtain ⟨l1⟩ := cs
  rcases trod_face Tryz.underlying49 hd with e | ⟨u, v, e⟩
  · simp only at e; subst e
    exact ⟨_, by simpa using v0, .inl rfl⟩
  · simp only at e; subst e
    exact ⟨_, by simpa using v0, .inr ⟨u, v, rfl⟩⟩
theorem errs_of {W : World} {l : List (String × DataW Unit)} {ps : List MemPlace} (h : DataW.LaidVars Tryz.prog W l ps) (h1 : ("strconv.ErrSyntax", Rows.laid_strconv_ErrSyntax) ∈ l) (h2 : ("strconv.ErrRange", Rows.laid_strconv_ErrRange) ∈ l) : Errs W :=
  ⟨face_of gl1 gt1 h h1, face_of gl2 gt2 h h2⟩
theorem one_cell {W : World} (x : Addr) (v : Value) (hx : W.cells? 0 x 1 = some [v]) : W.cell? x = some v := by
  have e0 : x.add 0 = x := by unfold Addr.add; simp
  unfold World.cells? at hx
  rw [if_pos (Nat.zero_le _)] at hx
  simp only [List.range_succ, List.range_zero, List.nil_append, List.mapM_cons, List.mapM_nil, e0] at hx
  cases hu : W.cell? x with
  | none => rw [hu] at hx; cases hx
  | some u => rw [hu] at hx; injection hx with hx; injection hx with hx; rw [hx]
theorem two_cells {W : World} (x : Addr) (v u : Value) (hx : W.cells? 0 x 2 = some [v, u]) : W.cell? x = some v ∧ W.cell? (x.add 1) = some u := by
  have e0 : x.add 0 = x := by unfold Addr.add; simp
  unfold World.cells? at hx
  rw [if_pos (Nat.zero_le _)] at hx
  simp only [List.range_succ, List.range_zero, List.nil_append, List.cons_append, List.mapM_cons, List.mapM_nil, e0] at hx
  cases hu : W.cell? x with
  | none => rw [hu] at hx; cases hx
  | some a =>
    cases hv : W.cell? (x.add 1) with
    | none => rw [hu, hv] at hx; cases hx
    | some b => rw [hu, hv] at hx; injection hx with hx; injection hx with hx1 hx2; injection hx2 with hx2; rw [hx1, hx2]; exact ⟨rfl, rfl⟩
theorem addr_add (b o j : Nat) : (⟨b, o, none⟩ : Addr).add j = ⟨b, o + j, none⟩ := by unfold Addr.add; split <;> simp_all
theorem laid_pt : (Rows.laid_internal_strconv_powtab : DataW Unit) = .slice (ptL.map fun n => .lit (.int .i64 (n : Nat))) [] := rfl
theorem pt_at {k : Nat} (h : k < 9) : ptL[k]? = some (pt k) := by
  unfold pt
  have : k < ptL.length := h
  rw [List.getElem?_eq_getElem this]; rfl
theorem ptab_of {W : World} {l : List (String × DataW Unit)} {ps : List MemPlace} (h : DataW.LaidVars Tryz.prog W l ps) (hm : ("internal/strconv.powtab", Rows.laid_internal_strconv_powtab) ∈ l) :
    ∃ (b o : Nat), W.cell? ⟨11, 0, none⟩ = some (.slice (some ⟨b, o, none⟩) 9 9) ∧ ∀ k, k < 9 → W.cell? ⟨b, o + k, none⟩ = some (.int .i64 (pt k : Int)) := by
  obtain ⟨g, t, cs, fuel, p, hg, ht, hv, hd⟩ := laid_at h _ _ hm
  obtain rfl := Option.some.inj (gl11.symm.trans hg)
  obtain rfl := Option.some.inj (gt11.symm.trans ht)
  have c3 : Tryz.prog.cellsOf 3 = 1 := by kernel_rfl
  have v0 := World.var?_cell hg hv 0
  rcases DataW.trod_slice Tryz.underlying190 hd with ⟨_, hx⟩ | ⟨a, len, cap, elems, rest, m, rfl, hc, hx, _, hlc, _, hlen, hel, hsp, _⟩
  · simp [Rows.laid_internal_strconv_powtab] at hx
  · have hx0 := congrArg Prod.fst hx
    simp only [laid_pt, DataW.slice.injEq] at hx0
    have hl : len = 9 := by
      have h2 := congrArg List.length hx0.1
      simp only [List.length_map] at h2
      rw [← hlen, ← h2]; rfl
    have hr : rest = [] := by simpa using hx0.2.symm
    have hcap : cap = 9 := by
      have := (hsp rfl).1
      rw [hr] at this
      simp at this
      omega
    subst hl hcap
    have hcell : ∀ k, k < 9 → W.cell? (a.add k) = some (.int .i64 (pt k : Int)) := fun k hk => by
      have e1 := hel k hk
      have hx1 : (elems.map (·.1))[k]? = some (DataW.lit (.int .i64 (pt k : Nat))) := by
        rw [← hx0.1, List.getElem?_map, pt_at hk]; rfl
      rw [c3, Nat.mul_one] at e1
      simp only [List.getElem?_map, Option.map_eq_some_iff] at hx1
      obtain ⟨y, hy, hy1⟩ := hx1
      rw [hy, Option.bind_eq_some_iff] at e1
      obtain ⟨vs, hcells, htr⟩ := e1
      obtain ⟨n, rfl, hyy, _⟩ := DataW.trod_int Tryz.underlying3 htr
      have hn : n = (pt k : Int) := by rw [hyy] at hy1; simpa using hy1
      subst hn
      exact one_cell _ _ hcells
    have hs' : a.spot = none := by
      have := hcell 0 (by decide)
      exact spot_none (x := a) (by have e0 : a.add 0 = a := by { unfold Addr.add; simp }; rw [e0] at this; exact this)
    obtain ⟨b, o, s⟩ := a
    simp only at hs'
    subst hs'
    refine ⟨b, o, ?_, ?_⟩
    · obtain ⟨l1⟩ := cs
      simp only at hc
      subst hc
      simpa using v0
    · intro k hk
      have h := hcell k hk
      rw [addr_add] at h; exact h
theorem ch_at {k : Nat} (h : k < 61) : Go.Pinned.cheatRows[k]? = some (chD k, chL k) := by
  unfold chD chL
  have : k < Go.Pinned.cheatRows.length := by rw [cheat_rows_len]; exact h
  rw [List.getElem?_eq_getElem this]; rfl
theorem addr_zero (a : Addr) : a.add 0 = a := by unfold Addr.add; simp
theorem laid_ch : (Rows.laid_internal_strconv_leftcheats : DataW Unit) = .slice (Go.Pinned.cheatRows.map fun x => .agg [.lit (.int .i64 x.1), .lit (.string x.2)]) [] := rfl
theorem cheats_of {W : World} {l : List (String × DataW Unit)} {ps : List MemPlace} (h : DataW.LaidVars Tryz.prog W l ps) (hm : ("internal/strconv.leftcheats", Rows.laid_internal_strconv_leftcheats) ∈ l) :
    ∃ (b o : Nat), Cheats W b o := by
  obtain ⟨g, t, cs, fuel, p, hg, ht, hv, hd⟩ := laid_at h _ _ hm
  obtain rfl := Option.some.inj (gl14.symm.trans hg)
  obtain rfl := Option.some.inj (gt14.symm.trans ht)
  have c198 : Tryz.prog.cellsOf 198 = 2 := by kernel_rfl
  have v0 := World.var?_cell hg hv 0
  rcases DataW.trod_slice Tryz.underlying199 hd with ⟨_, hx⟩ | ⟨a, len, cap, elems, rest, m, rfl, hc, hx, _, hlc, _, hlen, hel, hsp, _⟩
  · have hx0 := congrArg Prod.fst hx
    rw [laid_ch] at hx0
    cases hx0
  · have hx0 := congrArg Prod.fst hx
    rw [laid_ch] at hx0
    generalize hGR : Go.Pinned.cheatRows = GR at hx0
    simp only [DataW.slice.injEq] at hx0
    have hl : len = 61 := by
      have h2 := congrArg List.length hx0.1
      simp only [List.length_map] at h2
      rw [← hlen, ← h2, ← hGR, cheat_rows_len]
    have hr : rest = [] := by simpa using hx0.2.symm
    have hcap : cap = 61 := by
      have := (hsp rfl).1
      rw [hr] at this
      simp at this
      omega
    subst hl hcap
    have c3 : Tryz.prog.cellsOf 3 = 1 := by kernel_rfl
    have c9 : Tryz.prog.cellsOf 9 = 1 := by kernel_rfl
    have hcell : ∀ k, k < 61 → W.cell? (a.add (k * 2)) = some (.int .i64 (chD k : Int)) ∧ W.cell? ((a.add (k * 2)).add 1) = some (.string (chS k)) := fun k hk => by
      have e1 := hel k hk
      have hx1 : (elems.map (·.1))[k]? = some (DataW.agg [.lit (.int .i64 (chD k : Nat)), .lit (.string (chL k))]) := by
        rw [← hx0.1, List.getElem?_map, ← hGR, ch_at hk]; rfl
      rw [c198] at e1
      simp only [List.getElem?_map, Option.map_eq_some_iff] at hx1
      obtain ⟨y, hy, hy1⟩ := hx1
      rw [hy, Option.bind_eq_some_iff] at e1
      obtain ⟨vs, hcells, htr⟩ := e1
      obtain ⟨ys, n, rfl, hyx, hylen, hyn, hyel⟩ := DataW.trod_struct Tryz.underlying198 htr
      have h0 := hyel 0 _ rfl
      have h1 := hyel 1 _ rfl
      rw [c198] at hylen
      match vs, hylen, ys, hyn with
      | [va, vb], _, [y0, y1], _ =>
        change DataW.trod _ Tryz.prog W 0 _ false n 3 (([va, vb].drop 0).take (Tryz.prog.cellsOf 3)) = _ at h0
        change DataW.trod _ Tryz.prog W 0 _ false n 9 (([va, vb].drop 1).take (Tryz.prog.cellsOf 9)) = _ at h1
        rw [c3] at h0
        rw [c9] at h1
        obtain ⟨n0, q0, f0, _⟩ := DataW.trod_int Tryz.underlying3 (show DataW.trod _ Tryz.prog W 0 _ false n 3 _ = some y0 from h0)
        obtain ⟨s1, q1, f1, _⟩ := DataW.trod_string Tryz.underlying9 (show DataW.trod _ Tryz.prog W 0 _ false n 9 _ = some y1 from h1)
        rw [hyx] at hy1
        simp only [DataW.agg.injEq, List.map_cons, List.map_nil, List.cons.injEq] at hy1
        have w0 : n0 = (chD k : Int) := by have := hy1.1; rw [f0] at this; simpa using this
        have w1 : s1 = chS k := by
          have h2 := hy1.2.1
          rw [f1] at h2
          have h3 : s1.data.toList = chL k := by simpa using h2
          unfold chS
          rw [← h3]
        simp at q0 q1
        rw [q0, q1, w0, w1] at hcells
        exact two_cells _ _ _ hcells
    have hs' : a.spot = none := by
      have := (hcell 0 (by decide)).1
      rw [Nat.zero_mul, addr_zero] at this
      exact spot_none (x := a) this
    obtain ⟨b, o, s⟩ := a
    simp only at hs'
    subst hs'
    have ha := fun o j : Nat => addr_add b o j
    refine ⟨b, o, ?_, fun k hk => ?_, fun k hk => ?_⟩
    · obtain ⟨l1⟩ := cs
      simp only at hc
      subst hc
      simpa using v0
    · have h := (hcell k hk).1
      rw [ha] at h; exact h
    · have h := (hcell k hk).2
      rw [ha, ha] at h; exact h
theorem sh7 : (((begin Tryz.prog (fun _ _ => 0) default).world.heap[7]?).bind Obj.row?).map (·.2) = some 149 := by kernel_rfl
theorem sh8 : (((begin Tryz.prog (fun _ _ => 0) default).world.heap[8]?).bind Obj.row?).map (·.2) = some 149 := by kernel_rfl
theorem kinds_of {W : World} (h : W.ShapedOpen Tryz.prog) : Kinds W := by
  have hg : 8 < Tryz.prog.globals.size := by
    have := gl14
    have : (Tryz.prog.globals[14]?).isSome = true := by
      have := gt14
      cases hh : Tryz.prog.globals[14]? with
      | none => rw [hh] at this; cases this
      | some _ => rfl
    have h2 : 14 < Tryz.prog.globals.size := by
      rcases Nat.lt_or_ge 14 Tryz.prog.globals.size with h | h
      · exact h
      · rw [Array.getElem?_eq_none h] at this; cases this
    omega
  have f : ∀ g, g < Tryz.prog.globals.size → (((begin Tryz.prog (fun _ _ => 0) default).world.heap[g]?).bind Obj.row?).map (·.2) = some 149 → ∃ c t, W.heap[g]? = some (.cells c t (0, 0)) := fun g hg hs => by
    obtain ⟨⟨z, t⟩, h1, h2⟩ := Option.map_eq_some_iff.1 hs
    obtain ⟨cs, h3, _⟩ := h.1 g z t hg h1
    exact ⟨cs, t, h3⟩
  exact ⟨f 7 (by omega) sh7, f 8 (by omega) sh8⟩
end Go.Proofs.YthjfdhkahmlolaaGreatDoor
