/- What the laid variables leftcheats, powtab, ErrSyntax and ErrRange give the walks; the two kinds of floats. -/
import Derived.Test.YthjfdhkahmlolaaGreatDoorJQ07
import Derived.Test.YthjfdhkahmlolaaGreatDoorJQ30
import Derived.Test.YthjfdhkahmlolaaGreatDoorJQ20
import Derived.Test.YthjfdhkahmlolaaGreatDoorJQ17
namespace Go.Proofs.YthjfdhkahmlolaaGreatDoor
open Go.RowKit
set_option maxRecDepth 100000
theorem gl1 : Tryz.prog.globalNamed "strconv.ErrSyntax" = some 1 := by kernel_rfl
theorem gt1 : (Tryz.prog.globals[1]?).map (·.type) = some 49 := by kernel_rfl
theorem gl2 : Tryz.prog.globalNamed "strconv.ErrRange" = some 2 := by kernel_rfl
theorem gt2 : (Tryz.prog.globals[2]?).map (·.type) = some 49 := by kernel_rfl
theorem gl11 : Tryz.prog.globalNamed "internal/strconv.powtab" = some 11 := by kernel_rfl
theorem gt11 : (Tryz.prog.globals[11]?).map (·.type) = some 190 := by kernel_rfl
theorem gl14 : Tryz.prog.globalNamed "internal/strconv.leftcheats" = some 14 := by kernel_rfl
theorem gt14 : (Tryz.prog.globals[14]?).map (·.type) = some 199 := by kernel_rfl
theorem trod_face {H : Type} {enc : TypeId × Value → H} {P : Program} {w : World} {base : Nat} {sp : Nat → Bool} {held : Bool} {fuel : Nat} {t : TypeId} {ms : Array (String × TypeId)} {cs : List Value} {x : DataW H × List MemPlace}
    (ht : P.underlying t = some (.interface ms)) (h : DataW.trod enc P w base sp held fuel t cs = some x) : cs = [.nilIface] ∨ ∃ u v, cs = [.iface u v] := by
  cases fuel with
  | zero => simp [DataW.trod] at h
  | succ n =>
    unfold DataW.trod at h
    rw [ht] at h
    split at h <;> simp_all
theorem face_of {W : World} {g : Nat} {n : String} {l : List (String × DataW Unit)} {ps : List MemPlace} {d : DataW Unit} (hgn : Tryz.prog.globalNamed n = some g) (hgt : (Tryz.prog.globals[g]?).map (·.type) = some 49)
    (h : DataW.LaidVars Tryz.prog W l ps) (hm : (n, d) ∈ l) : ∃ v, W.cell? ⟨g, 0, none⟩ = some v ∧ (v = .nilIface ∨ ∃ te pe, v = .iface te pe) := by
  obtain ⟨g', t, cs, fuel, p, hg, ht, hv, hd⟩ := laid_at h _ _ hm
  obtain rfl := Option.some.inj (hgn.symm.trans hg)
  obtain rfl := Option.some.inj (hgt.symm.trans ht)
  have v0 := World.var?_cell hg hv 0
  obtain ⟨l1⟩ := cs
  rcases trod_face Tryz.underlying49 hd with e | ⟨u, v, e⟩
  · simp only at e; subst e
    exact ⟨_, by simpa using v0, .inl rfl⟩
  · simp only at e; subst e
    exact ⟨_, by simpa using v0, .inr ⟨u, v, rfl⟩⟩
theorem errs_of {W : World} {l : List (String × DataW Unit)} {ps : List MemPlace} (h : DataW.LaidVars Tryz.prog W l ps) (h1 : ("strconv.ErrSyntax", Rows.laid_strconv_ErrSyntax) ∈ l) (h2 : ("strconv.ErrRange", Rows.laid_strconv_ErrRange) ∈ l) : Errs W :=
  ⟨face_of gl1 gt1 h h1, face_of gl2 gt2 h h2⟩
theorem one_cell {W : World} (x : Addr) (v : Value) (hx : W.cells? 0 x 1 = some [v]) : W.cell? x = some v := by
  have e0 : x.add 0 = x := by unfold Addr.add; simp
  unfold World.cells? at hx
  rw [if_pos (Nat.zero_le _)] at hx
  simp only [List.range_succ, List.range_zero, List.nil_append, List.mapM_cons, List.mapM_nil, e0] at hx
  cases hu : W.cell? x with
  | none => rw [hu] at hx; cases hx
  | some u => rw [hu] at hx; injection hx with hx; injection hx with hx; rw [hx]
theorem two_cells {W : World} (x : Addr) (v u : Value) (hx : W.cells? 0 x 2 = some [v, u]) : W.cell? x = some v ∧ W.cell? (x.add 1) = some u := by
  have e0 : x.add 0 = x := by unfold Addr.add; simp
  unfold World.cells? at hx
  rw [if_pos (Nat.zero_le _)] at hx
  simp only [List.range_succ, List.range_zero, List.nil_append, List.cons_append, List.mapM_cons, List.mapM_nil, e0] at hx
  cases hu : W.cell? x with
  | none => rw [hu] at hx; cases hx
  | some a =>
    cases hv : W.cell? (x.add 1) with
    | none => rw [hu, hv] at hx; cases hx
    | some b => rw [hu, hv] at hx; injection hx with hx; injection hx with hx1 hx2; injection hx2 with hx2; rw [hx1, hx2]; exact ⟨rfl, rfl⟩
theorem addr_add (b o j : Nat) : (⟨b, o, none⟩ : Addr).add j = ⟨b, o + j, none⟩ := by unfold Addr.add; split <;> simp_all
theorem laid_pt : (Rows.laid_internal_strconv_powtab : DataW Unit) = .slice (ptL.map fun n => .lit (.int .i64 (n : Nat))) [] := rfl
theorem pt_at {k : Nat} (h : k < 9) : ptL[k]? = some (pt k) := by
  unfold pt
  have : k < ptL.length := h
  rw [List.getElem?_eq_getElem this]; rfl
theorem ptab_of {W : World} {l : List (String × DataW Unit)} {ps : List MemPlace} (h : DataW.LaidVars Tryz.prog W l ps) (hm : ("internal/strconv.powtab", Rows.laid_internal_strconv_powtab) ∈ l) :
    ∃ (b o : Nat), W.cell? ⟨11, 0, none⟩ = some (.slice (some ⟨b, o, none⟩) 9 9) ∧ ∀ k, k < 9 → W.cell? ⟨b, o + k, none⟩ = some (.int .i64 (pt k : Int)) := by
  obtain ⟨g, t, cs, fuel, p, hg, ht, hv, hd⟩ := laid_at h _ _ hm
  obtain rfl := Option.some.inj (gl11.symm.trans hg)
  obtain rfl := Option.some.inj (gt11.symm.trans ht)
  have c3 : Tryz.prog.cellsOf 3 = 1 := by kernel_rfl
  have v0 := World.var?_cell hg hv 0
  rcases DataW.trod_slice Tryz.underlying190 hd with ⟨_, hx⟩ | ⟨a, len, cap, elems, rest, m, rfl, hc, hx, _, hlc, _, hlen, hel, hsp, _⟩
  · simp [Rows.laid_internal_strconv_powtab] at hx
  · have hx0 := congrArg Prod.fst hx
    simp only [laid_pt, DataW.slice.injEq] at hx0
    have hl : len = 9 := by
      have h2 := congrArg List.length hx0.1
      simp only [List.length_map] at h2
      rw [← hlen, ← h2]; rfl
    have hr : rest = [] := by simpa using hx0.2.symm
    have hcap : cap = 9 := by
      have := (hsp rfl).1
      rw [hr] at this
      simp at this
      omega
    subst hl hcap
    have hcell : ∀ k, k < 9 → W.cell? (a.add k) = some (.int .i64 (pt k : Int)) := fun k hk => by
      have e1 := hel k hk
      have hx1 : (elems.map (·.1))[k]? = some (DataW.lit (.int .i64 (pt k : Nat))) := by
        rw [← hx0.1, List.getElem?_map, pt_at hk]; rfl
      rw [c3, Nat.mul_one] at e1
      simp only [List.getElem?_map, Option.map_eq_some_iff] at hx1
      obtain ⟨y, hy, hy1⟩ := hx1
      rw [hy, Option.bind_eq_some_iff] at e1
      obtain ⟨vs, hcells, htr⟩ := e1
      obtain ⟨n, rfl, hyy, _⟩ := DataW.trod_int Tryz.underlying3 htr
      have hn : n = (pt k : Int) := by rw [hyy] at hy1; simpa using hy1
      subst hn
      exact one_cell _ _ hcells
    have hs' : a.spot = none := by
      have := hcell 0 (by decide)
      exact spot_none (x := a) (by have e0 : a.add 0 = a := by { unfold Addr.add; simp }; rw [e0] at this; exact this)
    obtain ⟨b, o, s⟩ := a
    simp only at hs'
    subst hs'
    refine ⟨b, o, ?_, ?_⟩
    · obtain ⟨l1⟩ := cs
      simp only at hc
      subst hc
      simpa using v0
    · intro k hk
      have h := hcell k hk
      rw [addr_add] at h; exact h
theorem ch_at {k : Nat} (h : k < 61) : Go.Pinned.cheatRows[k]? = some (chD k, chL k) := by
  unfold chD chL
  have : k < Go.Pinned.cheatRows.length := by rw [cheat_rows_len]; exact h
  rw [List.getElem?_eq_getElem this]; rfl
theorem addr_zero (a : Addr) : a.add 0 = a := by unfold Addr.add; simp
theorem laid_ch : (Rows.laid_internal_strconv_leftcheats : DataW Unit) = .slice (Go.Pinned.cheatRows.map fun x => .agg [.lit (.int .i64 x.1), .lit (.string x.2)]) [] := rfl
theorem cheats_of {W : World} {l : List (String × DataW Unit)} {ps : List MemPlace} (h : DataW.LaidVars Tryz.prog W l ps) (hm : ("internal/strconv.leftcheats", Rows.laid_internal_strconv_leftcheats) ∈ l) :
    ∃ (b o : Nat), Cheats W b o := by
  obtain ⟨g, t, cs, fuel, p, hg, ht, hv, hd⟩ := laid_at h _ _ hm
  obtain rfl := Option.some.inj (gl14.symm.trans hg)
  obtain rfl := Option.some.inj (gt14.symm.trans ht)
  have c198 : Tryz.prog.cellsOf 198 = 2 := by kernel_rfl
  have v0 := World.var?_cell hg hv 0
  rcases DataW.trod_slice Tryz.underlying199 hd with ⟨_, hx⟩ | ⟨a, len, cap, elems, rest, m, rfl, hc, hx, _, hlc, _, hlen, hel, hsp, _⟩
  · have hx0 := congrArg Prod.fst hx
    rw [laid_ch] at hx0
    cases hx0
  · have hx0 := congrArg Prod.fst hx
    rw [laid_ch] at hx0
    generalize hGR : Go.Pinned.cheatRows = GR at hx0
    simp only [DataW.slice.injEq] at hx0
    have hl : len = 61 := by
      have h2 := congrArg List.length hx0.1
      simp only [List.length_map] at h2
      rw [← hlen, ← h2, ← hGR, cheat_rows_len]
    have hr : rest = [] := by simpa using hx0.2.symm
    have hcap : cap = 61 := by
      have := (hsp rfl).1
      rw [hr] at this
      simp at this
      omega
    subst hl hcap
    have c3 : Tryz.prog.cellsOf 3 = 1 := by kernel_rfl
    have c9 : Tryz.prog.cellsOf 9 = 1 := by kernel_rfl
    have hcell : ∀ k, k < 61 → W.cell? (a.add (k * 2)) = some (.int .i64 (chD k : Int)) ∧ W.cell? ((a.add (k * 2)).add 1) = some (.string (chS k)) := fun k hk => by
      have e1 := hel k hk
      have hx1 : (elems.map (·.1))[k]? = some (DataW.agg [.lit (.int .i64 (chD k : Nat)), .lit (.string (chL k))]) := by
        rw [← hx0.1, List.getElem?_map, ← hGR, ch_at hk]; rfl
      rw [c198] at e1
      simp only [List.getElem?_map, Option.map_eq_some_iff] at hx1
      obtain ⟨y, hy, hy1⟩ := hx1
      rw [hy, Option.bind_eq_some_iff] at e1
      obtain ⟨vs, hcells, htr⟩ := e1
      obtain ⟨ys, n, rfl, hyx, hylen, hyn, hyel⟩ := DataW.trod_struct Tryz.underlying198 htr
      have h0 := hyel 0 _ rfl
      have h1 := hyel 1 _ rfl
      rw [c198] at hylen
      match vs, hylen, ys, hyn with
      | [va, vb], _, [y0, y1], _ =>
        change DataW.trod _ Tryz.prog W 0 _ false n 3 (([va, vb].drop 0).take (Tryz.prog.cellsOf 3)) = _ at h0
        change DataW.trod _ Tryz.prog W 0 _ false n 9 (([va, vb].drop 1).take (Tryz.prog.cellsOf 9)) = _ at h1
        rw [c3] at h0
        rw [c9] at h1
        obtain ⟨n0, q0, f0, _⟩ := DataW.trod_int Tryz.underlying3 (show DataW.trod _ Tryz.prog W 0 _ false n 3 _ = some y0 from h0)
        obtain ⟨s1, q1, f1, _⟩ := DataW.trod_string Tryz.underlying9 (show DataW.trod _ Tryz.prog W 0 _ false n 9 _ = some y1 from h1)
        rw [hyx] at hy1
        simp only [DataW.agg.injEq, List.map_cons, List.map_nil, List.cons.injEq] at hy1
        have w0 : n0 = (chD k : Int) := by have := hy1.1; rw [f0] at this; simpa using this
        have w1 : s1 = chS k := by
          have h2 := hy1.2.1
          rw [f1] at h2
          have h3 : s1.data.toList = chL k := by simpa using h2
          unfold chS
          rw [← h3]
        simp at q0 q1
        rw [q0, q1, w0, w1] at hcells
        exact two_cells _ _ _ hcells
    have hs' : a.spot = none := by
      have := (hcell 0 (by decide)).1
      rw [Nat.zero_mul, addr_zero] at this
      exact spot_none (x := a) this
    obtain ⟨b, o, s⟩ := a
    simp only at hs'
    subst hs'
    have ha := fun o j : Nat => addr_add b o j
    refine ⟨b, o, ?_, fun k hk => ?_, fun k hk => ?_⟩
    · obtain ⟨l1⟩ := cs
      simp only at hc
      subst hc
      simpa using v0
    · have h := (hcell k hk).1
      rw [ha] at h; exact h
    · have h := (hcell k hk).2
      rw [ha, ha] at h; exact h
theorem sh7 : (((begin Tryz.prog (fun _ _ => 0) default).world.heap[7]?).bind Obj.row?).map (·.2) = some 149 := by kernel_rfl
theorem sh8 : (((begin Tryz.prog (fun _ _ => 0) default).world.heap[8]?).bind Obj.row?).map (·.2) = some 149 := by kernel_rfl
theorem kinds_of {W : World} (h : W.ShapedOpen Tryz.prog) : Kinds W := by
  have hg : 8 < Tryz.prog.globals.size := by
    have := gl14
    have : (Tryz.prog.globals[14]?).isSome = true := by
      have := gt14
      cases hh : Tryz.prog.globals[14]? with
      | none => rw [hh] at this; cases this
      | some _ => rfl
    have h2 : 14 < Tryz.prog.globals.size := by
      rcases Nat.lt_or_ge 14 Tryz.prog.globals.size with h | h
      · exact h
      · rw [Array.getElem?_eq_none h] at this; cases this
    omega
  have f : ∀ g, g < Tryz.prog.globals.size → (((begin Tryz.prog (fun _ _ => 0) default).world.heap[g]?).bind Obj.row?).map (·.2) = some 149 → ∃ c t, W.heap[g]? = some (.cells c t (0, 0)) := fun g hg hs => by
    obtain ⟨⟨z, t⟩, h1, h2⟩ := Option.map_eq_some_iff.1 hs
    obtain ⟨cs, h3, _⟩ := h.1 g z t hg h1
    exact ⟨cs, t, h3⟩
  exact ⟨f 7 (by omega) sh7, f 8 (by omega) sh8⟩
end Go.Proofs.YthjfdhkahmlolaaGreatDoor

/- What readFloat makes of a printed text. Plain. -/
namespace Go.Proofs.YthjfdhkahmlolaaGreatDoor
set_option linter.unusedVariables false
def nl (l : List UInt8) : List Nat := l.map UInt8.toNat
theorem nl_app (a b : List UInt8) : nl (a ++ b) = nl a ++ nl b := List.map_append ..
theorem nl_len (a : List UInt8) : (nl a).length = a.length := List.length_map ..
theorem bl_of (l : List UInt8) : bl ⟨l.toArray⟩ = nl l := rfl
theorem dv_app (a b : List Nat) : ∀ e : Nat, dv e (a ++ b) = dv (dv e a) b := by
  induction a with
  | nil => intro e; rfl
  | cons x a ih => intro e; rw [List.cons_append, dv_cons, dv_cons, ih]
theorem dv_zeros (k : Nat) : ∀ e : Nat, dv e (List.replicate k 48) = e * 10 ^ k := by
  induction k with
  | zero => intro e; rw [Nat.pow_zero, Nat.mul_one]; rfl
  | succ k ih =>
    intro e
    rw [List.replicate_succ, dv_cons, ih, Nat.pow_succ, Nat.sub_self, Nat.add_zero, Nat.mul_assoc, Nat.mul_comm 10]
theorem ch_nat {n : Nat} (h : n < 10) : (UInt8.ofNat (48 + n)).toNat = 48 + n := by
  rw [UInt8.toNat_ofNat']; omega
theorem nl_one (x : UInt8) : nl [x] = [x.toNat] := rfl
theorem dv_one (e d : Nat) : dv e [d] = e * 10 + (d - 48) := by rw [dv_cons, dv_nil]
theorem dv_digits (c : Nat) : dv 0 (nl (Lib.decDigits c)) = c := by
  induction c using Nat.strongRecOn with
  | _ c ih =>
    rw [Lib.decDigits]
    split
    · rename_i h
      rw [nl_one, dv_one, ch_nat h]; omega
    · rename_i h
      rw [nl_app, dv_app, ih (c / 10) (by omega)]
      rw [nl_one, dv_one, ch_nat (Nat.mod_lt _ (by decide))]
      omega
theorem digs_head (c : Nat) (h0 : 1 ≤ c) : ∃ d l, nl (Lib.decDigits c) = d :: l ∧ 49 ≤ d ∧ d ≤ 57 := by
  induction c using Nat.strongRecOn with
  | _ c ih =>
    rw [Lib.decDigits]
    split
    · rename_i h
      exact ⟨48 + c, [], by rw [nl_one, ch_nat h], by omega, by omega⟩
    · rename_i h
      obtain ⟨d, l, e, h1, h2⟩ := ih (c / 10) (by omega) (by omega)
      exact ⟨d, l ++ nl [UInt8.ofNat (48 + c % 10)], by rw [nl_app, e]; rfl, h1, h2⟩
theorem digs_all (c : Nat) : ∀ d ∈ nl (Lib.decDigits c), 48 ≤ d ∧ d ≤ 57 := by
  intro d hd
  obtain ⟨x, hx, rfl⟩ := List.mem_map.1 hd
  exact dec_byte c x hx
theorem scan_more : ∀ (ds r : List Nat) (st : St), st.dig = true → 1 ≤ st.nd → st.nM = st.nd → st.nd + ds.length ≤ 19 → (∀ d ∈ ds, 48 ≤ d ∧ d ≤ 57) →
    scan st (ds ++ r) = scan { st with m := dv st.m ds, nd := st.nd + ds.length, nM := st.nd + ds.length } r
  | [], r, st, hd, h1, hM, hn, ha => by
    have : st = { st with m := dv st.m [], nd := st.nd + ([] : List Nat).length, nM := st.nd + ([] : List Nat).length } := by
      cases st; simp only [dv_nil, List.length_nil, Nat.add_zero] at *; simp only [hM]
    rw [← this]; rfl
  | x :: ds, r, st, hd, h1, hM, hn, ha => by
    have hx := ha x (by simp)
    simp only [List.length_cons] at hn
    have hp : st.put x = some { st with dig := true, nd := st.nd + 1, m := st.m * 10 + (x - 48), nM := st.nM + 1 } := by
      unfold St.put
      rw [if_neg (by omega), if_neg (by omega), if_pos hx, if_neg (by omega), if_pos (by omega)]
    have h9 : scan st (x :: ds ++ r) = scan { st with dig := true, nd := st.nd + 1, m := st.m * 10 + (x - 48), nM := st.nM + 1 } (ds ++ r) := by rw [List.cons_append, scan, hp]
    rw [h9, scan_more ds r _ rfl (by simp only; omega) (by simp only; omega) (by simp only; omega) (fun d h => ha d (by simp [h]))]
    simp only [dv_cons, List.length_cons, hd]
    congr 2 <;> omega
theorem scan_over : ∀ (k : Nat) (r : List Nat) (st : St), st.dig = true → 1 ≤ st.nd → 19 ≤ st.nM →
    scan st (List.replicate k 48 ++ r) = scan { st with nd := st.nd + k } r
  | 0, r, st, hd, h1, hM => by simp
  | k + 1, r, st, hd, h1, hM => by
    have hp : st.put 48 = some { st with dig := true, nd := st.nd + 1, tr := st.tr || 48 != 48 } := by
      unfold St.put
      rw [if_neg (by omega), if_neg (by omega), if_pos (by omega), if_neg (by omega), if_neg (by omega)]
    have h9 : scan st (List.replicate (k + 1) 48 ++ r) = scan { st with dig := true, nd := st.nd + 1, tr := st.tr || 48 != 48 } (List.replicate k 48 ++ r) := by rw [List.replicate_succ, List.cons_append, scan, hp]
    rw [h9, scan_over k r _ rfl (by simp only; omega) (by simp only; omega)]
    simp only [hd, bne_self_eq_false, Bool.or_false]
    congr 2; omega
theorem scan_lead : ∀ (k : Nat) (r : List Nat) (st : St), st.dig = true → st.nd = 0 →
    scan st (List.replicate k 48 ++ r) = scan { st with dp := st.dp - k } r
  | 0, r, st, hd, h1 => by simp
  | k + 1, r, st, hd, h1 => by
    have hp : st.put 48 = some { st with dig := true, dp := st.dp - 1 } := by
      unfold St.put
      rw [if_neg (by omega), if_neg (by omega), if_pos (by omega), if_pos ⟨rfl, h1⟩]
    have h9 : scan st (List.replicate (k + 1) 48 ++ r) = scan { st with dig := true, dp := st.dp - 1 } (List.replicate k 48 ++ r) := by rw [List.replicate_succ, List.cons_append, scan, hp]
    rw [h9, scan_lead k r _ rfl (by simp only; exact h1)]
    simp only [hd]
    congr 2; omega
/-- the first digit, where it is no nought, and the digits behind it -/
theorem scan_digs (ds r : List Nat) (st : St) (d : Nat) (l : List Nat) (he : ds = d :: l) (hd : 49 ≤ d ∧ d ≤ 57) (h0 : st.m = 0) (h1 : st.nd = 0) (hM : st.nM = 0) (hn : ds.length ≤ 19) (ha : ∀ d ∈ ds, 48 ≤ d ∧ d ≤ 57) :
    scan st (ds ++ r) = scan { st with m := dv 0 ds, nd := ds.length, nM := ds.length, dig := true } r := by
  subst he
  simp only [List.length_cons] at hn
  have hp : st.put d = some { st with dig := true, nd := st.nd + 1, m := st.m * 10 + (d - 48), nM := st.nM + 1 } := by
    unfold St.put
    rw [if_neg (by omega), if_neg (by omega), if_pos (by omega), if_neg (by omega), if_pos (by omega)]
  have h9 : scan st (d :: l ++ r) = scan { st with dig := true, nd := st.nd + 1, m := st.m * 10 + (d - 48), nM := st.nM + 1 } (l ++ r) := by rw [List.cons_append, scan, hp]
  rw [h9, scan_more l r _ rfl (by simp only; omega) (by simp only; omega) (by simp only; omega) (fun d h => ha d (by simp [h]))]
  simp only [dv_cons, List.length_cons, h0, h1]
  congr 2 <;> omega
theorem scan_dot (r : List Nat) (st : St) (h : st.dot = false) : scan st (46 :: r) = scan { st with dot := true, dp := st.nd } r := by
  have hp : st.put 46 = some { st with dot := true, dp := st.nd } := by
    unfold St.put
    rw [if_neg (by omega), if_pos rfl, h, if_neg (by decide)]
  rw [scan, hp]
theorem scan_e (r : List Nat) (st : St) : scan st (101 :: r) = (st, 101 :: r) := by
  have hp : st.put 101 = none := by
    unfold St.put
    rw [if_neg (by omega), if_neg (by omega), if_neg (by omega)]
  rw [scan, hp]
end Go.Proofs.YthjfdhkahmlolaaGreatDoor

/- readFloat's state behind each layout of a printed number. Plain. -/
namespace Go.Proofs.YthjfdhkahmlolaaGreatDoor
theorem nl_zeros (k : Nat) : nl (List.replicate k 48) = List.replicate k 48 := by unfold nl; rw [List.map_replicate]; rfl
theorem digs_len (c : Nat) : (nl (Lib.decDigits c)).length = Lib.nDigits c := by rw [nl_len, Lib.decDigits_length]
theorem scan_end (st : St) : scan st [] = (st, []) := by rw [scan]
/-- what is read of a text: the state, and that it is whole -/
structure Rdn (c n : Nat) (s : Int) (j : Nat) (st : St) : Prop where
  dig : st.dig = true
  und : st.und = false
  tr : st.tr = false
  m : st.m = c * 10 ^ j
  at_ : (if st.dot then st.dp else (st.nd : Int)) - st.nM = s - j
theorem scan_A {c : Nat} {e : Int} (h0 : 1 ≤ c) (hn : Lib.nDigits c ≤ 17) (he : 0 ≤ e ∧ e ≤ 20) (hl : (Lib.nDigits c : Int) ≤ e + 1) :
    ∃ st j, scan St.zero (nl (Lib.decDigits c ++ List.replicate (e + 1 - Lib.nDigits c).toNat 48)) = (st, []) ∧ Rdn c (Lib.nDigits c) (e + 1 - Lib.nDigits c) j st ∧ (j = 0 ∨ 0 ≤ e + 1 - Lib.nDigits c - (j : Int)) ∧ Lib.nDigits c + j ≤ 19 := by
  obtain ⟨d, l, hd, d1, d2⟩ := digs_head c h0
  have hlen := digs_len c
  generalize hz : (e + 1 - Lib.nDigits c).toNat = z
  have hz2 : (z : Int) = e + 1 - Lib.nDigits c := by omega
  obtain ⟨j, hj⟩ : ∃ j, j = min z (19 - Lib.nDigits c) := ⟨_, rfl⟩
  have hsp : List.replicate z (48 : Nat) = List.replicate j 48 ++ List.replicate (z - j) 48 := by rw [List.replicate_append_replicate]; congr 1; omega
  rw [nl_app, nl_zeros, hsp, ← List.append_assoc]
  have h1 := scan_digs (nl (Lib.decDigits c) ++ List.replicate j 48) (List.replicate (z - j) 48) St.zero d (l ++ List.replicate j 48) (by rw [hd]; rfl) ⟨d1, d2⟩ rfl rfl rfl
    (by rw [List.length_append, hlen, List.length_replicate]; omega)
    (fun x hx => by
      rcases List.mem_append.1 hx with h | h
      · exact digs_all c x h
      · rw [List.eq_of_mem_replicate h]; omega)
  rw [h1, dv_app, dv_digits, dv_zeros, List.length_append, hlen, List.length_replicate]
  by_cases hzj : z - j = 0
  · rw [hzj, List.replicate_zero, scan_end]
    exact ⟨_, j, rfl, ⟨rfl, rfl, rfl, rfl, by simp only [St.zero]; simp; omega⟩, by omega, by omega⟩
  · rw [← List.append_nil (List.replicate (z - j) 48), scan_over _ _ _ rfl (by simp only; have := Lib.nDigits_pos c; omega) (by simp only; omega), scan_end]
    exact ⟨_, j, rfl, ⟨rfl, rfl, rfl, rfl, by simp only [St.zero]; simp; omega⟩, by omega, by omega⟩
theorem scan_B {c k : Nat} (h0 : 1 ≤ c) (hn : Lib.nDigits c ≤ 17) (hk : 1 ≤ k) (hkn : k < Lib.nDigits c) (r : List Nat) :
    scan St.zero (nl ((Lib.decDigits c).take k) ++ 46 :: (nl ((Lib.decDigits c).drop k) ++ r)) = scan ⟨c, Lib.nDigits c, Lib.nDigits c, k, true, true, false, false⟩ r := by
  obtain ⟨d, l, hd, d1, d2⟩ := digs_head c h0
  have hlen := digs_len c
  have e1 : nl ((Lib.decDigits c).take k) = (nl (Lib.decDigits c)).take k := by unfold nl; rw [List.map_take]
  have e2 : nl ((Lib.decDigits c).drop k) = (nl (Lib.decDigits c)).drop k := by unfold nl; rw [List.map_drop]
  have hal := digs_all c
  have hdv := dv_digits c
  rw [e1, e2]
  generalize nl (Lib.decDigits c) = D at *
  have l1 : (D.take k).length = k := by rw [List.length_take]; omega
  have l2 : (D.drop k).length = Lib.nDigits c - k := by rw [List.length_drop]; omega
  obtain ⟨k', rfl⟩ : ∃ k', k = k' + 1 := ⟨k - 1, by omega⟩
  rw [scan_digs (D.take (k' + 1)) _ St.zero d (l.take k') (by rw [hd]; rfl) ⟨d1, d2⟩ rfl rfl rfl (by rw [l1]; omega) (fun x hx => hal x (List.mem_of_mem_take hx))]
  rw [l1, scan_dot _ _ rfl, scan_more (D.drop (k' + 1)) r _ rfl (by simp only; omega) rfl (by simp only; rw [l2]; omega) (fun x hx => hal x (List.mem_of_mem_drop hx))]
  simp only [l2, ← dv_app, List.take_append_drop, hdv]
  congr 2 <;> omega
theorem scan_C {c k : Nat} (h0 : 1 ≤ c) (hn : Lib.nDigits c ≤ 17) : scan St.zero (48 :: 46 :: (List.replicate k 48 ++ nl (Lib.decDigits c))) = (⟨c, Lib.nDigits c, Lib.nDigits c, -(k : Int), true, true, false, false⟩, []) := by
  obtain ⟨d, l, hd, d1, d2⟩ := digs_head c h0
  have hlen := digs_len c
  have hp : St.zero.put 48 = some { St.zero with dig := true, dp := -1 } := by
    unfold St.put
    rw [if_neg (by omega), if_neg (by omega), if_pos (by omega), if_pos ⟨rfl, rfl⟩]
    rfl
  have h9 : ∀ r, scan St.zero (48 :: r) = scan { St.zero with dig := true, dp := -1 } r := fun r => by rw [scan, hp]
  rw [h9, scan_dot _ _ rfl, scan_lead _ _ _ rfl rfl, ← List.append_nil (nl (Lib.decDigits c)), scan_digs _ _ _ d l hd ⟨d1, d2⟩ rfl rfl rfl (by rw [hlen]; omega) (digs_all c), scan_end, hlen, dv_digits]
  congr 2
  simp [St.zero]
/-- the point behind the first digit -/
theorem scan_D {c : Nat} (h0 : 1 ≤ c) (hn : Lib.nDigits c ≤ 17) (r : List Nat) : ∃ st, scan St.zero (nl (pointB c) ++ 101 :: r) = (st, 101 :: r) ∧ Rdn c (Lib.nDigits c) (1 - Lib.nDigits c) 0 st := by
  have hlen := digs_len c
  unfold pointB
  by_cases h1 : Lib.nDigits c = 1
  · rw [if_pos h1, List.append_nil, List.take_of_length_le (by rw [Lib.decDigits_length]; omega)]
    obtain ⟨d, l, hd, d1, d2⟩ := digs_head c h0
    rw [scan_digs _ _ _ d l hd ⟨d1, d2⟩ rfl rfl rfl (by rw [hlen]; omega) (digs_all c), scan_e, hlen, dv_digits]
    exact ⟨_, rfl, ⟨rfl, rfl, rfl, by simp, by simp only [St.zero]; simp [h1]⟩⟩
  · have hp := Lib.nDigits_pos c
    rw [if_neg h1, nl_app, List.append_assoc]
    have e1 : nl (46 :: (Lib.decDigits c).drop 1) ++ 101 :: r = 46 :: (nl ((Lib.decDigits c).drop 1) ++ 101 :: r) := rfl
    rw [e1, scan_B h0 hn (by omega) (by omega), scan_e]
    exact ⟨_, rfl, ⟨rfl, rfl, rfl, by simp, by simp⟩⟩
end Go.Proofs.YthjfdhkahmlolaaGreatDoor
