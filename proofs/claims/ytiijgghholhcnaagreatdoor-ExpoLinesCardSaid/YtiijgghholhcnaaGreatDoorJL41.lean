/- What a value's lines are; the walks of counter and summary at any value. -/
import Derived.Test.YtiijgghholhcnaaGreatDoorJL14
import Derived.Test.YtiijgghholhcnaaGreatDoorJL35
import Derived.Test.YtiijgghholhcnaaGreatDoorJL40
import Derived.BigQuiet
import Derived.Deep.QuietTactic
namespace Go.Proofs.YtiijgghholhcnaaGreatDoor
open Go.RowKit
set_option maxRecDepth 1000000
theorem labels_ok {L : Nat → List UInt8 × List UInt8} : ∀ (f i : Nat), labelsE L f i = 0 → ∀ j, i ≤ j → j < i + f → lnameB (L j).1 = true ∧ valueE (L j).2 = 0
  | 0, i, _, j, h1, h2 => by omega
  | f + 1, i, h, j, h1, h2 => by
    unfold labelsE at h
    split at h
    · cases h
    · rename_i g1
      split at h
      · rename_i g2; exact absurd h g2
      · rename_i g2
        split at h
        · rename_i g3; exact absurd h g3
        · by_cases e : j = i
          · subst e; exact ⟨by simpa using g1, Classical.byContradiction g2⟩
          · exact labels_ok f (i + 1) h j (by omega) (by omega)
theorem value_len {s : List UInt8} (h : valueE s = 0) : s.length ≤ 1024 := by
  unfold valueE at h
  split at h
  · cases h
  · omega
/-- a value whose description may be -/
structure Gv (V : Vl) : Prop where
  kind : V.kind = 1 ∨ V.kind = 2 ∨ V.kind = 3
  nm : nameB V.nm = true
  help : V.help.length ≤ 1024
  ln : V.ln ≤ 16
  lab : ∀ i, i < V.ln → lnameB (V.L i).1 = true ∧ (V.L i).2.length ≤ 1024
theorem desc_good {V : Vl} (h : vDesc V = 0) : Gv V := by
  unfold vDesc descE at h
  split at h
  · cases h
  · rename_i g1
    split at h
    · cases h
    · rename_i g2
      split at h
      · rename_i g3; exact absurd h g3
      · rename_i g3
        split at h
        · cases h
        · rename_i g4
          refine ⟨by omega, by simpa using g2, value_len (Classical.byContradiction g3), by omega, fun i hi => ?_⟩
          have := labels_ok V.ln 0 h i (Nat.zero_le _) (by omega)
          exact ⟨this.1, value_len this.2⟩
theorem first_len {s : List UInt8} (h : firstB s = true) : 1 ≤ s.length ∧ s.length ≤ 64 := by
  unfold firstB at h
  have := of_decide_eq_true h
  omega
theorem lname_len {s : List UInt8} (h : lnameB s = true) : s.length ≤ 64 := by
  unfold lnameB at h
  simp only [Bool.and_eq_true] at h
  exact (first_len h.1.1.1.1).2
theorem name_len {s : List UInt8} (h : nameB s = true) : 1 ≤ s.length ∧ s.length ≤ 64 := by
  unfold nameB at h
  simp only [Bool.and_eq_true] at h
  exact first_len h.1.1.1.1
theorem Gv.labs {V : Vl} (h : Gv V) : ∀ i, i < V.ln → (V.L i).1.length ≤ 64 ∧ (V.L i).2.length ≤ 1024 := fun i hi => ⟨lname_len (h.lab i hi).1, (h.lab i hi).2⟩
/-- the page at work, seen from a world ahead of it -/
structure Px (w0 w : World) (pb B : Nat) (prec : Int) (v : Value) (l : List UInt8) : Prop where
  pg : Pg w pb B prec v l
  only : Only (fun _ => False) w0 w
  lb : w0.heap.size ≤ pb
theorem Px.next {w0 w w' : World} {pb B : Nat} {prec : Int} {v v' : Value} {l l' : List UInt8} (h : Px w0 w pb B prec v l) (hp : Pg w' pb B prec v' l') (hw : Wrote w pb v v' w') : Px w0 w' pb B prec v' l' := by
  have h1 := h.lb; have h2 := h.pg.lt
  refine ⟨hp, h.only.seq2 hw.only ?_, h1⟩
  rintro i (e | e)
  · left; omega
  · left; have := (h.pg.own.lt i e).1; omega
theorem Px.still {w0 w w' : World} {pb B : Nat} {prec : Int} {v : Value} {l : List UInt8} (h : Px w0 w pb B prec v l) (O : Only (fun _ => False) w w') : Px w0 w' pb B prec v l := ⟨h.pg.still O, h.only.trans O, h.lb⟩
/-- no label, one label more -/
def noL : Lb := fun _ => ([], [])
def oneL (a b : List UInt8) : Lb := fun _ => (a, b)
/-- a line of a series -/
def serT (nm : List UInt8) (L : Lb) (n : Nat) (M : Lb) (m : Nat) (num : List UInt8) : List UInt8 := labT nm (lcat L M n) (n + m) ++ ([32] ++ num) ++ [10]
def sumS : List UInt8 := [95, 115, 117, 109]
def cntS : List UInt8 := [95, 99, 111, 117, 110, 116]
def bckS : List UInt8 := [95, 98, 117, 99, 107, 101, 116]
def qtl : List UInt8 := [113, 117, 97, 110, 116, 105, 108, 101]
def counterT (V : Vl) : List UInt8 := serT V.nm V.L V.ln noL 0 (wideT V.hi.toNat V.lo)
def summaryT (pt : Nat → List UInt8) (V : Vl) : List UInt8 :=
  (if 0 < V.N then serT V.nm V.L V.ln (oneL qtl [48]) 1 (pt V.mn) ++ serT V.nm V.L V.ln (oneL qtl [49]) 1 (pt V.mx) else [])
    ++ (serT (V.nm ++ sumS) V.L V.ln noL 0 (pt V.sum) ++ serT (V.nm ++ cntS) V.L V.ln noL 0 (Lib.decDigits V.N))
/-- a line, at this page -/
theorem ser_px (w0 : World) (pb B : Nat) (prec : Int) (v : Value) (l nm num : List UInt8) (lp mp : Option Addr) (n c m mc : Nat) (L M : Lb) (w : World) (hP : Px w0 w pb B prec v l) (hL : Lbs w lp n L) (hM : Lbs w mp m M) (hn : n + m ≤ 17)
    (h1 : ∀ i, i < n → (L i).1.length ≤ 64 ∧ (L i).2.length ≤ 1024) (h2 : ∀ i, i < m → (M i).1.length ≤ 64 ∧ (M i).2.length ≤ 1024) (hnm : nm.length ≤ 100) (hnum : num.length ≤ 1000) (hb : l.length + 40000 ≤ 140737488355328) :
    Calls Tryz.prog 63 #[.pointer (some ⟨pb, 0, none⟩), .string ⟨nm.toArray⟩, .slice lp n c, .string ⟨num.toArray⟩, .slice mp m mc] w fun e w' => e = .returned (.tuple #[]) ∧ ∃ v', Px w0 w' pb B prec v' (l ++ serT nm L n M m num) ∧ Wrote w pb v v' w' := by
  refine (series_calls pb B prec v l nm num lp mp n c m mc L M w hP.pg hL hM hn h1 h2 hnm hnum hb).mono ?_
  rintro e w' ⟨rfl, v', h3, h4⟩
  refine ⟨rfl, v', ?_, h4⟩
  have := hP.next h3 h4
  unfold serT
  simpa [List.append_assoc] using this
theorem serT_le (nm : List UInt8) (L : Lb) (n : Nat) (M : Lb) (m : Nat) (num : List UInt8) (hn : n + m ≤ 17) (h1 : ∀ i, i < n → (L i).1.length ≤ 64 ∧ (L i).2.length ≤ 1024) (h2 : ∀ i, i < m → (M i).1.length ≤ 64 ∧ (M i).2.length ≤ 1024) (hnm : nm.length ≤ 100) (hnum : num.length ≤ 1000) : (serT nm L n M m num).length ≤ 40000 := by
  have := labT_le nm (lcat L M n) (n + m) hn (lcat_len h1 h2)
  unfold serT
  simp only [List.length_append, List.length_cons, List.length_nil]
  omega
theorem no_lbs (w : World) (M : Lb) : Lbs w none 0 M := ⟨fun i hi => absurd hi (Nat.not_lt_zero i)⟩
theorem one_lbs {w : World} {b : Nat} {x y : List UInt8} {t : TypeId} (h : w.heap[b]? = some (.cells #[.string ⟨x.toArray⟩, .string ⟨y.toArray⟩] t)) : Lbs w (some ⟨b, 0, none⟩) 1 (oneL x y) := by
  refine ⟨fun i hi => ?_⟩
  obtain rfl : i = 0 := by omega
  exact ⟨b, 0, rfl, blk_lt h, by rw [blk_cell h]; rfl, by rw [blk_cell h]; rfl⟩
theorem wideT_len (h l : Nat) (hh : h < 9223372036854775808) (hl : l < 18446744073709551616) : (wideT h l).length ≤ 60 := by
  have d1 := divR_len h l
  have d2 : (Lib.decDigits (divQ h l)).length ≤ 20 := dec_size _ (divQ_lt h l hh hl).1
  have d3 : (Lib.decDigits l).length ≤ 20 := dec_size _ hl
  unfold wideT
  split
  · omega
  · split
    · omega
    · simp only [List.length_append, List.length_replicate]; omega
set_option maxHeartbeats 4000000 in
theorem counter_calls (w0 : World) (pb B : Nat) (prec : Int) (v : Value) (l : List UInt8) (V : Vl) (w : World) (hX : Px w0 w pb B prec v l) (hE : Re.Env w0) (hV : Vok w0 V) (hG : Gv V) (hh : 0 ≤ V.hi) (hh2 : V.hi < 9223372036854775808) (hb : l.length + 1000000 ≤ 140737488355328) :
    Calls Tryz.prog 32 #[.pointer (some ⟨pb, 0, none⟩), .agg V.cells] w fun e w' => e = .returned (.tuple #[]) ∧ ∃ v', Px w0 w' pb B prec v' (l ++ counterT V) ∧ Wrote w pb v v' w' := by
  have HX := Lib.hid hX
  have HE := Lib.hid hE
  obtain ⟨T, hT⟩ : ∃ T, T = counterT V := ⟨_, rfl⟩
  rw [← hT]
  unfold counterT at hT
  have HV := Lib.hid (And.intro hV.labs hG.labs)
  have HN := Lib.hid (And.intro hG.ln (name_len hG.nm).2)
  have HLO := Lib.hid hV.clo
  clear hX hE hV hG
  obtain ⟨kind, nm, help, lp, ln, lc, L, hi, lo, cp, cn, cc, X, C, N, sum, mn, mx⟩ := V
  unfold Vl.cells
  dsimp only at *
  obtain ⟨hh', rfl⟩ : ∃ h : Nat, hi = (h : Int) := ⟨hi.toNat, by omega⟩
  rw [Int.toNat_natCast] at hT
  have HT := Lib.hid hT
  have KW := Lib.hid (fun w' (O : Only (fun _ => False) w0 w') => wprint_calls hh' lo w' (by omega) HLO.out (HE.out.2.still O (fun e => e)))
  have HWL : Hid ((wideT hh' lo).length ≤ 1000) := Lib.hid (Nat.le_trans (wideT_len hh' lo (by omega) HLO.out) (by decide))
  clear hT hh hh2
  have ks1 := run_stf
  go_enter Tryz.func32, Tryz.ntmps32
  go_upto_region 1 with fail
  have hv := blk_new w (.cells #[.int .i64 kind, .string ⟨nm.toArray⟩, .string ⟨help.toArray⟩, .slice lp ln lc, .int .i64 (hh' : Int), .int .u64 (lo : Int), .slice cp cn cc, .int .u64 (N : Int), .float .f64 sum, .float .f64 mn, .float .f64 mx] 42)
  have hO := (Only.refl (fun _ => False) w).alloc (.cells #[.int .i64 kind, .string ⟨nm.toArray⟩, .string ⟨help.toArray⟩, .slice lp ln lc, .int .i64 (hh' : Int), .int .u64 (lo : Int), .slice cp cn cc, .int .u64 (N : Int), .float .f64 sum, .float .f64 mn, .float .f64 mx] 42)
  have HWp := Lib.hid (show ∀ v' w', Wrote (w.alloc (.cells #[.int .i64 kind, .string ⟨nm.toArray⟩, .string ⟨help.toArray⟩, .slice lp ln lc, .int .i64 (hh' : Int), .int .u64 (lo : Int), .slice cp cn cc, .int .u64 (N : Int), .float .f64 sum, .float .f64 mn, .float .f64 mx] 42)) pb v v' w' → Wrote w pb v v' w' from fun v' w' h => h.ofAlloc)
  have HXW := Lib.hid (HX.out.still hO)
  have HVN : Hid (pb ≠ w.heap.size ∧ v.ownBlock ≠ some w.heap.size) := Lib.hid (by
    have h1 := HX.out.pg.lt
    have h2 := HX.out.pg.le
    exact ⟨by omega, fun e => by have := (HX.out.pg.own.lt _ e).2; omega⟩)
  generalize w.alloc (.cells #[.int .i64 kind, .string ⟨nm.toArray⟩, .string ⟨help.toArray⟩, .slice lp ln lc, .int .i64 (hh' : Int), .int .u64 (lo : Int), .slice cp cn cc, .int .u64 (N : Int), .float .f64 sum, .float .f64 mn, .float .f64 mx] 42) = W at *
  generalize w.heap.size = vb at *
  have HB := Lib.hid hv
  clear hO hv
  have hs2 : Hid (∀ S w', Only S W w' → ¬ S vb → w'.cell? ⟨vb, 1, none⟩ = some (.string ⟨nm.toArray⟩) ∧ w'.cell? ⟨vb, 3, none⟩ = some (.slice lp ln lc) ∧ w'.cell? ⟨vb, 4, none⟩ = some (.int .i64 (hh' : Int)) ∧ w'.cell? ⟨vb, 5, none⟩ = some (.int .u64 (lo : Int))) := Lib.hid fun S w' O hS => by
    have q := O.blk HB.out hS
    exact ⟨by rw [blk_cell q]; rfl, by rw [blk_cell q]; rfl, by rw [blk_cell q]; rfl, by rw [blk_cell q]; rfl⟩
  have N0 : Only (fun _ => False) W W.drew := (Only.refl _ _).drew
  go_region_held3 (fun w' => w'.cell? ⟨vb, 1, none⟩ = some (.string ⟨nm.toArray⟩) ∧ w'.cell? ⟨vb, 3, none⟩ = some (.slice lp ln lc) ∧ w'.cell? ⟨vb, 4, none⟩ = some (.int .i64 (hh' : Int)) ∧ w'.cell? ⟨vb, 5, none⟩ = some (.int .u64 (lo : Int)))
    (first | (with_reducible exact hs2.out _ _ N0 id) | (with_reducible exact hs2.out _ _ N3 id) | (with_reducible exact hs2.out _ _ N4 F4))
    (first
      | (go_at_call 64; go_split_ands; refine (KW.out _ (HXW.out.only.trans N0)).mono ?_; rintro e w3 ⟨he, O3⟩; subst he; have N3 := N0.trans O3)
      | (go_at_call 63; go_split_ands; refine (ser_px w0 pb B prec v l nm (wideT hh' lo) lp none ln lc 0 0 L noL _ (HXW.out.still N3) (HV.out.1.still (HXW.out.only.trans N3)) (no_lbs _ _) (by have := HN.out; omega) HV.out.2 (fun i hi => absurd hi (Nat.not_lt_zero i)) (by have := HN.out; omega) HWL.out (by omega)).mono ?_; rintro e w4 ⟨he, v', h3, h4⟩; subst he; have N4 := (N3.mono (T := fun k => k = pb ∨ v.ownBlock = some k) (fun _ _ e => e.elim)).trans h4.only; have F4 : ¬ (vb = pb ∨ v.ownBlock = some vb) := by (rintro (e | e); exact HVN.out.1 e.symm; exact HVN.out.2 e)))
  go_end0
  refine ⟨rfl, v', ?_, HWp.out _ _ (Wrote.pre N3 h4)⟩
  rw [HT.out]; exact h3
end Go.Proofs.YtiijgghholhcnaaGreatDoor

/- The walk of summary at any value. -/
namespace Go.Proofs.YtiijgghholhcnaaGreatDoor
open Go.RowKit
set_option maxRecDepth 1000000
/-- a block of the call's own beside the page -/
structure Own (w : World) (pb : Nat) (v : Value) (b : Nat) (o : Obj) : Prop where
  blk : w.heap[b]? = some o
  ne : b ≠ pb
  own : v.ownBlock ≠ some b
theorem Own.still {w w' : World} {pb : Nat} {v : Value} {b : Nat} {o : Obj} (h : Own w pb v b o) (O : Only (fun _ => False) w w') : Own w' pb v b o := ⟨O.blk h.blk (fun e => e), h.ne, h.own⟩
theorem Own.next {w w' : World} {pb : Nat} {v v' : Value} {b : Nat} {o : Obj} (h : Own w pb v b o) (hw : Wrote w pb v v' w') : Own w' pb v' b o := by
  refine ⟨hw.only.blk h.blk ?_, h.ne, ?_⟩
  · rintro (e | e)
    · exact h.ne e
    · exact h.own e
  · intro e
    rcases hw.which with q | ⟨g, q, hg⟩
    · exact h.own (by rw [← q]; exact e)
    · rw [q] at e; cases e; exact absurd (blk_lt h.blk) (by omega)
theorem Px.own {w0 w w' : World} {pb B : Nat} {prec : Int} {v : Value} {l : List UInt8} (h : Px w0 w pb B prec v l) {o : Obj} (hk : w'.heap[w.heap.size]? = some o) : Own w' pb v w.heap.size o := by
  have h1 := h.pg.lt
  have h2 := h.pg.le
  exact ⟨hk, by omega, fun e => by have := (h.pg.own.lt _ e).2; omega⟩
set_option maxHeartbeats 4000000 in
theorem summary_calls (pt : Nat → List UInt8) (hpt : ∀ X, Re.Pr X (pt X)) (hpl : ∀ X, (pt X).length ≤ 1000) (w0 : World) (pb B : Nat) (prec : Int) (v : Value) (l : List UInt8) (V : Vl) (w : World) (hX : Px w0 w pb B prec v l) (hE : Re.Env w0) (hV : Vok w0 V) (hG : Gv V) (hb : l.length + 1000000 ≤ 140737488355328) :
    Calls Tryz.prog 34 #[.pointer (some ⟨pb, 0, none⟩), .agg V.cells] w fun e w' => e = .returned (.tuple #[]) ∧ ∃ v', Px w0 w' pb B prec v' (l ++ summaryT pt V) ∧ Wrote w pb v v' w' := by
  have HX := Lib.hid hX
  have HE := Lib.hid hE
  obtain ⟨T, hT⟩ : ∃ T, T = summaryT pt V := ⟨_, rfl⟩
  rw [← hT]
  unfold summaryT at hT
  have HV := Lib.hid (And.intro hV.labs hG.labs)
  have HNL := Lib.hid (And.intro hG.ln (name_len hG.nm).2)
  have HF := Lib.hid (And.intro hV.cs (And.intro hV.cmn (And.intro hV.cmx hV.cN)))
  have HPL := Lib.hid hpl
  clear hX hE hV hG
  obtain ⟨kind, nm, help, lp, ln, lc, L, hi, lo, cp, cn, cc, X, C, N, sum, mn, mx⟩ := V
  unfold Vl.cells
  dsimp only at *
  have HT := Lib.hid hT
  have KP := Lib.hid (fun X w' (hx : X < 18446744073709551616) (O : Only (fun _ => False) w0 w') => Re.print_calls X (pt X) w' hx (hpt X) (HE.out.still O (fun _ _ e => e)))
  have KD := Lib.hid (fun w' (O : Only (fun _ => False) w0 w') => digitsU_calls N w' HF.out.2.2.2 (HE.out.2.still O (fun e => e)))
  have HS1 : Hid ((serT nm L ln (oneL qtl [48]) 1 (pt mn)).length ≤ 40000 ∧ (serT nm L ln (oneL qtl [49]) 1 (pt mx)).length ≤ 40000 ∧ (serT (nm ++ sumS) L ln noL 0 (pt sum)).length ≤ 40000) := Lib.hid ⟨serT_le _ _ _ _ _ _ (by have := HNL.out; omega) HV.out.2 (fun i hi => ⟨by show qtl.length ≤ 64; decide, by show ([_] : List UInt8).length ≤ 1024; simp⟩) (by have := HNL.out; omega) (hpl _), serT_le _ _ _ _ _ _ (by have := HNL.out; omega) HV.out.2 (fun i hi => ⟨by show qtl.length ≤ 64; decide, by show ([_] : List UInt8).length ≤ 1024; simp⟩) (by have := HNL.out; omega) (hpl _), serT_le _ _ _ _ _ _ (by have := HNL.out; omega) HV.out.2 (fun i hi => absurd hi (Nat.not_lt_zero i)) (by have := HNL.out; simp [sumS]; omega) (hpl _)⟩
  have HDL : Hid ((Lib.decDigits N).length ≤ 1000) := Lib.hid (Nat.le_trans (dec_size N HF.out.2.2.2) (by decide))
  have KR := Lib.hid (fun v l nm' num mp m mc M w (hP : Px w0 w pb B prec v l) (hM : Lbs w mp m M) (hm : m ≤ 1) (h2 : ∀ i, i < m → (M i).1.length ≤ 64 ∧ (M i).2.length ≤ 1024) (hnm : nm'.length ≤ 100) (hnum : num.length ≤ 1000) (hb : l.length + 40000 ≤ 140737488355328) => ser_px w0 pb B prec v l nm' num lp mp ln lc m mc L M w hP (HV.out.1.still hP.only) hM (by have := HNL.out; omega) HV.out.2 h2 hnm hnum hb)
  clear hT hpt hpl
  have hzn : (⟨nm.toArray⟩ : ByteArray).size ≤ 64 := HNL.out.2
  have es : (⟨nm.toArray⟩ : ByteArray) ++ (⟨#[95, 115, 117, 109]⟩ : ByteArray) = ⟨(nm ++ [95, 115, 117, 109]).toArray⟩ := ba_app nm [95, 115, 117, 109]
  have ec : (⟨nm.toArray⟩ : ByteArray) ++ (⟨#[95, 99, 111, 117, 110, 116]⟩ : ByteArray) = ⟨(nm ++ [95, 99, 111, 117, 110, 116]).toArray⟩ := ba_app nm [95, 99, 111, 117, 110, 116]
  generalize hNB : (⟨nm.toArray⟩ : ByteArray) = NB at *
  have HNB := Lib.hid hNB; clear hNB
  have ks1 := run_stf
  go_enter Tryz.func34, Tryz.ntmps34
  go_upto_region 1 with fail
  have hv := blk_new w (.cells #[.int .i64 kind, .string NB, .string ⟨help.toArray⟩, .slice lp ln lc, .int .i64 hi, .int .u64 (lo : Int), .slice cp cn cc, .int .u64 (N : Int), .float .f64 sum, .float .f64 mn, .float .f64 mx] 42)
  have hO := (Only.refl (fun _ => False) w).alloc (.cells #[.int .i64 kind, .string NB, .string ⟨help.toArray⟩, .slice lp ln lc, .int .i64 hi, .int .u64 (lo : Int), .slice cp cn cc, .int .u64 (N : Int), .float .f64 sum, .float .f64 mn, .float .f64 mx] 42)
  have hXb := HX.out.own hv
  have HXW := Lib.hid (HX.out.still hO)
  have HWp := Lib.hid (show ∀ v' w', Wrote (w.alloc (.cells #[.int .i64 kind, .string NB, .string ⟨help.toArray⟩, .slice lp ln lc, .int .i64 hi, .int .u64 (lo : Int), .slice cp cn cc, .int .u64 (N : Int), .float .f64 sum, .float .f64 mn, .float .f64 mx] 42)) pb v v' w' → Wrote w pb v v' w' from fun v' w' h => h.ofAlloc)
  generalize w.alloc (.cells #[.int .i64 kind, .string NB, .string ⟨help.toArray⟩, .slice lp ln lc, .int .i64 hi, .int .u64 (lo : Int), .slice cp cn cc, .int .u64 (N : Int), .float .f64 sum, .float .f64 mn, .float .f64 mx] 42) = W at *
  generalize w.heap.size = vb at *
  have HB := Lib.hid hXb
  clear hO hv hXb
  have c1 : W.cell? ⟨vb, 1, none⟩ = some (.string NB) := by rw [blk_cell HB.out.blk]; rfl
  have c3 : W.cell? ⟨vb, 3, none⟩ = some (.slice lp ln lc) := by rw [blk_cell HB.out.blk]; rfl
  go_quiet (fail)
  go_upto_region 2 with fail
  have hO1 := (Only.refl (fun _ => False) W).drewN nq
  generalize W.drewN nq = w1 at *
  have HX1 := Lib.hid (HXW.out.still hO1)
  have HB1 := Lib.hid (HB.out.still hO1)
  have HW1 := Lib.hid (show Wrote w pb v v w1 from HWp.out _ _ (Wrote.pre hO1 (Wrote.refl _ _ _)))
  clear hO1 HXW HB HWp c1 c3
  have c7 : w1.cell? ⟨vb, 7, none⟩ = some (.int .u64 (N : Int)) := by rw [blk_cell HB1.out.blk]; rfl
  by_cases h0 : 0 < N
  · have HT2 := Lib.hid (show T = (serT nm L ln (oneL qtl [48]) 1 (pt mn) ++ serT nm L ln (oneL qtl [49]) 1 (pt mx)) ++ (serT (nm ++ sumS) L ln noL 0 (pt sum) ++ serT (nm ++ cntS) L ln noL 0 (Lib.decDigits N)) by rw [HT.out, if_pos h0])
    have t0 : decide ((0 : Int) < (N : Int)) = true := decide_eq_true (by omega)
    have c9 : w1.cell? ⟨vb, 9, none⟩ = some (.float .f64 mn) := by rw [blk_cell HB1.out.blk]; rfl
    go_wp2_with fail
    refine (KP.out mn _ HF.out.2.1 HX1.out.only).mono ?_
    rintro e wa1 ⟨rfl, Oa⟩
    have HXa1 := Lib.hid (HX1.out.still Oa)
    have HBa1 := Lib.hid (HB1.out.still Oa)
    have HWa1 := Lib.hid (Wrote.trans HW1.out (Wrote.pre Oa (Wrote.refl _ _ _)))
    clear Oa HX1 HB1 HW1 c9
    go_wp2_with fail
    have hl := blk_new wa1 (.cells #[.string ⟨#[113, 117, 97, 110, 116, 105, 108, 101]⟩, .string ⟨#[48]⟩] 47)
    have Ol := (Only.refl (fun _ => False) wa1).alloc (.cells #[.string ⟨#[113, 117, 97, 110, 116, 105, 108, 101]⟩, .string ⟨#[48]⟩] 47)
    have KS := Lib.hid (KR.out _ _ nm (pt mn) (some ⟨wa1.heap.size, 0, none⟩) 1 1 (oneL qtl [48]) _ (HXa1.out.still Ol) (one_lbs hl) (Nat.le_refl _) (fun i hi => ⟨by show qtl.length ≤ 64; decide, by show ([_] : List UInt8).length ≤ 1024; simp⟩) (by have := HNL.out; omega) (HPL.out _) (by omega))
    rw [HNB.out] at KS
    have HBl := Lib.hid (HBa1.out.still Ol)
    have HWl := Lib.hid (Wrote.trans HWa1.out (Wrote.pre Ol (Wrote.refl _ _ _)))
    clear hl Ol HXa1 HBa1 HWa1
    refine KS.out.mono ?_
    rintro e w2 ⟨rfl, v2, hx, hw⟩
    have HX2 := Lib.hid hx
    have HB2 := Lib.hid (HBl.out.next hw)
    have HW2 := Lib.hid (Wrote.trans HWl.out hw)
    clear hx hw KS HBl HWl
    have c10 : w2.cell? ⟨vb, 10, none⟩ = some (.float .f64 mx) := by rw [blk_cell HB2.out.blk]; rfl
    go_wp2_with fail
    refine (KP.out mx _ HF.out.2.2.1 HX2.out.only).mono ?_
    rintro e wa2 ⟨rfl, Oa⟩
    have HXa2 := Lib.hid (HX2.out.still Oa)
    have HBa2 := Lib.hid (HB2.out.still Oa)
    have HWa2 := Lib.hid (Wrote.trans HW2.out (Wrote.pre Oa (Wrote.refl _ _ _)))
    clear Oa HX2 HB2 HW2 c10
    go_wp2_with fail
    have hl := blk_new wa2 (.cells #[.string ⟨#[113, 117, 97, 110, 116, 105, 108, 101]⟩, .string ⟨#[49]⟩] 47)
    have Ol := (Only.refl (fun _ => False) wa2).alloc (.cells #[.string ⟨#[113, 117, 97, 110, 116, 105, 108, 101]⟩, .string ⟨#[49]⟩] 47)
    have KS := Lib.hid (KR.out _ _ nm (pt mx) (some ⟨wa2.heap.size, 0, none⟩) 1 1 (oneL qtl [49]) _ (HXa2.out.still Ol) (one_lbs hl) (Nat.le_refl _) (fun i hi => ⟨by show qtl.length ≤ 64; decide, by show ([_] : List UInt8).length ≤ 1024; simp⟩) (by have := HNL.out; omega) (HPL.out _) (by simp only [List.length_append]; have := HS1.out; omega))
    rw [HNB.out] at KS
    have HBl := Lib.hid (HBa2.out.still Ol)
    have HWl := Lib.hid (Wrote.trans HWa2.out (Wrote.pre Ol (Wrote.refl _ _ _)))
    clear hl Ol HXa2 HBa2 HWa2
    refine KS.out.mono ?_
    rintro e w3 ⟨rfl, v3, hx, hw⟩
    have HX3 := Lib.hid hx
    have HB3 := Lib.hid (HBl.out.next hw)
    have HW3 := Lib.hid (Wrote.trans HWl.out hw)
    clear hx hw KS HBl HWl
    have c8 : w3.cell? ⟨vb, 8, none⟩ = some (.float .f64 sum) := by rw [blk_cell HB3.out.blk]; rfl
    go_wp2_with fail
    refine (KP.out sum _ HF.out.1 HX3.out.only).mono ?_
    rintro e wb ⟨rfl, Oa⟩
    have HXb := Lib.hid (HX3.out.still Oa)
    have HBb := Lib.hid (HB3.out.still Oa)
    have HWb := Lib.hid (Wrote.trans HW3.out (Wrote.pre Oa (Wrote.refl _ _ _)))
    clear Oa HX3 HB3 HW3 c8
    go_wp2_with fail
    have KS := Lib.hid (KR.out _ _ (nm ++ sumS) (pt sum) none 0 0 noL _ HXb.out (no_lbs _ _) (by omega) (fun i hi => absurd hi (Nat.not_lt_zero i)) (by have := HNL.out; simp [sumS]; omega) (HPL.out _) (by simp only [List.length_append]; have := HS1.out; omega))
    rw [show (⟨(nm ++ sumS).toArray⟩ : ByteArray) = ⟨(nm ++ [95, 115, 117, 109]).toArray⟩ from rfl] at KS
    refine KS.out.mono ?_
    rintro e wc ⟨rfl, vc, hx, hw⟩
    have HXc := Lib.hid hx
    have HBc := Lib.hid (HBb.out.next hw)
    have HWc := Lib.hid (Wrote.trans HWb.out hw)
    clear hx hw KS HXb HBb HWb
    have c7 : wc.cell? ⟨vb, 7, none⟩ = some (.int .u64 (N : Int)) := by rw [blk_cell HBc.out.blk]; rfl
    go_wp2_with fail
    refine (KD.out _ HXc.out.only).mono ?_
    rintro e wd ⟨rfl, Oa⟩
    have HXd := Lib.hid (HXc.out.still Oa)
    have HWd := Lib.hid (Wrote.trans HWc.out (Wrote.pre Oa (Wrote.refl _ _ _)))
    clear Oa HXc HBc HWc c7
    go_wp2_with fail
    have KS := Lib.hid (KR.out _ _ (nm ++ cntS) (Lib.decDigits N) none 0 0 noL _ HXd.out (no_lbs _ _) (by omega) (fun i hi => absurd hi (Nat.not_lt_zero i)) (by have := HNL.out; simp [cntS]; omega) HDL.out (by simp only [List.length_append]; have := HS1.out; omega))
    rw [show (⟨(nm ++ cntS).toArray⟩ : ByteArray) = ⟨(nm ++ [95, 99, 111, 117, 110, 116]).toArray⟩ from rfl] at KS
    refine KS.out.mono ?_
    rintro e we ⟨rfl, ve, hx, hw⟩
    have HXe := Lib.hid hx
    have HWe := Lib.hid (Wrote.trans HWd.out hw)
    clear hx hw KS HXd HWd
    go_wp2_with fail
    go_end0
    refine ⟨rfl, ve, ?_, HWe.out⟩
    rw [HT2.out]
    simpa only [List.append_assoc, List.nil_append] using HXe.out
  · have HT2 := Lib.hid (show T = serT (nm ++ sumS) L ln noL 0 (pt sum) ++ serT (nm ++ cntS) L ln noL 0 (Lib.decDigits N) by rw [HT.out, if_neg h0, List.nil_append])
    obtain rfl : N = 0 := by omega
    have c8 : w1.cell? ⟨vb, 8, none⟩ = some (.float .f64 sum) := by rw [blk_cell HB1.out.blk]; rfl
    go_wp2_with fail
    refine (KP.out sum _ HF.out.1 HX1.out.only).mono ?_
    rintro e wb ⟨rfl, Oa⟩
    have HXb := Lib.hid (HX1.out.still Oa)
    have HBb := Lib.hid (HB1.out.still Oa)
    have HWb := Lib.hid (Wrote.trans HW1.out (Wrote.pre Oa (Wrote.refl _ _ _)))
    clear Oa HX1 HB1 HW1 c8
    go_wp2_with fail
    have KS := Lib.hid (KR.out _ _ (nm ++ sumS) (pt sum) none 0 0 noL _ HXb.out (no_lbs _ _) (by omega) (fun i hi => absurd hi (Nat.not_lt_zero i)) (by have := HNL.out; simp [sumS]; omega) (HPL.out _) (by (try simp only [List.length_append]); have := HS1.out; omega))
    rw [show (⟨(nm ++ sumS).toArray⟩ : ByteArray) = ⟨(nm ++ [95, 115, 117, 109]).toArray⟩ from rfl] at KS
    refine KS.out.mono ?_
    rintro e wc ⟨rfl, vc, hx, hw⟩
    have HXc := Lib.hid hx
    have HBc := Lib.hid (HBb.out.next hw)
    have HWc := Lib.hid (Wrote.trans HWb.out hw)
    clear hx hw KS HXb HBb HWb
    have c7 : wc.cell? ⟨vb, 7, none⟩ = some (.int .u64 ((0 : Nat) : Int)) := by rw [blk_cell HBc.out.blk]; rfl
    go_wp2_with fail
    refine (KD.out _ HXc.out.only).mono ?_
    rintro e wd ⟨rfl, Oa⟩
    have HXd := Lib.hid (HXc.out.still Oa)
    have HWd := Lib.hid (Wrote.trans HWc.out (Wrote.pre Oa (Wrote.refl _ _ _)))
    clear Oa HXc HBc HWc c7
    go_wp2_with fail
    have KS := Lib.hid (KR.out _ _ (nm ++ cntS) (Lib.decDigits 0) none 0 0 noL _ HXd.out (no_lbs _ _) (by omega) (fun i hi => absurd hi (Nat.not_lt_zero i)) (by have := HNL.out; simp [cntS]; omega) HDL.out (by (try simp only [List.length_append]); have := HS1.out; omega))
    rw [show (⟨(nm ++ cntS).toArray⟩ : ByteArray) = ⟨(nm ++ [95, 99, 111, 117, 110, 116]).toArray⟩ from rfl] at KS
    refine KS.out.mono ?_
    rintro e we ⟨rfl, ve, hx, hw⟩
    have HXe := Lib.hid hx
    have HWe := Lib.hid (Wrote.trans HWd.out hw)
    clear hx hw KS HXd HWd
    go_wp2_with fail
    go_end0
    refine ⟨rfl, ve, ?_, HWe.out⟩
    rw [HT2.out]
    simpa only [List.append_assoc, List.nil_append] using HXe.out
end Go.Proofs.YtiijgghholhcnaaGreatDoor
