/- Lines: a text of lines, none empty, each ended. -/
import Derived.Test.YtiijgghholhcnaaGreatDoorJL17
import Derived.Test.YtiijgghholhcnaaGreatDoorJL11
import Derived.Test.YtiijgghholhcnaaGreatDoorJL10
import Derived.Test.YtiijgghholhcnaaGreatDoorJL44
import Derived.Test.YtiijgghholhcnaaGreatDoorJL43
namespace Go.Proofs.YtiijgghholhcnaaGreatDoor
/-- p: the byte ahead was a line feed (or there was none) -/
def Gd : Bool → List UInt8 → Prop
  | _, [] => True
  | p, c :: t => (c = 10 → p = false) ∧ Gd (c == 10) t
/-- k lines, none empty, the last one ended -/
structure Ls (l : List UInt8) (k : Nat) : Prop where
  good : Gd true l
  count : l.count 10 = k
  last : l ≠ [] → l.getLast? = some 10
theorem Gd.app : ∀ {l m : List UInt8} {p : Bool}, Gd p l → Gd (match l.getLast? with | some c => c == 10 | none => p) m → Gd p (l ++ m)
  | [], m, p, _, h => by simpa using h
  | c :: t, m, p, h, k => by
    refine ⟨h.1, Gd.app h.2 ?_⟩
    cases t with
    | nil => simpa using k
    | cons d t =>
      rw [List.getLast?_cons_cons] at k
      cases hq : (d :: t).getLast? with
      | none => simp at hq
      | some e => rw [hq] at k; exact k
theorem Gd.clean : ∀ {l : List UInt8} {p : Bool}, (∀ c ∈ l, c ≠ 10) → Gd p l
  | [], _, _ => trivial
  | c :: t, p, h => ⟨fun e => absurd e (h c (by simp)), Gd.clean (fun d hd => h d (by simp [hd]))⟩
theorem Ls.nil : Ls [] 0 := ⟨trivial, rfl, fun h => absurd rfl h⟩
theorem Ls.line {l m : List UInt8} {k : Nat} (h : Ls l k) (hm : m ≠ []) (hc : ∀ c ∈ m, c ≠ 10) : Ls (l ++ m ++ [10]) (k + 1) := by
  refine ⟨?_, ?_, fun _ => by simp⟩
  · rw [List.append_assoc]
    refine Gd.app h.good ?_
    refine Gd.app (Gd.clean hc) ?_
    refine ⟨fun _ => ?_, trivial⟩
    cases hq : m.getLast? with
    | none => simp at hq; exact absurd hq hm
    | some c =>
      have := hc c (List.mem_of_getLast? hq)
      simpa using this
  · rw [List.append_assoc, List.count_append, List.count_append, h.count]
    have : m.count 10 = 0 := List.count_eq_zero.2 (fun e => hc 10 e rfl)
    simp [this]
theorem Gd.at' : ∀ {l : List UInt8} {p : Bool}, Gd p l → ∀ i, (h : i < l.length) → l[i] = 10 → (i = 0 ∧ p = false) ∨ (0 < i ∧ ∃ c, l[i - 1]? = some c ∧ c ≠ 10)
  | c :: t, p, h, 0, _, e => .inl ⟨rfl, h.1 e⟩
  | c :: t, p, h, i + 1, hi, e => by
    right
    refine ⟨Nat.succ_pos _, ?_⟩
    rcases Gd.at' h.2 i (by simpa using hi) (by simpa using e) with ⟨rfl, h1⟩ | ⟨h1, d, h2, h3⟩
    · exact ⟨c, rfl, by simpa using h1⟩
    · refine ⟨d, ?_, h3⟩
      rw [show i + 1 - 1 = (i - 1) + 1 by omega]
      simpa using h2
end Go.Proofs.YtiijgghholhcnaaGreatDoor

/- Texts without a line feed, plainly. -/
namespace Go.Proofs.YtiijgghholhcnaaGreatDoor
open Go.RowKit
/-- no line feed -/
def Cl (l : List UInt8) : Prop := ∀ c ∈ l, c ≠ 10
theorem Cl.app {l m : List UInt8} (h : Cl l) (k : Cl m) : Cl (l ++ m) := fun c hc => by
  rcases List.mem_append.1 hc with e | e
  · exact h c e
  · exact k c e
theorem digit_ne (n : Nat) (h : n < 10) : UInt8.ofNat (48 + n) ≠ 10 := by
  intro e
  have := congrArg UInt8.toNat e
  rw [UInt8.toNat_ofNat'] at this
  have e2 : (10 : UInt8).toNat = 10 := rfl
  rw [e2] at this
  omega
theorem dec_clean (u : Nat) : Cl (Lib.decDigits u) ∧ Lib.decDigits u ≠ [] := by
  induction u using Nat.strongRecOn with
  | _ u ih =>
    by_cases h : u < 10
    · rw [Lib.decDigits_one h]
      refine ⟨fun c hc => ?_, by simp⟩
      rw [List.mem_singleton] at hc
      rw [hc]; exact digit_ne u h
    · have e : Lib.decDigits u = Lib.decDigits (u / 10) ++ [UInt8.ofNat (48 + u % 10)] := by
        rw [Lib.decDigits, dif_neg h]
      rw [e]
      refine ⟨(ih (u / 10) (by omega)).1.app (fun c hc => ?_), by simp⟩
      rw [List.mem_singleton] at hc
      rw [hc]; exact digit_ne _ (by omega)
theorem itoa_clean (n : Int) : Cl (Lib.itoa n) ∧ Lib.itoa n ≠ [] := by
  by_cases h : 0 ≤ n
  · obtain ⟨u, rfl⟩ : ∃ u : Nat, n = u := ⟨n.toNat, by omega⟩
    rw [Lib.itoa_nonneg]; exact dec_clean u
  · obtain ⟨u, rfl⟩ : ∃ u : Nat, n = -(u : Int) := ⟨n.natAbs, by omega⟩
    rw [Lib.itoa_neg u (by omega)]
    refine ⟨fun c hc => ?_, by simp⟩
    rcases List.mem_cons.1 hc with e | e
    · rw [e]; decide
    · exact (dec_clean u).1 c e
theorem letter_ne {c : Nat} (h : letterB c = true) : c ≠ 10 := by
  have := of_decide_eq_true h
  omega
theorem name_clean {s : List UInt8} (h : nameB s = true) : Cl s ∧ s ≠ [] ∧ s.length ≤ 64 := by
  unfold nameB at h
  simp only [Bool.and_eq_true] at h
  obtain ⟨⟨⟨⟨h1, _⟩, _⟩, _⟩, h2⟩ := h
  have h3 := of_decide_eq_true h1
  refine ⟨fun c hc e => ?_, fun e => by rw [e] at h3; simp at h3, h3.2.1⟩
  have := (List.all_eq_true.1 h2) c hc
  rw [e] at this
  revert this; decide
theorem lname_clean {s : List UInt8} (h : lnameB s = true) : Cl s ∧ s ≠ [] ∧ s.length ≤ 64 := by
  unfold lnameB at h
  simp only [Bool.and_eq_true] at h
  obtain ⟨⟨⟨⟨h1, _⟩, _⟩, _⟩, h2⟩ := h
  have h3 := of_decide_eq_true h1
  refine ⟨fun c hc e => ?_, fun e => by rw [e] at h3; simp at h3, h3.2.1⟩
  have := (List.all_eq_true.1 h2) c hc
  rw [e] at this
  revert this; decide
theorem help_clean (s : List UInt8) : Cl (s.flatMap (esc 2 hx hS 2)) := by
  intro c hc
  obtain ⟨b, _, hb⟩ := List.mem_flatMap.1 hc
  have e : esc 2 hx hS 2 b = if b = 92 then [92, 92] else if b = 10 then [92, 110] else [b] := rfl
  rw [e] at hb
  split at hb
  · simp at hb; rw [hb]; decide
  · split at hb
    · simp at hb; rcases hb with h | h <;> (rw [h]; decide)
    · rename_i h
      simp at hb; rw [hb]; exact h
end Go.Proofs.YtiijgghholhcnaaGreatDoor

/- Texts of floats, of numbers, of lines: no line feed in them. -/
namespace Go.Proofs.YtiijgghholhcnaaGreatDoor
open Go.RowKit
theorem Cl.take {l : List UInt8} (h : Cl l) (n : Nat) : Cl (l.take n) := fun c hc => h c (List.mem_of_mem_take hc)
theorem Cl.drop {l : List UInt8} (h : Cl l) (n : Nat) : Cl (l.drop n) := fun c hc => h c (List.mem_of_mem_drop hc)
theorem Cl.rep (n : Nat) {b : UInt8} (hb : b ≠ 10) : Cl (List.replicate n b) := fun c hc => by rw [List.eq_of_mem_replicate hc]; exact hb
theorem Cl.cons {b : UInt8} {l : List UInt8} (hb : b ≠ 10) (h : Cl l) : Cl (b :: l) := fun c hc => by
  rcases List.mem_cons.1 hc with e | e
  · rw [e]; exact hb
  · exact h c e
theorem Cl.nil : Cl [] := fun c hc => by cases hc
theorem point_clean (c : Nat) : Cl (Re.pointB c) := by
  by_cases h : Lib.nDigits c = 1
  · rw [Re.pointB_one h]; exact (dec_clean c).1
  · obtain ⟨x, l, h1, h2, h3⟩ := Re.pointB_many h
    have hd := (dec_clean c).1
    rw [h1] at hd
    rw [h2]
    exact Cl.cons (hd x (by simp)) (Cl.cons (by decide) (fun c hc => hd c (by simp [hc])))
theorem laid_clean (c : Nat) (e : Int) : Cl (Re.laidB c e) := by
  unfold Re.laidB
  split
  · split
    · exact (dec_clean c).1.app (Cl.rep _ (by decide))
    · exact ((dec_clean c).1.take _).app (Cl.cons (by decide) ((dec_clean c).1.drop _))
  · split
    · exact ((Cl.cons (by decide) (Cl.cons (by decide) Cl.nil)).app (Cl.rep _ (by decide))).app (dec_clean c).1
    · exact (point_clean c).app (Cl.cons (by decide) (itoa_clean e).1)
theorem pr_clean {X : Nat} {t : List UInt8} (h : Re.Pr X t) : Cl t ∧ t.length ≤ 1000 := by
  by_cases h1 : 9218868437227405312 < X % 9223372036854775808
  · rw [Re.pr_nan h1] at h
    subst h
    exact ⟨by intro c hc; revert hc; revert c; decide, by decide⟩
  by_cases h2 : X % 9223372036854775808 = 9218868437227405312
  · rw [Re.pr_inf h2] at h
    subst h
    split
    · exact ⟨by intro c hc; revert hc; revert c; decide, by decide⟩
    · exact ⟨by intro c hc; revert hc; revert c; decide, by decide⟩
  by_cases h3 : X % 9223372036854775808 = 0
  · rw [Re.pr_zero h3] at h
    subst h
    split
    · exact ⟨by intro c hc; revert hc; revert c; decide, by decide⟩
    · exact ⟨by intro c hc; revert hc; revert c; decide, by decide⟩
  · rw [Re.pr_fin (by omega) (by omega)] at h
    obtain ⟨c, s, hS, rfl⟩ := h
    have hb := hS.bounds (Re.Usc.parts _ (by omega) (by omega))
    have hl := Re.laid_len (s := s) hb
    refine ⟨Cl.app ?_ (laid_clean _ _), ?_⟩
    · split
      · exact Cl.nil
      · exact Cl.cons (by decide) Cl.nil
    · rw [List.length_append]
      split
      · simp; omega
      · simp; omega
end Go.Proofs.YtiijgghholhcnaaGreatDoor

/- The text of a snapshot: how many lines it has; none is empty, each is ended. -/
namespace Go.Proofs.YtiijgghholhcnaaGreatDoor
open Go.RowKit
theorem vesc_clean (s : List UInt8) : Cl (s.flatMap (esc 3 vx vS 3)) := by
  intro c hc
  obtain ⟨b, _, hb⟩ := List.mem_flatMap.1 hc
  rw [vesc_eq] at hb
  split at hb
  · simp at hb; rw [hb]; decide
  · split at hb
    · simp at hb; rcases hb with h | h <;> (rw [h]; decide)
    · split at hb
      · simp at hb; rcases hb with h | h <;> (rw [h]; decide)
      · rename_i h
        simp at hb; rw [hb]; exact h
theorem lit_clean (l : List UInt8) (h : l.all (fun c => c != 10) = true) : Cl l := fun c hc e => by
  have := (List.all_eq_true.1 h) c hc
  rw [e] at this; revert this; decide
theorem labsT_clean {L : Lb} {n : Nat} (h : ∀ i, i < n → Cl (L i).1) : ∀ k, k ≤ n → Cl (labsT L k)
  | 0, _ => Cl.nil
  | k + 1, hk => by
    have h1 := labsT_clean h k (by omega)
    have h2 := h k (by omega)
    unfold labsT
    refine ((((h1.app ?_).app h2).app (lit_clean _ (by decide))).app (vesc_clean _)).app (lit_clean _ (by decide))
    split
    · exact lit_clean _ (by decide)
    · exact lit_clean _ (by decide)
theorem labT_clean {nm : List UInt8} {L : Lb} {n : Nat} (h0 : Cl nm) (h : ∀ i, i < n → Cl (L i).1) : Cl (labT nm L n) := by
  unfold labT
  split
  · exact h0
  · exact (h0.app (labsT_clean h n (Nat.le_refl _))).app (lit_clean _ (by decide))
theorem ser_ls {l : List UInt8} {k : Nat} (h : Ls l k) {nm : List UInt8} {L : Lb} {n : Nat} {M : Lb} {m : Nat} {num : List UInt8} (h0 : Cl nm) (hL : ∀ i, i < n → Cl (L i).1) (hM : ∀ i, i < m → Cl (M i).1) (hnum : Cl num) : Ls (l ++ serT nm L n M m num) (k + 1) := by
  have hc : Cl (labT nm (lcat L M n) (n + m) ++ ([32] ++ num)) := (labT_clean h0 (fun i hi => by
    unfold lcat
    split
    · rename_i q; exact hL i q
    · exact hM _ (by omega))).app ((lit_clean _ (by decide)).app hnum)
  have := h.line (m := labT nm (lcat L M n) (n + m) ++ ([32] ++ num)) (by simp) hc
  unfold serT
  simpa [List.append_assoc] using this
theorem wide_clean (h l : Nat) : Cl (wideT h l) := by
  unfold wideT
  split
  · exact (dec_clean l).1
  · split
    · exact (dec_clean _).1
    · exact ((dec_clean _).1.app (Cl.rep _ (by decide))).app (dec_clean _).1
theorem Gv.cnm {V : Vl} (h : Gv V) : Cl V.nm := (name_clean h.nm).1
theorem Gv.clab {V : Vl} (h : Gv V) : ∀ i, i < V.ln → Cl (V.L i).1 := fun i hi => (lname_clean (h.lab i hi).1).1
theorem no_cl : ∀ i, i < 0 → Cl (noL i).1 := fun i hi => absurd hi (Nat.not_lt_zero i)
theorem one_cl {a b : List UInt8} (h : Cl a) : ∀ i, i < 1 → Cl (oneL a b i).1 := fun _ _ => h
theorem sumS_cl : Cl sumS := lit_clean _ (by decide)
theorem cntS_cl : Cl cntS := lit_clean _ (by decide)
theorem bckS_cl : Cl bckS := lit_clean _ (by decide)
/-- how many lines a value has -/
def linesV (v : Vl) : Nat := if v.kind = 1 then 1 else if v.kind = 2 then v.cn + 3 else 2 + (if 0 < v.N then 2 else 0)
theorem his_ls {p : Nat} {V : Vl} (hG : Gv V) {l : List UInt8} {k : Nat} (h : Ls l k) : ∀ m, Ls (l ++ hisK p V m) (k + m)
  | 0 => by simpa [hisK] using h
  | m + 1 => by
    have h1 := his_ls (p := p) hG h m
    have := ser_ls h1 (nm := V.nm ++ bckS) (L := V.L) (n := V.ln) (M := oneL leS (Lib.itoa (highN p V.X m : Int))) (m := 1) (num := Lib.decDigits (totN V.C (m + 1))) (hG.cnm.app bckS_cl) hG.clab (one_cl (lit_clean _ (by decide))) (dec_clean _).1
    rw [hisK]
    rw [List.append_assoc] at this
    exact this
theorem val_ls {pt : Nat → List UInt8} (hpt : ∀ X, Cl (pt X)) {p : Nat} {V : Vl} (hG : Gv V) {l : List UInt8} {k : Nat} (h : Ls l k) : Ls (l ++ valT pt p V) (k + linesV V) := by
  unfold valT linesV
  by_cases k1 : V.kind = 1
  · rw [if_pos k1, if_pos k1]
    exact ser_ls h hG.cnm hG.clab no_cl (wide_clean _ _)
  · rw [if_neg k1, if_neg k1]
    by_cases k2 : V.kind = 2
    · rw [if_pos k2, if_pos k2]
      unfold histT
      have h1 := his_ls (p := p) hG h V.cn
      have h2 := ser_ls h1 (nm := V.nm ++ bckS) (L := V.L) (n := V.ln) (M := oneL leS infS) (m := 1) (num := Lib.decDigits V.N) (hG.cnm.app bckS_cl) hG.clab (one_cl (lit_clean _ (by decide))) (dec_clean _).1
      have h3 := ser_ls h2 (nm := V.nm ++ sumS) (L := V.L) (n := V.ln) (M := noL) (m := 0) (num := wideT V.hi.toNat V.lo) (hG.cnm.app sumS_cl) hG.clab no_cl (wide_clean _ _)
      have h4 := ser_ls h3 (nm := V.nm ++ cntS) (L := V.L) (n := V.ln) (M := noL) (m := 0) (num := Lib.decDigits V.N) (hG.cnm.app cntS_cl) hG.clab no_cl (dec_clean _).1
      simpa only [List.append_assoc, Nat.add_assoc] using h4
    · rw [if_neg k2, if_neg k2]
      unfold summaryT
      have tail : ∀ {l : List UInt8} {k : Nat}, Ls l k → Ls (l ++ (serT (V.nm ++ sumS) V.L V.ln noL 0 (pt V.sum) ++ serT (V.nm ++ cntS) V.L V.ln noL 0 (Lib.decDigits V.N))) (k + 2) := by
        intro l k h
        have h3 := ser_ls h (nm := V.nm ++ sumS) (L := V.L) (n := V.ln) (M := noL) (m := 0) (num := pt V.sum) (hG.cnm.app sumS_cl) hG.clab no_cl (hpt _)
        have h4 := ser_ls h3 (nm := V.nm ++ cntS) (L := V.L) (n := V.ln) (M := noL) (m := 0) (num := Lib.decDigits V.N) (hG.cnm.app cntS_cl) hG.clab no_cl (dec_clean _).1
        simpa only [List.append_assoc, Nat.add_assoc] using h4
      by_cases hN : 0 < V.N
      · rw [if_pos hN, if_pos hN]
        have h1 := ser_ls h (nm := V.nm) (L := V.L) (n := V.ln) (M := oneL qtl [48]) (m := 1) (num := pt V.mn) hG.cnm hG.clab (one_cl (lit_clean _ (by decide))) (hpt _)
        have h2 := ser_ls h1 (nm := V.nm) (L := V.L) (n := V.ln) (M := oneL qtl [49]) (m := 1) (num := pt V.mx) hG.cnm hG.clab (one_cl (lit_clean _ (by decide))) (hpt _)
        have h3 := tail h2
        simpa only [List.append_assoc, Nat.add_assoc] using h3
      · rw [if_neg hN, if_neg hN, List.nil_append]
        exact tail h
theorem kind_cl (k : Int) : Cl (kindT k) := by
  unfold kindT
  split
  · exact lit_clean _ (by decide)
  · split
    · exact lit_clean _ (by decide)
    · exact lit_clean _ (by decide)
theorem fam_ls {V : Nat → Vl} {i : Nat} (hG : Gv (V i)) {l : List UInt8} {k : Nat} (h : Ls l k) : Ls (l ++ famT V i) (k + (if famB V i = true then 2 else 0)) := by
  unfold famT
  split
  · have h1 := h.line (m := [35, 32, 72, 69, 76, 80, 32] ++ (V i).nm ++ [32] ++ helpT (V i).help) (by simp) ((((lit_clean _ (by decide)).app hG.cnm).app (lit_clean _ (by decide))).app (help_clean _))
    have h2 := h1.line (m := [35, 32, 84, 89, 80, 69, 32] ++ (V i).nm ++ [32] ++ kindT (V i).kind) (by simp) ((((lit_clean _ (by decide)).app hG.cnm).app (lit_clean _ (by decide))).app (kind_cl _))
    simpa only [List.append_assoc, Nat.add_assoc] using h2
  · simpa using h
/-- how many lines there are -/
def lnC (V : Nat → Vl) : Nat → Nat
  | 0 => 2
  | i + 1 => lnC V i + ((if famB V i = true then 2 else 0) + linesV (V i))
theorem body_ls {pt : Nat → List UInt8} (hpt : ∀ X, Cl (pt X)) {p rf n : Nat} {V : Nat → Vl} (hG : ∀ j, j < n → Gv (V j)) : ∀ i, i ≤ n → Ls (bodyT pt p rf V i) (lnC V i)
  | 0, _ => by
    have h1 := Ls.nil.line (m := [35, 32, 103, 110, 111, 109, 111, 110, 32] ++ Lib.itoa (p : Int)) (by simp) ((lit_clean _ (by decide)).app (itoa_clean _).1)
    have h2 := h1.line (m := [35, 32, 114, 101, 102, 117, 115, 101, 100, 32] ++ Lib.decDigits rf) (by simp) ((lit_clean _ (by decide)).app (dec_clean _).1)
    show Ls (headT p rf) 2
    unfold headT
    simpa only [List.append_assoc, List.nil_append] using h2
  | i + 1, hi => by
    have h1 := body_ls (pt := pt) hpt (p := p) (rf := rf) hG i (by omega)
    have h2 := val_ls hpt (p := p) (hG i (by omega)) (fam_ls (hG i (by omega)) h1)
    rw [bodyT, lnC]
    simpa only [List.append_assoc, Nat.add_assoc] using h2
end Go.Proofs.YtiijgghholhcnaaGreatDoor

/- The walks of awake and of the law ExpoNames. -/
namespace Go.Proofs.YtiijgghholhcnaaGreatDoor
open Go.RowKit
set_option maxRecDepth 1000000
theorem own_conv {w : World} {B n : Nat} {v : Value} {l : List UInt8} (h : w.ownsRow B 5 1 v n (Go.Lib.strCells ⟨l.toArray⟩)) (h0 : 0 < n) : Sem.run Tryz.prog (convert 27 9 v) w = .ok (.string ⟨l.toArray⟩) w := by
  have hn : l.length = n * 1 := by rw [← h.1]; simp [Go.Lib.strCells]
  rw [Nat.mul_one] at hn
  subst hn
  rcases h.2 with ⟨rfl, h1⟩ | ⟨g, cap, cur, rfl, h1, h2, h3⟩
  · omega
  · refine run_convert_bytes_back (P := Tryz.prog) w 27 9 5 ⟨g, 0, none⟩ cap l Tryz.underlying27 Tryz.underlying5 Tryz.underlying9 (fun j hj => ?_)
    refine h.cells (g := g) rfl j _ ?_
    simp [Go.Lib.strCells, hj]
set_option maxHeartbeats 4000000 in
theorem awake_calls (w : World) : Calls Tryz.prog 8 #[] w fun e w' => e = .returned (.bool true) ∧ Only (fun _ => False) w w' := by
  have K1 := Lib.hid (fun b w h => write_a b w h)
  have K2 := Lib.hid (fun w => write_e w)
  have ks1 := run_stf
  unfold snapA at K1
  go_enter Tryz.func8, Tryz.ntmps8
  go_wp2_with fail
  have hb := blk_new w (.cells cellsA 42)
  have hO := (Only.refl (fun _ => False) w).alloc (.cells cellsA 42)
  unfold cellsA at hb hO
  generalize w.alloc (.cells #[.int .i64 1, .string ⟨#[97]⟩, .string ⟨#[]⟩, .slice none 0 0, .int .i64 0, .int .u64 7, .slice none 0 0, .int .u64 0, .float .f64 0, .float .f64 0, .float .f64 0] 42) = w1 at *
  have HO := Lib.hid hO; clear hO
  refine (K1.out _ _ hb).mono ?_
  rintro e w2 ⟨v, rfl, h1, h2⟩
  have HO2 := Lib.hid (HO.out.trans h2)
  clear h2 HO hb
  have H1 := Lib.hid h1; clear h1
  go_upto_region 2 with fail
  go_wp2_with fail
  refine (K2.out _).mono ?_
  rintro e w3 ⟨rfl, h2⟩
  have H3 := Lib.hid (own_keepS H1.out h2 (fun _ _ e => e))
  have HO3 := Lib.hid (HO2.out.trans h2)
  clear h2 HO2 H1
  go_upto_region 3 with fail
  have hcv := own_conv H3.out (by omega)
  go_wp2_with fail
  go_ret
  exact ⟨rfl, HO3.out⟩
theorem names_calls (w : World) : Calls Tryz.prog 3 #[] w fun e w' => e = .returned (.bool true) ∧ Only (fun _ => False) w w' := by
  have K := Lib.hid (fun w => awake_calls w)
  go_enter Tryz.func3, Tryz.ntmps3
  go_wp2_with fail
  refine (K.out _).mono ?_
  rintro e w1 ⟨rfl, hO⟩
  have HO := Lib.hid hO; clear hO
  go_wp2_with fail
  go_ret
  exact ⟨rfl, HO.out⟩
end Go.Proofs.YtiijgghholhcnaaGreatDoor

/- The walk of lines at a text of lines. -/
namespace Go.Proofs.YtiijgghholhcnaaGreatDoor
open Go.RowKit
set_option maxRecDepth 1000000
def LiR (w0 : World) (l : List UInt8) (v3 v7 : Value) (w : World) : Prop :=
  ∃ i : Nat, v3 = .int .i64 (((l.take i).count 10 : Nat) : Int) ∧ v7 = .int .i64 (i : Int) ∧ i ≤ l.length ∧ w = w0
theorem count_step (l : List UInt8) (i : Nat) (h : i < l.length) : (l.take (i + 1)).count 10 = (l.take i).count 10 + if l[i] = 10 then 1 else 0 := by
  rw [List.take_succ_eq_append_getElem h, List.count_append, List.count_singleton]
  congr 1
  by_cases e : l[i] = 10
  · rw [if_pos e]; simp [e]
  · rw [if_neg e]; simp [e]
set_option maxHeartbeats 4000000 in
theorem lines_calls (B : Nat) (v : Value) (l : List UInt8) (k : Nat) (w : World) (hown : w.ownsRow B 5 1 v l.length (Go.Lib.strCells ⟨l.toArray⟩)) (hL : Ls l k) (h0 : l ≠ []) (hlen : l.length ≤ 100000000) :
    Calls Tryz.prog 11 #[v] w fun e w' => e = .returned (.int .i64 (k : Int)) ∧ w' = w := by
  have hlp : 0 < l.length := List.length_pos_iff.2 h0
  rcases hown.2 with ⟨_, q⟩ | ⟨g, cap, cur, hv, hg, hb, hnc, hcm, hcs, htake⟩
  · omega
  subst hv
  have HC := Lib.hid (show ∀ i (h : i < l.length), w.cell? ⟨g, i, none⟩ = some (.int .u8 (l[i].toNat : Int)) from fun i h => by
    have := hown.cells (g := g) rfl i (.int .u8 (l[i].toNat : Int)) (by simp [Go.Lib.strCells, h])
    have ha : (⟨g, 0, none⟩ : Addr).add i = ⟨g, i, none⟩ := by unfold Addr.add; split <;> simp_all
    rw [ha] at this; exact this)
  have HL := Lib.hid hL
  have HLP := Lib.hid (And.intro hlp hlen)
  clear hL hown hb hnc hcm hcs htake hg h0 hlen hlp
  go_enter Tryz.func11, Tryz.ntmps11
  go_wp2_with fail
  go_loopw [3, 7] (fun v3 v7 wr => LiR w l v3 v7 wr) (fun _ v7 _ => l.length - (intOf v7).toNat)
  case atStart => exact ⟨0, rfl, rfl, Nat.zero_le _, rfl⟩
  case round =>
    obtain ⟨i, rfl, rfl, hi, hwr⟩ := hrel
    subst hwr
    by_cases h : i < l.length
    · have t1 : decide ((i : Int) < (l.length : Int)) = true := decide_eq_true (by omega)
      have c0 := HC.out i h
      have hw1 : wrap64 ((i : Int) + 1) = ((i + 1 : Nat) : Int) := by rw [IntWalk.wrap64_in _ ⟨by omega, by have := HLP.out; omega⟩]; omega
      have hcs := Lib.hid (count_step l i h)
      by_cases h10 : l[i] = 10
      · have q : ((l[i].toNat : Int) == 10) = true := by rw [h10]; rfl
        have hcl : (l.take i).count 10 ≤ l.length := Nat.le_trans List.count_le_length (by rw [List.length_take]; omega)
        have hw2 : wrap64 ((((l.take i).count 10 : Nat) : Int) + 1) = (((l.take (i + 1)).count 10 : Nat) : Int) := by
          rw [IntWalk.wrap64_in _ ⟨by omega, by have := HLP.out; omega⟩, hcs.out, if_pos h10]; omega
        rcases HL.out.good.at' i h h10 with ⟨_, e⟩ | ⟨hp, c, hc1, hc2⟩
        · cases e
        have hi0 : ((i : Int) == 0) = false := by simp; omega
        have hwk : wrap64 ((i : Int) - 1) = ((i - 1 : Nat) : Int) := by rw [IntWalk.wrap64_in _ ⟨by omega, by have := HLP.out; omega⟩]; omega
        have hk : i - 1 < l.length := by omega
        have c1 := HC.out (i - 1) hk
        have hck : l[i - 1] = c := by
          rw [List.getElem?_eq_getElem hk] at hc1; exact Option.some.inj hc1
        rw [hck] at c1
        have q2 : ((c.toNat : Int) == 10) = false := by
          have : c.toNat ≠ 10 := fun e => hc2 (UInt8.toNat_inj.1 e)
          simp; omega
        have hkk : decide (((i - 1 : Nat) : Int) < (l.length : Int)) = true := decide_eq_true (by omega)
        clear hcs h10 hc1 hck hcl
        generalize (l.take i).count 10 = m at *
        generalize hmm : (l.take (i + 1)).count 10 = m2 at *
        have HMM := Lib.hid hmm; clear hmm
        generalize l[i].toNat = x at *
        generalize hii : i - 1 = j at *
        have HII := Lib.hid hii; clear hii
        go_wp2_with fail
        exact ⟨⟨i + 1, by rw [HMM.out, hw2], congrArg (Value.int .i64) hw1, by omega, rfl⟩, by rw [hw1]; simp only [intOf]; omega⟩
      · have q : ((l[i].toNat : Int) == 10) = false := by
          have : l[i].toNat ≠ 10 := fun e => h10 (UInt8.toNat_inj.1 e)
          simp; omega
        have hE := Lib.hid (show (l.take (i + 1)).count 10 = (l.take i).count 10 by rw [hcs.out, if_neg h10]; rfl)
        clear hcs h10
        generalize hmm : (l.take i).count 10 = m at *
        generalize l[i].toNat = x at *
        go_wp2_with fail
        exact ⟨⟨i + 1, by rw [hE.out], congrArg (Value.int .i64) hw1, by omega, rfl⟩, by rw [hw1]; simp only [intOf]; omega⟩
    · obtain rfl : i = l.length := by omega
      have t1 : decide ((l.length : Int) < (l.length : Int)) = false := decide_eq_false (by omega)
      have hlast := HL.out.last (by intro e; have := HLP.out; rw [e] at this; simp at this)
      have hl1 : l.length - 1 < l.length := by have := HLP.out; omega
      have c1 := HC.out (l.length - 1) hl1
      have hlv : l[l.length - 1] = 10 := by
        rw [List.getLast?_eq_getElem?, List.getElem?_eq_getElem hl1] at hlast; exact Option.some.inj hlast
      rw [hlv] at c1
      have c1' : wr.cell? ⟨g, l.length - 1, none⟩ = some (.int .u8 10) := c1
      have hE : (l.take l.length).count 10 = k := by rw [List.take_length]; exact HL.out.count
      rw [hE] at *
      have hz : ((l.length : Int) == 0) = false := by have := HLP.out; simp; intro e; rw [e] at this; simp at this
      have hwk : wrap64 ((l.length : Int) - 1) = ((l.length - 1 : Nat) : Int) := by rw [IntWalk.wrap64_in _ ⟨by omega, by have := HLP.out; omega⟩]; omega
      have hkk : decide (((l.length - 1 : Nat) : Int) < (l.length : Int)) = true := decide_eq_true (by omega)
      clear c1 hlv hlast hE
      go_wp2_with fail
      go_ret
      exact ⟨rfl, rfl⟩
end Go.Proofs.YtiijgghholhcnaaGreatDoor
