/- series at no labels. -/
import Derived.Test.YtiijgghholhcnaaGreatDoorJL10
import Derived.Deep.RegionHeld3
import Derived.Deep.Cut
import Derived.Deep.CutRange
import Derived.Deep.DeepCutAuto
import Derived.Test.YtiijgghholhcnaaGreatDoorJL13
import Derived.Test.YtiijgghholhcnaaGreatDoorJL12
import Derived.BigQuiet
import Derived.Deep.QuietTactic
namespace Go.Proofs.YtiijgghholhcnaaGreatDoor
open Go.RowKit
set_option maxRecDepth 1000000
set_option maxHeartbeats 1600000 in
theorem series0_calls (pb B : Nat) (prec : Int) (v : Value) (l nm num : List UInt8) (w : World) (hP : Pg w pb B prec v l) (hb : l.length + nm.length + num.length + 2 ≤ 140737488355328) :
    Calls Tryz.prog 63 #[.pointer (some ⟨pb, 0, none⟩), .string ⟨nm.toArray⟩, .slice none 0 0, .string ⟨num.toArray⟩, .slice none 0 0] w fun e w' => e = .returned (.tuple #[]) ∧ ∃ v', Pg w' pb B prec v' (l ++ (nm ++ ([32] ++ num)) ++ [10]) ∧ Wrote w pb v v' w' := by
  have HP := Lib.hid hP; clear hP
  go_enter Tryz.func63, Tryz.ntmps63
  go_wp2_with fail


  have hA := blk_new w (.cells #[.slice none 0 0, .slice none 0 0] 34)
  have HPA := Lib.hid (HP.out.alloc (.cells #[.slice none 0 0, .slice none 0 0] 34))
  have HOf : Hid (∀ v' w', Wrote (w.alloc (.cells #[.slice none 0 0, .slice none 0 0] 34)) pb v v' w' → Wrote w pb v v' w') := Lib.hid (fun v' w' h => h.ofAlloc)
  generalize w.alloc (.cells #[.slice none 0 0, .slice none 0 0] 34) = w1 at *
  refine (concat_nil _ _ (by rw [blk_cell hA]; rfl) (by rw [blk_cell hA]; rfl)).mono ?_
  rintro e w2 ⟨rfl, hw⟩; rw [hw]; clear hw w2
  go_wp2_with fail
  refine (print0_calls nm _).mono ?_
  rintro e w2 ⟨rfl, hw⟩; rw [hw]; clear hw w2 hA
  go_wp2_with fail
  refine (line_new pb B prec v l [nm, [32], num] w1 9 3 _ _ HPA.out (by simp) (by simp; omega) rfl rfl).mono ?_
  rintro e w2 ⟨rfl, v', h3, h4⟩
  have H3 := Lib.hid h3; have H4 := Lib.hid (HOf.out _ _ h4)
  clear h3 h4
  go_wp2_with fail
  go_end0
  refine ⟨rfl, v', ?_, H4.out⟩
  have := H3.out
  simpa using this
theorem Pg.only {S : Nat → Prop} {w w' : World} {pb B : Nat} {prec : Int} {v : Value} {l : List UInt8} (h : Pg w pb B prec v l) (O : Only S w w') (h1 : ¬ S pb) (h2 : ∀ k, v.ownBlock = some k → ¬ S k) : Pg w' pb B prec v l :=
  ⟨O.blk h.blk h1, own_keepS h.own O h2, h.lt, Nat.le_trans h.le O.size⟩
theorem Pg.still {w w' : World} {pb B : Nat} {prec : Int} {v : Value} {l : List UInt8} (h : Pg w pb B prec v l) (O : Only (fun _ => False) w w') : Pg w' pb B prec v l := h.only O (fun e => e) (fun _ _ e => e)
theorem Wrote.pre {w w1 w' : World} {pb : Nat} {v v' : Value} (O : Only (fun _ => False) w w1) (h : Wrote w1 pb v v' w') : Wrote w pb v v' w' := by
  refine ⟨(O.mono (fun _ _ e => e.elim)).trans h.only, ?_⟩
  rcases h.which with e | ⟨g, e, hg⟩
  · exact .inl e
  · exact .inr ⟨g, e, Nat.le_trans O.size hg⟩
theorem Wrote.post {w w1 w' : World} {pb : Nat} {v v' : Value} (h : Wrote w pb v v' w1) (O : Only (fun _ => False) w1 w') : Wrote w pb v v' w' :=
  ⟨h.only.trans (O.mono (fun _ _ e => e.elim)), h.which⟩
set_option maxHeartbeats 1600000 in
theorem counter_a (pb B : Nat) (prec : Int) (v : Value) (l : List UInt8) (w : World) (hP : Pg w pb B prec v l) (hb : l.length ≤ 1000000) :
    Calls Tryz.prog 32 #[.pointer (some ⟨pb, 0, none⟩), valA] w fun e w' => e = .returned (.tuple #[]) ∧ ∃ v', Pg w' pb B prec v' (l ++ [97, 32, 55, 10]) ∧ Wrote w pb v v' w' := by
  have HP := Lib.hid hP; clear hP
  unfold valA
  have K : Hid (∀ w, Calls Tryz.prog 64 #[.agg #[.int .i64 0, .int .u64 7]] w fun e w' => e = .returned (.string ⟨#[55]⟩) ∧ Only (fun _ => False) w w') := Lib.hid (fun w => widePrint_n 7 (by omega) w)
  go_enter Tryz.func32, Tryz.ntmps32
  go_wp2_with fail
  have hv := blk_new w (.cells #[.int .i64 1, .string ⟨#[97]⟩, .string ⟨#[]⟩, .slice none 0 0, .int .i64 0, .int .u64 7, .slice none 0 0, .int .u64 0, .float .f64 0, .float .f64 0, .float .f64 0] 42)
  have hO := Lib.hid ((Only.refl (fun _ => False) w).alloc (.cells #[.int .i64 1, .string ⟨#[97]⟩, .string ⟨#[]⟩, .slice none 0 0, .int .i64 0, .int .u64 7, .slice none 0 0, .int .u64 0, .float .f64 0, .float .f64 0, .float .f64 0] 42))
  generalize w.alloc (.cells #[.int .i64 1, .string ⟨#[97]⟩, .string ⟨#[]⟩, .slice none 0 0, .int .i64 0, .int .u64 7, .slice none 0 0, .int .u64 0, .float .f64 0, .float .f64 0, .float .f64 0] 42) = W at *
  have HPW := Lib.hid (HP.out.still hO.out)
  have hs2 : Hid (∀ S w', Only S W w' → ¬ S w.heap.size → w'.cell? ⟨w.heap.size, 1, none⟩ = some (.string ⟨#[97]⟩) ∧ w'.cell? ⟨w.heap.size, 3, none⟩ = some (.slice none 0 0) ∧ w'.cell? ⟨w.heap.size, 4, none⟩ = some (.int .i64 0) ∧ w'.cell? ⟨w.heap.size, 5, none⟩ = some (.int .u64 7)) := Lib.hid fun S w' O hS => by
    have q := O.blk hv hS
    exact ⟨by rw [blk_cell q]; rfl, by rw [blk_cell q]; rfl, by rw [blk_cell q]; rfl, by rw [blk_cell q]; rfl⟩
  have HV : Hid (pb ≠ w.heap.size ∧ v.ownBlock ≠ some w.heap.size) := Lib.hid (by
    have h1 := HP.out.lt
    have h2 := HP.out.le
    exact ⟨by omega, fun e => by have := (HP.out.own.lt _ e).2; omega⟩)
  have N0 : Only (fun _ => False) W W.drew := (Only.refl _ _).drew
  clear hv
  go_region_held3 (fun w' => w'.cell? ⟨w.heap.size, 1, none⟩ = some (.string ⟨#[97]⟩) ∧ w'.cell? ⟨w.heap.size, 3, none⟩ = some (.slice none 0 0) ∧ w'.cell? ⟨w.heap.size, 4, none⟩ = some (.int .i64 0) ∧ w'.cell? ⟨w.heap.size, 5, none⟩ = some (.int .u64 7))
    (first | (with_reducible exact hs2.out _ _ N0 id) | (with_reducible exact hs2.out _ _ N3 id) | (with_reducible exact hs2.out _ _ N4 F4))
    (first
      | (go_at_call 64; go_split_ands; refine (K.out _).mono ?_; rintro e w3 ⟨he, O3⟩; subst he; have N3 := N0.trans O3)
      | (go_at_call 63; go_split_ands; refine (series0_calls pb B prec v l [97] [55] _ (HPW.out.still N3) (by simp; omega)).mono ?_; rintro e w4 ⟨he, v', h3, h4⟩; subst he; have N4 := (N3.mono (T := fun k => k = pb ∨ v.ownBlock = some k) (fun _ _ e => e.elim)).trans h4.only; have F4 : ¬ (w.heap.size = pb ∨ v.ownBlock = some w.heap.size) := by (rintro (e | e); exact HV.out.1 e.symm; exact HV.out.2 e)))
  go_end0
  refine ⟨rfl, v', ?_, Wrote.pre (hO.out.trans N3) h4⟩
  simpa using h3
end Go.Proofs.YtiijgghholhcnaaGreatDoor

/- (*page).series at any labels. -/
namespace Go.Proofs.YtiijgghholhcnaaGreatDoor
open Go.RowKit
set_option maxRecDepth 1000000
theorem Lbs.none0 {w : World} {n : Nat} {L : Lb} {lp : Option Addr} (h : Lbs w lp n L) (e : lp = none) : n = 0 := by
  rcases Nat.eq_zero_or_pos n with q | q
  · exact q
  · obtain ⟨b, o, e2, _⟩ := h.at' 0 q
    rw [e] at e2; cases e2
theorem printz_calls (nm : List UInt8) (p : Option Addr) (c : Nat) (w : World) : Calls Tryz.prog 112 #[.string ⟨nm.toArray⟩, .slice p 0 c] w fun e w' => e = .returned (.string ⟨nm.toArray⟩) ∧ w' = w := by
  go_enter Tryz.func112, Tryz.ntmps112
  go_wp2_with fail
  go_ret
  exact ⟨rfl, rfl⟩
theorem printl_calls (nm : List UInt8) (lp : Option Addr) (n c : Nat) (L : Lb) (w : World) (hn2 : n ≤ 17) (hL : Lbs w lp n L) (hl : nm.length ≤ 1000) (hs : ∀ i, i < n → (L i).1.length ≤ 64 ∧ (L i).2.length ≤ 1024) :
    Calls Tryz.prog 112 #[.string ⟨nm.toArray⟩, .slice lp n c] w fun e w' => e = .returned (.string ⟨(labT nm L n).toArray⟩) ∧ Only (fun _ => False) w w' := by
  by_cases h0 : n = 0
  · subst h0
    refine (printz_calls nm lp c w).mono ?_
    rintro e w' ⟨rfl, rfl⟩
    exact ⟨rfl, Only.refl _ _⟩
  · exact lprint_calls nm lp n c L w (by omega) hn2 hL hl hs
theorem labT_le (nm : List UInt8) (L : Lb) (n : Nat) (hn : n ≤ 17) (h : ∀ i, i < n → (L i).1.length ≤ 64 ∧ (L i).2.length ≤ 1024) : (labT nm L n).length ≤ nm.length + 36000 := by
  unfold labT
  have h1 := labsT_le L n h n (Nat.le_refl _)
  have h2 : n * 2116 ≤ 17 * 2116 := Nat.mul_le_mul_right _ hn
  split
  · omega
  · simp only [List.length_append, List.length_cons, List.length_nil]; omega
theorem lcat_len {L M : Lb} {n m : Nat} (h1 : ∀ i, i < n → (L i).1.length ≤ 64 ∧ (L i).2.length ≤ 1024) (h2 : ∀ i, i < m → (M i).1.length ≤ 64 ∧ (M i).2.length ≤ 1024) : ∀ i, i < n + m → (lcat L M n i).1.length ≤ 64 ∧ (lcat L M n i).2.length ≤ 1024 := by
  intro i hi
  unfold lcat
  split
  · rename_i h; exact h1 i h
  · exact h2 _ (by omega)
set_option maxHeartbeats 1600000 in
theorem series_calls (pb B : Nat) (prec : Int) (v : Value) (l nm num : List UInt8) (lp mp : Option Addr) (n c m mc : Nat) (L M : Lb) (w : World) (hP : Pg w pb B prec v l) (hL : Lbs w lp n L) (hM : Lbs w mp m M) (hn : n + m ≤ 17)
    (h1 : ∀ i, i < n → (L i).1.length ≤ 64 ∧ (L i).2.length ≤ 1024) (h2 : ∀ i, i < m → (M i).1.length ≤ 64 ∧ (M i).2.length ≤ 1024) (hnm : nm.length ≤ 100) (hnum : num.length ≤ 1000) (hb : l.length + 40000 ≤ 140737488355328) :
    Calls Tryz.prog 63 #[.pointer (some ⟨pb, 0, none⟩), .string ⟨nm.toArray⟩, .slice lp n c, .string ⟨num.toArray⟩, .slice mp m mc] w fun e w' => e = .returned (.tuple #[]) ∧ ∃ v', Pg w' pb B prec v' (l ++ (labT nm (lcat L M n) (n + m) ++ ([32] ++ num)) ++ [10]) ∧ Wrote w pb v v' w' := by
  have HP := Lib.hid hP
  have hA := blk_new w (.cells #[.slice lp n c, .slice mp m mc] 34)
  have OA := (Only.refl (fun _ => False) w).alloc (.cells #[.slice lp n c, .slice mp m mc] 34)
  have KC := Lib.hid (concat_calls w.heap.size lp mp n m c mc L M (w.alloc (.cells #[.slice lp n c, .slice mp m mc] 34)) (by rw [blk_cell hA]; rfl) (by rw [blk_cell hA]; rfl) (blk_lt hA) (hL.still OA) (hM.still OA) hL.none0 hM.none0 (by omega))
  have HLC := Lib.hid (lcat_len h1 h2)
  have HT := Lib.hid (labT_le nm (lcat L M n) (n + m) hn (lcat_len h1 h2))
  have HO := Lib.hid OA
  clear hP hL hM h1 h2 hA OA
  generalize hTT : labT nm (lcat L M n) (n + m) = T at *
  have HTT := Lib.hid hTT; clear hTT
  go_enter Tryz.func63, Tryz.ntmps63
  go_wp2_with fail
  refine KC.out.mono ?_
  rintro e w2 ⟨p, k, rfl, O2, hl2⟩
  have HO2 := Lib.hid (HO.out.trans O2)
  have KL := Lib.hid (printl_calls nm p (n + m) k (lcat L M n) w2 hn hl2 (by omega) HLC.out)
  clear O2 hl2 HO KC
  go_wp2_with fail
  refine KL.out.mono ?_
  rintro e w3 ⟨rfl, O3⟩
  have HO3 := Lib.hid (HO2.out.trans O3)
  clear O3 HO2 KL
  rw [HTT.out]
  go_wp2_with fail
  refine (line_new pb B prec v l [T, [32], num] w3 9 3 _ _ (HP.out.still HO3.out) (by simp) (by have := HT.out; simp; omega) rfl rfl).mono ?_
  rintro e w4 ⟨rfl, v', h3, h4⟩
  have H3 := Lib.hid h3; have H4 := Lib.hid (Wrote.pre HO3.out h4)
  clear h3 h4
  go_wp2_with fail
  go_end0
  refine ⟨rfl, v', ?_, H4.out⟩
  have := H3.out
  simpa using this
end Go.Proofs.YtiijgghholhcnaaGreatDoor

/- The walk of label.Check at any description. -/
namespace Go.Proofs.YtiijgghholhcnaaGreatDoor
open Go.RowKit
set_option maxRecDepth 1000000
/-- what is wrong with the labels from number i on, by at most f more -/
def labelsE (L : Nat → List UInt8 × List UInt8) : Nat → Nat → Int
  | 0, _ => 0
  | f + 1, i => if lnameB (L i).1 = false then 9 else if valueE (L i).2 ≠ 0 then valueE (L i).2 else if behindE L i (L i).1 ≠ 0 then behindE L i (L i).1 else labelsE L f (i + 1)
/-- what is wrong with a description first -/
def descE (kind : Int) (nm help : List UInt8) (n : Nat) (L : Nat → List UInt8 × List UInt8) : Int :=
  if kind ≠ 1 ∧ kind ≠ 2 ∧ kind ≠ 3 then 7 else if nameB nm = false then 9 else if valueE help ≠ 0 then valueE help else if 16 < n then 3 else labelsE L n 0
def LcR (w0 : World) (n : Nat) (L : Nat → List UInt8 × List UInt8) (v40 : Value) (w : World) : Prop :=
  ∃ i : Nat, v40 = .int .i64 (i : Int) ∧ i ≤ n ∧ Only (fun _ => False) w0 w ∧ labelsE L n 0 = labelsE L (n - i) i
set_option maxHeartbeats 4000000 in
theorem dcheck_calls (kind : Int) (nm help : List UInt8) (lp : Option Addr) (n cap : Nat) (L : Nat → List UInt8 × List UInt8) (w : World) (h1 : nm.length ≤ 140737488355328) (h2 : help.length ≤ 140737488355328) (h3 : ∀ i, i < n → (L i).1.length ≤ 140737488355328 ∧ (L i).2.length ≤ 140737488355328)
    (hL : Lbs w lp n L) (hc : n ≤ cap) :
    Calls Tryz.prog 26 #[.agg #[.int .i64 kind, .string ⟨nm.toArray⟩, .string ⟨help.toArray⟩, .slice lp n cap]] w fun e w' => e = .returned (.int .i64 (descE kind nm help n L)) ∧ Only (fun _ => False) w w' := by
  have HL := Lib.hid hL
  have H3 := Lib.hid h3
  have KN := Lib.hid (fun w => name_calls nm w h1)
  have KV := Lib.hid (fun w => value_calls help w h2)
  clear hL h3 h1 h2
  have HD : Hid (descE kind nm help n L = if kind ≠ 1 ∧ kind ≠ 2 ∧ kind ≠ 3 then 7 else if nameB nm = false then 9 else if valueE help ≠ 0 then valueE help else if 16 < n then 3 else labelsE L n 0) := Lib.hid rfl
  generalize descE kind nm help n L = D at *
  go_enter Tryz.func26, Tryz.ntmps26
  go_upto_block 0 with fail
  have hb := blk_new w (.cells #[.int .i64 kind, .string ⟨nm.toArray⟩, .string ⟨help.toArray⟩, .slice lp n cap] 36)
  have hO := Lib.hid ((Only.refl (fun _ => False) w).alloc (.cells #[.int .i64 kind, .string ⟨nm.toArray⟩, .string ⟨help.toArray⟩, .slice lp n cap] 36))
  generalize w.alloc (.cells #[.int .i64 kind, .string ⟨nm.toArray⟩, .string ⟨help.toArray⟩, .slice lp n cap] 36) = w1 at *
  have HB := Lib.hid hb; clear hb
  obtain ⟨bn, hbn⟩ : ∃ b, b = nameB nm := ⟨_, rfl⟩
  rw [← hbn] at HD KN
  clear hbn
  go_cut [8] from 9 to 26 (fun _ wx => wx = w1 ∧ (kind = 1 ∨ kind = 2 ∨ kind = 3) ∧ bn = true)
  case first =>
    have c0 : w1.cell? ⟨w.heap.size, 0, none⟩ = some (.int .i64 kind) := by rw [blk_cell HB.out]; rfl
    have c1 : w1.cell? ⟨w.heap.size, 1, none⟩ = some (.string ⟨nm.toArray⟩) := by rw [blk_cell HB.out]; rfl
    rcases hk : decide (kind = 1 ∨ kind = 2 ∨ kind = 3) with _ | _
    · have hk' := of_decide_eq_false hk
      have k1 : (kind != 1) = true := by simp; omega
      have k2 : (kind != 2) = true := by simp; omega
      have k3 : (kind != 3) = true := by simp; omega
      clear hk
      have HK := Lib.hid hk'; clear hk'
      go_wp2_with fail
      go_ret
      refine ⟨?_, hO.out⟩
      rw [HD.out, if_pos (by have := HK.out; omega)]
      rfl
    · have hk' := of_decide_eq_true hk
      clear hk
      have HK := Lib.hid hk'
      rcases hk' with rfl | rfl | rfl
      all_goals
        go_wp2_with fail
        refine (KN.out _).mono ?_
        rintro e w2 ⟨rfl, hw⟩; rw [hw]; clear hw w2
        rcases bn
        · go_wp2_with fail
          go_ret
          refine ⟨?_, hO.out⟩
          rw [HD.out, if_neg (by have := HK.out; omega)]
          rfl
        · go_wp2_with fail
          go_meet
          exact ⟨rfl, HK.out, by first | rfl | trivial⟩
  case rest =>
    obtain ⟨hw, hk, hbt⟩ := hcut
    rw [hw]; clear hw
    subst hbt
    have HK := Lib.hid hk; clear hk
    have HD2 : Hid (D = if valueE help ≠ 0 then valueE help else if 16 < n then 3 else labelsE L n 0) := Lib.hid (by
      rw [HD.out, if_neg (by have := HK.out; omega)]; rfl)
    clear HD HK
    obtain ⟨ev, hev⟩ : ∃ e, e = valueE help := ⟨_, rfl⟩
    rw [← hev] at HD2 KV
    clear hev KN
    have c2 : w1.cell? ⟨w.heap.size, 2, none⟩ = some (.string ⟨help.toArray⟩) := by rw [blk_cell HB.out]; rfl
    go_upto_region 5 with fail
    go_wp2_with fail
    refine (KV.out _).mono ?_
    rintro e w2 ⟨rfl, hO2⟩
    have HO2 := Lib.hid (hO.out.trans hO2)
    have HB2 := Lib.hid (hO2.blk HB.out (fun e => e))
    have HL2 := Lib.hid (HL.out.still HO2.out)
    clear hO2 HB HL c2 hO
    by_cases he : ev = 0
    case neg =>
      have q : (ev != 0) = true := by simp [he]
      have HE := Lib.hid he; clear he
      go_wp2_with fail
      go_ret
      refine ⟨?_, HO2.out⟩
      rw [HD2.out, if_pos HE.out]; rfl
    subst he
    have c3 : w2.cell? ⟨w.heap.size, 3, none⟩ = some (.slice lp n cap) := by rw [blk_cell HB2.out]; rfl
    by_cases h16 : 16 < n
    · have q : decide ((16 : Int) < (n : Int)) = true := decide_eq_true (by omega)
      go_wp2_with fail
      go_ret
      refine ⟨?_, HO2.out⟩
      rw [HD2.out, if_neg (fun e => e rfl), if_pos h16]; rfl
    have q : decide ((16 : Int) < (n : Int)) = false := decide_eq_false (by omega)
    have HD3 : Hid (D = labelsE L n 0) := Lib.hid (by rw [HD2.out, if_neg (fun e => e rfl), if_neg h16])
    clear HD2
    go_wp2_with fail
    clear c3 q
    go_loopw [4, 5, 6, 7, 40] (fun _ _ _ _ v40 wr => LcR w2 n L v40 wr) (fun _ _ _ _ v40 _ => n - (intOf v40).toNat)
    case atStart => exact ⟨0, rfl, Nat.zero_le _, Only.refl _ _, rfl⟩
    case round =>
      obtain ⟨i, rfl, hi, hO3, hE⟩ := hrel
      have HE := Lib.hid hE; clear hE
      have HO3 := Lib.hid hO3
      have HB3 := Lib.hid (hO3.blk HB2.out (fun e => e))
      have HL3 := Lib.hid (HL2.out.still hO3)
      clear hO3
      by_cases h : i < n
      · obtain ⟨b, o, hlp, hbs, l0, l1⟩ := HL3.out.at' i h
        subst hlp
        obtain ⟨x, hx⟩ : ∃ x, x = (L i).1 := ⟨_, rfl⟩
        obtain ⟨y, hy⟩ : ∃ y, y = (L i).2 := ⟨_, rfl⟩
        rw [← hx] at l0
        rw [← hy] at l1
        have KN := Lib.hid (fun w => lname_calls x w (by rw [hx]; exact (H3.out i h).1))
        have KV := Lib.hid (fun w => value_calls y w (by rw [hy]; exact (H3.out i h).2))
        have KB := Lib.hid (fun w (O : Only (fun _ => False) w2 w) => behind_calls (some ⟨b, o, none⟩) i cap L x w (by omega) ((HL2.out.still O).take (by omega)))
        obtain ⟨m, hm⟩ : ∃ m, n - i = m + 1 := ⟨n - i - 1, by omega⟩
        have HX : Hid (labelsE L n 0 = if lnameB x = false then 9 else if valueE y ≠ 0 then valueE y else if behindE L i x ≠ 0 then behindE L i x else labelsE L m (i + 1)) := Lib.hid (by rw [HE.out, hm, labelsE, hx, hy])
        have HM := Lib.hid (show m = n - (i + 1) by omega)
        clear hx hy hm HE
        obtain ⟨bx, hbx⟩ : ∃ q, q = lnameB x := ⟨_, rfl⟩
        obtain ⟨ey, hey⟩ : ∃ q, q = valueE y := ⟨_, rfl⟩
        obtain ⟨eb, heb⟩ : ∃ q, q = behindE L i x := ⟨_, rfl⟩
        rw [← hbx] at HX KN
        rw [← hey] at HX KV
        rw [← heb] at HX KB
        clear hbx hey heb
        have hci : i ≤ cap := by omega
        have hw1 : wrap64 ((i : Int) + 1) = (i : Int) + 1 := by unfold wrap64; omega
        go_upto_region 13 with fail
        have hv := blk_new wr (.cells #[.string ⟨x.toArray⟩, .string ⟨y.toArray⟩] 47)
        have hO4 := (Only.refl (fun _ => False) wr).alloc (.cells #[.string ⟨x.toArray⟩, .string ⟨y.toArray⟩] 47)
        generalize wr.alloc (.cells #[.string ⟨x.toArray⟩, .string ⟨y.toArray⟩] 47) = w4 at *
        have HO4 := Lib.hid (HO3.out.trans hO4)
        have HB4 := Lib.hid (hO4.blk HB3.out (fun e => e))
        have HV4 := Lib.hid hv
        clear hO4 hv HB3 HL3 l0 l1 HO3
        generalize wr.heap.size = vb at *
        have x0 : w4.cell? ⟨vb, 0, none⟩ = some (.string ⟨x.toArray⟩) := by rw [blk_cell HV4.out]; rfl
        have x1 : w4.cell? ⟨vb, 1, none⟩ = some (.string ⟨y.toArray⟩) := by rw [blk_cell HV4.out]; rfl
        go_wp2_with fail
        refine (KN.out _).mono ?_
        rintro e w5 ⟨rfl, hw⟩; rw [hw]; clear hw w5
        rcases bx
        · go_wp2_with fail
          go_ret
          refine ⟨?_, HO2.out.trans HO4.out⟩
          rw [HD3.out, HX.out]; rfl
        go_wp2_with fail
        refine (KV.out _).mono ?_
        rintro e w5 ⟨rfl, hO5⟩
        have HO5 := Lib.hid (HO4.out.trans hO5)
        have HB5 := Lib.hid (hO5.blk HB4.out (fun e => e))
        have HV5 := Lib.hid (hO5.blk HV4.out (fun e => e))
        clear hO5 HO4 HB4 HV4 x0 x1
        by_cases he : ey = 0
        case neg =>
          have q : (ey != 0) = true := by simp [he]
          have HE := Lib.hid he; clear he
          go_wp2_with fail
          go_ret
          refine ⟨?_, HO2.out.trans HO5.out⟩
          rw [HD3.out, HX.out, if_neg (fun e => by cases e), if_pos HE.out]; rfl
        subst he
        have x0 : w5.cell? ⟨vb, 0, none⟩ = some (.string ⟨x.toArray⟩) := by rw [blk_cell HV5.out]; rfl
        have c3 : w5.cell? ⟨w.heap.size, 3, none⟩ = some (.slice (some ⟨b, o, none⟩) n cap) := by rw [blk_cell HB5.out]; rfl
        go_upto_region 18 with fail
        have KB5 := Lib.hid (fun k => KB.out (w5.drewN k) (HO5.out.drewN k))
        go_quiet ((go_at_call 52; exact Calls.quiet_of_same (KB5.out _)))
        have HO6 := Lib.hid (HO5.out.drewN nq)
        generalize w5.drewN nq = w6 at *
        clear KB5 x0 c3 HB5 HV5 HO5
        by_cases he : eb = 0
        case neg =>
          have q : (eb != 0) = true := by simp [he]
          have HE := Lib.hid he; clear he
          go_wp2_with fail
          go_ret
          refine ⟨?_, HO2.out.trans HO6.out⟩
          rw [HD3.out, HX.out, if_neg (fun e => by cases e), if_neg (fun e => e rfl), if_pos HE.out]; rfl
        subst he
        go_wp2_with fail
        refine ⟨⟨i + 1, by first | rfl | exact congrArg (Value.int .i64) (by omega), by omega, HO6.out, ?_⟩, by simp only [intOf]; omega⟩
        rw [HX.out, if_neg (fun e => by cases e), if_neg (fun e => e rfl), if_neg (fun e => e rfl), HM.out]
      · obtain rfl : i = n := by omega
        have t1 : decide ((i : Int) < (i : Int)) = false := decide_eq_false (by omega)
        go_wp2_with fail
        go_ret
        refine ⟨?_, HO2.out.trans HO3.out⟩
        rw [HD3.out, HE.out, Nat.sub_self]; rfl
end Go.Proofs.YtiijgghholhcnaaGreatDoor
