/- The walk of histogram (its lines) at any value. -/
import Derived.Test.YtiijgghholhcnaaGreatDoorJL41
namespace Go.Proofs.YtiijgghholhcnaaGreatDoor
open Go.RowKit
set_option maxRecDepth 1000000
def leS : List UInt8 := [108, 101]
def infS : List UInt8 := [43, 73, 110, 102]
/-- the lines of the first counts -/
def hisK (p : Nat) (V : Vl) : Nat → List UInt8
  | 0 => []
  | k + 1 => hisK p V k ++ serT (V.nm ++ bckS) V.L V.ln (oneL leS (Lib.itoa (highN p V.X k : Int))) 1 (Lib.decDigits (totN V.C (k + 1)))
def histT (p : Nat) (V : Vl) : List UInt8 :=
  hisK p V V.cn ++ (serT (V.nm ++ bckS) V.L V.ln (oneL leS infS) 1 (Lib.decDigits V.N) ++ (serT (V.nm ++ sumS) V.L V.ln noL 0 (wideT V.hi.toNat V.lo) ++ serT (V.nm ++ cntS) V.L V.ln noL 0 (Lib.decDigits V.N)))
theorem itoa_len20 (u : Nat) (h : u < 9223372036854775808) : (Lib.itoa (u : Int)).length ≤ 20 := by
  rw [Lib.itoa_nonneg]; exact dec_size u (by omega)
theorem one_le {a b : List UInt8} (ha : a.length ≤ 64) (hb : b.length ≤ 1024) : ∀ i, i < 1 → (oneL a b i).1.length ≤ 64 ∧ (oneL a b i).2.length ≤ 1024 := fun _ _ => ⟨ha, hb⟩
theorem hisK_le (p : Nat) (V : Vl) (hG : Gv V) (hp1 : 1 ≤ p) (hp2 : p ≤ 14) (hx : ∀ j, j < V.cn → 0 ≤ V.X j ∧ V.X j < lenB p) : ∀ k, k ≤ V.cn → (hisK p V k).length ≤ k * 40000
  | 0, _ => by simp [hisK]
  | k + 1, hk => by
    have h1 := hisK_le p V hG hp1 hp2 hx k (by omega)
    obtain ⟨_, _, _, _, _, _, h2⟩ := ends_nat (p := p) (X := V.X) (i := k) hp1 hp2 (hx k (by omega)).1 (hx k (by omega)).2
    have h3 : (serT (V.nm ++ bckS) V.L V.ln (oneL leS (Lib.itoa (highN p V.X k : Int))) 1 (Lib.decDigits (totN V.C (k + 1)))).length ≤ 40000 :=
      serT_le _ _ _ _ _ _ (by have := hG.ln; omega) hG.labs (one_le (by decide) (Nat.le_trans (itoa_len20 _ h2) (by decide))) (by have := (name_len hG.nm).2; simp [bckS]; omega) (Nat.le_trans (dec_size _ (totN_lt _ _)) (by decide))
    rw [hisK, List.length_append]
    omega
/-- in the loop -/
structure HpS (w0 w : World) (pb B : Nat) (p : Nat) (v0 v : Value) (l : List UInt8) (vb : Nat) (o : Obj) (w1 : World) : Prop where
  px : Px w0 w1 pb B (p : Int) v l
  own : Own w1 pb v vb o
  wr : Wrote w pb v0 v w1
def HpL (w0 w : World) (pb B : Nat) (p n : Nat) (C : Nat → Nat) (F : Nat → List UInt8) (v0 : Value) (vb : Nat) (o : Obj) (v6 v20 : Value) (w1 : World) : Prop :=
  ∃ (i : Nat) (v : Value), v6 = .int .u64 (totN C i : Int) ∧ v20 = .int .i64 (i : Int) ∧ i ≤ n ∧ HpS w0 w pb B p v0 v (F i) vb o w1
theorem HpS.still {w0 w : World} {pb B p : Nat} {v0 v : Value} {l : List UInt8} {vb : Nat} {o : Obj} {w1 w2 : World} (h : HpS w0 w pb B p v0 v l vb o w1) (O : Only (fun _ => False) w1 w2) : HpS w0 w pb B p v0 v l vb o w2 :=
  ⟨h.px.still O, h.own.still O, h.wr.trans (Wrote.pre O (Wrote.refl _ _ _))⟩
theorem HpS.next {w0 w : World} {pb B p : Nat} {v0 v v' : Value} {l l' : List UInt8} {vb : Nat} {o : Obj} {w1 w2 : World} (h : HpS w0 w pb B p v0 v l vb o w1) (hp : Px w0 w2 pb B (p : Int) v' l') (hw : Wrote w1 pb v v' w2) : HpS w0 w pb B p v0 v' l' vb o w2 :=
  ⟨hp, h.own.next hw, h.wr.trans hw⟩
set_option maxHeartbeats 4000000 in
theorem hprint_calls (w0 : World) (pb B p : Nat) (v : Value) (l : List UInt8) (V : Vl) (w : World) (hX : Px w0 w pb B (p : Int) v l) (hE : Re.Env w0) (hV : Vok w0 V) (hG : Gv V) (hp1 : 1 ≤ p) (hp2 : p ≤ 14) (hm : mayE (p : Int) V.cn V.X V.C = 0) (hn : V.cn ≤ 1000000) (hh1 : 0 ≤ V.hi) (hh2 : V.hi < 9223372036854775808) (hb : l.length + 50000000000 ≤ 140737488355328) :
    Calls Tryz.prog 33 #[.pointer (some ⟨pb, 0, none⟩), .agg V.cells] w fun e w' => e = .returned (.tuple #[]) ∧ ∃ v', Px w0 w' pb B (p : Int) v' (l ++ histT p V) ∧ Wrote w pb v v' w' := by
  have HX := Lib.hid hX
  have HE := Lib.hid hE
  obtain ⟨T, hT⟩ : ∃ T, T = histT p V := ⟨_, rfl⟩
  rw [← hT]
  unfold histT at hT
  have hmo := may_ok hm
  have HKL := Lib.hid (hisK_le p V hG hp1 hp2 (fun j hj => (hmo j hj).1))
  have HV := Lib.hid (And.intro hV.labs (And.intro hG.labs (And.intro hV.cnts (And.intro hV.cC (And.intro hV.cN hV.clo)))))
  have HNL := Lib.hid (And.intro hG.ln (name_len hG.nm).2)
  obtain ⟨F, hF⟩ : ∃ F : Nat → List UInt8, F = fun k => l ++ hisK p V k := ⟨_, rfl⟩
  have HF0 := Lib.hid (show F 0 = l by rw [hF]; simp [hisK])
  have HFn := Lib.hid (show ∀ k, F k = l ++ hisK p V k from fun k => by rw [hF])
  have HFk := Lib.hid (show ∀ k, F (k + 1) = F k ++ serT (V.nm ++ bckS) V.L V.ln (oneL leS (Lib.itoa (highN p V.X k : Int))) 1 (Lib.decDigits (totN V.C (k + 1))) from fun k => by rw [hF]; simp only [hisK, List.append_assoc])
  clear hX hE hV hG hF hm
  obtain ⟨kind, nm, help, lp, ln, lc, L, hi, lo, cp, cn, cc, X, C, N, sum, mn, mx⟩ := V
  unfold Vl.cells
  dsimp only at *
  obtain ⟨hh, rfl⟩ : ∃ h : Nat, hi = (h : Int) := ⟨hi.toNat, by omega⟩
  rw [Int.toNat_natCast] at hT
  have HT := Lib.hid hT
  have HMO := Lib.hid hmo
  have HBD := Lib.hid (And.intro hn (And.intro hb (show hh < 9223372036854775808 by omega)))
  have HP12 := Lib.hid (And.intro hp1 hp2)
  have KW := Lib.hid (fun w' (O : Only (fun _ => False) w0 w') => wprint_calls hh lo w' (by omega) HV.out.2.2.2.2.2 (HE.out.2.still O (fun e => e)))
  have HWL := Lib.hid (wideT_len hh lo (by omega) HV.out.2.2.2.2.2)
  have KD := Lib.hid (fun u (hu : u < 18446744073709551616) w' (O : Only (fun _ => False) w0 w') => digitsU_calls u w' hu (HE.out.2.still O (fun e => e)))
  have KI := Lib.hid (fun (u : Nat) (hu : u < 9223372036854775808) w' (O : Only (fun _ => False) w0 w') => fmtI_calls (u : Int) w' (by omega) (by omega) (HE.out.2.still O (fun e => e)))
  have KR := Lib.hid (fun v l nm' num mp m mc M w (hP : Px w0 w pb B (p : Int) v l) (hM : Lbs w mp m M) (hm : m ≤ 1) (h2 : ∀ i, i < m → (M i).1.length ≤ 64 ∧ (M i).2.length ≤ 1024) (hnm : nm'.length ≤ 100) (hnum : num.length ≤ 1000) (hb : l.length + 40000 ≤ 140737488355328) => ser_px w0 pb B (p : Int) v l nm' num lp mp ln lc m mc L M w hP (HV.out.1.still hP.only) hM (by have := HNL.out; omega) HV.out.2.1 h2 hnm hnum hb)
  clear hT hmo hn hb hh1 hh2 hp1 hp2
  have hzn : (⟨nm.toArray⟩ : ByteArray).size ≤ 64 := HNL.out.2
  have eb : (⟨nm.toArray⟩ : ByteArray) ++ (⟨#[95, 98, 117, 99, 107, 101, 116]⟩ : ByteArray) = ⟨(nm ++ [95, 98, 117, 99, 107, 101, 116]).toArray⟩ := ba_app nm [95, 98, 117, 99, 107, 101, 116]
  have es : (⟨nm.toArray⟩ : ByteArray) ++ (⟨#[95, 115, 117, 109]⟩ : ByteArray) = ⟨(nm ++ [95, 115, 117, 109]).toArray⟩ := ba_app nm [95, 115, 117, 109]
  have ec : (⟨nm.toArray⟩ : ByteArray) ++ (⟨#[95, 99, 111, 117, 110, 116]⟩ : ByteArray) = ⟨(nm ++ [95, 99, 111, 117, 110, 116]).toArray⟩ := ba_app nm [95, 99, 111, 117, 110, 116]
  generalize hNB : (⟨nm.toArray⟩ : ByteArray) = NB at *
  have HNB := Lib.hid hNB; clear hNB
  have ks1 := run_stf
  go_enter Tryz.func33, Tryz.ntmps33
  go_upto_region 1 with fail
  have hv := blk_new w (.cells #[.int .i64 kind, .string NB, .string ⟨help.toArray⟩, .slice lp ln lc, .int .i64 (hh : Int), .int .u64 (lo : Int), .slice cp cn cc, .int .u64 (N : Int), .float .f64 sum, .float .f64 mn, .float .f64 mx] 42)
  have hO := (Only.refl (fun _ => False) w).alloc (.cells #[.int .i64 kind, .string NB, .string ⟨help.toArray⟩, .slice lp ln lc, .int .i64 (hh : Int), .int .u64 (lo : Int), .slice cp cn cc, .int .u64 (N : Int), .float .f64 sum, .float .f64 mn, .float .f64 mx] 42)
  have hXb := HX.out.own hv
  have HXW := Lib.hid (HX.out.still hO)
  have HWp := Lib.hid (show ∀ v' w', Wrote (w.alloc (.cells #[.int .i64 kind, .string NB, .string ⟨help.toArray⟩, .slice lp ln lc, .int .i64 (hh : Int), .int .u64 (lo : Int), .slice cp cn cc, .int .u64 (N : Int), .float .f64 sum, .float .f64 mn, .float .f64 mx] 42)) pb v v' w' → Wrote w pb v v' w' from fun v' w' h => h.ofAlloc)
  generalize w.alloc (.cells #[.int .i64 kind, .string NB, .string ⟨help.toArray⟩, .slice lp ln lc, .int .i64 (hh : Int), .int .u64 (lo : Int), .slice cp cn cc, .int .u64 (N : Int), .float .f64 sum, .float .f64 mn, .float .f64 mx] 42) = W at *
  generalize w.heap.size = vb at *
  have HB := Lib.hid hXb
  clear hO hv hXb
  have c1 : W.cell? ⟨vb, 1, none⟩ = some (.string NB) := by rw [blk_cell HB.out.blk]; rfl
  have c3 : W.cell? ⟨vb, 3, none⟩ = some (.slice lp ln lc) := by rw [blk_cell HB.out.blk]; rfl
  go_quiet (fail)
  go_upto_region 2 with fail
  have hO1 := (Only.refl (fun _ => False) W).drewN nq
  generalize W.drewN nq = w1 at *
  have HS1 : Hid (HpS w0 w pb B p v v (F 0) vb (.cells #[.int .i64 kind, .string NB, .string ⟨help.toArray⟩, .slice lp ln lc, .int .i64 (hh : Int), .int .u64 (lo : Int), .slice cp cn cc, .int .u64 (N : Int), .float .f64 sum, .float .f64 mn, .float .f64 mx] 42) w1) := Lib.hid ⟨by rw [HF0.out]; exact HXW.out.still hO1, HB.out.still hO1, HWp.out _ _ (Wrote.pre hO1 (Wrote.refl _ _ _))⟩
  clear hO1 HXW HB HWp c1 c3
  have c6 : w1.cell? ⟨vb, 6, none⟩ = some (.slice cp cn cc) := by rw [blk_cell HS1.out.own.blk]; rfl
  go_wp2_with fail
  clear c6
  go_loopw [6, 20] (fun v6 v20 wr => HpL w0 w pb B p cn C F v vb (.cells #[.int .i64 kind, .string NB, .string ⟨help.toArray⟩, .slice lp ln lc, .int .i64 (hh : Int), .int .u64 (lo : Int), .slice cp cn cc, .int .u64 (N : Int), .float .f64 sum, .float .f64 mn, .float .f64 mx] 42) v6 v20 wr) (fun _ v20 _ => cn - (intOf v20).toNat)
  case atStart => exact ⟨0, v, rfl, rfl, Nat.zero_le _, HS1.out⟩
  case round =>
    obtain ⟨i, v1, rfl, rfl, hi, hS⟩ := hrel
    have HS := Lib.hid hS; clear hS HS1
    by_cases h : i < cn
    · have t1 : decide ((i : Int) < (cn : Int)) = true := decide_eq_true (by omega)
      have hw1 : wrap64 ((i : Int) + 1) = ((i + 1 : Nat) : Int) := by rw [IntWalk.wrap64_in _ ⟨by omega, by have := HBD.out; omega⟩]; omega
      obtain ⟨bx, ox, hcp, g1, g2, g3⟩ := (HV.out.2.2.1.still HS.out.px.only).at' i h
      subst hcp
      have hm := HMO.out i h
      obtain ⟨xi, hx, hxl, hlow, hhigh, hla, hlb2⟩ := ends_nat (p := p) (X := X) (i := i) HP12.out.1 HP12.out.2 hm.1.1 hm.1.2
      have K2 := Lib.hid (fun w => high_calls p xi w HP12.out.1 HP12.out.2 hxl)
      rw [hhigh] at K2
      have hci := HV.out.2.2.2.1 i h
      have HFi := Lib.hid (HFk.out i)
      have HFL := Lib.hid (show (F i).length + 40000 ≤ 140737488355328 by rw [HFn.out, List.length_append]; have := HKL.out i (by omega); have := HBD.out; have : i * 40000 ≤ 1000000 * 40000 := Nat.mul_le_mul_right _ (by omega); omega)
      have hto : IntKind.u64.wrap ((totN C i : Int) + (C i : Int)) = (totN C (i + 1) : Int) := by
        rw [u64_wrp]; show _ = (((totN C i + C i) % 18446744073709551616 : Nat) : Int); omega
      have HTL := Lib.hid (totN_lt C (i + 1))
      have HLH := Lib.hid hlb2
      rw [hx] at g2
      clear hm hxl hlow hhigh hla hlb2 hx hci
      generalize hTE : totN C (i + 1) = t' at *
      have HTE := Lib.hid hTE; clear hTE
      generalize totN C i = t at *
      generalize highN p X i = hg at *
      generalize C i = ci at *
      go_upto_region 7 with fail
      have hcb := blk_new wr (.cells #[.int .i64 (xi : Int), .int .u64 (ci : Int)] 79)
      have O7 := (Only.refl (fun _ => False) wr).alloc (.cells #[.int .i64 (xi : Int), .int .u64 (ci : Int)] 79)
      generalize wr.alloc (.cells #[.int .i64 (xi : Int), .int .u64 (ci : Int)] 79) = w7 at *
      have HCB := Lib.hid hcb
      have HS7 := Lib.hid (HS.out.still O7)
      clear hcb O7 g1 g2 g3 HS hto
      generalize hxb : wr.heap.size = xb at *
      clear hxb
      have hs2 : Hid (∀ w', Only (fun _ => False) w7 w' → w'.cell? ⟨pb, 1, none⟩ = some (.int .i64 (p : Int)) ∧ w'.cell? ⟨xb, 0, none⟩ = some (.int .i64 (xi : Int))) := Lib.hid fun w' O => by
        have q1 := O.blk HS7.out.px.pg.blk (fun e => e)
        have q2 := O.blk HCB.out (fun e => e)
        exact ⟨by rw [blk_cell q1]; rfl, by rw [blk_cell q2]; rfl⟩
      have N0 : Only (fun _ => False) w7 w7.drew := (Only.refl _ _).drew
      go_region_held3 (fun w' => w'.cell? ⟨pb, 1, none⟩ = some (.int .i64 (p : Int)) ∧ w'.cell? ⟨xb, 0, none⟩ = some (.int .i64 (xi : Int)))
        (first | (with_reducible exact hs2.out _ N0) | (with_reducible exact hs2.out _ N3))
        (first
          | (go_at_call 65; go_split_ands; refine (K2.out _).mono ?_; rintro e w8 ⟨he, O3⟩; subst he; have N3 := N0.trans O3))
      have HS8 := Lib.hid (HS7.out.still N3)
      clear N3 O3 N0 hs2 HS7 HCB K2
      go_wp2_with fail
      refine (KD.out t' HTL.out _ HS8.out.px.only).mono ?_
      rintro e w9 ⟨rfl, Oa⟩
      have HS9 := Lib.hid (HS8.out.still Oa)
      clear Oa HS8
      go_wp2_with fail
      refine (KI.out hg HLH.out _ HS9.out.px.only).mono ?_
      rintro e w10 ⟨rfl, Oa⟩
      have HS10 := Lib.hid (HS9.out.still Oa)
      clear Oa HS9
      have HIL := Lib.hid (itoa_len20 hg HLH.out)
      go_wp2_with fail
      have hl := blk_new w10 (.cells #[.string ⟨#[108, 101]⟩, .string ⟨(Lib.itoa (hg : Int)).toArray⟩] 47)
      have Ol := (Only.refl (fun _ => False) w10).alloc (.cells #[.string ⟨#[108, 101]⟩, .string ⟨(Lib.itoa (hg : Int)).toArray⟩] 47)
      have KS := Lib.hid (KR.out _ _ (nm ++ bckS) (Lib.decDigits t') (some ⟨w10.heap.size, 0, none⟩) 1 1 (oneL leS (Lib.itoa (hg : Int))) _ (HS10.out.still Ol).px (one_lbs hl) (Nat.le_refl _) (one_le (by decide) (by have := HIL.out; omega)) (by have := HNL.out; simp [bckS]; omega) (Nat.le_trans (dec_size _ HTL.out) (by decide)) HFL.out)
      rw [show (⟨(nm ++ bckS).toArray⟩ : ByteArray) = ⟨(nm ++ [95, 98, 117, 99, 107, 101, 116]).toArray⟩ from rfl] at KS
      have HSl := Lib.hid (HS10.out.still Ol)
      clear hl Ol HS10
      refine KS.out.mono ?_
      rintro e w11 ⟨rfl, v2, hx, hw⟩
      have HS11 := Lib.hid (HSl.out.next hx hw)
      clear hx hw KS HSl
      go_wp2_with fail
      exact ⟨⟨i + 1, v2, by rw [HTE.out], congrArg (Value.int .i64) hw1, by omega, by rw [HFi.out]; exact HS11.out⟩, by rw [hw1]; simp only [intOf]; omega⟩
    · obtain rfl : i = cn := by omega
      have t1 : decide ((i : Int) < (i : Int)) = false := decide_eq_false (by omega)
      have HFL := Lib.hid (show (F i).length + 1000000 ≤ 140737488355328 by rw [HFn.out, List.length_append]; have := HKL.out i (Nat.le_refl _); have := HBD.out; have : i * 40000 ≤ 1000000 * 40000 := Nat.mul_le_mul_right _ (by omega); omega)
      have HQ1 : Hid ((serT (nm ++ bckS) L ln (oneL leS infS) 1 (Lib.decDigits N)).length ≤ 40000 ∧ (serT (nm ++ sumS) L ln noL 0 (wideT hh lo)).length ≤ 40000) := Lib.hid ⟨serT_le _ _ _ _ _ _ (by have := HNL.out; omega) HV.out.2.1 (one_le (by decide) (by decide)) (by have := HNL.out; simp [bckS]; omega) (Nat.le_trans (dec_size _ HV.out.2.2.2.2.1) (by decide)), serT_le _ _ _ _ _ _ (by have := HNL.out; omega) HV.out.2.1 (fun i hi => absurd hi (Nat.not_lt_zero i)) (by have := HNL.out; simp [sumS]; omega) (Nat.le_trans HWL.out (by decide))⟩
      have HND := Lib.hid (HV.out.2.2.2.2.1)
      have c7 : wr.cell? ⟨vb, 7, none⟩ = some (.int .u64 (N : Int)) := by rw [blk_cell HS.out.own.blk]; rfl
      go_wp2_with fail
      refine (KD.out N HND.out _ HS.out.px.only).mono ?_
      rintro e w9 ⟨rfl, Oa⟩
      have HS9 := Lib.hid (HS.out.still Oa)
      clear Oa HS c7
      go_wp2_with fail
      have hl := blk_new w9 (.cells #[.string ⟨#[108, 101]⟩, .string ⟨#[43, 73, 110, 102]⟩] 47)
      have Ol := (Only.refl (fun _ => False) w9).alloc (.cells #[.string ⟨#[108, 101]⟩, .string ⟨#[43, 73, 110, 102]⟩] 47)
      have KS := Lib.hid (KR.out _ _ (nm ++ bckS) (Lib.decDigits N) (some ⟨w9.heap.size, 0, none⟩) 1 1 (oneL leS infS) _ (HS9.out.still Ol).px (one_lbs hl) (Nat.le_refl _) (one_le (by decide) (by decide)) (by have := HNL.out; simp [bckS]; omega) (Nat.le_trans (dec_size _ HND.out) (by decide)) (by have := HFL.out; omega))
      rw [show (⟨(nm ++ bckS).toArray⟩ : ByteArray) = ⟨(nm ++ [95, 98, 117, 99, 107, 101, 116]).toArray⟩ from rfl] at KS
      have HSl := Lib.hid (HS9.out.still Ol)
      clear hl Ol HS9
      refine KS.out.mono ?_
      rintro e w11 ⟨rfl, v2, hx, hw⟩
      have HS11 := Lib.hid (HSl.out.next hx hw)
      clear hx hw KS HSl
      have c4 : w11.cell? ⟨vb, 4, none⟩ = some (.int .i64 (hh : Int)) := by rw [blk_cell HS11.out.own.blk]; rfl
      have c5 : w11.cell? ⟨vb, 5, none⟩ = some (.int .u64 (lo : Int)) := by rw [blk_cell HS11.out.own.blk]; rfl
      go_wp2_with fail
      refine (KW.out _ HS11.out.px.only).mono ?_
      rintro e w12 ⟨rfl, Oa⟩
      have HS12 := Lib.hid (HS11.out.still Oa)
      clear Oa HS11 c4 c5
      go_wp2_with fail
      have KS := Lib.hid (KR.out _ _ (nm ++ sumS) (wideT hh lo) none 0 0 noL _ HS12.out.px (no_lbs _ _) (by omega) (fun i hi => absurd hi (Nat.not_lt_zero i)) (by have := HNL.out; simp [sumS]; omega) (Nat.le_trans HWL.out (by decide)) (by simp only [List.length_append]; have := HFL.out; have := HQ1.out; omega))
      rw [show (⟨(nm ++ sumS).toArray⟩ : ByteArray) = ⟨(nm ++ [95, 115, 117, 109]).toArray⟩ from rfl] at KS
      refine KS.out.mono ?_
      rintro e w13 ⟨rfl, v3, hx, hw⟩
      have HS13 := Lib.hid (HS12.out.next hx hw)
      clear hx hw KS HS12
      have c7 : w13.cell? ⟨vb, 7, none⟩ = some (.int .u64 (N : Int)) := by rw [blk_cell HS13.out.own.blk]; rfl
      go_wp2_with fail
      refine (KD.out N HND.out _ HS13.out.px.only).mono ?_
      rintro e w14 ⟨rfl, Oa⟩
      have HS14 := Lib.hid (HS13.out.still Oa)
      clear Oa HS13 c7
      go_wp2_with fail
      have KS := Lib.hid (KR.out _ _ (nm ++ cntS) (Lib.decDigits N) none 0 0 noL _ HS14.out.px (no_lbs _ _) (by omega) (fun i hi => absurd hi (Nat.not_lt_zero i)) (by have := HNL.out; simp [cntS]; omega) (Nat.le_trans (dec_size _ HND.out) (by decide)) (by simp only [List.length_append]; have := HFL.out; have := HQ1.out; omega))
      rw [show (⟨(nm ++ cntS).toArray⟩ : ByteArray) = ⟨(nm ++ [95, 99, 111, 117, 110, 116]).toArray⟩ from rfl] at KS
      refine KS.out.mono ?_
      rintro e w15 ⟨rfl, v4, hx, hw⟩
      have HS15 := Lib.hid (HS14.out.next hx hw)
      clear hx hw KS HS14
      go_wp2_with fail
      go_end0
      refine ⟨rfl, v4, ?_, HS15.out.wr⟩
      have := HS15.out.px
      rw [HFn.out] at this
      rw [HT.out]
      simpa only [List.append_assoc] using this
end Go.Proofs.YtiijgghholhcnaaGreatDoor
