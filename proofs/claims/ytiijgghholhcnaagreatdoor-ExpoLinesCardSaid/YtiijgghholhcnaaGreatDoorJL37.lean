/- The walk of snap.histogram at any value. -/
import Derived.Test.YtiijgghholhcnaaGreatDoorJL36
import Derived.Test.YtiijgghholhcnaaGreatDoorJL05
import Derived.Deep.RegionLaw
import Derived.Deep.RegionHeld3
namespace Go.Proofs.YtiijgghholhcnaaGreatDoor
open Go.RowKit
set_option maxRecDepth 1000000
/-- the least sum, the greatest sum, of the first counts: high and low halves -/
def sumT (g : Nat → Nat) (N : Nat → Nat) : Nat → Int × Int
  | 0 => (0, 0)
  | k + 1 => (hiSum (sumT g N k).1 (sumT g N k).2 (timesHi (g k) (N k)) ((g k * N k % 18446744073709551616 : Nat) : Int), ((loSum (sumT g N k).2 ((g k * N k % 18446744073709551616 : Nat) : Int) : Nat) : Int))
theorem sumT_lo (g : Nat → Nat) (N : Nat → Nat) (k : Nat) : (sumT g N k).2 ≤ 18446744073709551615 := by
  cases k with
  | zero => exact (show (0 : Int) ≤ 18446744073709551615 by decide)
  | succ k =>
    show ((loSum _ _ : Nat) : Int) ≤ _
    unfold loSum lowOf
    have := Nat.mod_lt ((sumT g N k).2.toNat + (((g k * N k % 18446744073709551616 : Nat) : Int)).toNat) (show 0 < 18446744073709551616 by decide)
    omega
def lowN (p : Nat) (X : Nat → Int) (i : Nat) : Nat := (lowB p (X i).toNat).toNat
def highN (p : Nat) (X : Nat → Int) (i : Nat) : Nat := (wrap64 (lowB p (X i).toNat + moreB p (X i).toNat)).toNat
theorem low_range {p i : Nat} (h1 : 1 ≤ p) (h2 : p ≤ 14) (h : (i : Int) < lenB p) : 0 ≤ lowB p i ∧ lowB p i < 9223372036854775808 ∧ 0 ≤ lowB p i + moreB p i ∧ lowB p i + moreB p i < 9223372036854775808 := by
  have hB : lenB p = (64 - (p : Int)) * 2 ^ p := by unfold lenB; rw [if_pos ⟨by omega, by omega⟩]; rfl
  rw [hB] at h
  have P1 := pow_le14 p h2
  by_cases hi : i < 2 ^ p
  · unfold lowB moreB
    rw [if_pos hi, if_pos hi]
    have : (i : Int) < 2 ^ p := by exact_mod_cast hi
    omega
  · have hi2 : 2 ^ p ≤ i := Nat.le_of_not_lt hi
    have P0 : 0 < 2 ^ p := Nat.pow_pos (by omega)
    obtain ⟨d, hd⟩ : ∃ d, d = i / 2 ^ p := ⟨_, rfl⟩
    have hd1 : 1 ≤ d := by rw [hd]; exact (Nat.one_le_div_iff P0).2 hi2
    have hd2 : d < 64 - p := by
      rw [hd]
      refine Nat.div_lt_of_lt_mul ?_
      have e : ((64 - p : Nat) : Int) = 64 - (p : Int) := by omega
      rw [← e] at h
      rw [Nat.mul_comm]
      exact_mod_cast h
    obtain ⟨k, hk⟩ : ∃ k, k + 1 = d := ⟨d - 1, by omega⟩
    have e1 : lowB p i = ((i : Int) - (k : Int) * 2 ^ p) * 2 ^ k := by unfold lowB; rw [if_neg hi, ← hd, show d - 1 = k by omega]
    have e2 : moreB p i = 2 ^ k - 1 := by unfold moreB; rw [if_neg hi, ← hd, show d - 1 = k by omega]
    rw [e1, e2]
    have h1' : (k + 1) * 2 ^ p ≤ i := by rw [hk, hd]; exact Nat.div_mul_le_self _ _
    have h2' : i < (k + 2) * 2 ^ p := (Nat.div_lt_iff_lt_mul P0).1 (by omega)
    have K0 : 0 < 2 ^ k := Nat.pow_pos (by omega)
    have hKP : 2 * 2 ^ p * 2 ^ k ≤ 9223372036854775808 := by
      have e : 2 * 2 ^ p * 2 ^ k = 2 ^ (p + k + 1) := by rw [Nat.pow_succ, Nat.pow_add, Nat.mul_comm _ 2, Nat.mul_assoc]
      rw [e]
      have : 2 ^ (p + k + 1) ≤ 2 ^ 63 := Nat.pow_le_pow_right (by omega) (by omega)
      simpa using this
    rw [Nat.add_mul, Nat.one_mul] at h1'
    rw [Nat.add_mul] at h2'
    have a1 : (2 : Int) ^ p = ((2 ^ p : Nat) : Int) := by push_cast; rfl
    have a2 : (2 : Int) ^ k = ((2 ^ k : Nat) : Int) := by push_cast; rfl
    rw [a1, a2]
    clear a1 a2 e1 e2 hB h P1 hi hi2 hd hd1 hd2 hk
    generalize 2 ^ p = A at *
    generalize 2 ^ k = C at *
    have a3 : (k : Int) * (A : Int) = ((k * A : Nat) : Int) := by push_cast; rfl
    rw [a3]
    generalize k * A = M at *
    obtain ⟨D, hD⟩ : ∃ D, i = M + D := ⟨i - M, by omega⟩
    have a4 : (i : Int) - (M : Int) = (D : Int) := by omega
    rw [a4]
    have a5 : (D : Int) * (C : Int) = ((D * C : Nat) : Int) := by push_cast; rfl
    rw [a5]
    have hDC : (D + 1) * C ≤ 2 * A * C := Nat.mul_le_mul_right _ (by omega)
    rw [Nat.add_mul, Nat.one_mul] at hDC
    generalize D * C = E at *
    generalize 2 * A * C = F at *
    omega
/-- a value of a snapshot -/
structure Vl where
  kind : Int
  nm : List UInt8
  help : List UInt8
  lp : Option Addr
  ln : Nat
  lc : Nat
  L : Nat → List UInt8 × List UInt8
  hi : Int
  lo : Nat
  cp : Option Addr
  cn : Nat
  cc : Nat
  X : Nat → Int
  C : Nat → Nat
  N : Nat
  sum : Nat
  mn : Nat
  mx : Nat
def Vl.cells (V : Vl) : Array Value := #[.int .i64 V.kind, .string ⟨V.nm.toArray⟩, .string ⟨V.help.toArray⟩, .slice V.lp V.ln V.lc, .int .i64 V.hi, .int .u64 (V.lo : Int), .slice V.cp V.cn V.cc, .int .u64 (V.N : Int), .float .f64 V.sum, .float .f64 V.mn, .float .f64 V.mx]
/-- what a value's lists hold, and how great they are -/
structure Vok (w : World) (V : Vl) : Prop where
  labs : Lbs w V.lp V.ln V.L
  cnts : Cts w V.cp V.cn V.X V.C
  lcap : V.ln ≤ V.lc
  ccap : V.cn ≤ V.cc
  lnm : V.nm.length ≤ 140737488355328
  lhp : V.help.length ≤ 140737488355328
  llb : ∀ i, i < V.ln → (V.L i).1.length ≤ 140737488355328 ∧ (V.L i).2.length ≤ 140737488355328
  lln : V.ln ≤ 140737488355328
  lcn : V.cn ≤ 140737488355328
  cC : ∀ i, i < V.cn → V.C i < 18446744073709551616
  cN : V.N < 18446744073709551616
  clo : V.lo < 18446744073709551616
  cs : V.sum < 18446744073709551616
  cmn : V.mn < 18446744073709551616
  cmx : V.mx < 18446744073709551616
theorem Vok.still {w w' : World} {V : Vl} (h : Vok w V) (O : Only (fun _ => False) w w') : Vok w' V :=
  { h with labs := h.labs.still O, cnts := h.cnts.still O }
theorem mayA_range (ln : Int) (X : Nat → Int) (N : Nat → Nat) : ∀ f i, mayA ln X N f i = 0 ∨ mayA ln X N f i = 2 ∨ mayA ln X N f i = 15 ∨ mayA ln X N f i = 16
  | 0, _ => .inl rfl
  | f + 1, i => by
    unfold mayA
    split
    · exact .inr (.inl rfl)
    · split
      · exact .inr (.inr (.inl rfl))
      · split
        · exact .inr (.inr (.inr rfl))
        · exact mayA_range ln X N f (i + 1)
theorem mayC_range (N : Nat → Nat) : ∀ f i l, mayC N f i l = 0 ∨ mayC N f i l = 3
  | 0, _, _ => .inl rfl
  | f + 1, i, l => by
    unfold mayC
    split
    · exact .inr rfl
    · exact mayC_range N f (i + 1) _
theorem mayE_range (p : Int) (n : Nat) (X : Nat → Int) (N : Nat → Nat) : mayE p n X N = 0 ∨ mayE p n X N = 1 ∨ mayE p n X N = 2 ∨ mayE p n X N = 3 ∨ mayE p n X N = 15 ∨ mayE p n X N = 16 := by
  unfold mayE
  split
  · exact .inr (.inl rfl)
  · split
    · rcases mayA_range (lenB p) X N n 0 with h | h | h | h <;> simp [h]
    · rcases mayC_range N n 0 9223372036854775807 with h | h <;> simp [h]
theorem mayA_ok (ln : Int) (X : Nat → Int) (N : Nat → Nat) : ∀ f i, mayA ln X N f i = 0 → ∀ j, i ≤ j → j < i + f → (0 ≤ X j ∧ X j < ln) ∧ (0 < j → X (j - 1) < X j) ∧ N j ≠ 0
  | 0, i, _, j, h1, h2 => by omega
  | f + 1, i, h, j, h1, h2 => by
    unfold mayA at h
    split at h
    · cases h
    · rename_i g1
      split at h
      · cases h
      · rename_i g2
        split at h
        · cases h
        · rename_i g3
          by_cases e : j = i
          · subst e
            exact ⟨by omega, fun _ => by omega, g3⟩
          · exact mayA_ok ln X N f (i + 1) h j (by omega) (by omega)
theorem may_ok {p : Int} {n : Nat} {X : Nat → Int} {N : Nat → Nat} (h : mayE p n X N = 0) : ∀ j, j < n → (0 ≤ X j ∧ X j < lenB p) ∧ (0 < j → X (j - 1) < X j) ∧ N j ≠ 0 := by
  unfold mayE at h
  split at h
  · cases h
  · split at h
    · rename_i g; exact absurd h g
    · rename_i g
      have g2 : mayA (lenB p) X N n 0 = 0 := Classical.byContradiction g
      exact fun j hj => mayA_ok (lenB p) X N n 0 g2 j (by omega) (by omega)
/-- the least and the greatest value of a bucket, as whole numbers -/
theorem ends_nat {p : Nat} {X : Nat → Int} {i : Nat} (h1 : 1 ≤ p) (h2 : p ≤ 14) (h3 : 0 ≤ X i) (h4 : X i < lenB p) :
    ∃ xi : Nat, X i = (xi : Int) ∧ (xi : Int) < lenB p ∧ lowB p xi = (lowN p X i : Int) ∧ wrap64 (lowB p xi + moreB p xi) = (highN p X i : Int) ∧ lowN p X i < 9223372036854775808 ∧ highN p X i < 9223372036854775808 := by
  refine ⟨(X i).toNat, by omega, by omega, ?_⟩
  have h5 := low_range (p := p) (i := (X i).toNat) h1 h2 (by omega)
  have h6 : wrap64 (lowB p (X i).toNat + moreB p (X i).toNat) = lowB p (X i).toNat + moreB p (X i).toNat := IntWalk.wrap64_in _ ⟨by omega, by omega⟩
  unfold lowN highN
  rw [h6]
  omega
/-- does a histogram hold what it may? -/
def histB (p : Nat) (V : Vl) : Bool :=
  if mayE p V.cn V.X V.C ≠ 0 then false else if V.N ≠ totN V.C V.cn then false else
    decide (0 ≤ cmpW V.hi V.lo (sumT (lowN p V.X) V.C V.cn).1 (sumT (lowN p V.X) V.C V.cn).2) && decide (cmpW V.hi V.lo (sumT (highN p V.X) V.C V.cn).1 (sumT (highN p V.X) V.C V.cn).2 ≤ 0)
/-- in the loop: the two sums lie in the blocks lb, lb + 1 -/
structure HsR (w4 : World) (lb : Nat) (p n : Nat) (X : Nat → Int) (C : Nat → Nat) (i : Nat) (w : World) : Prop where
  only : Only (fun _ => False) w4 w
  lo : w.heap[lb]? = some (.cells #[.int .i64 (sumT (lowN p X) C i).1, .int .u64 (sumT (lowN p X) C i).2] 38)
  hi : w.heap[lb + 1]? = some (.cells #[.int .i64 (sumT (highN p X) C i).1, .int .u64 (sumT (highN p X) C i).2] 38)
def HsL (w4 : World) (lb : Nat) (p n : Nat) (X : Nat → Int) (C : Nat → Nat) (v29 : Value) (w : World) : Prop :=
  ∃ i : Nat, v29 = .int .i64 (i : Int) ∧ i ≤ n ∧ HsR w4 lb p n X C i w
set_option maxHeartbeats 4000000 in
theorem hist_calls (p : Nat) (V : Vl) (w : World) (hp1 : 1 ≤ p) (hp2 : p ≤ 14) (hV : Vok w V) :
    Calls Tryz.prog 55 #[.int .i64 (p : Int), .agg V.cells] w fun e w' => e = .returned (.bool (histB p V)) ∧ Only (fun _ => False) w w' := by
  have HV := Lib.hid hV; clear hV
  have HB : Hid (histB p V = if mayE p V.cn V.X V.C ≠ 0 then false else if V.N ≠ totN V.C V.cn then false else
    decide (0 ≤ cmpW V.hi V.lo (sumT (lowN p V.X) V.C V.cn).1 (sumT (lowN p V.X) V.C V.cn).2) && decide (cmpW V.hi V.lo (sumT (highN p V.X) V.C V.cn).1 (sumT (highN p V.X) V.C V.cn).2 ≤ 0)) := Lib.hid rfl
  generalize histB p V = D at *
  obtain ⟨kind, nm, help, lp, ln, lc, L, hh, lo, cp, cn, cc, X, C, N, sum, mn, mx⟩ := V
  unfold Vl.cells
  dsimp only at *
  have ks1 := run_stf
  go_enter Tryz.func55, Tryz.ntmps55
  go_upto_region 1 with fail
  have hb := blk_new w (.cells #[.int .i64 kind, .string ⟨nm.toArray⟩, .string ⟨help.toArray⟩, .slice lp ln lc, .int .i64 hh, .int .u64 (lo : Int), .slice cp cn cc, .int .u64 (N : Int), .float .f64 sum, .float .f64 mn, .float .f64 mx] 42)
  have hO := Lib.hid ((Only.refl (fun _ => False) w).alloc (.cells #[.int .i64 kind, .string ⟨nm.toArray⟩, .string ⟨help.toArray⟩, .slice lp ln lc, .int .i64 hh, .int .u64 (lo : Int), .slice cp cn cc, .int .u64 (N : Int), .float .f64 sum, .float .f64 mn, .float .f64 mx] 42))
  generalize w.alloc (.cells #[.int .i64 kind, .string ⟨nm.toArray⟩, .string ⟨help.toArray⟩, .slice lp ln lc, .int .i64 hh, .int .u64 (lo : Int), .slice cp cn cc, .int .u64 (N : Int), .float .f64 sum, .float .f64 mn, .float .f64 mx] 42) = W at *
  have HBk := Lib.hid hb; clear hb
  generalize w.heap.size = vb at *
  have HVW := Lib.hid (HV.out.still hO.out)
  have KM := Lib.hid (fun w' (O : Only (fun _ => False) W w') => may_calls (p : Int) cp cn cc X C w' HV.out.lcn HV.out.cC (HVW.out.still O).cnts)
  have KT := Lib.hid (fun w' (O : Only (fun _ => False) W w') => total_calls cp cn cc X C w' HV.out.lcn HV.out.cC (HVW.out.still O).cnts)
  obtain ⟨em, hem⟩ : ∃ e, e = mayE p cn X C := ⟨_, rfl⟩
  obtain ⟨tt, htt⟩ : ∃ t, t = totN C cn := ⟨_, rfl⟩
  rw [← hem] at KM HB
  rw [← htt] at KT HB
  have HEM := Lib.hid hem
  clear hem htt HV
  have hs2 : Hid (∀ w', Only (fun _ => False) W w' → w'.cell? ⟨vb, 6, none⟩ = some (.slice cp cn cc) ∧ w'.cell? ⟨vb, 7, none⟩ = some (.int .u64 (N : Int))) := Lib.hid fun w' O => by
    have q := O.blk HBk.out (fun e => e)
    exact ⟨by rw [blk_cell q]; rfl, by rw [blk_cell q]; rfl⟩
  have N0 : Only (fun _ => False) W W.drew := (Only.refl _ _).drew
  have hrg := mayE_range (p : Int) cn X C
  rw [← HEM.out] at hrg
  by_cases he : em = 0
  case neg =>
    have HD : Hid (D = false) := Lib.hid (by rw [HB.out, if_pos he])
    have hr2 : em = 1 ∨ em = 2 ∨ em = 3 ∨ em = 15 ∨ em = 16 := by omega
    clear he HB hrg HEM KT
    have kq : ∀ w, Sem.run Tryz.prog (binOp .neq 28 (.int .i64 em) (.int .i64 0)) w = .ok (.bool true) w := fun w => by
      have q : (em != 0) = true := by simp; omega
      go_simp
    first
      | (go_region_held3 (fun w' => w'.cell? ⟨vb, 6, none⟩ = some (.slice cp cn cc) ∧ w'.cell? ⟨vb, 7, none⟩ = some (.int .u64 (N : Int)))
          (first | (with_reducible exact hs2.out _ N0) | (with_reducible exact hs2.out _ N3))
          (first
            | (go_at_call 98; go_split_ands; refine (KM.out _ N0).mono ?_; rintro e w3 ⟨he, O3⟩; subst he; have N3 := N0.trans O3)))
      | fail
    all_goals
      go_wp2_with fail
      go_ret
      refine ⟨?_, hO.out.trans N3⟩
      rw [HD.out]; rfl
  have HD : Hid (D = if N ≠ tt then false else decide (0 ≤ cmpW hh lo (sumT (lowN p X) C cn).1 (sumT (lowN p X) C cn).2) && decide (cmpW hh lo (sumT (highN p X) C cn).1 (sumT (highN p X) C cn).2 ≤ 0)) := Lib.hid (by rw [HB.out, if_neg (fun e => e he)])
  clear HB hrg
  subst he
  go_region_held3 (fun w' => w'.cell? ⟨vb, 6, none⟩ = some (.slice cp cn cc) ∧ w'.cell? ⟨vb, 7, none⟩ = some (.int .u64 (N : Int)))
    (first | (with_reducible exact hs2.out _ N0) | (with_reducible exact hs2.out _ N3) | (with_reducible exact hs2.out _ N4))
    (first
      | (go_at_call 98; go_split_ands; refine (KM.out _ N0).mono ?_; rintro e w3 ⟨he, O3⟩; subst he; have N3 := N0.trans O3)
      | (go_at_call 99; go_split_ands; refine (KT.out _ N3).mono ?_; rintro e w4 ⟨he, O4⟩; subst he; have N4 := N3.trans O4))
  have HO4 := Lib.hid (hO.out.trans N4)
  have HB4 := Lib.hid (N4.blk HBk.out (fun e => e))
  have HV4 := Lib.hid (HVW.out.still N4)
  clear N4 N3 O3 O4 N0 hs2 KM KT HBk HVW hO
  by_cases hn : N = tt
  case neg =>
    have q : ((N : Int) != (tt : Int)) = true := by simp; omega
    have HD2 : Hid (D = false) := Lib.hid (by rw [HD.out, if_pos hn])
    clear hn HD
    go_wp2_with fail
    go_ret
    refine ⟨?_, HO4.out⟩
    rw [HD2.out]; rfl
  have q : ((N : Int) != (tt : Int)) = false := by simp; omega
  have HD2 : Hid (D = (decide (0 ≤ cmpW hh lo (sumT (lowN p X) C cn).1 (sumT (lowN p X) C cn).2) && decide (cmpW hh lo (sumT (highN p X) C cn).1 (sumT (highN p X) C cn).2 ≤ 0))) := Lib.hid (by rw [HD.out, if_neg (fun e => e hn)])
  clear HD hn
  have c6 : w4.cell? ⟨vb, 6, none⟩ = some (.slice cp cn cc) := by rw [blk_cell HB4.out]; rfl
  go_upto_region 4 with fail
  simp only [q]
  clear q
  clear c6
  have hl1 := blk_new w4 (.cells #[.int .i64 0, .int .u64 0] 38)
  have hO5 := (Only.refl (fun _ => False) w4).alloc (.cells #[.int .i64 0, .int .u64 0] 38)
  have hl2 := blk_new (w4.alloc (.cells #[.int .i64 0, .int .u64 0] 38)) (.cells #[.int .i64 0, .int .u64 0] 38)
  have hl3 := blk_alloc hl1 (.cells #[.int .i64 0, .int .u64 0] 38)
  have hO6 := hO5.alloc (.cells #[.int .i64 0, .int .u64 0] 38)
  rw [show (w4.alloc (.cells #[.int .i64 0, .int .u64 0] 38)).heap.size = w4.heap.size + 1 from Array.size_push ..] at hl2
  generalize (w4.alloc (.cells #[.int .i64 0, .int .u64 0] 38)).alloc (.cells #[.int .i64 0, .int .u64 0] 38) = w6 at *
  have HW6 : Hid (HsR w4 w4.heap.size p cn X C 0 w6) := Lib.hid ⟨hO6, hl3, hl2⟩
  have HLT := Lib.hid (blk_lt HB4.out)
  have HB6 := Lib.hid (hO6.blk HB4.out (fun e => e))
  clear hl1 hl2 hl3 hO5 hO6
  generalize hlb : w4.heap.size = lb at *
  have HLB := Lib.hid hlb; clear hlb
  have c6 : w6.cell? ⟨vb, 6, none⟩ = some (.slice cp cn cc) := by rw [blk_cell HB6.out]; rfl
  go_wp2_with fail
  clear c6
  go_loopw [29] (fun v29 wr => HsL w4 lb p cn X C v29 wr) (fun v29 _ => cn - (intOf v29).toNat)
  case atStart => exact ⟨0, rfl, Nat.zero_le _, HW6.out⟩
  case round =>
    obtain ⟨i, rfl, hi, hR⟩ := hrel
    have HR := Lib.hid hR; clear hR
    by_cases h : i < cn
    · have t1 : decide ((i : Int) < (cn : Int)) = true := decide_eq_true (by omega)
      obtain ⟨bx, ox, hcp, g1, g2, g3⟩ := (HV4.out.cnts.still HR.out.only).at' i h
      subst hcp
      have hm := may_ok HEM.out.symm i h
      obtain ⟨xi, hx, hxl, hlow, hhigh, hla, hlb2⟩ := ends_nat (p := p) (X := X) (i := i) hp1 hp2 hm.1.1 hm.1.2
      have K1 := Lib.hid (fun w => low_calls p xi w hp1 hp2 hxl)
      have K2 := Lib.hid (fun w => high_calls p xi w hp1 hp2 hxl)
      rw [hlow] at K1
      rw [hhigh] at K2
      have HC := HV4.out.cC i h
      have K3 := Lib.hid (fun w => times_calls (lowN p X i) (C i) w hla HC)
      have K4 := Lib.hid (fun w => times_calls (highN p X i) (C i) w hlb2 HC)
      have K5 := Lib.hid (fun w => wide_add (sumT (lowN p X) C i).1 (sumT (lowN p X) C i).2 (timesHi (lowN p X i) (C i)) ((lowN p X i * C i % 18446744073709551616 : Nat) : Int) w (sumT_lo _ _ _) (by omega))
      have K6 := Lib.hid (fun w => wide_add (sumT (highN p X) C i).1 (sumT (highN p X) C i).2 (timesHi (highN p X i) (C i)) ((highN p X i * C i % 18446744073709551616 : Nat) : Int) w (sumT_lo _ _ _) (by omega))
      dsimp only at g2 g3
      rw [hx] at g2
      clear hm hxl hlow hhigh hla hlb2 HC
      have HX := Lib.hid hx; clear hx
      have HS1 : Hid (hiSum (sumT (lowN p X) C i).1 (sumT (lowN p X) C i).2 (timesHi (lowN p X i) (C i)) ((lowN p X i * C i % 18446744073709551616 : Nat) : Int) = (sumT (lowN p X) C (i + 1)).1 ∧ ((loSum (sumT (lowN p X) C i).2 ((lowN p X i * C i % 18446744073709551616 : Nat) : Int) : Nat) : Int) = (sumT (lowN p X) C (i + 1)).2) := Lib.hid ⟨rfl, rfl⟩
      have HS2 : Hid (hiSum (sumT (highN p X) C i).1 (sumT (highN p X) C i).2 (timesHi (highN p X i) (C i)) ((highN p X i * C i % 18446744073709551616 : Nat) : Int) = (sumT (highN p X) C (i + 1)).1 ∧ ((loSum (sumT (highN p X) C i).2 ((highN p X i * C i % 18446744073709551616 : Nat) : Int) : Nat) : Int) = (sumT (highN p X) C (i + 1)).2) := Lib.hid ⟨rfl, rfl⟩
      rw [HS1.out.1, HS1.out.2] at K5
      rw [HS2.out.1, HS2.out.2] at K6
      clear HS1 HS2
      have HRl := Lib.hid HR.out.lo
      have HRh := Lib.hid HR.out.hi
      have HRo := Lib.hid HR.out.only
      have HTL := Lib.hid (show HsR w4 lb p cn X C (i + 1) = HsR w4 lb p cn X C (i + 1) from rfl)
      have HFin : Hid (∀ w', Only (fun _ => False) w4 w' → w'.heap[lb]? = some (.cells #[.int .i64 (sumT (lowN p X) C (i + 1)).1, .int .u64 (sumT (lowN p X) C (i + 1)).2] 38) → w'.heap[lb + 1]? = some (.cells #[.int .i64 (sumT (highN p X) C (i + 1)).1, .int .u64 (sumT (highN p X) C (i + 1)).2] 38) → HsR w4 lb p cn X C (i + 1) w') := Lib.hid fun w' a b c => ⟨a, b, c⟩
      clear HTL HR
      generalize (sumT (lowN p X) C (i + 1)).1 = y1 at *
      generalize (sumT (lowN p X) C (i + 1)).2 = y2 at *
      generalize (sumT (highN p X) C (i + 1)).1 = y3 at *
      generalize (sumT (highN p X) C (i + 1)).2 = y4 at *
      generalize (sumT (lowN p X) C i).1 = s1 at *
      generalize (sumT (lowN p X) C i).2 = s2 at *
      generalize (sumT (highN p X) C i).1 = s3 at *
      generalize (sumT (highN p X) C i).2 = s4 at *
      generalize timesHi (lowN p X i) (C i) = p1 at *
      generalize timesHi (highN p X i) (C i) = p3 at *
      generalize ((lowN p X i * C i % 18446744073709551616 : Nat) : Int) = p2 at *
      generalize ((highN p X i * C i % 18446744073709551616 : Nat) : Int) = p4 at *
      generalize lowN p X i = la at *
      generalize highN p X i = lh at *
      generalize C i = ci at *
      go_wp2_with fail
      have hcb := blk_new wr (.cells #[.int .i64 xi, .int .u64 ci] 79)
      have O7 := (Only.refl (fun _ => False) wr).alloc (.cells #[.int .i64 xi, .int .u64 ci] 79)
      generalize wr.alloc (.cells #[.int .i64 xi, .int .u64 ci] 79) = w7 at *
      have HCB := Lib.hid hcb
      have HWR := Lib.hid (Nat.lt_of_lt_of_le (show lb + 1 < wr.heap.size from blk_lt HRh.out) (Nat.le_refl _))
      have HL7 := Lib.hid (O7.blk HRl.out (fun e => e))
      have HH7 := Lib.hid (O7.blk HRh.out (fun e => e))
      have HO7 := Lib.hid (HRo.out.trans O7)
      clear hcb O7 HRl HRh HRo g1 g2 g3
      generalize hxb : wr.heap.size = xb at *
      clear hxb
      refine (K1.out _).mono ?_
      rintro e w8 ⟨rfl, O8⟩
      have HC8 := Lib.hid (O8.blk HCB.out (fun e => e))
      have HL8 := Lib.hid (O8.blk HL7.out (fun e => e))
      have HH8 := Lib.hid (O8.blk HH7.out (fun e => e))
      have HO8 := Lib.hid (HO7.out.trans O8)
      clear O8 HCB HL7 HH7 HO7 K1
      have cx : w8.cell? ⟨xb, 0, none⟩ = some (.int .i64 xi) := by rw [blk_cell HC8.out]; rfl
      go_wp2_with fail
      refine (K2.out _).mono ?_
      rintro e w9 ⟨rfl, O9⟩
      have HC9 := Lib.hid (O9.blk HC8.out (fun e => e))
      have HL9 := Lib.hid (O9.blk HL8.out (fun e => e))
      have HH9 := Lib.hid (O9.blk HH8.out (fun e => e))
      have HO9 := Lib.hid (HO8.out.trans O9)
      clear O9 HC8 HL8 HH8 HO8 K2 cx
      go_upto_region 9 with fail
      have hs2 : Hid (∀ w', Only (fun _ => False) w9 w' → (w'.cell? ⟨lb, 0, none⟩ = some (.int .i64 s1) ∧ w'.cell? ⟨lb, 1, none⟩ = some (.int .u64 s2)) ∧ (w'.cell? ⟨lb + 1, 0, none⟩ = some (.int .i64 s3) ∧ w'.cell? ⟨lb + 1, 1, none⟩ = some (.int .u64 s4)) ∧ w'.cell? ⟨xb, 1, none⟩ = some (.int .u64 ci)) := Lib.hid fun w' O => by
        have q1 := O.blk HL9.out (fun e => e)
        have q2 := O.blk HH9.out (fun e => e)
        have q3 := O.blk HC9.out (fun e => e)
        exact ⟨⟨by rw [blk_cell q1]; rfl, by rw [blk_cell q1]; rfl⟩, ⟨by rw [blk_cell q2]; rfl, by rw [blk_cell q2]; rfl⟩, by rw [blk_cell q3]; rfl⟩
      have NN : Only (fun _ => False) w9 w9.drew := (Only.refl _ _).drew
      refine wp_region_T 12 (fun w' => (w'.cell? ⟨lb, 0, none⟩ = some (.int .i64 s1) ∧ w'.cell? ⟨lb, 1, none⟩ = some (.int .u64 s2)) ∧ (w'.cell? ⟨lb + 1, 0, none⟩ = some (.int .i64 s3) ∧ w'.cell? ⟨lb + 1, 1, none⟩ = some (.int .u64 s4)) ∧ w'.cell? ⟨xb, 1, none⟩ = some (.int .u64 ci)) (by kernel_rfl) ?_
      refine' wpAnyT_take 0 (v := ?v0) rfl (by kernel_rfl) (by kernel_rfl) (by kernel_rfl) (by kernel_rfl) (fun _ _ _ h => h) (by rfl) ?hy0 (hs2.out _ NN) ?rest0
      case hy0 => intro w hSw; (try dsimp only at hSw); go_simp; (try with_reducible rfl)
      case rest0 =>
      simp only [Act.put, List.setIfInBounds_toArray, List.set_cons_zero, List.set_cons_succ]
      refine' wpAnyT_take 1 (v := ?v1) rfl (by kernel_rfl) (by kernel_rfl) (by kernel_rfl) (by kernel_rfl) (fun _ _ _ h => h) (by rfl) ?hy1 (hs2.out _ NN) ?rest1
      case hy1 => intro w hSw; (try dsimp only at hSw); go_simp; (try with_reducible rfl)
      case rest1 =>
      simp only [Act.put, List.setIfInBounds_toArray, List.set_cons_zero, List.set_cons_succ]
      refine' wpAnyT_take 2 (v := ?v2) rfl (by kernel_rfl) (by kernel_rfl) (by kernel_rfl) (by kernel_rfl) (fun _ _ _ h => h) (by rfl) ?hy2 (hs2.out _ NN) ?rest2
      case hy2 => intro w hSw; (try dsimp only at hSw); go_simp; (try with_reducible rfl)
      case rest2 =>
      simp only [Act.put, List.setIfInBounds_toArray, List.set_cons_zero, List.set_cons_succ]
      refine' wpAnyT_take 3 (v := ?v3) rfl (by kernel_rfl) (by kernel_rfl) (by kernel_rfl) (by kernel_rfl) (fun _ _ _ h => h) (by rfl) ?hy3 (hs2.out _ NN) ?rest3
      case hy3 => intro w hSw; (try dsimp only at hSw); go_simp; (try with_reducible rfl)
      case rest3 =>
      simp only [Act.put, List.setIfInBounds_toArray, List.set_cons_zero, List.set_cons_succ]
      refine' wpAnyT_take 6 (v := ?v6) rfl (by kernel_rfl) (by kernel_rfl) (by kernel_rfl) (by kernel_rfl) (fun _ _ _ h => h) (by rfl) ?hy6 (hs2.out _ NN) ?rest6
      case hy6 => intro w hSw; (try dsimp only at hSw); go_simp; (try with_reducible rfl)
      case rest6 =>
      simp only [Act.put, List.setIfInBounds_toArray, List.set_cons_zero, List.set_cons_succ]
      refine' wpAnyT_take 7 (v := ?v7) rfl (by kernel_rfl) (by kernel_rfl) (by kernel_rfl) (by kernel_rfl) (fun _ _ _ h => h) (by rfl) ?hy7 (hs2.out _ NN) ?rest7
      case hy7 => intro w hSw; (try dsimp only at hSw); go_simp; (try with_reducible rfl)
      case rest7 =>
      simp only [Act.put, List.setIfInBounds_toArray, List.set_cons_zero, List.set_cons_succ]
      refine' wpAnyT_take 8 (v := ?v8) rfl (by kernel_rfl) (by kernel_rfl) (by kernel_rfl) (by kernel_rfl) (fun _ _ _ h => h) (by rfl) ?hy8 (hs2.out _ NN) ?rest8
      case hy8 => intro w hSw; (try dsimp only at hSw); go_simp; (try with_reducible rfl)
      case rest8 =>
      simp only [Act.put, List.setIfInBounds_toArray, List.set_cons_zero, List.set_cons_succ]
      refine' wpAnyT_take 9 (v := ?v9) rfl (by kernel_rfl) (by kernel_rfl) (by kernel_rfl) (by kernel_rfl) (fun _ _ _ h => h) (by rfl) ?hy9 (hs2.out _ NN) ?rest9
      case hy9 => intro w hSw; (try dsimp only at hSw); go_simp; (try with_reducible rfl)
      case rest9 =>
      simp only [Act.put, List.setIfInBounds_toArray, List.set_cons_zero, List.set_cons_succ]
      refine wpAnyT_one 4 (by kernel_rfl) rfl (fun K hK => ?_)
      go_simp
      refine (K3.out _).mono ?_
      rintro e wq4 ⟨rfl, Oq⟩
      replace NN := NN.trans Oq
      clear Oq
      (try go_wp2_with fail)
      refine hK.out _ _ (fun _ => hs2.out _ NN) ?_
      clear hK K
      (try simp only [Act.put, List.setIfInBounds_toArray, List.set_cons_zero, List.set_cons_succ])
      refine wpAnyT_one 5 (by kernel_rfl) rfl (fun K hK => ?_)
      go_simp
      refine (K5.out _).mono ?_
      rintro e wq5 ⟨rfl, Oq⟩
      replace NN := NN.trans Oq
      clear Oq
      (try go_wp2_with fail)
      refine hK.out _ _ (fun _ => hs2.out _ NN) ?_
      clear hK K
      (try simp only [Act.put, List.setIfInBounds_toArray, List.set_cons_zero, List.set_cons_succ])
      refine wpAnyT_one 10 (by kernel_rfl) rfl (fun K hK => ?_)
      go_simp
      refine (K4.out _).mono ?_
      rintro e wq10 ⟨rfl, Oq⟩
      replace NN := NN.trans Oq
      clear Oq
      (try go_wp2_with fail)
      refine hK.out _ _ (fun _ => hs2.out _ NN) ?_
      clear hK K
      (try simp only [Act.put, List.setIfInBounds_toArray, List.set_cons_zero, List.set_cons_succ])
      refine wpAnyT_one 11 (by kernel_rfl) rfl (fun K hK => ?_)
      go_simp
      refine (K6.out _).mono ?_
      rintro e wq11 ⟨rfl, Oq⟩
      replace NN := NN.trans Oq
      clear Oq
      (try go_wp2_with fail)
      refine hK.out _ _ (fun _ => hs2.out _ NN) ?_
      clear hK K
      (try simp only [Act.put, List.setIfInBounds_toArray, List.set_cons_zero, List.set_cons_succ])
      have hb8 : ∃ w', w' = wq11 := ⟨_, rfl⟩
      have q1 := NN.blk HL9.out (fun e => e)
      have q2 := NN.blk HH9.out (fun e => e)
      have a1 : wq11.cell? ⟨lb, 0, none⟩ = some (.int .i64 s1) := by rw [blk_cell q1]; rfl
      have a2 : wq11.cell? ⟨lb, 1, none⟩ = some (.int .u64 s2) := by rw [blk_cell q1]; rfl
      have a3 : wq11.cell? ⟨lb + 1, 0, none⟩ = some (.int .i64 s3) := by rw [blk_cell q2]; rfl
      have a4 : wq11.cell? ⟨lb + 1, 1, none⟩ = some (.int .u64 s4) := by rw [blk_cell q2]; rfl
      have b1 := blk_free q1 0
      have b2 := blk_free q1 1
      have b3 := blk_free q2 0
      have b4 := blk_free q2 1
      have HQ1 := Lib.hid q1
      have HQ2 := Lib.hid q2
      have HNN := Lib.hid (HO9.out.trans NN)
      clear q1 q2 NN hs2 HL9 HH9 HO9 HC9 hb8
      have HF : Hid (HsR w4 lb p cn X C (i + 1) ((((wq11.setCell ⟨lb, 0, none⟩ (.int .i64 y1)).setCell ⟨lb, 1, none⟩ (.int .u64 y2)).setCell ⟨lb + 1, 0, none⟩ (.int .i64 y3)).setCell ⟨lb + 1, 1, none⟩ (.int .u64 y4))) := Lib.hid (by
        have e1 := blk_set (blk_set HQ1.out 0 (.int .i64 y1)) 1 (.int .u64 y2)
        have e2 := blk_set_ne (blk_set_ne e1 ⟨lb + 1, 0, none⟩ (.int .i64 y3) (by simp)) ⟨lb + 1, 1, none⟩ (.int .u64 y4) (by simp)
        have e3 := blk_set_ne (blk_set_ne HQ2.out ⟨lb, 0, none⟩ (.int .i64 y1) (by simp)) ⟨lb, 1, none⟩ (.int .u64 y2) (by simp)
        have e4 := blk_set (blk_set e3 0 (.int .i64 y3)) 1 (.int .u64 y4)
        refine HFin.out _ ?_ (by simpa using e2) (by simpa using e4)
        have g := HLB.out
        exact (((HNN.out.setCell (p := ⟨lb, 0, none⟩) (.inl (by show _ ≤ lb; omega)) _).setCell (p := ⟨lb, 1, none⟩) (.inl (by show _ ≤ lb; omega)) _).setCell (p := ⟨lb + 1, 0, none⟩) (.inl (by show _ ≤ lb + 1; omega)) _).setCell (p := ⟨lb + 1, 1, none⟩) (.inl (by show _ ≤ lb + 1; omega)) _)
      refine wpAnyT_one 12 (by kernel_rfl) rfl (fun K hK => ?_)
      go_simp
      refine hK.out _ _ (fun e => absurd e (by decide)) ?_
      clear hK K
      (try simp only [Act.put, List.setIfInBounds_toArray, List.set_cons_zero, List.set_cons_succ])
      refine wpAnyT_one 13 (by kernel_rfl) rfl (fun K hK => ?_)
      go_simp
      refine hK.out _ _ (fun e => absurd e (by decide)) ?_
      clear hK K
      (try simp only [Act.put, List.setIfInBounds_toArray, List.set_cons_zero, List.set_cons_succ])
      refine wpAnyT_done (by kernel_rfl) ?_ _
      go_wp2_with fail
      have hw1 : wrap64 ((i : Int) + 1) = ((i + 1 : Nat) : Int) := by rw [IntWalk.wrap64_in _ ⟨by omega, by have := HV4.out.lcn; dsimp only at this; omega⟩]; omega
      exact ⟨⟨i + 1, congrArg (Value.int .i64) hw1, by omega, HF.out⟩, by rw [hw1]; simp only [intOf]; omega⟩
    · obtain rfl : i = cn := by omega
      have t1 : decide ((i : Int) < (i : Int)) = false := decide_eq_false (by omega)
      have hbv := HR.out.only.blk HB4.out (fun e => e)
      have hs2 : Hid (∀ w', Only (fun _ => False) wr w' → (w'.cell? ⟨vb, 4, none⟩ = some (.int .i64 hh) ∧ w'.cell? ⟨vb, 5, none⟩ = some (.int .u64 (lo : Int))) ∧ (w'.cell? ⟨lb, 0, none⟩ = some (.int .i64 (sumT (lowN p X) C i).1) ∧ w'.cell? ⟨lb, 1, none⟩ = some (.int .u64 (sumT (lowN p X) C i).2)) ∧ w'.cell? ⟨lb + 1, 0, none⟩ = some (.int .i64 (sumT (highN p X) C i).1) ∧ w'.cell? ⟨lb + 1, 1, none⟩ = some (.int .u64 (sumT (highN p X) C i).2)) := Lib.hid fun w' O => by
        have q1 := O.blk HR.out.lo (fun e => e)
        have q2 := O.blk HR.out.hi (fun e => e)
        have q3 := O.blk hbv (fun e => e)
        exact ⟨⟨by rw [blk_cell q3]; rfl, by rw [blk_cell q3]; rfl⟩, ⟨by rw [blk_cell q1]; rfl, by rw [blk_cell q1]; rfl⟩, by rw [blk_cell q2]; rfl, by rw [blk_cell q2]; rfl⟩
      obtain ⟨⟨u1, u2⟩, ⟨u3, u4⟩, u5, u6⟩ := hs2.out wr (Only.refl _ _)
      have HD3 := HD2
      have HO6 := Lib.hid (HO4.out.trans HR.out.only)
      clear hbv HR HD2
      generalize (sumT (lowN p X) C i).1 = s1 at *
      generalize (sumT (lowN p X) C i).2 = s2 at *
      generalize (sumT (highN p X) C i).1 = s3 at *
      generalize (sumT (highN p X) C i).2 = s4 at *
      have KC1 := Lib.hid (fun w => wcompare_calls hh lo s1 s2 w)
      have KC2 := Lib.hid (fun w => wcompare_calls hh lo s3 s4 w)
      generalize cmpW hh lo s1 s2 = z1 at *
      generalize cmpW hh lo s3 s4 = z2 at *
      go_wp2_with fail
      refine (KC1.out _).mono ?_
      rintro e w8 ⟨rfl, O8⟩
      obtain ⟨⟨x1, x2⟩, ⟨x3, x4⟩, x5, x6⟩ := hs2.out w8 O8
      have HO8 := Lib.hid (HO6.out.trans O8)
      clear O8 u1 u2 u3 u4 u5 u6
      by_cases g : 0 ≤ z1
      · have tg : decide (0 ≤ z1) = true := decide_eq_true g
        have HG := Lib.hid tg
        go_wp2_with fail
        refine (KC2.out _).mono ?_
        rintro e w9 ⟨rfl, O9⟩
        have HO9 := Lib.hid (HO8.out.trans O9)
        clear O9 x1 x2 x3 x4 x5 x6
        go_wp2_with fail
        go_ret
        refine ⟨?_, HO9.out⟩
        rw [HD3.out, HG.out]
        rfl
      · have tg : decide (0 ≤ z1) = false := decide_eq_false g
        have HG := Lib.hid tg
        go_wp2_with fail
        go_ret
        refine ⟨?_, HO8.out⟩
        rw [HD3.out, HG.out]
        rfl
end Go.Proofs.YtiijgghholhcnaaGreatDoor
