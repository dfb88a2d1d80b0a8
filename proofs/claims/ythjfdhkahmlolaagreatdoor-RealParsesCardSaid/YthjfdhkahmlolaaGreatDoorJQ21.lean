/- leftShift. -/
import Derived.Test.YthjfdhkahmlolaaGreatDoorJQ20
namespace Go.Proofs.YthjfdhkahmlolaaGreatDoor
open Go.RowKit
set_option maxRecDepth 100000
/-- the table leftcheats, as laid -/
structure Cheats (w : World) (bb oo : Nat) : Prop where
  var : w.cell? ⟨14, 0, none⟩ = some (.slice (some ⟨bb, oo, none⟩) 61 61)
  dlt : ∀ k, k < 61 → w.cell? ⟨bb, oo + k * 2, none⟩ = some (.int .i64 (chD k : Int))
  cut : ∀ k, k < 61 → w.cell? ⟨bb, oo + k * 2 + 1, none⟩ = some (.string (chS k))
theorem cell_only {S : Nat → Prop} {w w' : World} {b o : Nat} {v : Value} (h : w.cell? ⟨b, o, none⟩ = some v) (O : Only S w w') (hs : ¬ S b) : w'.cell? ⟨b, o, none⟩ = some v := by
  have h3 : b < w.heap.size := World.block_lt_of_cell? w ⟨b, o, none⟩ h
  rw [O.cellAt h3 hs]; exact h
theorem Cheats.only {S : Nat → Prop} {w w' : World} {bb oo : Nat} (h : Cheats w bb oo) (O : Only S w w') (h1 : ¬ S 14) (h2 : ¬ S bb) : Cheats w' bb oo :=
  ⟨cell_only h.var O h1, fun k hk => cell_only (h.dlt k hk) O h2, fun k hk => cell_only (h.cut k hk) O h2⟩
/-- a decimal that floatBits can shift -/
structure Dok (w : World) (b : Nat) (g : Nat → Nat) (nd : Nat) (dp : Int) (ng : Bool) : Prop where
  blk : ∃ tr, DecB w b g nd dp ng tr
  dgt : Dgt g nd
  one : 1 ≤ nd
  most : nd ≤ 800
  lead : 49 ≤ g 0
/-- the first loop -/
def LI (b : Nat) (g : Nat → Nat) (nd : Nat) (dp : Int) (ng : Bool) (K D : Nat) (w0 : World) (r w n : Value) (wr : World) : Prop :=
  ∃ (j m : Nat) (g' : Nat → Nat) (tr : Bool) (rest : Nat), r = .int .i64 ((j : Int) - 1) ∧ w = .int .i64 ((j : Int) + D) ∧ n = .int .u64 (m : Int) ∧ j ≤ nd ∧ m < K ∧ DecB wr b g' nd dp ng tr ∧ Only (· = b) w0 wr ∧
    (∀ i, i < j → g' i = g i) ∧ (∀ i, i < 800 → j + D ≤ i → i < nd + D → 48 ≤ g' i ∧ g' i ≤ 57) ∧ rest < 10 ^ (nd - j) ∧ nm g nd * K = (nm g j * K + m) * 10 ^ (nd - j) + rest ∧ (j = 0 → D = 0 → m = 0 → (g 0 - 48) * K + 48 ≤ g' 0)
theorem LI.next {b : Nat} {g g' g2 : Nat → Nat} {nd i m D d q x rest K : Nat} {dp : Int} {ng tr2 : Bool} {w0 w2 : World} (hj : i + 1 ≤ nd) (hq : q < K) (hB : DecB w2 b g2 nd dp ng tr2) (hO : Only (· = b) w0 w2)
    (hlo : ∀ t, t < i + 1 → g' t = g t) (hhi : ∀ t, t < 800 → i + 1 + D ≤ t → t < nd + D → 48 ≤ g' t ∧ g' t ≤ 57) (hr : rest < 10 ^ (nd - (i + 1))) (hv : nm g nd * K = (nm g (i + 1) * K + m) * 10 ^ (nd - (i + 1)) + rest)
    (hd : g i = d + 48) (hqx : m + d * K = 10 * q + x) (hx : x < 10) (h1 : ∀ t, t ≠ i + D → g2 t = g' t) (h2 : i + D < 800 → g2 (i + D) = x + 48) :
    LI b g nd dp ng K D w0 (.int .i64 ((i : Int) - 1)) (.int .i64 ((i : Int) + D)) (.int .u64 (q : Int)) w2 := by
  refine ⟨i, q, g2, tr2, x * 10 ^ (nd - (i + 1)) + rest, rfl, rfl, rfl, by omega, hq, hB, hO, fun t ht => ?_, fun t t1 t2 t3 => ?_, ?_, ?_, fun e1 e2 e3 => ?_⟩
  · rw [h1 t (by omega)]; exact hlo t (by omega)
  · by_cases e : t = i + D
    · subst e; rw [h2 t1]; omega
    · rw [h1 t e]; exact hhi t t1 (by omega) t3
  · rw [show nd - i = nd - (i + 1) + 1 by omega, Nat.pow_succ]
    have : x * 10 ^ (nd - (i + 1)) ≤ 9 * 10 ^ (nd - (i + 1)) := Nat.mul_le_mul_right _ (by omega)
    omega
  · rw [hv, nm_succ, hd, show nd - i = nd - (i + 1) + 1 by omega, Nat.pow_succ]
    generalize 10 ^ (nd - (i + 1)) = P
    have e1 : (nm g i * 10 + (d + 48 - 48)) * K + m = (nm g i * K + q) * 10 + x := by
      rw [Nat.add_sub_cancel, Nat.add_mul, Nat.add_mul, Nat.mul_right_comm]; omega
    rw [e1, Nat.add_mul, Nat.mul_assoc, Nat.mul_comm 10 P, Nat.add_assoc]
  · subst e1 e2 e3
    rw [h2 (by omega), hd, Nat.add_sub_cancel]; omega
/-- the second loop -/
def LJ (b : Nat) (g : Nat → Nat) (nd : Nat) (dp : Int) (ng : Bool) (K D : Nat) (w0 : World) (w n : Value) (wr : World) : Prop :=
  ∃ (t m : Nat) (g' : Nat → Nat) (tr : Bool), w = .int .i64 (t : Int) ∧ n = .int .u64 (m : Int) ∧ t ≤ D ∧ m < 10 ^ t ∧ (1 ≤ t → 10 ^ (t - 1) ≤ m) ∧ m < 1152921504606846976 ∧ DecB wr b g' nd dp ng tr ∧ Only (· = b) w0 wr ∧
    (∀ i, i < 800 → t ≤ i → i < nd + D → 48 ≤ g' i ∧ g' i ≤ 57) ∧ (t = 0 → 49 ≤ g' 0 ∧ (D = 0 → (g 0 - 48) * K + 48 ≤ g' 0))
theorem LI.done {b : Nat} {g g' : Nat → Nat} {nd m D rest K : Nat} {dp : Int} {ng tr : Bool} {w0 wr : World} (h0 : 49 ≤ g 0) (n1 : 1 ≤ nd) (hS : 10 ^ (nd + D - 1) ≤ nm g nd * K ∧ nm g nd * K < 10 ^ (nd + D)) (hK : 1 ≤ K ∧ K ≤ 1152921504606846976) (hm : m < K) (hB : DecB wr b g' nd dp ng tr) (hO : Only (· = b) w0 wr)
    (hhi : ∀ t, t < 800 → 0 + D ≤ t → t < nd + D → 48 ≤ g' t ∧ g' t ≤ 57) (hr : rest < 10 ^ (nd - 0)) (hv : nm g nd * K = (nm g 0 * K + m) * 10 ^ (nd - 0) + rest) (hle : D = 0 → m = 0 → (g 0 - 48) * K + 48 ≤ g' 0) :
    LJ b g nd dp ng K D w0 (.int .i64 (D : Int)) (.int .u64 (m : Int)) wr := by
  simp only [nm, Nat.zero_mul, Nat.zero_add, Nat.sub_zero] at hv hr hhi
  have p1 : 0 < (10 : Nat) ^ nd := Nat.pow_pos (by decide)
  have e2 : (10 : Nat) ^ (nd + D) = 10 ^ D * 10 ^ nd := by rw [← Nat.pow_add, Nat.add_comm]
  have hm2 : m < 10 ^ D := by
    have h : m * 10 ^ nd < 10 ^ D * 10 ^ nd := by omega
    exact Nat.lt_of_mul_lt_mul_right h
  refine ⟨D, m, g', tr, rfl, rfl, Nat.le_refl _, hm2, fun h1 => ?_, by omega, hB, hO, hhi, fun h => ?_⟩
  · have e3 : (10 : Nat) ^ (nd + D - 1) = 10 ^ (D - 1) * 10 ^ nd := by rw [← Nat.pow_add]; congr 1; omega
    have h : 10 ^ (D - 1) * 10 ^ nd < (m + 1) * 10 ^ nd := by rw [Nat.add_mul, Nat.one_mul]; omega
    have := Nat.lt_of_mul_lt_mul_right h
    omega
  · subst h
    have hm0 : m = 0 := by simpa using hm2
    have hh := hle rfl hm0
    refine ⟨?_, fun _ => hh⟩
    have : 1 * 1 ≤ (g 0 - 48) * K := Nat.mul_le_mul (by omega) hK.1
    omega
theorem LJ.next {b : Nat} {g g' g2 : Nat → Nat} {nd t m D q x K : Nat} {dp : Int} {ng tr2 : Bool} {w0 w2 : World} (ht : t + 1 ≤ D) (hm : m < 10 ^ (t + 1)) (hm2 : 10 ^ (t + 1 - 1) ≤ m) (hm3 : m < 1152921504606846976) (hB : DecB w2 b g2 nd dp ng tr2) (hO : Only (· = b) w0 w2)
    (hhi : ∀ i, i < 800 → t + 1 ≤ i → i < nd + D → 48 ≤ g' i ∧ g' i ≤ 57) (hqx : m = 10 * q + x) (hx : x < 10) (h1 : ∀ i, i ≠ t → g2 i = g' i) (h2 : t < 800 → g2 t = x + 48) :
    LJ b g nd dp ng K D w0 (.int .i64 (t : Int)) (.int .u64 (q : Int)) w2 := by
  rw [Nat.pow_succ] at hm
  refine ⟨t, q, g2, tr2, rfl, rfl, by omega, by omega, fun h => ?_, by omega, hB, hO, fun i i1 i2 i3 => ?_, fun h => ?_⟩
  · rw [show t + 1 - 1 = t - 1 + 1 by omega, Nat.pow_succ] at hm2; omega
  · by_cases e : i = t
    · subst e; rw [h2 i1]; omega
    · rw [h1 i e]; exact hhi i i1 (by omega) i3
  · subst h
    rw [h2 (by omega)]
    simp at hm hm2
    exact ⟨by omega, fun h => absurd ht (by omega)⟩
/-- what leftShift leaves -/
def LsPost (b : Nat) (g : Nat → Nat) (dp : Int) (ng : Bool) (k : Nat) (w : World) (e : Ending) (w' : World) : Prop :=
  e = .returned (.tuple #[]) ∧ Only (· = b) w w' ∧ ∃ g' n' D, Dok w' b g' n' (dp + (D : Nat)) ng ∧ (D = chD k ∨ D + 1 = chD k) ∧ (D = 0 → (g 0 - 48) * 2 ^ k + 48 ≤ g' 0)
set_option maxHeartbeats 4000000 in
theorem ls_calls {w : World} {b nd bb oo k : Nat} {g : Nat → Nat} {dp : Int} {ng : Bool} (hC : Cheats w bb oo) (h1 : 1 ≤ k) (h2 : k ≤ 60) (hD : Dok w b g nd dp ng) (hdp : -1000000000000 ≤ dp ∧ dp ≤ 1000000000000) :
    Calls Tryz.prog 144 #[.pointer (some ⟨b, 0, none⟩), .int .u64 (k : Nat)] w (LsPost b g dp ng k w) := by
  obtain ⟨⟨tr, hB⟩, hg, n1, n2, l1⟩ := hD
  have C := ch_p h1 h2
  have PC : Hid (∀ w2 : World, (∀ i, i < nd → w2.cell? ⟨b, i, none⟩ = some (.int .u8 (g i : Int))) → Calls Tryz.prog 160 #[.slice (some ⟨b, 0, none⟩) nd 800, .string (chS k)] w2 (PrePost g (tb (chS k)) nd (chS k).size w2)) :=
    Lib.hid (fun w2 hc => pre_calls hc hg C.dgt C.one C.last n2 (by have := C.most; omega))
  unfold PrePost at PC
  rw [C.num] at PC
  have SL : Hid (∀ D r, r = decide (nm g nd * 10 ^ (chS k).size < 5 ^ k * 10 ^ nd) → D = (if r then chD k - 1 else chD k) → (r = true → 1 ≤ chD k) ∧ 10 ^ (nd + D - 1) ≤ nm g nd * 2 ^ k ∧ nm g nd * 2 ^ k < 10 ^ (nd + D)) :=
    Lib.hid (fun D r e1 e2 => shift_len C hg n1 l1 (fun h => of_decide_eq_true (by rw [← e1, h])) (fun h => Nat.not_lt.1 (of_decide_eq_false (by rw [← e1, h]))) e2)
  have hd60 : chD k ≤ 60 := by have := C.len; have := C.one; omega
  generalize hr : decide (nm g nd * 10 ^ (chS k).size < 5 ^ k * 10 ^ nd) = r at *
  have HR := Lib.hid hr; clear hr
  have HB := Lib.hid hB; have HG := Lib.hid hg; have HCC := Lib.hid hC; have HC := Lib.hid C
  have v0 := hC.var
  have v1 := hC.dlt k (by omega)
  have v2 := hC.cut k (by omega)
  have c0 := hB.cnd
  have c1 := hB.cdp
  have kk1 : 0 ≤ (k : Int) := by omega
  have kk2 : (k : Int) < 61 := by omega
  have kk3 : (k : Int).toNat = k := by omega
  have nn1 : 0 ≤ (nd : Int) := by omega
  have nn2 : (nd : Int) ≤ 800 := by omega
  have nn3 : (nd : Int).toNat = nd := by omega
  have DC : Hid (∀ i, i < nd → w.cell? ⟨b, i, none⟩ = some (.int .u8 (g i : Int))) := Lib.hid (fun i hi => hB.dig (by omega))
  clear hB hg hC C
  have KB : 2 ≤ 2 ^ k ∧ 2 ^ k ≤ 1152921504606846976 := by
    refine ⟨?_, ?_⟩
    · exact Nat.pow_le_pow_right (n := 2) (by decide) h1
    · exact Nat.pow_le_pow_right (n := 2) (by decide) h2
  obtain ⟨D, hDr, hDl, hSL⟩ : ∃ D, (D = if r then chD k - 1 else chD k) ∧ (D = chD k ∨ D + 1 = chD k) ∧ 10 ^ (nd + D - 1) ≤ nm g nd * 2 ^ k ∧ nm g nd * 2 ^ k < 10 ^ (nd + D) := by
    have := SL.out _ r rfl rfl
    exact ⟨_, rfl, by cases r; exact .inl rfl; right; rw [if_pos rfl]; have := this.1 rfl; omega, this.2⟩
  have HDl := Lib.hid hDl
  have HSL := Lib.hid hSL
  have hD60 : D ≤ 60 := by omega
  have rk : (r = false ∧ chD k = D) ∨ (r = true ∧ chD k = D + 1) := by
    cases r
    · left; exact ⟨rfl, hDr.symm⟩
    · right
      have := (SL.out _ true rfl rfl).1 rfl
      rw [if_pos rfl] at hDr
      exact ⟨rfl, by omega⟩
  clear hDr hDl hSL SL hd60
  rcases rk with ⟨rfl, hk⟩ | ⟨rfl, hk⟩
  all_goals
    rw [hk] at v1
    clear hk
    go_enter Tryz.func144, Tryz.ntmps144
    go_wp2_with fail
    go_quiet ((go_at_call 160; exact Calls.quiet_of (PC.out _ (fun i hi => DC.out i hi))))
    go_wp2_with fail
    go_loopw [5, 6, 7] (fun r v n wr => LI b g nd dp ng (2 ^ k) D w r v n wr) (fun r _ _ _ => (intOf r + 1).toNat)
    case atStart =>
      exact ⟨nd, 0, g, tr, 0, by go_num, by go_num, rfl, Nat.le_refl _, by omega, HB.out, (Only.refl _ _).drewN _, fun _ _ => rfl, fun i h1 h2 h3 => absurd h2 (by omega), Nat.pow_pos (by decide), by simp, fun h => absurd h (by omega)⟩
    case round =>
      obtain ⟨j, m, g', tr', rest, rfl, rfl, rfl, hj, hm, hB', hO, hlo, hhi, hrs, hv, hle⟩ := hrel
      cases j with
      | zero =>
        have HB' := Lib.hid hB'; have HO := Lib.hid hO; have HJ := Lib.hid (LI.done l1 n1 HSL.out (by omega) hm hB' hO hhi hrs hv (hle rfl))
        clear hB' hO hlo hhi hv hle hrs v0 v1 v2 c0 c1 kk1 kk2 kk3 nn1 nn2 nn3
        rw [show (((0 : Nat) : Int) - 1) = -1 by omega, show (((0 : Nat) : Int) + (D : Int)) = (D : Int) by omega]
        go_wp2_with fail
        go_loopw [6, 7] (fun v n wr => LJ b g nd dp ng (2 ^ k) D w v n wr) (fun _ n _ => (intOf n).toNat)
        case atStart => exact HJ.out
        case round =>
          clear HJ HB' HO
          obtain ⟨t, m2, g2, tr2, rfl, rfl, ht, hm1, hm2, hm3, hB2, hO2, hhi2, hz2⟩ := hrel
          by_cases hm0 : m2 = 0
          · subst hm0
            have ht0 : t = 0 := by
              rcases Nat.eq_zero_or_pos t with h | h
              · exact h
              · have := hm2 h; have p1 : 0 < 10 ^ (t - 1) := Nat.pow_pos (by decide); omega
            subst ht0
            obtain ⟨z1, z2⟩ := hz2 rfl
            have d0 := hB2.cnd
            have d1 := hB2.cdp
            have f0 := hB2.free 800
            have f1 := hB2.free 801
            have HB2 := Lib.hid hB2; have HO2 := Lib.hid hO2; have HHI2 := Lib.hid hhi2; have HZ2 := Lib.hid z2
            clear hB2 hO2 hhi2 z2 hz2 hm1 hm2 KB
            by_cases hw : nd + D < 800
            · go_wp2_with fail
              refine (trim_calls (((HB2.out.setM (x := nd + D) (by omega)).setP (dp + D))) (by omega)).mono ?_
              rintro e w3 ⟨rfl, o3, n', g1, g2', g3⟩
              have g4 := g3 (by omega) (by omega)
              rw [if_neg (by omega)] at g2'
              have O3 := Lib.hid ((only_set (only_set HO2.out 800 (.int .i64 ((nd : Int) + D))) 801 (.int .i64 (dp + D))).trans o3)
              have G2 := Lib.hid g2'
              clear o3 g2' g3
              go_wp2_with fail
              go_end0
              exact ⟨rfl, O3.out, g2, n', D, ⟨⟨tr2, G2.out⟩, fun i hi => HHI2.out i (by omega) (Nat.zero_le _) (by omega), g4, by omega, z1⟩, HDl.out, HZ2.out⟩
            · go_wp2_with fail
              refine (trim_calls ((((HB2.out.setM (x := nd + D) (by omega)).setN 800).setP (dp + D))) (by omega)).mono ?_
              rintro e w3 ⟨rfl, o3, n', g1, g2', g3⟩
              have g4 := g3 (by omega) (by omega)
              rw [if_neg (by omega)] at g2'
              have O3 := Lib.hid ((only_set (only_set (only_set HO2.out 800 (.int .i64 ((nd : Int) + D))) 800 (.int .i64 800)) 801 (.int .i64 (dp + D))).trans o3)
              have G2 := Lib.hid g2'
              clear o3 g2' g3
              go_wp2_with fail
              go_end0
              exact ⟨rfl, O3.out, g2, n', D, ⟨⟨tr2, G2.out⟩, fun i hi => HHI2.out i (by omega) (Nat.zero_le _) (by omega), g4, by omega, z1⟩, HDl.out, HZ2.out⟩
          · obtain ⟨s, rfl⟩ : ∃ s, t = s + 1 := by
              rcases Nat.eq_zero_or_pos t with h | h
              · subst h; exact absurd hm1 (by simp; omega)
              · exact ⟨t - 1, by omega⟩
            obtain ⟨q, x, hqx, hx⟩ : ∃ q x, m2 = 10 * q + x ∧ x < 10 := ⟨m2 / 10, m2 % 10, by omega, by omega⟩
            have t1 : decide ((m2 : Int) > 0) = true := decide_eq_true (by omega)
            have e4 : IntKind.u64.wrap ((m2 : Int) / 10) = (q : Int) := by
              rw [show (m2 : Int) / 10 = (q : Int) by omega]
              exact wrap_u64 (by omega) (by omega)
            have e5 : IntKind.u64.wrap (10 * (q : Int)) = ((10 * q : Nat) : Int) := by
              rw [show 10 * (q : Int) = ((10 * q : Nat) : Int) by omega]
              exact wrap_u64 (by omega) (by omega)
            have e6 : IntKind.u64.wrap ((m2 : Int) - 10 * (q : Int)) = (x : Int) := by
              rw [show (m2 : Int) - 10 * (q : Int) = (x : Int) by omega]
              exact wrap_u64 (by omega) (by omega)
            have f0 := hB2.free s
            have f1 := hB2.free 803
            have c3 := hB2.ctr
            have HB2 := Lib.hid hB2; have HO2 := Lib.hid hO2; have HHI2 := Lib.hid hhi2; have HQX := Lib.hid hqx; have HM1 := Lib.hid hm1; have HM2 := Lib.hid (hm2 (by omega))
            have hqm : q < m2 := by omega
            clear hB2 hO2 hhi2 hz2 hqx hm1 hm2 KB
            by_cases hw : s < 800
            · have cw := HB2.out.dig hw
              go_wp2_with fail
              all_goals exact ⟨LJ.next ht HM1.out HM2.out hm3 (HB2.out.setE hw (x := x + 48) (by omega)) (only_set HO2.out _ _) HHI2.out HQX.out hx (fun t ht => if_neg ht) (fun _ => if_pos rfl), by simp only [intOf]; omega⟩
            · by_cases hx0 : x = 0
              · subst hx0
                go_wp2_with fail
                all_goals exact ⟨LJ.next ht HM1.out HM2.out hm3 HB2.out HO2.out HHI2.out HQX.out hx (fun t ht => rfl) (fun h => absurd h hw), by simp only [intOf]; omega⟩
              · have t2 : ((x : Int) != 0) = true := by rw [bne_iff_ne]; omega
                go_wp2_with fail
                all_goals exact ⟨LJ.next ht HM1.out HM2.out hm3 (HB2.out.setT true) (only_set HO2.out _ _) HHI2.out HQX.out hx (fun t ht => rfl) (fun h => absurd h hw), by simp only [intOf]; omega⟩
      | succ i =>
        have hgi := HG.out i (by omega)
        obtain ⟨d, hd, hd9⟩ : ∃ d, g i = d + 48 ∧ d ≤ 9 := ⟨g i - 48, by omega, by omega⟩
        have ci := hB'.dig (i := i) (by omega)
        rw [hlo i (by omega), hd] at ci
        rw [show (((i + 1 : Nat) : Int) - 1) = (i : Int) by omega, show (((i + 1 : Nat) : Int) + (D : Int)) = ((i + D + 1 : Nat) : Int) by omega]
        have hdK : d * 2 ^ k ≤ 9 * 2 ^ k := Nat.mul_le_mul_right _ hd9
        obtain ⟨V, hV⟩ : ∃ V, V = d * 2 ^ k := ⟨_, rfl⟩
        obtain ⟨v, hvv⟩ : ∃ v, v = m + V := ⟨_, rfl⟩
        obtain ⟨q, x, hqx, hx⟩ : ∃ q x, v = 10 * q + x ∧ x < 10 := ⟨v / 10, v % 10, by omega, by omega⟩
        rw [← hV] at hdK
        have e2 : IntKind.u64.wrap ((d : Int) * 2 ^ k) = (V : Int) := by
          rw [hV, show ((d : Int) * 2 ^ k) = ((d * 2 ^ k : Nat) : Int) by push_cast; rfl]
          exact wrap_u64 (by omega) (by omega)
        have e3 : IntKind.u64.wrap ((m : Int) + (V : Int)) = (v : Int) := by
          rw [show ((m : Int) + (V : Int)) = (v : Int) by omega]
          exact wrap_u64 (by omega) (by omega)
        have e4 : IntKind.u64.wrap ((v : Int) / 10) = (q : Int) := by
          rw [show (v : Int) / 10 = (q : Int) by omega]
          exact wrap_u64 (by omega) (by omega)
        have e5 : IntKind.u64.wrap (10 * (q : Int)) = ((10 * q : Nat) : Int) := by
          rw [show 10 * (q : Int) = ((10 * q : Nat) : Int) by omega]
          exact wrap_u64 (by omega) (by omega)
        have e6 : IntKind.u64.wrap ((v : Int) - 10 * (q : Int)) = (x : Int) := by
          rw [show (v : Int) - 10 * (q : Int) = (x : Int) by omega]
          exact wrap_u64 (by omega) (by omega)
        have hqK : q < 2 ^ k := by omega
        have hmd : m + d * 2 ^ k = 10 * q + x := by omega
        have f0 := hB'.free (i + D)
        have f1 := hB'.free 803
        have c3 := hB'.ctr
        have HB' := Lib.hid hB'; have HO := Lib.hid hO; have HLO := Lib.hid hlo; have HHI := Lib.hid hhi; have HV := Lib.hid hv; have HLE := Lib.hid hle; have HRS := Lib.hid hrs
        have HVV := Lib.hid hV; have HQX := Lib.hid hqx; have HVM := Lib.hid hvv; have HK := Lib.hid KB; have HMD := Lib.hid hmd; have HQK := Lib.hid hqK; have HD := Lib.hid hd
        clear hB' hO hlo hhi hv hle hrs hV hqx hvv KB hdK hd l1 hmd hqK v0 v1 v2 c0 c1 kk1 kk2 kk3 nn1 nn2 nn3
        by_cases hw : i + D < 800
        · have cw := HB'.out.dig hw
          go_wp2_with fail
          all_goals exact ⟨LI.next hj HQK.out (HB'.out.setE hw (x := x + 48) (by omega)) (only_set HO.out _ _) HLO.out HHI.out HRS.out HV.out HD.out HMD.out hx (fun t ht => if_neg ht) (fun _ => if_pos rfl), by simp only [intOf]; omega⟩
        · by_cases hx0 : x = 0
          · subst hx0
            go_wp2_with fail
            all_goals exact ⟨LI.next hj HQK.out HB'.out HO.out HLO.out HHI.out HRS.out HV.out HD.out HMD.out hx (fun t ht => rfl) (fun h => absurd h hw), by simp only [intOf]; omega⟩
          · have t1 : ((x : Int) != 0) = true := by rw [bne_iff_ne]; omega
            go_wp2_with fail
            all_goals exact ⟨LI.next hj HQK.out (HB'.out.setT true) (only_set HO.out _ _) HLO.out HHI.out HRS.out HV.out HD.out HMD.out hx (fun t ht => rfl) (fun h => absurd h hw), by simp only [intOf]; omega⟩
end Go.Proofs.YthjfdhkahmlolaaGreatDoor
