/- floatBits. -/
import Derived.Test.YthjfdhkahmlolaaGreatDoorJQ23
namespace Go.Proofs.YthjfdhkahmlolaaGreatDoor
open Go.RowKit
set_option maxRecDepth 100000
def ptL : List Nat := [1, 3, 6, 9, 13, 16, 19, 23, 26]
def pt (k : Nat) : Nat := (ptL[k]?).getD 0
theorem pt_ok : ∀ k, k < 9 → 1 ≤ pt k ∧ pt k ≤ 26 := by decide
/-- what floatBits reads, apart from the decimal -/
structure EnvB (w : World) (bb oo bp op : Nat) : Prop where
  ch : Cheats w bb oo
  pv : w.cell? ⟨11, 0, none⟩ = some (.slice (some ⟨bp, op, none⟩) 9 9)
  pc : ∀ k, k < 9 → w.cell? ⟨bp, op + k, none⟩ = some (.int .i64 (pt k : Int))
  i0 : w.cell? ⟨8, 0, none⟩ = some (.int .u64 52)
  i1 : w.cell? ⟨8, 1, none⟩ = some (.int .u64 11)
  i2 : w.cell? ⟨8, 2, none⟩ = some (.int .i64 (-1023))
theorem EnvB.only {S : Nat → Prop} {w w' : World} {bb oo bp op : Nat} (h : EnvB w bb oo bp op) (O : Only S w w') (h1 : ¬ S 14) (h2 : ¬ S bb) (h3 : ¬ S 11) (h4 : ¬ S bp) (h5 : ¬ S 8) : EnvB w' bb oo bp op :=
  ⟨h.ch.only O h1 h2, cell_only h.pv O h3, fun k hk => cell_only (h.pc k hk) O h4, cell_only h.i0 O h5, cell_only h.i1 O h5, cell_only h.i2 O h5⟩
structure Apart (b bb bp : Nat) : Prop where
  a8 : 8 ≠ b
  a11 : 11 ≠ b
  a14 : 14 ≠ b
  abb : bb ≠ b
  abp : bp ≠ b
theorem EnvB.keep {w w' : World} {b bb oo bp op : Nat} (h : EnvB w bb oo bp op) (A : Apart b bb bp) (O : Only (· = b) w w') : EnvB w' bb oo bp op :=
  h.only O A.a14 A.abb A.a11 A.abp A.a8
def dpOf (b : Nat) (w : World) : Int := match w.cell? ⟨b, 801, none⟩ with | some (.int _ x) => x | _ => 0
def ldOf (b : Nat) (w : World) : Nat := match w.cell? ⟨b, 0, none⟩ with | some (.int _ x) => x.toNat | _ => 0
def mA (dp : Int) (x : Nat) : Nat := if dp ≤ 0 then 0 else dp.toNat * 10 + (x - 48)
def mB (dp : Int) (x : Nat) : Nat := if 0 < dp then 0 else (-dp).toNat * 10 + (58 - x)
theorem Dok.drewN {w : World} {b nd : Nat} {g : Nat → Nat} {dp : Int} {ng : Bool} (h : Dok w b g nd dp ng) (q : Nat) : Dok (w.drewN q) b g nd dp ng := ⟨h.blk, h.dgt, h.one, h.most, h.lead⟩
theorem Dok.dp {w : World} {b nd : Nat} {g : Nat → Nat} {dp : Int} {ng : Bool} (h : Dok w b g nd dp ng) : dpOf b w = dp := by
  obtain ⟨tr, hB⟩ := h.blk
  unfold dpOf; rw [hB.cdp]
theorem Dok.ld {w : World} {b nd : Nat} {g : Nat → Nat} {dp : Int} {ng : Bool} (h : Dok w b g nd dp ng) : ldOf b w = g 0 := by
  obtain ⟨tr, hB⟩ := h.blk
  unfold ldOf; rw [hB.dig (by omega)]; simp
theorem mA_next {dp : Int} {x y c : Nat} (h : 0 < dp) (hx : 49 ≤ x) (hy : 49 ≤ y ∧ y ≤ 57) (hc : c = 0 → y < x) : mA (dp - (c : Int)) y < mA dp x := by
  unfold mA
  rw [if_neg (show ¬ dp ≤ 0 by omega)]
  split
  · omega
  · rcases Nat.eq_zero_or_pos c with h1 | h1
    · have := hc h1; subst h1; omega
    · omega
theorem mB_next {dp : Int} {x y D : Nat} (h : dp < 0 ∨ dp = 0) (hx : 49 ≤ x ∧ x ≤ 57) (hy : 49 ≤ y ∧ y ≤ 57) (hc : D = 0 → x < y) : mB (dp + (D : Int)) y < mB dp x := by
  unfold mB
  rw [if_neg (show ¬ 0 < dp by omega)]
  split
  · omega
  · rcases Nat.eq_zero_or_pos D with h1 | h1
    · have := hc h1; subst h1; omega
    · omega
def FA (b : Nat) (ng : Bool) (w0 : World) (e : Value) (wr : World) : Prop :=
  ∃ (g : Nat → Nat) (n : Nat) (dp E : Int), e = .int .i64 E ∧ Dok wr b g n dp ng ∧ Only (· = b) w0 wr ∧ -900 ≤ dp ∧ dp ≤ 310 ∧ 0 ≤ E ∧ E + 27 * (mA dp (g 0) : Int) ≤ 100000
def FBr (b : Nat) (ng : Bool) (w0 : World) (e : Value) (wr : World) : Prop :=
  ∃ (g : Nat → Nat) (n : Nat) (dp E : Int), e = .int .i64 E ∧ Dok wr b g n dp ng ∧ Only (· = b) w0 wr ∧ -900 ≤ dp ∧ dp ≤ 400 ∧ E ≤ 100000 ∧ -300000 ≤ E - 27 * (mB dp (g 0) : Int)
/-- one shift to the left of the second loop -/
def LsP2 (b : Nat) (g : Nat → Nat) (dp : Int) (ng : Bool) (w : World) (e : Ending) (w' : World) : Prop :=
  e = .returned (.tuple #[]) ∧ Only (· = b) w w' ∧ ∃ (g' : Nat → Nat) (n' D : Nat), Dok w' b g' n' (dp + (D : Int)) ng ∧ D ≤ 60 ∧ (D = 0 → g 0 < g' 0)
theorem sh_left2 {w : World} {b nd bb oo k : Nat} {g : Nat → Nat} {dp : Int} {ng : Bool} (hC : Cheats w bb oo) (h1 : 1 ≤ k) (h2 : k ≤ 60) (hD : Dok w b g nd dp ng) (hdp : -1000000000000 ≤ dp ∧ dp ≤ 1000000000000) (q : Nat) :
    Calls Tryz.prog 103 #[.pointer (some ⟨b, 0, none⟩), .int .i64 (k : Nat)] (w.drewN q) (LsP2 b g dp ng (w.drewN q)) := by
  refine (sh_left (w := w.drewN q) ⟨hC.var, hC.dlt, hC.cut⟩ h1 h2 (hD.drewN q) hdp).mono ?_
  rintro e w' ⟨he, hO, g', n', D, hD', hDc, hl⟩
  have C := ch_p h1 h2
  refine ⟨he, hO, g', n', D, hD', by have := C.len; have := C.one; omega, fun h => ?_⟩
  have h3 := hl h
  have h4 := hD.lead
  have h5 : (g 0 - 48) * 2 ^ 1 ≤ (g 0 - 48) * 2 ^ k := Nat.mul_le_mul_left _ (Nat.pow_le_pow_right (by decide) h1)
  omega
/-- what floatBits tells -/
def FbPost (b : Nat) (w : World) (e : Ending) (w' : World) : Prop :=
  (∃ (m : Nat) (ov : Bool), m < 18446744073709551616 ∧ e = .returned (.tuple #[.int .u64 (m : Int), .bool ov])) ∧ Only (· = b) w w'
/-- a scope with two labels that lie ahead of every jump -/
def fwd2 (J0 J1 : Act → World → Prop) (Q : Exit → Act → World → Prop) : Exit → Act → World → Prop
  | .goto l, a, w => (l = 0 ∧ J0 a w) ∨ (l = 1 ∧ J1 a w)
  | e, a, w => Q e a w
theorem wp_scope_two {P : Program} {a : Act} {w : World} {Q : Exit → Act → World → Prop} {c r0 r1 : Code} (J0 J1 : Act → World → Prop) (h0 : findLabel c 0 = some r0) (h1 : findLabel c 1 = some r1)
    (first : c.wp P (fwd2 J0 J1 Q) a w) (p0 : ∀ a w, J0 a w → r0.wp P (Exit.noGoto Q) a w) (p1 : ∀ a w, J1 a w → r1.wp P (Exit.noGoto Q) a w) : (Code.scope c).wp P Q a w := by
  intro b k cs
  have key : ∀ l r a w, findLabel c l = some r → r.wp P (Exit.noGoto Q) a w → ∃ e a' w', Q e a' w' ∧ Arrives P (lone (b.at a (.code r :: .inScope c :: k)) cs w) b k cs e a' w' := by
    intro l r a w hl hr
    obtain ⟨e, a₁, w₁, hq, harr⟩ := hr b (.inScope c :: k) cs
    cases e with
    | normal => exact ⟨.normal, a₁, w₁, hq, Steps.trans harr (.one step_inScope)⟩
    | exit id => exact ⟨.exit id, a₁, w₁, hq, fun k' hk => harr k' (by simp [exitTo, hk])⟩
    | goto l => exact hq.elim
    | ret => exact ⟨_, a₁, w₁, hq, harr⟩
    | panic ch => exact ⟨_, a₁, w₁, hq, harr⟩
    | outgrown => exact ⟨_, a₁, w₁, hq, harr⟩
  have hg : ∀ l r, findLabel c l = some r → gotoIn l (.inScope c :: k) = some (.code r :: .inScope c :: k) := fun l r h => by simp [gotoIn, h]
  obtain ⟨e, a₁, w₁, hq, harr⟩ := first b (.inScope c :: k) cs
  cases e with
  | normal => exact ⟨.normal, a₁, w₁, hq, .head step_scope (Steps.trans harr (.one step_inScope))⟩
  | exit id => exact ⟨.exit id, a₁, w₁, hq, fun k' hk => .head step_scope (harr k' (by simp [exitTo, hk]))⟩
  | goto l =>
    rcases hq with ⟨rfl, hJ⟩ | ⟨rfl, hJ⟩
    · obtain ⟨e₂, a₂, w₂, hq₂, harr₂⟩ := key 0 r0 a₁ w₁ h0 (p0 _ _ hJ)
      exact ⟨e₂, a₂, w₂, hq₂, .of_steps (.head step_scope (harr _ (hg 0 r0 h0))) harr₂⟩
    · obtain ⟨e₂, a₂, w₂, hq₂, harr₂⟩ := key 1 r1 a₁ w₁ h1 (p1 _ _ hJ)
      exact ⟨e₂, a₂, w₂, hq₂, .of_steps (.head step_scope (harr _ (hg 1 r1 h1))) harr₂⟩
  | ret => exact ⟨_, a₁, w₁, hq, .of_steps (.one step_scope) harr⟩
  | panic ch => exact ⟨_, a₁, w₁, hq, .of_steps (.one step_scope) harr⟩
  | outgrown => exact ⟨_, a₁, w₁, hq, .of_steps (.one step_scope) harr⟩
/-- what the end of floatBits reads -/
structure FbW (b : Nat) (ng : Bool) (w : World) : Prop where
  i0 : w.cell? ⟨8, 0, none⟩ = some (.int .u64 52)
  i1 : w.cell? ⟨8, 1, none⟩ = some (.int .u64 11)
  i2 : w.cell? ⟨8, 2, none⟩ = some (.int .i64 (-1023))
  ng : w.cell? ⟨b, 802, none⟩ = some (.bool ng)
theorem FbW.of {w : World} {b nd bb oo bp op : Nat} {g : Nat → Nat} {dp : Int} {ng tr : Bool} (h : EnvB w bb oo bp op) (hB : DecB w b g nd dp ng tr) : FbW b ng w := ⟨h.i0, h.i1, h.i2, hB.cng⟩
theorem FbW.at {w w' : World} {b nd bb oo bp op : Nat} {g : Nat → Nat} {dp : Int} {ng : Bool} (h : EnvB w bb oo bp op) (A : Apart b bb bp) (O : Only (· = b) w w') (D : Dok w' b g nd dp ng) : FbW b ng w' := by
  obtain ⟨tr, hB⟩ := D.blk
  exact FbW.of (h.keep A O) hB
theorem bits_some (op : BinOp) (x y : Int) : ∃ m : Nat, m < 18446744073709551616 ∧ bits op .u64 x y = (m : Int) := u64_some _
theorem fb_ret (op : BinOp) (x y : Int) (ov : Bool) : ∃ (m : Nat) (v : Bool), m < 18446744073709551616 ∧ Ending.returned (.tuple #[.int .u64 (bits op .u64 x y), .bool ov]) = .returned (.tuple #[.int .u64 (m : Int), .bool v]) := by
  obtain ⟨m, hm, e⟩ := bits_some op x y
  exact ⟨m, ov, hm, by rw [e]⟩
/-- a frame of floatBits, written out -/
theorem frame243 {t : Array Value} (h : t.size = 243) : ∃ u : Nat → Value, (∀ i, i < 243 → t[i]? = some (u i)) ∧ t = #[u 0, u 1, u 2, u 3, u 4, u 5, u 6, u 7, u 8, u 9, u 10, u 11, u 12, u 13, u 14, u 15, u 16, u 17, u 18, u 19, u 20, u 21, u 22, u 23, u 24, u 25, u 26, u 27, u 28, u 29, u 30, u 31, u 32, u 33, u 34, u 35, u 36, u 37, u 38, u 39, u 40, u 41, u 42, u 43, u 44, u 45, u 46, u 47, u 48, u 49, u 50, u 51, u 52, u 53, u 54, u 55, u 56, u 57, u 58, u 59, u 60, u 61, u 62, u 63, u 64, u 65, u 66, u 67, u 68, u 69, u 70, u 71, u 72, u 73, u 74, u 75, u 76, u 77, u 78, u 79, u 80, u 81, u 82, u 83, u 84, u 85, u 86, u 87, u 88, u 89, u 90, u 91, u 92, u 93, u 94, u 95, u 96, u 97, u 98, u 99, u 100, u 101, u 102, u 103, u 104, u 105, u 106, u 107, u 108, u 109, u 110, u 111, u 112, u 113, u 114, u 115, u 116, u 117, u 118, u 119, u 120, u 121, u 122, u 123, u 124, u 125, u 126, u 127, u 128, u 129, u 130, u 131, u 132, u 133, u 134, u 135, u 136, u 137, u 138, u 139, u 140, u 141, u 142, u 143, u 144, u 145, u 146, u 147, u 148, u 149, u 150, u 151, u 152, u 153, u 154, u 155, u 156, u 157, u 158, u 159, u 160, u 161, u 162, u 163, u 164, u 165, u 166, u 167, u 168, u 169, u 170, u 171, u 172, u 173, u 174, u 175, u 176, u 177, u 178, u 179, u 180, u 181, u 182, u 183, u 184, u 185, u 186, u 187, u 188, u 189, u 190, u 191, u 192, u 193, u 194, u 195, u 196, u 197, u 198, u 199, u 200, u 201, u 202, u 203, u 204, u 205, u 206, u 207, u 208, u 209, u 210, u 211, u 212, u 213, u 214, u 215, u 216, u 217, u 218, u 219, u 220, u 221, u 222, u 223, u 224, u 225, u 226, u 227, u 228, u 229, u 230, u 231, u 232, u 233, u 234, u 235, u 236, u 237, u 238, u 239, u 240, u 241, u 242] := by
  refine ⟨fun i => t.getD i undef, fun i hi => ?_, ?_⟩
  · rw [Array.getElem?_eq_getElem (by omega)]
    simp [Array.getD, h, hi]
  · have e : t.toList = (List.range 243).map (fun i => t.getD i undef) := by
      apply List.ext_getElem?
      intro i
      by_cases hi : i < 243
      · rw [List.getElem?_map, List.getElem?_range hi, Array.getElem?_toList, Array.getElem?_eq_getElem (by omega)]
        simp [Array.getD, h, hi]
      · rw [List.getElem?_eq_none (by simp; omega), List.getElem?_eq_none (by simp; omega)]
    have e2 : t = ((List.range 243).map (fun i => t.getD i undef)).toArray := by rw [← e]
    rw [e2]
    rfl
def FbJ0 (b : Nat) (ng : Bool) (w0 : World) (a : Act) (w : World) : Prop :=
  ∃ (ov : Bool) (E M : Int), Only (· = b) w0 w ∧ FbW b ng w ∧ a.defers = [] ∧ a.tmps.size = 243 ∧ a.tmps[0]? = some (.pointer (some ⟨b, 0, none⟩)) ∧ a.tmps[1]? = some (.pointer (some ⟨8, 0, none⟩)) ∧ a.tmps[5]? = some (.bool ov) ∧ a.tmps[6]? = some (.int .i64 E) ∧ a.tmps[7]? = some (.int .u64 M)
def FbJ1 (b : Nat) (ng : Bool) (w0 : World) (a : Act) (w : World) : Prop :=
  Only (· = b) w0 w ∧ FbW b ng w ∧ a.defers = [] ∧ a.tmps.size = 243 ∧ a.tmps[0]? = some (.pointer (some ⟨b, 0, none⟩)) ∧ a.tmps[1]? = some (.pointer (some ⟨8, 0, none⟩))
set_option maxHeartbeats 4000000 in
theorem fb_calls {w : World} {b nd bb oo bp op : Nat} {g : Nat → Nat} {dp : Int} {ng tr : Bool} (hE : EnvB w bb oo bp op) (hA : Apart b bb bp) (hB : DecB w b g nd dp ng tr) (hD : nd ≠ 0 → Dok w b g nd dp ng) (hdp : -1000000000000000000 ≤ dp ∧ dp ≤ 1000000000000000000) :
    Calls Tryz.prog 124 #[.pointer (some ⟨b, 0, none⟩), .pointer (some ⟨8, 0, none⟩)] w (FbPost b w) := by
  have c0 := hB.cnd
  have c1 := hB.cdp
  have W0 := Lib.hid (FbW.of hE hB)
  have HE := Lib.hid hE; have HD := Lib.hid hD; have HA := Lib.hid hA; have HB := Lib.hid hB
  clear hE hD hA hB
  go_enter Tryz.func124, Tryz.ntmps124
  go_wp2_with fail
  apply wp_scope_two (FbJ0 b ng w) (FbJ1 b ng w)
  case h0 => rfl
  case h1 => rfl
  · by_cases h0 : nd = 0
    · subst h0
      have i2 := W0.out.i2
      go_wp2_with fail
      refine wp_goto ?_
      exact .inl ⟨rfl, false, _, _, Only.refl _ _, W0.out, rfl, rfl, rfl, rfl, rfl, rfl, rfl⟩
    have hD := HD.out h0
    have t0 : ((nd : Int) == 0) = false := by rw [beq_eq_false_iff_ne]; omega
    by_cases h1 : dp > 310
    · have t1 : decide (dp > 310) = true := decide_eq_true h1
      clear hD
      go_wp2_with fail
      refine wp_goto ?_
      exact .inr ⟨rfl, Only.refl _ _, W0.out, rfl, rfl, rfl, rfl⟩
    have t1 : decide (dp > 310) = false := decide_eq_false h1
    by_cases h2 : dp < -330
    · have t2 : decide (dp < -330) = true := decide_eq_true h2
      have i2 := W0.out.i2
      clear hD
      go_wp2_with fail
      refine wp_goto ?_
      exact .inl ⟨rfl, false, _, _, Only.refl _ _, W0.out, rfl, rfl, rfl, rfl, rfl, rfl, rfl⟩
    have t2 : decide (dp < -330) = false := decide_eq_false h2
    have hl : g 0 ≤ 57 := (hD.dgt 0 (by omega)).2
    have HDD := Lib.hid hD
    clear hD
    go_wp2_with fail
    go_loopw [6] (fun e wr => FA b ng w e wr) (fun _ wr => mA (dpOf b wr) (ldOf b wr))
    case atStart => exact ⟨g, nd, dp, 0, rfl, HDD.out, Only.refl _ _, by omega, by omega, by omega, by unfold mA; split <;> omega⟩
    case round =>
      clear t0 t1 t2 c0 c1 h1 h2 hl
      obtain ⟨g2, n, d, E, rfl, hD2, hO, d1, d2, e1, e2⟩ := hrel
      have hE2 := HE.out.keep HA.out hO
      have c1 : wr.cell? ⟨b, 801, none⟩ = some (.int .i64 d) := by obtain ⟨tr, h⟩ := hD2.blk; exact h.cdp
      have pv := hE2.pv
      have HMU : Hid (mA (dpOf b wr) (ldOf b wr) = mA d (g2 0)) := Lib.hid (by rw [hD2.dp, hD2.ld])
      by_cases hd0 : 0 < d
      · have t0 : decide (d > 0) = true := decide_eq_true hd0
        have hl2 := hD2.lead
        by_cases hd9 : 9 ≤ d
        · have t1 : decide (d ≥ 9) = true := decide_eq_true hd9
          have S : ∀ q, Calls Tryz.prog 103 #[.pointer (some ⟨b, 0, none⟩), .int .i64 (-27)] (wr.drewN q) (RsPost b g2 d ng (wr.drewN q)) := fun q => sh_right (k := 27) (by decide) (by decide) (hD2.drewN q) (by omega)
          have HS := Lib.hid S; have HO := Lib.hid hO
          clear S hO hE2 hD2
          go_wp2_with fail
          go_quiet (fail)
          go_wp2_with fail
          refine (HS.out _).mono ?_
          rintro e w1 ⟨rfl, hO2, g3, n3, c, hD3, hc, hlt⟩
          have O3 := Lib.hid (Only.trans (by first | exact HO.out.drewN _ | exact (HO.out.drewN _).drewN _) hO2); have D3 := Lib.hid hD3
          have hm := mA_next hd0 hl2 ⟨hD3.lead, (hD3.dgt 0 hD3.one).2⟩ hlt
          clear hO2 hD3 HS
          go_wp2_with fail
          exact ⟨⟨g3, n3, d - c, E + 27, by go_num, D3.out, O3.out, by omega, by omega, by omega, by omega⟩, by rw [D3.out.dp, D3.out.ld, HMU.out]; exact hm⟩
        · obtain ⟨m, rfl⟩ : ∃ m : Nat, d = m := ⟨d.toNat, by omega⟩
          have t1 : decide ((m : Int) ≥ 9) = false := decide_eq_false hd9
          have hpt := pt_ok m (by omega)
          have cp := hE2.pc m (by omega)
          have S := fun q => sh_right (k := pt m) hpt.1 (by omega) (hD2.drewN q) (by omega)
          have z1 : 0 ≤ (m : Int) := by omega
          have z2 : (m : Int) < 9 := by omega
          have z3 : (m : Int).toNat = m := by omega
          have HS := Lib.hid S; have HO := Lib.hid hO
          clear S hO hE2 hD2
          generalize pt m = k at *
          go_wp2_with fail
          go_quiet (fail)
          go_wp2_with fail
          go_quiet (fail)
          go_wp2_with fail
          refine (HS.out _).mono ?_
          rintro e w1 ⟨rfl, hO2, g3, n3, c, hD3, hc, hlt⟩
          have O3 := Lib.hid (Only.trans (by first | exact HO.out.drewN _ | exact (HO.out.drewN _).drewN _) hO2); have D3 := Lib.hid hD3
          have hm := mA_next hd0 hl2 ⟨hD3.lead, (hD3.dgt 0 hD3.one).2⟩ hlt
          clear hO2 hD3 HS
          go_wp2_with fail
          exact ⟨⟨g3, n3, m - c, E + k, by go_num, D3.out, O3.out, by omega, by omega, by omega, by omega⟩, by rw [D3.out.dp, D3.out.ld, HMU.out]; exact hm⟩
      · have t0 : decide (d > 0) = false := decide_eq_false hd0
        have HD2 := Lib.hid hD2; have HO := Lib.hid hO
        clear hE2 hO hD2 pv
        go_wp2_with fail
        go_loopw [6] (fun e wr => FBr b ng w e wr) (fun _ wr => mB (dpOf b wr) (ldOf b wr))
        case atStart => exact ⟨g2, n, d, E, rfl, HD2.out, HO.out, d1, by omega, by omega, by unfold mB; have := HD2.out.lead; split <;> omega⟩
        case round =>
          clear HD2 HO t0 hd0 c1 e1 e2 HMU d1 d2
          obtain ⟨g2, n, d, E, rfl, hD2, hO, d1, d2, e1, e2⟩ := hrel
          have hE2 := HE.out.keep HA.out hO
          have c1 : wr.cell? ⟨b, 801, none⟩ = some (.int .i64 d) := by obtain ⟨tr, h⟩ := hD2.blk; exact h.cdp
          have c2 : wr.cell? ⟨b, 0, none⟩ = some (.int .u8 (g2 0 : Int)) := by obtain ⟨tr, h⟩ := hD2.blk; exact h.dig (by omega)
          have pv := hE2.pv
          have HMU : Hid (mB (dpOf b wr) (ldOf b wr) = mB d (g2 0)) := Lib.hid (by rw [hD2.dp, hD2.ld])
          have hl2 := hD2.lead
          have hl3 := (hD2.dgt 0 hD2.one).2
          by_cases hgo : d < 0 ∨ (d = 0 ∧ g2 0 < 53)
          · have hdd : d < 0 ∨ d = 0 := hgo.imp id And.left
            have hch := hE2.ch
            by_cases hneg : d < 0
            · obtain ⟨m, rfl⟩ : ∃ m : Nat, d = -(m : Int) := ⟨(-d).toNat, by omega⟩
              have t0 : decide (-(m : Int) < 0) = true := decide_eq_true hneg
              by_cases hd9 : 9 ≤ m
              · have t1 : decide ((m : Int) ≥ 9) = true := decide_eq_true (by omega)
                have S : ∀ q, Calls Tryz.prog 103 #[.pointer (some ⟨b, 0, none⟩), .int .i64 27] (wr.drewN q) (LsP2 b g2 (-(m : Int)) ng (wr.drewN q)) := fun q => sh_left2 (k := 27) hch (by decide) (by decide) hD2 (by omega) q
                clear hch
                have HS := Lib.hid S; have HO := Lib.hid hO
                clear S hO hE2 hD2
                go_wp2_with fail
                go_quiet (fail)
                go_wp2_with fail
                refine (HS.out _).mono ?_
                rintro e w1 ⟨rfl, hO2, g3, n3, D, hD3, hDc, hlt⟩
                have O3 := Lib.hid (Only.trans (by first | exact HO.out.drewN _ | exact (HO.out.drewN _).drewN _ | exact ((HO.out.drewN _).drewN _).drewN _) hO2); have D3 := Lib.hid hD3
                have hm := mB_next hdd ⟨hl2, hl3⟩ ⟨hD3.lead, (hD3.dgt 0 hD3.one).2⟩ hlt
                clear hO2 hD3 HS
                go_wp2_with fail
                exact ⟨⟨g3, n3, -(m : Int) + D, E - 27, by go_num, D3.out, O3.out, by omega, by omega, by omega, by omega⟩, by rw [D3.out.dp, D3.out.ld, HMU.out]; exact hm⟩
              · have t1 : decide ((m : Int) ≥ 9) = false := decide_eq_false (by omega)
                have hpt := pt_ok m (by omega)
                have cp := hE2.pc m (by omega)
                have S := fun q => sh_left2 (k := pt m) hch hpt.1 (by omega) hD2 (by omega) q
                have z1 : 0 ≤ (m : Int) := by omega
                have z2 : (m : Int) < 9 := by omega
                have z3 : (m : Int).toNat = m := by omega
                clear hch
                generalize pt m = k at *
                have HS := Lib.hid S; have HO := Lib.hid hO
                clear S hO hE2 hD2
                go_wp2_with fail
                go_quiet (fail)
                go_wp2_with fail
                go_quiet (fail)
                go_wp2_with fail
                refine (HS.out _).mono ?_
                rintro e w1 ⟨rfl, hO2, g3, n3, D, hD3, hDc, hlt⟩
                have O3 := Lib.hid (Only.trans (by first | exact HO.out.drewN _ | exact (HO.out.drewN _).drewN _ | exact ((HO.out.drewN _).drewN _).drewN _) hO2); have D3 := Lib.hid hD3
                have hm := mB_next hdd ⟨hl2, hl3⟩ ⟨hD3.lead, (hD3.dgt 0 hD3.one).2⟩ hlt
                clear hO2 hD3 HS
                go_wp2_with fail
                exact ⟨⟨g3, n3, -(m : Int) + D, E - k, by go_num, D3.out, O3.out, by omega, by omega, by omega, by omega⟩, by rw [D3.out.dp, D3.out.ld, HMU.out]; exact hm⟩
            · obtain ⟨rfl, h53⟩ : d = 0 ∧ g2 0 < 53 := by omega
              have t3 : decide ((g2 0 : Int) < 53) = true := decide_eq_true (by omega)
              have cp := hE2.pc 0 (by omega)
              rw [show pt 0 = 1 from rfl, Nat.add_zero] at cp
              have S : ∀ q, Calls Tryz.prog 103 #[.pointer (some ⟨b, 0, none⟩), .int .i64 1] (wr.drewN q) (LsP2 b g2 0 ng (wr.drewN q)) := fun q => sh_left2 (k := 1) hch (by decide) (by decide) hD2 (by omega) q
              clear hch
              have HS := Lib.hid S; have HO := Lib.hid hO
              clear S hO hE2 hD2
              go_wp2_with fail
              go_quiet (fail)
              go_wp2_with fail
              go_quiet (fail)
              go_wp2_with fail
              refine (HS.out _).mono ?_
              rintro e w1 ⟨rfl, hO2, g3, n3, D, hD3, hDc, hlt⟩
              have O3 := Lib.hid (Only.trans (by first | exact HO.out.drewN _ | exact (HO.out.drewN _).drewN _ | exact ((HO.out.drewN _).drewN _).drewN _) hO2); have D3 := Lib.hid hD3
              have hm := mB_next (dp := 0) (.inr rfl) ⟨hl2, hl3⟩ ⟨hD3.lead, (hD3.dgt 0 hD3.one).2⟩ hlt
              clear hO2 hD3 HS
              go_wp2_with fail
              exact ⟨⟨g3, n3, (0 : Int) + D, E - 1, by go_num, D3.out, O3.out, by omega, by omega, by omega, by omega⟩, by rw [D3.out.dp, D3.out.ld, HMU.out]; exact hm⟩
          · by_cases hz : d = 0
            · subst hz
              have t0 : decide ((g2 0 : Int) < 53) = false := decide_eq_false (by omega)
              have hge : 53 ≤ g2 0 := by omega
              have OX := Lib.hid hO; have DX := Lib.hid hD2
              have k2 := hE2.i2
              by_cases hx : E - 1 < -1022
              · have t5 : decide (E - 1 < -1022) = true := decide_eq_true hx
                clear hO hD2 hE2 pv
                go_wp2_with fail
                repeat (go_quiet (fail); go_wp2_with fail)
                generalize hN : -1022 - (E - 1) = N at *
                obtain ⟨k, rfl⟩ : ∃ k : Nat, N = k := ⟨N.toNat, by omega⟩
                have HS := Lib.hid (sh_long (k := k) (by omega) (by omega) DX.out (by omega))
                have OY := Lib.hid OX.out
                clear OX DX
                refine HS.out.mono ?_
                rintro e w4 ⟨rfl, hO4, g4, n4, d4, hD4, p4, q4⟩
                have OX := Lib.hid (Only.trans (by first | exact OY.out | exact OY.out.drewN _ | exact (OY.out.drewN _).drewN _) hO4); have DX := Lib.hid hD4
                clear hO4 hD4 HS OY k2 c1 c2
                have j0 := (HE.out.keep HA.out OX.out).i0
                have j1 := (HE.out.keep HA.out OX.out).i1
                have j2 := (HE.out.keep HA.out OX.out).i2
                by_cases hov : E - 1 + (k : Int) + 1023 ≥ 2047
                · exact absurd hov (by omega)
                · have t6 : decide (E - 1 + (k : Int) + 1023 ≥ 2047) = false := decide_eq_false hov
                  have S : ∀ q, Calls Tryz.prog 103 #[.pointer (some ⟨b, 0, none⟩), .int .i64 53] (w4.drewN q) (LsP2 b g4 d4 ng (w4.drewN q)) := fun q => sh_left2 (k := 53) (HE.out.keep HA.out OX.out).ch (by decide) (by decide) DX.out (by omega) q
                  have HS := Lib.hid S; have OY := Lib.hid OX.out
                  clear S OX DX
                  go_wp2_with fail
                  repeat (go_quiet (fail); go_wp2_with fail)
                  refine (HS.out _).mono ?_
                  rintro e w5 ⟨rfl, hO5, g5, n5, D5, hD5, hc5, _⟩
                  have OX := Lib.hid (Only.trans (by first | exact OY.out | exact OY.out.drewN _ | exact (OY.out.drewN _).drewN _) hO5); have DX := Lib.hid hD5
                  have R := Lib.hid (ri_calls hD5)
                  have j0 := (HE.out.keep HA.out OX.out).i0
                  have j1 := (HE.out.keep HA.out OX.out).i1
                  have j2 := (HE.out.keep HA.out OX.out).i2
                  clear hO5 hD5 HS OY
                  go_wp2_with fail
                  repeat (go_quiet (fail); go_wp2_with fail)
                  refine R.out.mono ?_
                  rintro e w6 ⟨⟨m, hm, rfl⟩, hw⟩
                  rw [hw]
                  clear hw w6 R
                  by_cases hm2 : m = 9007199254740992
                  · subst hm2
                    by_cases hov2 : E - 1 + (k : Int) + 1 + 1023 ≥ 2047
                    · exact absurd hov2 (by omega)
                    · have t7 : decide (E - 1 + (k : Int) + 1 + 1023 ≥ 2047) = false := decide_eq_false hov2
                      have hb : (bits BinOp.and IntKind.u64 4503599627370496 4503599627370496 == 0) = false := by decide
                      go_wp2_with fail
                      repeat (go_quiet (fail); go_wp2_with fail)
                      refine wp_goto ?_
                      first
                        | exact .inl ⟨rfl, false, _, _, OX.out, FbW.at HE.out HA.out OX.out DX.out, rfl, rfl, rfl, rfl, rfl, rfl, rfl⟩
                        | exact .inl ⟨rfl, false, _, _, OX.out.drewN _, FbW.at HE.out HA.out (OX.out.drewN _) (DX.out.drewN _), rfl, rfl, rfl, rfl, rfl, rfl, rfl⟩
                  · have t7 : ((m : Int) == 9007199254740992) = false := by rw [beq_eq_false_iff_ne]; omega
                    cases hb : (bits BinOp.and IntKind.u64 (m : Int) 4503599627370496 == 0)
                    · go_wp2_with fail
                      repeat (go_quiet (fail); go_wp2_with fail)
                      refine wp_goto ?_
                      first
                        | exact .inl ⟨rfl, false, _, _, OX.out, FbW.at HE.out HA.out OX.out DX.out, rfl, rfl, rfl, rfl, rfl, rfl, rfl⟩
                        | exact .inl ⟨rfl, false, _, _, OX.out.drewN _, FbW.at HE.out HA.out (OX.out.drewN _) (DX.out.drewN _), rfl, rfl, rfl, rfl, rfl, rfl, rfl⟩
                    · go_wp2_with fail
                      repeat (go_quiet (fail); go_wp2_with fail)
                      refine wp_goto ?_
                      first
                        | exact .inl ⟨rfl, false, _, _, OX.out, FbW.at HE.out HA.out OX.out DX.out, rfl, rfl, rfl, rfl, rfl, rfl, rfl⟩
                        | exact .inl ⟨rfl, false, _, _, OX.out.drewN _, FbW.at HE.out HA.out (OX.out.drewN _) (DX.out.drewN _), rfl, rfl, rfl, rfl, rfl, rfl, rfl⟩
              · have t5 : decide (E - 1 < -1022) = false := decide_eq_false hx
                clear hO hD2 hE2 pv k2
                have j0 := (HE.out.keep HA.out OX.out).i0
                have j1 := (HE.out.keep HA.out OX.out).i1
                have j2 := (HE.out.keep HA.out OX.out).i2
                by_cases hov : E - 1 + 1023 ≥ 2047
                · have t6 : decide (E - 1 + 1023 ≥ 2047) = true := decide_eq_true hov
                  go_wp2_with fail
                  repeat (go_quiet (fail); go_wp2_with fail)
                  refine wp_goto ?_
                  first
                    | exact .inr ⟨rfl, OX.out, FbW.at HE.out HA.out OX.out DX.out, rfl, rfl, rfl, rfl⟩
                    | exact .inr ⟨rfl, OX.out.drewN _, FbW.at HE.out HA.out (OX.out.drewN _) (DX.out.drewN _), rfl, rfl, rfl, rfl⟩
                · have t6 : decide (E - 1 + 1023 ≥ 2047) = false := decide_eq_false hov
                  have S : ∀ q, Calls Tryz.prog 103 #[.pointer (some ⟨b, 0, none⟩), .int .i64 53] (wr.drewN q) (LsP2 b g2 0 ng (wr.drewN q)) := fun q => sh_left2 (k := 53) (HE.out.keep HA.out OX.out).ch (by decide) (by decide) DX.out (by omega) q
                  have HS := Lib.hid S; have OY := Lib.hid OX.out
                  clear S OX DX
                  go_wp2_with fail
                  repeat (go_quiet (fail); go_wp2_with fail)
                  refine (HS.out _).mono ?_
                  rintro e w5 ⟨rfl, hO5, g5, n5, D5, hD5, hc5, _⟩
                  have OX := Lib.hid (Only.trans (by first | exact OY.out | exact OY.out.drewN _ | exact (OY.out.drewN _).drewN _) hO5); have DX := Lib.hid hD5
                  have R := Lib.hid (ri_calls hD5)
                  have j0 := (HE.out.keep HA.out OX.out).i0
                  have j1 := (HE.out.keep HA.out OX.out).i1
                  have j2 := (HE.out.keep HA.out OX.out).i2
                  clear hO5 hD5 HS OY
                  go_wp2_with fail
                  repeat (go_quiet (fail); go_wp2_with fail)
                  refine R.out.mono ?_
                  rintro e w6 ⟨⟨m, hm, rfl⟩, hw⟩
                  rw [hw]
                  clear hw w6 R
                  by_cases hm2 : m = 9007199254740992
                  · subst hm2
                    by_cases hov2 : E - 1 + 1 + 1023 ≥ 2047
                    · have t7 : decide (E - 1 + 1 + 1023 ≥ 2047) = true := decide_eq_true hov2
                      go_wp2_with fail
                      repeat (go_quiet (fail); go_wp2_with fail)
                      refine wp_goto ?_
                      first
                        | exact .inr ⟨rfl, OX.out, FbW.at HE.out HA.out OX.out DX.out, rfl, rfl, rfl, rfl⟩
                        | exact .inr ⟨rfl, OX.out.drewN _, FbW.at HE.out HA.out (OX.out.drewN _) (DX.out.drewN _), rfl, rfl, rfl, rfl⟩
                    · have t7 : decide (E - 1 + 1 + 1023 ≥ 2047) = false := decide_eq_false hov2
                      have hb : (bits BinOp.and IntKind.u64 4503599627370496 4503599627370496 == 0) = false := by decide
                      go_wp2_with fail
                      repeat (go_quiet (fail); go_wp2_with fail)
                      refine wp_goto ?_
                      first
                        | exact .inl ⟨rfl, false, _, _, OX.out, FbW.at HE.out HA.out OX.out DX.out, rfl, rfl, rfl, rfl, rfl, rfl, rfl⟩
                        | exact .inl ⟨rfl, false, _, _, OX.out.drewN _, FbW.at HE.out HA.out (OX.out.drewN _) (DX.out.drewN _), rfl, rfl, rfl, rfl, rfl, rfl, rfl⟩
                  · have t7 : ((m : Int) == 9007199254740992) = false := by rw [beq_eq_false_iff_ne]; omega
                    cases hb : (bits BinOp.and IntKind.u64 (m : Int) 4503599627370496 == 0)
                    · go_wp2_with fail
                      repeat (go_quiet (fail); go_wp2_with fail)
                      refine wp_goto ?_
                      first
                        | exact .inl ⟨rfl, false, _, _, OX.out, FbW.at HE.out HA.out OX.out DX.out, rfl, rfl, rfl, rfl, rfl, rfl, rfl⟩
                        | exact .inl ⟨rfl, false, _, _, OX.out.drewN _, FbW.at HE.out HA.out (OX.out.drewN _) (DX.out.drewN _), rfl, rfl, rfl, rfl, rfl, rfl, rfl⟩
                    · go_wp2_with fail
                      repeat (go_quiet (fail); go_wp2_with fail)
                      refine wp_goto ?_
                      first
                        | exact .inl ⟨rfl, false, _, _, OX.out, FbW.at HE.out HA.out OX.out DX.out, rfl, rfl, rfl, rfl, rfl, rfl, rfl⟩
                        | exact .inl ⟨rfl, false, _, _, OX.out.drewN _, FbW.at HE.out HA.out (OX.out.drewN _) (DX.out.drewN _), rfl, rfl, rfl, rfl, rfl, rfl, rfl⟩
            · have t0 : decide (d < 0) = false := decide_eq_false (by omega)
              have t3 : (d == 0) = false := by rw [beq_eq_false_iff_ne]; exact hz
              have OX := Lib.hid hO; have DX := Lib.hid hD2
              have k2 := hE2.i2
              by_cases hx : E - 1 < -1022
              · have t5 : decide (E - 1 < -1022) = true := decide_eq_true hx
                clear hO hD2 hE2 pv
                go_wp2_with fail
                repeat (go_quiet (fail); go_wp2_with fail)
                generalize hN : -1022 - (E - 1) = N at *
                obtain ⟨k, rfl⟩ : ∃ k : Nat, N = k := ⟨N.toNat, by omega⟩
                have HS := Lib.hid (sh_long (k := k) (by omega) (by omega) DX.out (by omega))
                have OY := Lib.hid OX.out
                clear OX DX
                refine HS.out.mono ?_
                rintro e w4 ⟨rfl, hO4, g4, n4, d4, hD4, p4, q4⟩
                have OX := Lib.hid (Only.trans (by first | exact OY.out | exact OY.out.drewN _ | exact (OY.out.drewN _).drewN _) hO4); have DX := Lib.hid hD4
                clear hO4 hD4 HS OY k2 c1 c2
                have j0 := (HE.out.keep HA.out OX.out).i0
                have j1 := (HE.out.keep HA.out OX.out).i1
                have j2 := (HE.out.keep HA.out OX.out).i2
                by_cases hov : E - 1 + (k : Int) + 1023 ≥ 2047
                · exact absurd hov (by omega)
                · have t6 : decide (E - 1 + (k : Int) + 1023 ≥ 2047) = false := decide_eq_false hov
                  have S : ∀ q, Calls Tryz.prog 103 #[.pointer (some ⟨b, 0, none⟩), .int .i64 53] (w4.drewN q) (LsP2 b g4 d4 ng (w4.drewN q)) := fun q => sh_left2 (k := 53) (HE.out.keep HA.out OX.out).ch (by decide) (by decide) DX.out (by omega) q
                  have HS := Lib.hid S; have OY := Lib.hid OX.out
                  clear S OX DX
                  go_wp2_with fail
                  repeat (go_quiet (fail); go_wp2_with fail)
                  refine (HS.out _).mono ?_
                  rintro e w5 ⟨rfl, hO5, g5, n5, D5, hD5, hc5, _⟩
                  have OX := Lib.hid (Only.trans (by first | exact OY.out | exact OY.out.drewN _ | exact (OY.out.drewN _).drewN _) hO5); have DX := Lib.hid hD5
                  have R := Lib.hid (ri_calls hD5)
                  have j0 := (HE.out.keep HA.out OX.out).i0
                  have j1 := (HE.out.keep HA.out OX.out).i1
                  have j2 := (HE.out.keep HA.out OX.out).i2
                  clear hO5 hD5 HS OY
                  go_wp2_with fail
                  repeat (go_quiet (fail); go_wp2_with fail)
                  refine R.out.mono ?_
                  rintro e w6 ⟨⟨m, hm, rfl⟩, hw⟩
                  rw [hw]
                  clear hw w6 R
                  by_cases hm2 : m = 9007199254740992
                  · subst hm2
                    by_cases hov2 : E - 1 + (k : Int) + 1 + 1023 ≥ 2047
                    · exact absurd hov2 (by omega)
                    · have t7 : decide (E - 1 + (k : Int) + 1 + 1023 ≥ 2047) = false := decide_eq_false hov2
                      have hb : (bits BinOp.and IntKind.u64 4503599627370496 4503599627370496 == 0) = false := by decide
                      go_wp2_with fail
                      repeat (go_quiet (fail); go_wp2_with fail)
                      refine wp_goto ?_
                      first
                        | exact .inl ⟨rfl, false, _, _, OX.out, FbW.at HE.out HA.out OX.out DX.out, rfl, rfl, rfl, rfl, rfl, rfl, rfl⟩
                        | exact .inl ⟨rfl, false, _, _, OX.out.drewN _, FbW.at HE.out HA.out (OX.out.drewN _) (DX.out.drewN _), rfl, rfl, rfl, rfl, rfl, rfl, rfl⟩
                  · have t7 : ((m : Int) == 9007199254740992) = false := by rw [beq_eq_false_iff_ne]; omega
                    cases hb : (bits BinOp.and IntKind.u64 (m : Int) 4503599627370496 == 0)
                    · go_wp2_with fail
                      repeat (go_quiet (fail); go_wp2_with fail)
                      refine wp_goto ?_
                      first
                        | exact .inl ⟨rfl, false, _, _, OX.out, FbW.at HE.out HA.out OX.out DX.out, rfl, rfl, rfl, rfl, rfl, rfl, rfl⟩
                        | exact .inl ⟨rfl, false, _, _, OX.out.drewN _, FbW.at HE.out HA.out (OX.out.drewN _) (DX.out.drewN _), rfl, rfl, rfl, rfl, rfl, rfl, rfl⟩
                    · go_wp2_with fail
                      repeat (go_quiet (fail); go_wp2_with fail)
                      refine wp_goto ?_
                      first
                        | exact .inl ⟨rfl, false, _, _, OX.out, FbW.at HE.out HA.out OX.out DX.out, rfl, rfl, rfl, rfl, rfl, rfl, rfl⟩
                        | exact .inl ⟨rfl, false, _, _, OX.out.drewN _, FbW.at HE.out HA.out (OX.out.drewN _) (DX.out.drewN _), rfl, rfl, rfl, rfl, rfl, rfl, rfl⟩
              · have t5 : decide (E - 1 < -1022) = false := decide_eq_false hx
                clear hO hD2 hE2 pv k2
                have j0 := (HE.out.keep HA.out OX.out).i0
                have j1 := (HE.out.keep HA.out OX.out).i1
                have j2 := (HE.out.keep HA.out OX.out).i2
                by_cases hov : E - 1 + 1023 ≥ 2047
                · have t6 : decide (E - 1 + 1023 ≥ 2047) = true := decide_eq_true hov
                  go_wp2_with fail
                  repeat (go_quiet (fail); go_wp2_with fail)
                  refine wp_goto ?_
                  first
                    | exact .inr ⟨rfl, OX.out, FbW.at HE.out HA.out OX.out DX.out, rfl, rfl, rfl, rfl⟩
                    | exact .inr ⟨rfl, OX.out.drewN _, FbW.at HE.out HA.out (OX.out.drewN _) (DX.out.drewN _), rfl, rfl, rfl, rfl⟩
                · have t6 : decide (E - 1 + 1023 ≥ 2047) = false := decide_eq_false hov
                  have S : ∀ q, Calls Tryz.prog 103 #[.pointer (some ⟨b, 0, none⟩), .int .i64 53] (wr.drewN q) (LsP2 b g2 d ng (wr.drewN q)) := fun q => sh_left2 (k := 53) (HE.out.keep HA.out OX.out).ch (by decide) (by decide) DX.out (by omega) q
                  have HS := Lib.hid S; have OY := Lib.hid OX.out
                  clear S OX DX
                  go_wp2_with fail
                  repeat (go_quiet (fail); go_wp2_with fail)
                  refine (HS.out _).mono ?_
                  rintro e w5 ⟨rfl, hO5, g5, n5, D5, hD5, hc5, _⟩
                  have OX := Lib.hid (Only.trans (by first | exact OY.out | exact OY.out.drewN _ | exact (OY.out.drewN _).drewN _) hO5); have DX := Lib.hid hD5
                  have R := Lib.hid (ri_calls hD5)
                  have j0 := (HE.out.keep HA.out OX.out).i0
                  have j1 := (HE.out.keep HA.out OX.out).i1
                  have j2 := (HE.out.keep HA.out OX.out).i2
                  clear hO5 hD5 HS OY
                  go_wp2_with fail
                  repeat (go_quiet (fail); go_wp2_with fail)
                  refine R.out.mono ?_
                  rintro e w6 ⟨⟨m, hm, rfl⟩, hw⟩
                  rw [hw]
                  clear hw w6 R
                  by_cases hm2 : m = 9007199254740992
                  · subst hm2
                    by_cases hov2 : E - 1 + 1 + 1023 ≥ 2047
                    · have t7 : decide (E - 1 + 1 + 1023 ≥ 2047) = true := decide_eq_true hov2
                      go_wp2_with fail
                      repeat (go_quiet (fail); go_wp2_with fail)
                      refine wp_goto ?_
                      first
                        | exact .inr ⟨rfl, OX.out, FbW.at HE.out HA.out OX.out DX.out, rfl, rfl, rfl, rfl⟩
                        | exact .inr ⟨rfl, OX.out.drewN _, FbW.at HE.out HA.out (OX.out.drewN _) (DX.out.drewN _), rfl, rfl, rfl, rfl⟩
                    · have t7 : decide (E - 1 + 1 + 1023 ≥ 2047) = false := decide_eq_false hov2
                      have hb : (bits BinOp.and IntKind.u64 4503599627370496 4503599627370496 == 0) = false := by decide
                      go_wp2_with fail
                      repeat (go_quiet (fail); go_wp2_with fail)
                      refine wp_goto ?_
                      first
                        | exact .inl ⟨rfl, false, _, _, OX.out, FbW.at HE.out HA.out OX.out DX.out, rfl, rfl, rfl, rfl, rfl, rfl, rfl⟩
                        | exact .inl ⟨rfl, false, _, _, OX.out.drewN _, FbW.at HE.out HA.out (OX.out.drewN _) (DX.out.drewN _), rfl, rfl, rfl, rfl, rfl, rfl, rfl⟩
                  · have t7 : ((m : Int) == 9007199254740992) = false := by rw [beq_eq_false_iff_ne]; omega
                    cases hb : (bits BinOp.and IntKind.u64 (m : Int) 4503599627370496 == 0)
                    · go_wp2_with fail
                      repeat (go_quiet (fail); go_wp2_with fail)
                      refine wp_goto ?_
                      first
                        | exact .inl ⟨rfl, false, _, _, OX.out, FbW.at HE.out HA.out OX.out DX.out, rfl, rfl, rfl, rfl, rfl, rfl, rfl⟩
                        | exact .inl ⟨rfl, false, _, _, OX.out.drewN _, FbW.at HE.out HA.out (OX.out.drewN _) (DX.out.drewN _), rfl, rfl, rfl, rfl, rfl, rfl, rfl⟩
                    · go_wp2_with fail
                      repeat (go_quiet (fail); go_wp2_with fail)
                      refine wp_goto ?_
                      first
                        | exact .inl ⟨rfl, false, _, _, OX.out, FbW.at HE.out HA.out OX.out DX.out, rfl, rfl, rfl, rfl, rfl, rfl, rfl⟩
                        | exact .inl ⟨rfl, false, _, _, OX.out.drewN _, FbW.at HE.out HA.out (OX.out.drewN _) (DX.out.drewN _), rfl, rfl, rfl, rfl, rfl, rfl, rfl⟩
  · rintro ⟨tm, df⟩ w2 ⟨ov, E, M, hO, ⟨i0, i1, i2, c2⟩, hd, hs, h0, h1, h5, h6, h7⟩
    have HO := Lib.hid hO; clear hO
    clear HB HE HD HA c0 c1 W0
    obtain ⟨u, hu, ht⟩ := frame243 hs
    simp only at hd ht h0 h1 h5 h6 h7
    rw [hu _ (by decide)] at h0 h1 h5 h6 h7
    injection h0 with h0; injection h1 with h1; injection h5 with h5; injection h6 with h6; injection h7 with h7
    clear hu hs
    rw [h0, h1, h5, h6, h7] at ht
    subst hd
    subst ht
    clear h0 h1 h5 h6 h7
    cases ng
    · go_wp2_with fail
      go_quiet (fail)
      go_wp2_with fail
      rw [Exit.noGoto_ret]
      go_ret2
      first | exact ⟨fb_ret _ _ _ _, HO.out.drewN _⟩ | exact ⟨fb_ret _ _ _ _, (HO.out.drewN _).drewN _⟩ | exact ⟨fb_ret _ _ _ _, ((HO.out.drewN _).drewN _).drewN _⟩
    · go_wp2_with fail
      go_quiet (fail)
      go_wp2_with fail
      go_quiet (fail)
      go_wp2_with fail
      rw [Exit.noGoto_ret]
      go_ret2
      first | exact ⟨fb_ret _ _ _ _, HO.out.drewN _⟩ | exact ⟨fb_ret _ _ _ _, (HO.out.drewN _).drewN _⟩ | exact ⟨fb_ret _ _ _ _, ((HO.out.drewN _).drewN _).drewN _⟩
  · rintro ⟨tm, df⟩ w2 ⟨hO, ⟨i0, i1, i2, c2⟩, hd, hs, h0, h1⟩
    have HO := Lib.hid hO; clear hO
    clear HB HE HD HA c0 c1 W0
    obtain ⟨u, hu, ht⟩ := frame243 hs
    simp only at hd ht h0 h1
    rw [hu _ (by decide)] at h0 h1
    injection h0 with h0; injection h1 with h1
    clear hu hs
    rw [h0, h1] at ht
    subst hd
    subst ht
    clear h0 h1
    cases ng
    · go_wp2_with fail
      go_quiet (fail)
      go_wp2_with fail
      go_step3
      go_wp2_with fail
      go_quiet (fail)
      go_wp2_with fail
      rw [Exit.noGoto_ret]
      go_ret2
      first | exact ⟨fb_ret _ _ _ _, HO.out.drewN _⟩ | exact ⟨fb_ret _ _ _ _, (HO.out.drewN _).drewN _⟩ | exact ⟨fb_ret _ _ _ _, ((HO.out.drewN _).drewN _).drewN _⟩
    · go_wp2_with fail
      go_quiet (fail)
      go_wp2_with fail
      go_step3
      go_wp2_with fail
      go_quiet (fail)
      go_wp2_with fail
      go_quiet (fail)
      go_wp2_with fail
      rw [Exit.noGoto_ret]
      go_ret2
      first | exact ⟨fb_ret _ _ _ _, HO.out.drewN _⟩ | exact ⟨fb_ret _ _ _ _, (HO.out.drewN _).drewN _⟩ | exact ⟨fb_ret _ _ _ _, ((HO.out.drewN _).drewN _).drewN _⟩
end Go.Proofs.YthjfdhkahmlolaaGreatDoor
