/- Parse at every printed text. -/
import Derived.Test.YthjfdhkahmlolaaGreatDoorJQ51
import Derived.Test.YthjfdhkahmlolaaGreatDoorJQ44
import Derived.Test.YthjfdhkahmlolaaGreatDoorJQ30
namespace Go.Proofs.YthjfdhkahmlolaaGreatDoor
open Go.RowKit Usc
set_option maxRecDepth 100000
/-- atof64 tells Y of the text -/
def AtOk (T : ByteArray) (Y : Nat) : Prop := ∀ w, Env w → Env3 w → Calls Tryz.prog 88 #[.string T] w fun en w' => en = .returned (.tuple #[.float .f64 Y, .int .i64 (T.size : Nat), .nilIface]) ∧ Only (fun _ => False) w w'
set_option maxHeartbeats 4000000 in
theorem pp_of {T : ByteArray} {Y : Nat} (h : AtOk T Y) (w : World) (hE : Env w) (hE3 : Env3 w) : Calls Tryz.prog 60 #[.string T, .int .i64 64] w fun en w' => en = .returned (.tuple #[.float .f64 Y, .int .i64 (T.size : Nat), .nilIface]) ∧ Only (fun _ => False) w w' := by
  have HC := Lib.hid (h w hE hE3)
  clear hE hE3 h
  go_enter Tryz.func60, Tryz.ntmps60
  go_wp2_with fail
  refine HC.out.mono ?_
  rintro en w1 ⟨rfl, hO⟩
  have HO := Lib.hid hO; clear hO
  go_wp2_with fail
  go_ret3
  exact ⟨rfl, HO.out⟩
set_option maxHeartbeats 4000000 in
theorem pf42_of {T : ByteArray} {Y : Nat} (h : AtOk T Y) (w : World) (hE : Env w) (hE3 : Env3 w) : Calls Tryz.prog 42 #[.string T, .int .i64 64] w fun en w' => en = .returned (.tuple #[.float .f64 Y, .nilIface]) ∧ Only (fun _ => False) w w' := by
  have HC := Lib.hid (pp_of h w hE hE3)
  clear hE hE3 h
  go_enter Tryz.func42, Tryz.ntmps42
  go_wp2_with fail
  refine HC.out.mono ?_
  rintro en w1 ⟨rfl, hO⟩
  have HO := Lib.hid hO; clear hO
  go_wp2_with fail
  go_ret2
  exact ⟨rfl, HO.out⟩
set_option maxHeartbeats 4000000 in
theorem pf29_of {T : ByteArray} {Y : Nat} (h : AtOk T Y) (w : World) (hE : Env w) (hE3 : Env3 w) : Calls Tryz.prog 29 #[.string T, .int .i64 64] w fun en w' => en = .returned (.tuple #[.float .f64 Y, .nilIface]) ∧ Only (fun _ => False) w w' := by
  have HC := Lib.hid (pf42_of h w hE hE3)
  clear hE hE3 h
  go_enter Tryz.func29, Tryz.ntmps29
  go_wp2_with fail
  refine HC.out.mono ?_
  rintro en w1 ⟨rfl, hO⟩
  have HO := Lib.hid hO; clear hO
  go_wp2_with fail
  go_ret2
  exact ⟨rfl, HO.out⟩
set_option maxHeartbeats 4000000 in
theorem parse_of {t : List UInt8} {Y : Nat} (h : AtOk ⟨t.toArray⟩ Y) (hY : Y < 18446744073709551616) (hp : Pr Y t) (w : World) (hE : Env w) (hE3 : Env3 w) : Calls Tryz.prog 15 #[.string ⟨t.toArray⟩] w fun en w' => en = .returned (.tuple #[.float .f64 Y, .int .i64 0]) ∧ Only (fun _ => False) w w' := by
  have HC := Lib.hid (pf29_of h w hE hE3)
  have HP : Hid (∀ w, Env w → Calls Tryz.prog 11 #[.float .f64 Y] w fun en w' => en = .returned (.string ⟨t.toArray⟩) ∧ Only (fun _ => False) w w') := Lib.hid (fun w h => print_calls Y t w hY hp h)
  have HE := Lib.hid hE
  clear hE hE3 h hp
  generalize (⟨t.toArray⟩ : ByteArray) = T at *
  go_enter Tryz.func15, Tryz.ntmps15
  go_wp2_with fail
  refine HC.out.mono ?_
  rintro en w1 ⟨rfl, hO⟩
  have HO := Lib.hid hO; clear hO
  go_wp2_with fail
  refine (HP.out _ (HE.out.still HO.out (fun _ _ h => h))).mono ?_
  rintro en w2 ⟨rfl, hO2⟩
  have HO2 := Lib.hid hO2; clear hO2
  go_wp2_with fail
  go_ret2
  exact ⟨rfl, HO.out.trans HO2.out⟩
set_option maxHeartbeats 4000000 in
theorem at_zero (neg : Bool) : AtOk ⟨(sgB neg ++ [48]).toArray⟩ (sgN neg) := by
  intro w hE hE3
  have opt := hE3.opt
  have SP : Hid (∀ w, Calls Tryz.prog 116 #[.string ⟨(sgB neg ++ [48]).toArray⟩] w fun en w' => en = .returned (.tuple #[.float .f64 0, .int .i64 0, .bool false]) ∧ w' = w) := Lib.hid (fun w => by
    cases neg
    · exact sp_digit _ 48 [] w rfl (by decide)
    · exact sp_neg _ 48 [] w rfl (by decide))
  have hsc : scan St.zero [48] = (⟨0, 0, 0, -1, false, true, false, false⟩, []) := by rfl
  have RF : Hid (∀ w, Calls Tryz.prog 117 #[.string ⟨(sgB neg ++ [48]).toArray⟩] w fun en w' => en = .returned (.tuple #[.int .u64 0, .int .i64 0, .bool neg, .bool false, .bool false, .int .i64 (((⟨(sgB neg ++ [48]).toArray⟩ : ByteArray).size : Nat) : Int), .bool true]) ∧ w' = w) := Lib.hid (fun w => by
    cases neg
    · exact rf_plain _ 48 [] _ w rfl (by decide) (by decide) (.inl rfl) hsc rfl rfl
    · exact rf_plain_neg _ 48 [] _ w rfl (by decide) (by decide) (.inl rfl) hsc rfl rfl)
  clear hE hE3 hsc
  generalize (⟨(sgB neg ++ [48]).toArray⟩ : ByteArray) = T at *
  have k0 : ∀ w, Sem.run Tryz.prog (callFunc 126 #[.int .u64 (bits BinOp.or IntKind.u64 0 0)]) w = .ok (.value (.float .f64 0)) w := fun w => by kernel_rfl
  have k1 : ∀ w, Sem.run Tryz.prog (callFunc 126 #[.int .u64 (bits BinOp.or IntKind.u64 9223372036854775808 0)]) w = .ok (.value (.float .f64 9223372036854775808)) w := fun w => by kernel_rfl
  cases neg
  · go_enter Tryz.func88, Tryz.ntmps88
    go_wp2_with fail
    refine (SP.out _).mono ?_
    rintro en w1 ⟨rfl, hw⟩; rw [hw]; clear hw w1
    go_wp2_with fail
    refine (RF.out _).mono ?_
    rintro en w1 ⟨rfl, hw⟩; rw [hw]; clear hw w1
    go_wp2_with fail
    refine (b2_calls false _).mono ?_
    rintro en w1 ⟨rfl, hw⟩; rw [hw]; clear hw w1
    go_wp2_with fail
    go_ret3
    exact ⟨rfl, Only.refl _ _⟩
  · go_enter Tryz.func88, Tryz.ntmps88
    go_wp2_with fail
    refine (SP.out _).mono ?_
    rintro en w1 ⟨rfl, hw⟩; rw [hw]; clear hw w1
    go_wp2_with fail
    refine (RF.out _).mono ?_
    rintro en w1 ⟨rfl, hw⟩; rw [hw]; clear hw w1
    go_wp2_with fail
    refine (b2_calls true _).mono ?_
    rintro en w1 ⟨rfl, hw⟩; rw [hw]; clear hw w1
    go_wp2_with fail
    go_ret3
    exact ⟨rfl, Only.refl _ _⟩
set_option maxHeartbeats 4000000 in
theorem at_special {T : ByteArray} {Y : Nat} (h : ∀ w, Calls Tryz.prog 116 #[.string T] w fun en w' => en = .returned (.tuple #[.float .f64 Y, .int .i64 (T.size : Nat), .bool true]) ∧ w' = w) : AtOk T Y := by
  intro w _ _
  have SP := Lib.hid h; clear h
  go_enter Tryz.func88, Tryz.ntmps88
  go_wp2_with fail
  refine (SP.out _).mono ?_
  rintro en w1 ⟨rfl, hw⟩; rw [hw]; clear hw w1
  go_wp2_with fail
  go_ret3
  exact ⟨rfl, Only.refl _ _⟩
/-- what Parse answers at a printed text -/
def pback (X : Nat) : Nat := if 9218868437227405312 < X % 9223372036854775808 then 9221120237041090561 else X
theorem pback_lt {X : Nat} (h : X < 18446744073709551616) : pback X < 18446744073709551616 := by unfold pback; split <;> omega
theorem pr_pback {X : Nat} {t : List UInt8} (h : Pr X t) : Pr (pback X) t := by
  unfold pback
  by_cases h1 : 9218868437227405312 < X % 9223372036854775808
  · rw [if_pos h1]
    obtain rfl := (pr_nan h1 t).1 h
    exact (pr_nan (by decide) _).2 rfl
  · rw [if_neg h1]; exact h
theorem at_all {X : Nat} {t : List UInt8} (hX : X < 18446744073709551616) (h : Pr X t) : AtOk ⟨t.toArray⟩ (pback X) := by
  unfold pback
  by_cases h1 : 9218868437227405312 < X % 9223372036854775808
  · rw [if_pos h1]
    obtain rfl := (pr_nan h1 t).1 h
    exact at_special (fun w => sp_nan w)
  · rw [if_neg h1]
    by_cases h2 : X % 9223372036854775808 = 9218868437227405312
    · have ht := (pr_inf h2 t).1 h
      by_cases hs : X < 9223372036854775808
      · rw [if_pos hs] at ht
        subst ht
        obtain rfl : X = 9218868437227405312 := by omega
        exact at_special (fun w => sp_pinf w)
      · rw [if_neg hs] at ht
        subst ht
        obtain rfl : X = 18442240474082181120 := by omega
        exact at_special (fun w => sp_ninf w)
    · have hsg : ∀ b, b < 9223372036854775808 → X % 9223372036854775808 = b → X = sgN (decide (9223372036854775808 ≤ X)) + b := fun b hb e => by
        unfold sgN
        by_cases hs : 9223372036854775808 ≤ X
        · rw [decide_eq_true hs, if_pos rfl]; omega
        · rw [decide_eq_false hs, if_neg (by decide)]; omega
      have hsb : (if X < 9223372036854775808 then [] else [45] : List UInt8) = sgB (decide (9223372036854775808 ≤ X)) := by
        unfold sgB
        by_cases hs : 9223372036854775808 ≤ X
        · rw [decide_eq_true hs, if_pos rfl, if_neg (by omega)]
        · rw [if_pos (show X < 9223372036854775808 by omega), decide_eq_false hs, if_neg (by decide)]
      by_cases h3 : X % 9223372036854775808 = 0
      · unfold Pr at h
        rw [if_neg h1, if_neg h2, if_pos h3] at h
        have ht : t = sgB (decide (9223372036854775808 ≤ X)) ++ [48] := by
          rw [h, ← hsb]; split <;> rfl
        have := at_zero (decide (9223372036854775808 ≤ X))
        rw [← ht] at this
        rw [show sgN (decide (9223372036854775808 ≤ X)) = X by have := hsg 0 (by decide) h3; omega] at this
        exact this
      · unfold Pr at h
        rw [if_neg h1, if_neg h2, if_neg h3, hsb] at h
        obtain ⟨c, s, hS, ht⟩ := h
        have P := parts (X % 9223372036854775808) (by omega) (by omega)
        intro w hE hE3
        have := at_printed (decide (9223372036854775808 ≤ X)) w hE hE3 (by omega) (by omega) (hS.rd P) (hS.bounds P)
        rw [← ht, ← hsg _ (Nat.mod_lt _ (by decide)) rfl, ← ba_size] at this
        exact this
/-- Parse gives back what Print told -/
theorem parse_all {X : Nat} {t : List UInt8} (hX : X < 18446744073709551616) (h : Pr X t) (w : World) (hE : Env w) (hE3 : Env3 w) :
    Calls Tryz.prog 15 #[.string ⟨t.toArray⟩] w fun en w' => en = .returned (.tuple #[.float .f64 (pback X), .int .i64 0]) ∧ Only (fun _ => False) w w' :=
  parse_of (at_all hX h) (pback_lt hX) (pr_pback h) w hE hE3
end Go.Proofs.YthjfdhkahmlolaaGreatDoor

/- The law RealParses. -/
namespace Go.Proofs.YthjfdhkahmlolaaGreatDoor
open Go.RowKit Usc
set_option maxRecDepth 100000
/-- one text, one rank -/
theorem rk_pr {X Y : Nat} {t : List UInt8} (hX : X < 18446744073709551616) (hY : Y < 18446744073709551616) (h : Pr X t) (h' : Pr Y t) : rk X = rk Y := by
  by_cases f1 : X % 9223372036854775808 < 9218868437227405312
  · rw [pr_inj hX hY f1 h h']
  · by_cases f2 : Y % 9223372036854775808 < 9218868437227405312
    · rw [pr_inj hY hX f2 h' h]
    · by_cases n1 : 9218868437227405312 < X % 9223372036854775808
      · have e1 := (pr_nan n1 t).1 h
        by_cases n2 : 9218868437227405312 < Y % 9223372036854775808
        · unfold rk
          rw [nan_of, nan_of, decide_eq_true n1, decide_eq_true n2, if_pos rfl, if_pos rfl]
        · have e2 := (pr_inf (by omega) t).1 h'
          rw [e1] at e2
          split at e2 <;> exact absurd e2 (by decide)
      · have e1 := (pr_inf (by omega) t).1 h
        by_cases n2 : 9218868437227405312 < Y % 9223372036854775808
        · have e2 := (pr_nan n2 t).1 h'
          rw [e2] at e1
          split at e1 <;> exact absurd e1 (by decide)
        · have e2 := (pr_inf (by omega) t).1 h'
          rw [e2] at e1
          by_cases s1 : X < 9223372036854775808
          · by_cases s2 : Y < 9223372036854775808
            · rw [show X = Y by omega]
            · rw [if_pos s1, if_neg s2] at e1; exact absurd e1 (by decide)
          · by_cases s2 : Y < 9223372036854775808
            · rw [if_neg s1, if_pos s2] at e1; exact absurd e1 (by decide)
            · rw [show X = Y by omega]
theorem parseP_calls (t : List UInt8) (w : World) (hl : t.length ≤ 140737488355328) (hE : EnvZ w) (hR : Errs w) :
    Calls Tryz.prog 15 #[.string ⟨t.toArray⟩] w fun en w' => PaIs t en ∧ Only (fun _ => False) w w' := by
  by_cases h : PrT t
  · obtain ⟨X, hX, hP⟩ := h
    exact (parse_all hX hP w hE.e hE.e3).mono fun en w' ⟨e, hO⟩ => ⟨.inl ⟨pback X, pback_lt hX, pr_pback hP, e⟩, hO⟩
  · refine (parse_any ⟨t.toArray⟩ w (by rw [bsz]; exact hl) hE hR).mono fun en w' ⟨e, hO⟩ => ⟨?_, hO⟩
    rcases e with e | ⟨f, t', hf, hP, ht, _⟩
    · exact .inr ⟨h, e⟩
    · refine absurd ⟨f, hf, ?_⟩ h
      have : t = t' := by simpa using congrArg (fun b : ByteArray => b.data.toList) ht
      rw [this]; exact hP
/-- texts that came in -/
structure Texts (w : World) (a : Option Addr) (len : Nat) (us : Nat → ByteArray) : Prop where
  at' : ∀ j, j < len → ∃ b o, a = some ⟨b, o, none⟩ ∧ b < w.heap.size ∧ w.cell? ⟨b, o + j, none⟩ = some (.string (us j)) ∧ (us j).size ≤ 140737488355328
def L5R (w0 : World) (len : Nat) (v13 : Value) (w : World) : Prop := ∃ i : Nat, v13 = .int .i64 (i : Int) ∧ i ≤ len ∧ Only (fun _ => False) w0 w
set_option maxHeartbeats 4000000 in
theorem parses_calls (a : Option Addr) (len cap : Nat) (us : Nat → ByteArray) (w : World) (hl : len ≤ 9223372036854775807) (hw : Texts w a len us) (hE : EnvZ w) (hE2 : Env2 w) (hR : Errs w) :
    Calls Tryz.prog 5 #[.slice a len cap] w fun en w' => en = .returned (.bool true) ∧ Only (fun _ => False) w w' := by
  have K := Lib.hid (awake_calls w hE.e hE2)
  have HE := Lib.hid hE; have HR := Lib.hid hR
  have HW := Lib.hid hw
  clear hE hE2 hw hR
  go_enter Tryz.func5, Tryz.ntmps5
  go_wp2_with fail
  refine K.out.mono ?_; rintro en w1 ⟨rfl, hO⟩; have O1 := Lib.hid hO; clear hO K
  go_wp2_with fail
  go_loopw [13] (fun v13 wr => L5R w len v13 wr) (fun v13 _ => len - (intOf v13).toNat)
  case atStart => exact ⟨0, rfl, Nat.zero_le _, O1.out⟩
  case round =>
    obtain ⟨i, rfl, hi, hO⟩ := hrel
    by_cases h : i < len
    · obtain ⟨b, o, rfl, hb, hc, hX⟩ := HW.out.at' i h
      have cc := cell_keep hc hO id
      have HO := Lib.hid hO
      clear hc hO
      generalize us i = S at *
      obtain ⟨t, ht⟩ : ∃ t, t = S.data.toList := ⟨_, rfl⟩
      have hS : (⟨t.toArray⟩ : ByteArray) = S := by rw [ht]
      have hlt : t.length ≤ 140737488355328 := by rw [← bsz, hS]; exact hX
      have P1 := Lib.hid (fun w hE hR => parseP_calls t w hlt hE hR)
      have P2 := Lib.hid (fun w => parseR_calls t w hlt)
      rw [hS] at P1 P2
      have t1 : decide ((i : Int) < (len : Int)) = true := decide_eq_true (by omega)
      clear ht hS hlt hX
      go_wp2_with fail
      refine (P1.out _ (HE.out.still HO.out) (HR.out.still HO.out)).mono ?_; rintro en w2 ⟨hA, hO⟩; have HO2 := Lib.hid (HO.out.trans hO); clear hO P1
      rcases hA with ⟨X, x1, x2, rfl⟩ | ⟨x1, rfl⟩
      · have HX := Lib.hid (And.intro x1 x2); clear x1 x2
        go_wp2_with fail
        refine (P2.out _).mono ?_; rintro en w3 ⟨hA, hO⟩; have HO3 := Lib.hid (HO2.out.trans hO); clear hO P2 HO2
        rcases hA with ⟨Y, y1, y2, rfl⟩ | ⟨y1, rfl⟩
        · have SM := Lib.hid (fun w => sameR_calls X Y w HX.out.1 y1 (rk_pr HX.out.1 y1 HX.out.2 y2))
          clear y1 y2
          go_wp2_with fail
          refine (SM.out _).mono ?_; rintro en w4 ⟨rfl, hw⟩; rw [hw]; clear hw w4 SM
          go_wp2_with fail
          exact ⟨⟨i + 1, congrArg (Value.int .i64) (by omega), by omega, HO3.out⟩, by simp only [intOf]; omega⟩
        · exact absurd ⟨X, HX.out.1, HX.out.2⟩ y1
      · have HX := Lib.hid x1; clear x1
        go_wp2_with fail
        refine (P2.out _).mono ?_; rintro en w3 ⟨hA, hO⟩; have HO3 := Lib.hid (HO2.out.trans hO); clear hO P2 HO2
        rcases hA with ⟨Y, y1, y2, rfl⟩ | ⟨y1, rfl⟩
        · exact absurd ⟨Y, y1, y2⟩ HX.out
        · have SM := Lib.hid (fun w => sameR_calls 0 0 w (by decide) (by decide) rfl)
          clear y1
          go_wp2_with fail
          refine (SM.out _).mono ?_; rintro en w4 ⟨rfl, hw⟩; rw [hw]; clear hw w4 SM
          go_wp2_with fail
          exact ⟨⟨i + 1, congrArg (Value.int .i64) (by omega), by omega, HO3.out⟩, by simp only [intOf]; omega⟩
    · have t1 : decide ((i : Int) < (len : Int)) = false := decide_eq_false (by omega)
      have HO := Lib.hid hO; clear hO
      go_wp2_with fail
      go_ret
      exact ⟨rfl, HO.out⟩
end Go.Proofs.YthjfdhkahmlolaaGreatDoor
