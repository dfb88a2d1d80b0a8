/- atof64 at a printed number. -/
import Derived.Test.YthjfdhkahmlolaaGreatDoorJR39
import Derived.Test.YthjfdhkahmlolaaGreatDoorJR47
import Derived.Test.YthjfdhkahmlolaaGreatDoorJR48
namespace Go.Proofs.YthjfdhkahmlolaaGreatDoor
open Go.RowKit Usc
set_option maxRecDepth 100000
def sgN (neg : Bool) : Nat := if neg then 9223372036854775808 else 0
theorem word_sg (neg : Bool) (b : Nat) : Ieee.double.word neg b = sgN neg + b := Pq.Flt.word_eq neg b
theorem pack_printed {b d : Nat} {p : Int} (sg : Nat) (hsg : sg = 0 ∨ sg = 9223372036854775808) (hb : 1 ≤ b) (hb2 : b < 9218868437227405312) (hR : Rd b d p) (h0 : 1 ≤ d) (h1 : d < 18446744073709551616) (hp : -345 ≤ p ∧ p ≤ 310) (hx : PEx d p) (w : World) :
    Calls Tryz.prog 158 #[.int .u64 ((sg ||| pfr d p : Nat) : Int), .int .i64 (-(pfe d p - pfk d p))] w fun e w' => ∃ x y, e = .returned (.tuple #[x, y]) ∧ (x = .float .f64 (sg + b) ∧ y = .nilIface) ∧ w' = w := by
  obtain ⟨g1, g2, g3, g4⟩ := parse_is hb hb2 hR h0 h1 (by omega) hx
  have hk : pfk d p = 0 ∨ pfk d p = 1 := by unfold pfk; split <;> simp
  have he : pfe d p ≤ 1074 := by unfold pfe; omega
  by_cases h : 4503599627370496 ≤ pfr d p
  · refine (pack_high sg (pfr d p) _ w hsg ⟨h, g2⟩ (by omega)).mono ?_
    rintro e w' ⟨h5, h6⟩
    refine ⟨_, _, h5, ⟨?_, rfl⟩, h6⟩
    rw [← g1]
    unfold pfb
    rw [show ((1074 : Int) + -(pfe d p - pfk d p)).toNat = (1074 - pfe d p).toNat + pfk d p by omega]
  · have hK : (1074 - pfe d p).toNat + pfk d p = 0 := by omega
    have hM : sg ||| pfr d p = sg + pfr d p := by
      rcases hsg with e | e
      · subst e; simp
      · subst e
        exact nat_join 63 9223372036854775808 (pfr d p) (by decide) (by rw [show (2 ^ 63 : Nat) = 9223372036854775808 from rfl]; omega)
    have hbv : b = pfr d p := by rw [← g1]; unfold pfb; rw [hK, Nat.zero_mul, Nat.zero_add]
    rw [hM]
    refine (pack_low (sg + pfr d p) _ w (by omega) (by omega)).mono ?_
    rintro e w' ⟨h5, h6⟩
    exact ⟨_, _, h5, ⟨by rw [← hbv], rfl⟩, h6⟩
theorem parse_printed {b d : Nat} {p : Int} (sg : Nat) (hsg : sg = 0 ∨ sg = 9223372036854775808) (w : World) (hT : Tab w) (hb : 1 ≤ b) (hb2 : b < 9218868437227405312) (hR : Rd b d p) (h0 : 1 ≤ d) (h1 : d < 18446744073709551616) (hp : -345 ≤ p ∧ p ≤ 310) (hs : pfs d p < 64) (hx : PEx d p) :
    Calls Tryz.prog 128 #[.int .u64 d, .int .i64 p, .int .u64 sg] w fun e w' => e = .returned (.tuple #[.float .f64 (sg + b), .nilIface]) ∧ Only (fun _ => False) w w' := by
  refine (parse_calls d p sg w hT h0 h1 hp hsg (fun x y => x = .float .f64 (sg + b) ∧ y = .nilIface) (fun h => absurd hs (by omega)) (fun _ w => pack_printed sg hsg hb hb2 hR h0 h1 hp hx w)).mono ?_
  rintro e w' ⟨x, y, h5, ⟨rfl, rfl⟩, h6⟩
  exact ⟨h5, h6⟩
set_option maxRecDepth 100000
set_option maxHeartbeats 4000000 in
theorem at_printed {b c : Nat} {s : Int} (neg : Bool) (w : World) (hE : Env w) (hE3 : Env3 w) (hb : 1 ≤ b) (hb2 : b < 9218868437227405312) (hR : Rd b c s) (H : Shb c s) :
    Calls Tryz.prog 88 #[.string ⟨(sgB neg ++ laidB c (exp10 c s)).toArray⟩] w fun en w' => en = .returned (.tuple #[.float .f64 (sgN neg + b), .int .i64 ((sgB neg ++ laidB c (exp10 c s)).length : Nat), .nilIface]) ∧ Only (fun _ => False) w w' := by
  obtain ⟨m, p, j, hm, hp, hj, hn, ⟨c0, l0, hl, hc⟩, hrf⟩ := rf_printed H neg
  have RF : Hid (∀ w, Calls Tryz.prog 117 #[.string ⟨(sgB neg ++ laidB c (exp10 c s)).toArray⟩] w (RfPost (laidB c (exp10 c s)) neg m p w)) := Lib.hid hrf
  have hm19 : m < 10000000000000000000 := by
    have h1 := Lib.lt_pow_nDigits c
    have h2 : c * 10 ^ j < 10 ^ Lib.nDigits c * 10 ^ j := Nat.mul_lt_mul_of_pos_right h1 (Nat.pow_pos (by decide))
    rw [← Nat.pow_add] at h2
    rw [hm]
    exact Nat.lt_of_lt_of_le h2 (Nat.le_trans (Nat.pow_le_pow_right (by decide) hn) (by decide))
  obtain ⟨x1, x2, x3, x4, x5⟩ := pex_printed hb hb2 hR H.c0 H.c1 hp (by omega) (by rw [← hm]; exact hm19)
  rw [← hm] at x1 x3 x4 x5
  have hx : PEx m p := by
    rcases hj with h | h
    · exact x5 h
    · exact x4 h.2
  have hm0 : 1 ≤ m := by rw [hm]; exact Nat.mul_pos H.c0 (Nat.pow_pos (by decide))
  have opt := hE3.opt
  have SP : Hid (∀ w, Calls Tryz.prog 116 #[.string ⟨(sgB neg ++ laidB c (exp10 c s)).toArray⟩] w fun en w' => en = .returned (.tuple #[.float .f64 0, .int .i64 0, .bool false]) ∧ w' = w) := Lib.hid (fun w => by
    cases neg
    · exact sp_digit _ c0 l0 w (by rw [bl_of]; exact hl) hc
    · exact sp_neg _ c0 l0 w (by rw [bl_of, nl_app, hl]; rfl) hc)
  have EX : Hid (∀ w, Env3 w → Calls Tryz.prog 127 #[.int .u64 m, .int .i64 p, .bool neg] w (ExPost b neg w)) := Lib.hid (fun w h => exact_calls m p neg b w h hm0 (by omega) (by omega) hb hb2 x1)
  have PP : Hid (∀ w, Tab w → Calls Tryz.prog 128 #[.int .u64 m, .int .i64 p, .int .u64 (sgN neg)] w fun e w' => e = .returned (.tuple #[.float .f64 (sgN neg + b), .nilIface]) ∧ Only (fun _ => False) w w') :=
    Lib.hid (fun w h => parse_printed (sgN neg) (by unfold sgN; cases neg <;> simp) w h hb hb2 x1 hm0 (by omega) x2 x3 hx)
  have HE := Lib.hid hE
  have HE3 := Lib.hid hE3
  have t1 : ((m : Int) == 0) = false := by rw [beq_eq_false_iff_ne]; omega
  unfold RfPost at RF
  clear hE hE3 hR hl hx x3 x4 x5 x1 hj hn hm hp H hrf
  generalize (sgB neg ++ laidB c (exp10 c s)).length = L at *
  generalize (sgB neg ++ laidB c (exp10 c s)).toArray = T at *
  cases neg
  · go_enter Tryz.func88, Tryz.ntmps88
    go_wp2_with fail
    refine (SP.out _).mono ?_
    rintro en w1 ⟨rfl, hw⟩; rw [hw]; clear hw w1
    go_wp2_with fail
    refine (RF.out _).mono ?_
    rintro en w1 ⟨rfl, hw⟩; rw [hw]; clear hw w1
    go_wp2_with fail
    refine (b2_calls false _).mono ?_
    rintro en w1 ⟨rfl, hw⟩; rw [hw]; clear hw w1
    go_wp2_with fail
    refine (EX.out _ HE3.out).mono ?_
    rintro en w1 ⟨x, ok, rfl, hx, hw⟩; rw [hw]; clear hw w1
    have HX := Lib.hid hx; clear hx
    cases ok
    · go_wp2_with fail
      refine (PP.out _ HE.out.1).mono ?_
      rintro en w1 ⟨rfl, hO⟩
      have HO := Lib.hid hO; clear hO
      go_wp2_with fail
      go_ret3
      exact ⟨rfl, HO.out⟩
    · have hxe : x = sgN false + b := by rw [HX.out rfl, word_sg]
      subst hxe
      go_wp2_with fail
      go_ret3
      exact ⟨rfl, Only.refl _ _⟩
  · go_enter Tryz.func88, Tryz.ntmps88
    go_wp2_with fail
    refine (SP.out _).mono ?_
    rintro en w1 ⟨rfl, hw⟩; rw [hw]; clear hw w1
    go_wp2_with fail
    refine (RF.out _).mono ?_
    rintro en w1 ⟨rfl, hw⟩; rw [hw]; clear hw w1
    go_wp2_with fail
    refine (b2_calls true _).mono ?_
    rintro en w1 ⟨rfl, hw⟩; rw [hw]; clear hw w1
    go_wp2_with fail
    refine (EX.out _ HE3.out).mono ?_
    rintro en w1 ⟨x, ok, rfl, hx, hw⟩; rw [hw]; clear hw w1
    have HX := Lib.hid hx; clear hx
    cases ok
    · go_wp2_with fail
      refine (PP.out _ HE.out.1).mono ?_
      rintro en w1 ⟨rfl, hO⟩
      have HO := Lib.hid hO; clear hO
      go_wp2_with fail
      go_ret3
      exact ⟨rfl, HO.out⟩
    · have hxe : x = sgN true + b := by rw [HX.out rfl, word_sg]
      subst hxe
      go_wp2_with fail
      go_ret3
      exact ⟨rfl, Only.refl _ _⟩
end Go.Proofs.YthjfdhkahmlolaaGreatDoor

/- Parse at every printed text. -/
namespace Go.Proofs.YthjfdhkahmlolaaGreatDoor
open Go.RowKit Usc
set_option maxRecDepth 100000
/-- atof64 tells Y of the text -/
def AtOk (T : ByteArray) (Y : Nat) : Prop := ∀ w, Env w → Env3 w → Calls Tryz.prog 88 #[.string T] w fun en w' => en = .returned (.tuple #[.float .f64 Y, .int .i64 (T.size : Nat), .nilIface]) ∧ Only (fun _ => False) w w'
set_option maxHeartbeats 4000000 in
theorem pp_of {T : ByteArray} {Y : Nat} (h : AtOk T Y) (w : World) (hE : Env w) (hE3 : Env3 w) : Calls Tryz.prog 60 #[.string T, .int .i64 64] w fun en w' => en = .returned (.tuple #[.float .f64 Y, .int .i64 (T.size : Nat), .nilIface]) ∧ Only (fun _ => False) w w' := by
  have HC := Lib.hid (h w hE hE3)
  clear hE hE3 h
  go_enter Tryz.func60, Tryz.ntmps60
  go_wp2_with fail
  refine HC.out.mono ?_
  rintro en w1 ⟨rfl, hO⟩
  have HO := Lib.hid hO; clear hO
  go_wp2_with fail
  go_ret3
  exact ⟨rfl, HO.out⟩
set_option maxHeartbeats 4000000 in
theorem pf42_of {T : ByteArray} {Y : Nat} (h : AtOk T Y) (w : World) (hE : Env w) (hE3 : Env3 w) : Calls Tryz.prog 42 #[.string T, .int .i64 64] w fun en w' => en = .returned (.tuple #[.float .f64 Y, .nilIface]) ∧ Only (fun _ => False) w w' := by
  have HC := Lib.hid (pp_of h w hE hE3)
  clear hE hE3 h
  go_enter Tryz.func42, Tryz.ntmps42
  go_wp2_with fail
  refine HC.out.mono ?_
  rintro en w1 ⟨rfl, hO⟩
  have HO := Lib.hid hO; clear hO
  go_wp2_with fail
  go_ret2
  exact ⟨rfl, HO.out⟩
set_option maxHeartbeats 4000000 in
theorem pf29_of {T : ByteArray} {Y : Nat} (h : AtOk T Y) (w : World) (hE : Env w) (hE3 : Env3 w) : Calls Tryz.prog 29 #[.string T, .int .i64 64] w fun en w' => en = .returned (.tuple #[.float .f64 Y, .nilIface]) ∧ Only (fun _ => False) w w' := by
  have HC := Lib.hid (pf42_of h w hE hE3)
  clear hE hE3 h
  go_enter Tryz.func29, Tryz.ntmps29
  go_wp2_with fail
  refine HC.out.mono ?_
  rintro en w1 ⟨rfl, hO⟩
  have HO := Lib.hid hO; clear hO
  go_wp2_with fail
  go_ret2
  exact ⟨rfl, HO.out⟩
set_option maxHeartbeats 4000000 in
theorem parse_of {t : List UInt8} {Y : Nat} (h : AtOk ⟨t.toArray⟩ Y) (hY : Y < 18446744073709551616) (hp : Pr Y t) (w : World) (hE : Env w) (hE3 : Env3 w) : Calls Tryz.prog 15 #[.string ⟨t.toArray⟩] w fun en w' => en = .returned (.tuple #[.float .f64 Y, .int .i64 0]) ∧ Only (fun _ => False) w w' := by
  have HC := Lib.hid (pf29_of h w hE hE3)
  have HP : Hid (∀ w, Env w → Calls Tryz.prog 11 #[.float .f64 Y] w fun en w' => en = .returned (.string ⟨t.toArray⟩) ∧ Only (fun _ => False) w w') := Lib.hid (fun w h => print_calls Y t w hY hp h)
  have HE := Lib.hid hE
  clear hE hE3 h hp
  generalize (⟨t.toArray⟩ : ByteArray) = T at *
  go_enter Tryz.func15, Tryz.ntmps15
  go_wp2_with fail
  refine HC.out.mono ?_
  rintro en w1 ⟨rfl, hO⟩
  have HO := Lib.hid hO; clear hO
  go_wp2_with fail
  refine (HP.out _ (HE.out.still HO.out (fun _ _ h => h))).mono ?_
  rintro en w2 ⟨rfl, hO2⟩
  have HO2 := Lib.hid hO2; clear hO2
  go_wp2_with fail
  go_ret2
  exact ⟨rfl, HO.out.trans HO2.out⟩
set_option maxHeartbeats 4000000 in
theorem at_zero (neg : Bool) : AtOk ⟨(sgB neg ++ [48]).toArray⟩ (sgN neg) := by
  intro w hE hE3
  have opt := hE3.opt
  have SP : Hid (∀ w, Calls Tryz.prog 116 #[.string ⟨(sgB neg ++ [48]).toArray⟩] w fun en w' => en = .returned (.tuple #[.float .f64 0, .int .i64 0, .bool false]) ∧ w' = w) := Lib.hid (fun w => by
    cases neg
    · exact sp_digit _ 48 [] w rfl (by decide)
    · exact sp_neg _ 48 [] w rfl (by decide))
  have hsc : scan St.zero [48] = (⟨0, 0, 0, -1, false, true, false, false⟩, []) := by rfl
  have RF : Hid (∀ w, Calls Tryz.prog 117 #[.string ⟨(sgB neg ++ [48]).toArray⟩] w fun en w' => en = .returned (.tuple #[.int .u64 0, .int .i64 0, .bool neg, .bool false, .bool false, .int .i64 (((⟨(sgB neg ++ [48]).toArray⟩ : ByteArray).size : Nat) : Int), .bool true]) ∧ w' = w) := Lib.hid (fun w => by
    cases neg
    · exact rf_plain _ 48 [] _ w rfl (by decide) (by decide) (.inl rfl) hsc rfl rfl
    · exact rf_plain_neg _ 48 [] _ w rfl (by decide) (by decide) (.inl rfl) hsc rfl rfl)
  clear hE hE3 hsc
  generalize (⟨(sgB neg ++ [48]).toArray⟩ : ByteArray) = T at *
  have k0 : ∀ w, Sem.run Tryz.prog (callFunc 126 #[.int .u64 (bits BinOp.or IntKind.u64 0 0)]) w = .ok (.value (.float .f64 0)) w := fun w => by kernel_rfl
  have k1 : ∀ w, Sem.run Tryz.prog (callFunc 126 #[.int .u64 (bits BinOp.or IntKind.u64 9223372036854775808 0)]) w = .ok (.value (.float .f64 9223372036854775808)) w := fun w => by kernel_rfl
  cases neg
  · go_enter Tryz.func88, Tryz.ntmps88
    go_wp2_with fail
    refine (SP.out _).mono ?_
    rintro en w1 ⟨rfl, hw⟩; rw [hw]; clear hw w1
    go_wp2_with fail
    refine (RF.out _).mono ?_
    rintro en w1 ⟨rfl, hw⟩; rw [hw]; clear hw w1
    go_wp2_with fail
    refine (b2_calls false _).mono ?_
    rintro en w1 ⟨rfl, hw⟩; rw [hw]; clear hw w1
    go_wp2_with fail
    go_ret3
    exact ⟨rfl, Only.refl _ _⟩
  · go_enter Tryz.func88, Tryz.ntmps88
    go_wp2_with fail
    refine (SP.out _).mono ?_
    rintro en w1 ⟨rfl, hw⟩; rw [hw]; clear hw w1
    go_wp2_with fail
    refine (RF.out _).mono ?_
    rintro en w1 ⟨rfl, hw⟩; rw [hw]; clear hw w1
    go_wp2_with fail
    refine (b2_calls true _).mono ?_
    rintro en w1 ⟨rfl, hw⟩; rw [hw]; clear hw w1
    go_wp2_with fail
    go_ret3
    exact ⟨rfl, Only.refl _ _⟩
set_option maxHeartbeats 4000000 in
theorem at_special {T : ByteArray} {Y : Nat} (h : ∀ w, Calls Tryz.prog 116 #[.string T] w fun en w' => en = .returned (.tuple #[.float .f64 Y, .int .i64 (T.size : Nat), .bool true]) ∧ w' = w) : AtOk T Y := by
  intro w _ _
  have SP := Lib.hid h; clear h
  go_enter Tryz.func88, Tryz.ntmps88
  go_wp2_with fail
  refine (SP.out _).mono ?_
  rintro en w1 ⟨rfl, hw⟩; rw [hw]; clear hw w1
  go_wp2_with fail
  go_ret3
  exact ⟨rfl, Only.refl _ _⟩
/-- what Parse answers at a printed text -/
def pback (X : Nat) : Nat := if 9218868437227405312 < X % 9223372036854775808 then 9221120237041090561 else X
theorem pback_lt {X : Nat} (h : X < 18446744073709551616) : pback X < 18446744073709551616 := by unfold pback; split <;> omega
theorem pr_pback {X : Nat} {t : List UInt8} (h : Pr X t) : Pr (pback X) t := by
  unfold pback
  by_cases h1 : 9218868437227405312 < X % 9223372036854775808
  · rw [if_pos h1]
    obtain rfl := (pr_nan h1 t).1 h
    exact (pr_nan (by decide) _).2 rfl
  · rw [if_neg h1]; exact h
theorem at_all {X : Nat} {t : List UInt8} (hX : X < 18446744073709551616) (h : Pr X t) : AtOk ⟨t.toArray⟩ (pback X) := by
  unfold pback
  by_cases h1 : 9218868437227405312 < X % 9223372036854775808
  · rw [if_pos h1]
    obtain rfl := (pr_nan h1 t).1 h
    exact at_special (fun w => sp_nan w)
  · rw [if_neg h1]
    by_cases h2 : X % 9223372036854775808 = 9218868437227405312
    · have ht := (pr_inf h2 t).1 h
      by_cases hs : X < 9223372036854775808
      · rw [if_pos hs] at ht
        subst ht
        obtain rfl : X = 9218868437227405312 := by omega
        exact at_special (fun w => sp_pinf w)
      · rw [if_neg hs] at ht
        subst ht
        obtain rfl : X = 18442240474082181120 := by omega
        exact at_special (fun w => sp_ninf w)
    · have hsg : ∀ b, b < 9223372036854775808 → X % 9223372036854775808 = b → X = sgN (decide (9223372036854775808 ≤ X)) + b := fun b hb e => by
        unfold sgN
        by_cases hs : 9223372036854775808 ≤ X
        · rw [decide_eq_true hs, if_pos rfl]; omega
        · rw [decide_eq_false hs, if_neg (by decide)]; omega
      have hsb : (if X < 9223372036854775808 then [] else [45] : List UInt8) = sgB (decide (9223372036854775808 ≤ X)) := by
        unfold sgB
        by_cases hs : 9223372036854775808 ≤ X
        · rw [decide_eq_true hs, if_pos rfl, if_neg (by omega)]
        · rw [if_pos (show X < 9223372036854775808 by omega), decide_eq_false hs, if_neg (by decide)]
      by_cases h3 : X % 9223372036854775808 = 0
      · unfold Pr at h
        rw [if_neg h1, if_neg h2, if_pos h3] at h
        have ht : t = sgB (decide (9223372036854775808 ≤ X)) ++ [48] := by
          rw [h, ← hsb]; split <;> rfl
        have := at_zero (decide (9223372036854775808 ≤ X))
        rw [← ht] at this
        rw [show sgN (decide (9223372036854775808 ≤ X)) = X by have := hsg 0 (by decide) h3; omega] at this
        exact this
      · unfold Pr at h
        rw [if_neg h1, if_neg h2, if_neg h3, hsb] at h
        obtain ⟨c, s, hS, ht⟩ := h
        have P := parts (X % 9223372036854775808) (by omega) (by omega)
        intro w hE hE3
        have := at_printed (decide (9223372036854775808 ≤ X)) w hE hE3 (by omega) (by omega) (hS.rd P) (hS.bounds P)
        rw [← ht, ← hsg _ (Nat.mod_lt _ (by decide)) rfl, ← ba_size] at this
        exact this
/-- Parse gives back what Print told -/
theorem parse_all {X : Nat} {t : List UInt8} (hX : X < 18446744073709551616) (h : Pr X t) (w : World) (hE : Env w) (hE3 : Env3 w) :
    Calls Tryz.prog 15 #[.string ⟨t.toArray⟩] w fun en w' => en = .returned (.tuple #[.float .f64 (pback X), .int .i64 0]) ∧ Only (fun _ => False) w w' :=
  parse_of (at_all hX h) (pback_lt hX) (pr_pback h) w hE hE3
end Go.Proofs.YthjfdhkahmlolaaGreatDoor
