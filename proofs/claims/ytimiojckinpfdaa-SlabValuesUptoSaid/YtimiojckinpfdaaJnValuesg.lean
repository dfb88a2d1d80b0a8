/- How floats stand: the program's order is that of the document's ranks; the walks of the document's Compare and ahead. -/
import Derived.Test.YtimiojckinpfdaaRows
import Derived.Deep.RegionHeld3
import Derived.Deep.DeepCutAuto
import Derived.StillTailTactics
import Derived.Test.YtimiojckinpfdaaJnValuesf
namespace Go.Proofs.Ytimiojckinpfdaa
open Go.RowKit

def rk (x : Nat) : Nat := if Pq.Flt.nan x then 0 else if Pq.Flt.neg x then 18446744073709551615 - x else x + 9223372036854775808
def cmpR (a b : Nat) : Int := if a < b then -1 else if a > b then 1 else 0
theorem fnan_eq (x : Nat) : fnan x = Pq.Flt.nan x := by
  unfold fnan
  cases h : Pq.Flt.nan x
  · rw [show Ieee.double.order x x = some (compare (Pq.Flt.key x) (Pq.Flt.key x)) from Pq.Flt.order_eq x x h h]
    simp
  · rw [show Ieee.double.order x x = none from Pq.Flt.order_nan x x (.inl h)]
    rfl
theorem flt_eq (x y : Nat) : flt x y = (!Pq.Flt.nan x && !Pq.Flt.nan y && decide (Pq.Flt.key x < Pq.Flt.key y)) := by
  unfold flt
  cases hx : Pq.Flt.nan x
  · cases hy : Pq.Flt.nan y
    · rw [show Ieee.double.order x y = some (compare (Pq.Flt.key x) (Pq.Flt.key y)) from Pq.Flt.order_eq x y hx hy]
      simp only [compare, compareOfLessAndEq]
      by_cases h1 : Pq.Flt.key x < Pq.Flt.key y
      · rw [if_pos h1]; simp [h1]
      · rw [if_neg h1]
        by_cases h2 : Pq.Flt.key x = Pq.Flt.key y
        · rw [if_pos h2]; simp [h2]
        · rw [if_neg h2]; simp [h1]
    · rw [show Ieee.double.order x y = none from Pq.Flt.order_nan x y (.inr hy)]; rfl
  · rw [show Ieee.double.order x y = none from Pq.Flt.order_nan x y (.inl hx)]; rfl
theorem fgt_eq (x y : Nat) : fgt x y = (!Pq.Flt.nan x && !Pq.Flt.nan y && decide (Pq.Flt.key y < Pq.Flt.key x)) := by
  unfold fgt
  cases hx : Pq.Flt.nan x
  · cases hy : Pq.Flt.nan y
    · rw [show Ieee.double.order x y = some (compare (Pq.Flt.key x) (Pq.Flt.key y)) from Pq.Flt.order_eq x y hx hy]
      simp only [compare, compareOfLessAndEq]
      by_cases h1 : Pq.Flt.key x < Pq.Flt.key y
      · rw [if_pos h1]
        have : ¬ Pq.Flt.key y < Pq.Flt.key x := by omega
        simp [this]
      · rw [if_neg h1]
        by_cases h2 : Pq.Flt.key x = Pq.Flt.key y
        · rw [if_pos h2]; simp [h2]
        · rw [if_neg h2]
          have : Pq.Flt.key y < Pq.Flt.key x := by omega
          simp [this]
    · rw [show Ieee.double.order x y = none from Pq.Flt.order_nan x y (.inr hy)]; rfl
  · rw [show Ieee.double.order x y = none from Pq.Flt.order_nan x y (.inl hx)]; rfl
theorem fsg_eq (x : Nat) (hx : x < 18446744073709551616) : fsg x = Pq.Flt.neg x := by
  unfold fsg Pq.Flt.neg wrap64
  by_cases h : x < 9223372036854775808
  · rw [show (x / 9223372036854775808 % 2 == 1) = false by rw [beq_eq_false_iff_ne]; omega]
    rw [decide_eq_false_iff_not]; omega
  · rw [show (x / 9223372036854775808 % 2 == 1) = true by rw [beq_iff_eq]; omega]
    rw [decide_eq_true_eq]; omega
theorem rk_cases (x : Nat) (hx : x < 18446744073709551616) :
    (Pq.Flt.nan x = true ∧ rk x = 0) ∨ (Pq.Flt.nan x = false ∧ Pq.Flt.neg x = true ∧ (rk x : Int) = 9223372036854775807 + Pq.Flt.key x ∧ -9218868437227405312 ≤ Pq.Flt.key x ∧ Pq.Flt.key x ≤ 0) ∨
    (Pq.Flt.nan x = false ∧ Pq.Flt.neg x = false ∧ (rk x : Int) = 9223372036854775808 + Pq.Flt.key x ∧ 0 ≤ Pq.Flt.key x) := by
  unfold rk Pq.Flt.key
  cases hn : Pq.Flt.nan x
  · have hm : Pq.Flt.mag x ≤ 9218868437227405312 := by unfold Pq.Flt.nan at hn; simpa using hn
    cases hg : Pq.Flt.neg x
    · refine .inr (.inr ⟨rfl, rfl, ?_, ?_⟩)
      · unfold Pq.Flt.neg at hg
        rw [beq_eq_false_iff_ne] at hg
        simp only [Bool.false_eq_true, if_false]
        unfold Pq.Flt.mag; omega
      · simp
    · refine .inr (.inl ⟨rfl, rfl, ?_, ?_, ?_⟩)
      · unfold Pq.Flt.neg at hg
        rw [beq_iff_eq] at hg
        simp only [Bool.false_eq_true, if_false, if_true]
        unfold Pq.Flt.mag; omega
      · simp only [if_true]; omega
      · simp only [if_true]; omega
  · exact .inl ⟨rfl, rfl⟩
theorem fcmp_rk (x y : Nat) (hx : x < 18446744073709551616) (hy : y < 18446744073709551616) : fcmp x y = cmpR (rk x) (rk y) := by
  unfold fcmp cmpB cmpR
  rw [fnan_eq, fnan_eq, flt_eq, fgt_eq, fsg_eq x hx, fsg_eq y hy]
  rcases rk_cases x hx with ⟨a1, a2⟩ | ⟨a1, a2, a3, a4, a5⟩ | ⟨a1, a2, a3, a4⟩ <;> rcases rk_cases y hy with ⟨b1, b2⟩ | ⟨b1, b2, b3, b4, b5⟩ | ⟨b1, b2, b3, b4⟩
  all_goals
    simp only [a1, b1, a2, b2, Bool.and_self, Bool.true_or, Bool.or_true, Bool.false_or, Bool.or_false, Bool.and_false, Bool.false_and, Bool.and_true, Bool.true_and, Bool.not_false, Bool.not_true, Bool.false_eq_true, if_false, if_true, beq_self_eq_true, reduceCtorEq, decide_eq_true_eq, beq_iff_eq]
    try (repeat' split) <;> omega
theorem fcmp_swap (x y : Nat) (hx : x < 18446744073709551616) (hy : y < 18446744073709551616) : (fcmp x y > 0) ↔ (fcmp y x < 0) := by
  rw [fcmp_rk x y hx hy, fcmp_rk y x hy hx]
  unfold cmpR
  by_cases h1 : rk x < rk y
  · rw [if_pos h1, if_neg (by omega), if_pos h1]; omega
  · rw [if_neg h1]
    by_cases h2 : rk x > rk y
    · rw [if_pos h2, if_pos h2]; omega
    · rw [if_neg h2, if_neg h2, if_neg h1]
theorem nat_xor_all (x : Nat) (h : x < 18446744073709551616) : 18446744073709551615 ^^^ x = 18446744073709551615 - x := by
  have k := congrArg BitVec.toNat (BitVec.allOnes_xor (x := BitVec.ofNat 64 x))
  rw [BitVec.toNat_xor, BitVec.toNat_not, BitVec.toNat_allOnes, BitVec.toNat_ofNat] at k
  rw [show (2 ^ 64 : Nat) = 18446744073709551616 from rfl, Nat.mod_eq_of_lt h] at k
  exact k
theorem xor_all (x : Nat) (h : x < 18446744073709551616) : bits .xor .u64 IntKind.u64.max (x : Int) = ((18446744073709551615 - x : Nat) : Int) := by
  have := u64_xor_nat 18446744073709551615 x (by omega) h
  rw [nat_xor_all x h] at this
  exact this
theorem rank_calls (x : Nat) (w : World) (hx : x < 18446744073709551616) : Calls Try.prog 100 #[.float .f64 x] w fun e w' => e = .returned (.int .u64 (rk x : Nat)) ∧ w' = w := by
  have k := run_tobits x
  have m1 := Pq.mag_bits x hx
  have m2 := Pq.and_sign x hx
  have hm : Pq.Flt.mag x < 9223372036854775808 := by unfold Pq.Flt.mag; omega
  cases hn : Pq.Flt.nan x
  · have hm2 : Pq.Flt.mag x ≤ 9218868437227405312 := by unfold Pq.Flt.nan at hn; simpa using hn
    have t1 : decide (((Pq.Flt.mag x : Nat) : Int) > 9218868437227405312) = false := by simp; omega
    cases hg : Pq.Flt.neg x
    · have m3 : Pq.sgn x = 0 := by unfold Pq.sgn; rw [hg]; rfl
      rw [m3] at m2
      have hs : x < 9223372036854775808 := by
        unfold Pq.Flt.neg at hg; rw [beq_eq_false_iff_ne] at hg; omega
      have m4 := Pq.or_sign x hs
      have hr : rk x = 9223372036854775808 + x := by unfold rk; rw [hn, hg]; simp; omega
      have HR := Lib.hid hr
      generalize rk x = r at *
      clear hr hn hg m3
      go_enter Try.func100, Try.ntmps100
      go_wp2_with fail
      go_ret
      exact ⟨ret_eq (congrArg (Value.int .u64) (by have := HR.out; omega)), rfl⟩
    · have m3 : Pq.sgn x = 9223372036854775808 := by unfold Pq.sgn; rw [hg]; rfl
      rw [m3] at m2
      have hs : 9223372036854775808 ≤ x := by
        unfold Pq.Flt.neg at hg; rw [beq_iff_eq] at hg; omega
      have hr : rk x = 18446744073709551615 - x := by unfold rk; rw [hn, hg]; simp
      have HR := Lib.hid hr
      generalize rk x = r at *
      clear hr hn hg m3
      have mx := xor_all x hx
      go_enter Try.func100, Try.ntmps100
      go_wp2_with fail
      go_ret
      refine ⟨ret_eq (congrArg (Value.int .u64) (by have := HR.out; omega)), rfl⟩
  · have hm2 : 9218868437227405312 < Pq.Flt.mag x := by unfold Pq.Flt.nan at hn; simpa using hn
    have t1 : decide (((Pq.Flt.mag x : Nat) : Int) > 9218868437227405312) = true := by simp; omega
    have hr : rk x = 0 := by unfold rk; rw [hn]; rfl
    have HR := Lib.hid hr
    generalize rk x = r at *
    clear hr hn
    go_enter Try.func100, Try.ntmps100
    go_wp2_with fail
    go_ret
    exact ⟨by rw [HR.out]; rfl, rfl⟩
theorem rk_lt (x : Nat) (hx : x < 18446744073709551616) : rk x < 18446744073709551616 := by
  have := rk_cases x hx
  unfold rk
  split
  · omega
  · split
    · omega
    · rename_i h1 h2
      unfold Pq.Flt.neg at h2
      simp at h2; omega
set_option maxRecDepth 100000 in
theorem rcmp_calls (x y : Nat) (w : World) (hx : x < 18446744073709551616) (hy : y < 18446744073709551616) : Calls Try.prog 72 #[.float .f64 x, .float .f64 y] w fun e w' => e = .returned (.int .i64 (cmpR (rk x) (rk y))) ∧ w' = w := by
  have K1 := Lib.hid (fun w => rank_calls x w hx)
  have K2 := Lib.hid (fun w => rank_calls y w hy)
  unfold cmpR
  clear hx hy
  generalize rk x = a at *
  generalize rk y = b at *
  by_cases h1 : a < b
  · have t1 : decide ((a : Int) < b) = true := by simp; omega
    have t2 : decide (a < b) = true := by simp; omega
    rw [if_pos h1]
    go_enter Try.func72, Try.ntmps72
    go_wp2_with fail
    refine (K1.out _).mono ?_
    rintro e w1 ⟨rfl, rfl⟩
    go_wp2_with fail
    refine (K2.out _).mono ?_
    rintro e w1 ⟨rfl, rfl⟩
    go_wp2_with fail
    go_ret
    exact ⟨rfl, rfl⟩
  · have t1 : decide ((a : Int) < b) = false := by simp; omega
    have t2 : decide (a < b) = false := by simp; omega
    rw [if_neg h1]
    by_cases h2 : a > b
    · have t3 : decide ((a : Int) > b) = true := by simp; omega
      have t4 : decide (b < a) = true := by simp; omega
      rw [if_pos h2]
      go_enter Try.func72, Try.ntmps72
      go_wp2_with fail
      refine (K1.out _).mono ?_
      rintro e w1 ⟨rfl, rfl⟩
      go_wp2_with fail
      refine (K2.out _).mono ?_
      rintro e w1 ⟨rfl, rfl⟩
      go_wp2_with fail
      go_ret
      exact ⟨rfl, rfl⟩
    · have t3 : decide ((a : Int) > b) = false := by simp; omega
      have t4 : decide (b < a) = false := by simp; omega
      rw [if_neg h2]
      go_enter Try.func72, Try.ntmps72
      go_wp2_with fail
      refine (K1.out _).mono ?_
      rintro e w1 ⟨rfl, rfl⟩
      go_wp2_with fail
      refine (K2.out _).mono ?_
      rintro e w1 ⟨rfl, rfl⟩
      go_wp2_with fail
      go_ret
      exact ⟨rfl, rfl⟩
def aheadB (x y : Nat) : Bool := decide (fcmp x y < 0)
set_option maxRecDepth 100000 in
theorem ahead_calls (x y : Nat) (w : World) (hx : x < 18446744073709551616) (hy : y < 18446744073709551616) : Calls Try.prog 45 #[.int .u64 (x : Nat), .int .u64 (y : Nat)] w fun e w' => e = .returned (.bool (aheadB x y)) ∧ w' = w := by
  have K := Lib.hid (fun w => rcmp_calls x y w hx hy)
  have k := run_frombits
  unfold aheadB
  rw [fcmp_rk x y hx hy]
  clear hx hy
  generalize cmpR (rk x) (rk y) = c at *
  go_enter Try.func45, Try.ntmps45
  go_wp2_with fail
  refine (K.out _).mono ?_
  rintro e w1 ⟨rfl, rfl⟩
  go_wp2_with fail
  go_ret
  exact ⟨rfl, rfl⟩
end Go.Proofs.Ytimiojckinpfdaa

/- The walk of the document's sum of two numbers of 128 bits. -/
namespace Go.Proofs.Ytimiojckinpfdaa
open Go.RowKit

theorem lo_val (al bl : Int) (h1 : 0 ≤ al) (h3 : 0 ≤ bl) : IntKind.u64.wrap (al + bl) = (loSum al bl : Nat) := by
  unfold loSum lowOf; simp only [IntKind.wrap, IntKind.signed, IntKind.bits]; simp; omega
def hi0 (ah bh : Int) : Int := IntKind.u64.wrap (IntKind.u64.wrap ah + IntKind.u64.wrap bh)
theorem hi_a (ah al bh bl : Int) (h1 : 0 ≤ al) (h2 : al ≤ 18446744073709551615) (h3 : 0 ≤ bl) (h4 : bl ≤ 18446744073709551615) (hc : ¬ ((loSum al bl : Nat) : Int) < al) : wrap64 (hi0 ah bh) = hiSum ah al bh bl := by
  unfold hiSum hi0 loSum lowOf carOf wrap64 at *; simp only [IntKind.wrap, IntKind.signed, IntKind.bits]; simp; omega
theorem hi_b (ah al bh bl : Int) (h1 : 0 ≤ al) (h2 : al ≤ 18446744073709551615) (h3 : 0 ≤ bl) (h4 : bl ≤ 18446744073709551615) (hc : ((loSum al bl : Nat) : Int) < al) : wrap64 (IntKind.u64.wrap (hi0 ah bh + 1)) = hiSum ah al bh bl := by
  unfold hiSum hi0 loSum lowOf carOf wrap64 at *; simp only [IntKind.wrap, IntKind.signed, IntKind.bits]; simp; omega
set_option maxRecDepth 100000 in
theorem radd_calls (ah al bh bl : Int) (w : World) (h1 : 0 ≤ al) (h2 : al ≤ 18446744073709551615) (h3 : 0 ≤ bl) (h4 : bl ≤ 18446744073709551615) :
    Calls Try.prog 42 #[.agg #[.int .i64 ah, .int .u64 al], .agg #[.int .i64 bh, .int .u64 bl]] w fun e w' => e = .returned (.agg #[.int .i64 (hiSum ah al bh bl), .int .u64 (loSum al bl : Nat)]) ∧ Only (fun _ => False) w w' := by
  have q1 := lo_val al bl h1 h3
  have hl : loSum al bl < 18446744073709551616 := by unfold loSum lowOf; omega
  by_cases hc : ((loSum al bl : Nat) : Int) < al
  · have e := hi_b ah al bh bl h1 h2 h3 h4 hc
    have kt : decide (((loSum al bl : Nat) : Int) < al) = true := by simpa using hc
    unfold hi0 at e
    have E := Lib.hid e
    clear e
    generalize loSum al bl = L at *
    go_enter Try.func42, Try.ntmps42
    go_wp2_with fail
    rw [E.out]
    refine bodyPost_ret (v := .agg #[.int .i64 (hiSum ah al bh bl), .int .u64 (L : Nat)]) (by simp [results, Try.results42, go_sem]) rfl ⟨rfl, ?_⟩
    exact (((Only.refl _ w).alloc _).alloc _).alloc _
  · have e := hi_a ah al bh bl h1 h2 h3 h4 hc
    have kt : decide (((loSum al bl : Nat) : Int) < al) = false := by simpa using hc
    unfold hi0 at e
    have E := Lib.hid e
    clear e
    generalize loSum al bl = L at *
    go_enter Try.func42, Try.ntmps42
    go_wp2_with fail
    rw [E.out]
    refine bodyPost_ret (v := .agg #[.int .i64 (hiSum ah al bh bl), .int .u64 (L : Nat)]) (by simp [results, Try.results42, go_sem]) rfl ⟨rfl, ?_⟩
    exact (((Only.refl _ w).alloc _).alloc _).alloc _
end Go.Proofs.Ytimiojckinpfdaa

/- The walk of the document's Merge, at any two parts. -/
namespace Go.Proofs.Ytimiojckinpfdaa
open Go.RowKit

def put8 (w : World) (b : Nat) (v0 v1 v2 v3 v4 v5 v6 v7 : Value) : World := (put7 w b v0 v1 v2 v3 v4 v5 v6).setCell ⟨b, 7, none⟩ v7
theorem put8_blk {w : World} {b : Nat} {c0 c1 c2 c3 c4 c5 c6 c7 : Value} {t : TypeId} {f : Nat × Nat} (h : w.heap[b]? = some (.cells #[c0, c1, c2, c3, c4, c5, c6, c7] t f)) (v0 v1 v2 v3 v4 v5 v6 v7 : Value) :
    (put8 w b v0 v1 v2 v3 v4 v5 v6 v7).heap[b]? = some (.cells #[v0, v1, v2, v3, v4, v5, v6, v7] t f) := by
  have h0 : (w.setCell ⟨b, 0, none⟩ v0).heap[b]? = some (.cells #[v0, c1, c2, c3, c4, c5, c6, c7] t f) := blk_set h 0 v0
  have h1 : ((w.setCell ⟨b, 0, none⟩ v0).setCell ⟨b, 1, none⟩ v1).heap[b]? = some (.cells #[v0, v1, c2, c3, c4, c5, c6, c7] t f) := blk_set h0 1 v1
  have h2 : (((w.setCell ⟨b, 0, none⟩ v0).setCell ⟨b, 1, none⟩ v1).setCell ⟨b, 2, none⟩ v2).heap[b]? = some (.cells #[v0, v1, v2, c3, c4, c5, c6, c7] t f) := blk_set h1 2 v2
  have h3 : ((((w.setCell ⟨b, 0, none⟩ v0).setCell ⟨b, 1, none⟩ v1).setCell ⟨b, 2, none⟩ v2).setCell ⟨b, 3, none⟩ v3).heap[b]? = some (.cells #[v0, v1, v2, v3, c4, c5, c6, c7] t f) := blk_set h2 3 v3
  have h4 : (((((w.setCell ⟨b, 0, none⟩ v0).setCell ⟨b, 1, none⟩ v1).setCell ⟨b, 2, none⟩ v2).setCell ⟨b, 3, none⟩ v3).setCell ⟨b, 4, none⟩ v4).heap[b]? = some (.cells #[v0, v1, v2, v3, v4, c5, c6, c7] t f) := blk_set h3 4 v4
  have h5 : ((((((w.setCell ⟨b, 0, none⟩ v0).setCell ⟨b, 1, none⟩ v1).setCell ⟨b, 2, none⟩ v2).setCell ⟨b, 3, none⟩ v3).setCell ⟨b, 4, none⟩ v4).setCell ⟨b, 5, none⟩ v5).heap[b]? = some (.cells #[v0, v1, v2, v3, v4, v5, c6, c7] t f) := blk_set h4 5 v5
  have h6 : (((((((w.setCell ⟨b, 0, none⟩ v0).setCell ⟨b, 1, none⟩ v1).setCell ⟨b, 2, none⟩ v2).setCell ⟨b, 3, none⟩ v3).setCell ⟨b, 4, none⟩ v4).setCell ⟨b, 5, none⟩ v5).setCell ⟨b, 6, none⟩ v6).heap[b]? = some (.cells #[v0, v1, v2, v3, v4, v5, v6, c7] t f) := blk_set h5 6 v6
  exact blk_set h6 7 v7
theorem Only.put8 {S : Nat → Prop} {a w : World} (h : Only S a w) {b : Nat} (hb : a.heap.size ≤ b ∨ S b) (v0 v1 v2 v3 v4 v5 v6 v7 : Value) : Only S a (put8 w b v0 v1 v2 v3 v4 v5 v6 v7) :=
  (h.put7 hb v0 v1 v2 v3 v4 v5 v6).setCell (p := ⟨b, 7, none⟩) hb v7
structure Eight (w : World) (b : Nat) (v0 v1 v2 v3 v4 v5 v6 v7 : Value) : Prop where
  d0 : w.cell? ⟨b, 0, none⟩ = some v0
  d1 : w.cell? ⟨b, 1, none⟩ = some v1
  d2 : w.cell? ⟨b, 2, none⟩ = some v2
  d3 : w.cell? ⟨b, 3, none⟩ = some v3
  d4 : w.cell? ⟨b, 4, none⟩ = some v4
  d5 : w.cell? ⟨b, 5, none⟩ = some v5
  d6 : w.cell? ⟨b, 6, none⟩ = some v6
  d7 : w.cell? ⟨b, 7, none⟩ = some v7
  f0 : w.frozen? ⟨b, 0, none⟩ = false
  f1 : w.frozen? ⟨b, 1, none⟩ = false
  f2 : w.frozen? ⟨b, 2, none⟩ = false
  f3 : w.frozen? ⟨b, 3, none⟩ = false
  f4 : w.frozen? ⟨b, 4, none⟩ = false
  f5 : w.frozen? ⟨b, 5, none⟩ = false
  f6 : w.frozen? ⟨b, 6, none⟩ = false
  f7 : w.frozen? ⟨b, 7, none⟩ = false
theorem eight {w : World} {b : Nat} {c0 c1 c2 c3 c4 c5 c6 c7 : Value} {t : TypeId} (h : w.heap[b]? = some (.cells #[c0, c1, c2, c3, c4, c5, c6, c7] t (0, 0))) : Eight w b c0 c1 c2 c3 c4 c5 c6 c7 :=
  ⟨blk_cell h 0, blk_cell h 1, blk_cell h 2, blk_cell h 3, blk_cell h 4, blk_cell h 5, blk_cell h 6, blk_cell h 7, blk_free h 0, blk_free h 1, blk_free h 2, blk_free h 3, blk_free h 4, blk_free h 5, blk_free h 6, blk_free h 7⟩
/-- a block of eight zeros, made since W0 -/
structure Fresh8 (W0 W : World) (g : Nat) : Prop where
  hb : W.heap[g]? = some (.cells #[.int .i64 0, .int .u64 0, .slice none 0 0, .int .u64 0, .int .u64 0, .int .u64 0, .int .u64 0, .int .u64 0] 47 (0, 0))
  hg : W0.heap.size ≤ g
theorem Fresh8.only {W0 W w3 : World} {g : Nat} (h : Fresh8 W0 W g) (O : Only (fun _ => False) W w3) : Fresh8 W0 w3 g := ⟨O.blk h.hb (by simp), h.hg⟩
theorem fresh8_new {W0 X w3 : World} (O0 : Only (fun _ => False) W0 X) (O : Only (fun _ => False) (X.alloc (.cells #[.int .i64 0, .int .u64 0, .slice none 0 0, .int .u64 0, .int .u64 0, .int .u64 0, .int .u64 0, .int .u64 0] 47)) w3) : Fresh8 W0 w3 X.heap.size :=
  ⟨O.blk (blk_new _ _) (by simp), O0.size⟩
theorem Only.chain8 {S : Nat → Prop} {a w : World} (h : Only S a w) {b : Nat} (hb : a.heap.size ≤ b) (v0 v1 v2 v3 v4 v5 v6 v7 : Value) :
    Only S a ((((((((w.setCell ⟨b, 0, none⟩ v0).setCell ⟨b, 1, none⟩ v1).setCell ⟨b, 2, none⟩ v2).setCell ⟨b, 3, none⟩ v3).setCell ⟨b, 4, none⟩ v4).setCell ⟨b, 5, none⟩ v5).setCell ⟨b, 6, none⟩ v6).setCell ⟨b, 7, none⟩ v7) := h.put8 (.inl hb) v0 v1 v2 v3 v4 v5 v6 v7
theorem fresh8_new0 {W0 w3 : World} (O : Only (fun _ => False) (W0.drew.alloc (.cells #[.int .i64 0, .int .u64 0, .slice none 0 0, .int .u64 0, .int .u64 0, .int .u64 0, .int .u64 0, .int .u64 0] 47)) w3) : Fresh8 W0 w3 W0.heap.size := fresh8_new (X := W0.drew) (Only.refl _ W0).drew O
theorem Keep.chain8 {t u : TypeId} {w0 w : World} {b : Nat} {cs : Array Value} {f : Nat × Nat} (h : Keep t w0 w) (hb : w.heap[b]? = some (.cells cs u f)) (hu : u ≠ t) (v0 v1 v2 v3 v4 v5 v6 v7 : Value) :
    Keep t w0 ((((((((w.setCell ⟨b, 0, none⟩ v0).setCell ⟨b, 1, none⟩ v1).setCell ⟨b, 2, none⟩ v2).setCell ⟨b, 3, none⟩ v3).setCell ⟨b, 4, none⟩ v4).setCell ⟨b, 5, none⟩ v5).setCell ⟨b, 6, none⟩ v6).setCell ⟨b, 7, none⟩ v7) := by
  have q0 := h.set (i := 0) (v := v0) hb hu; have b0 := blk_set hb 0 v0
  have q1 := q0.set (i := 1) (v := v1) b0 hu; have b1 := blk_set b0 1 v1
  have q2 := q1.set (i := 2) (v := v2) b1 hu; have b2 := blk_set b1 2 v2
  have q3 := q2.set (i := 3) (v := v3) b2 hu; have b3 := blk_set b2 3 v3
  have q4 := q3.set (i := 4) (v := v4) b3 hu; have b4 := blk_set b3 4 v4
  have q5 := q4.set (i := 5) (v := v5) b4 hu; have b5 := blk_set b4 5 v5
  have q6 := q5.set (i := 6) (v := v6) b5 hu; have b6 := blk_set b5 6 v6
  exact q6.set (i := 7) (v := v7) b6 hu
/-- a part of the document's, as a value -/
def partr (hi lo : Int) (p : Option Addr) (l x : Nat) (n : Int) (s c m g : Nat) : Value := .agg #[.int .i64 hi, .int .u64 lo, .slice p l x, .int .u64 n, .int .u64 (s : Nat), .int .u64 (c : Nat), .int .u64 (m : Nat), .int .u64 (g : Nat)]
/-- what Merge answers: the counts by Q, the pair by PQ -/
def RMergeRes (Q : Option Addr → Nat → Nat → World → Prop) (PQ : Nat → Nat → Prop) (hi lo n : Int) (m g : Nat) (w : World) (e : Ending) (w' : World) : Prop :=
  ∃ p l x s c, e = .returned (partr hi lo p l x n s c m g) ∧ Q p l x w' ∧ PQ s c ∧ Only (fun _ => False) w w'
/-- behind the statement that lays the merged part down -/
def RMergeCut (Q : Option Addr → Nat → Nat → World → Prop) (PQ : Nat → Nat → Prop) (hi lo n : Int) (m g : Nat) (W0 : World) (v : Value) (wx : World) : Prop :=
  ∃ b p l x s c, v = .pointer (some ⟨b, 0, none⟩) ∧ W0.heap.size ≤ b ∧ wx.heap[b]? = some (.cells #[.int .i64 hi, .int .u64 lo, .slice p l x, .int .u64 n, .int .u64 (s : Nat), .int .u64 (c : Nat), .int .u64 (m : Nat), .int .u64 (g : Nat)] 47 (0, 0)) ∧ Only (fun _ => False) W0 wx ∧ Q p l x wx ∧ PQ s c

set_option maxRecDepth 100000 in
set_option maxHeartbeats 16000000 in
theorem r11merge_calls (ah al na bh bl nb : Int) (s1 c1 m1 x1 s2 c2 m2 x2 : Nat) (pa pb : Option Addr) (la xa lb xb : Nat) (w : World) (h2 : 0 ≤ al ∧ al ≤ 18446744073709551615) (h4 : 0 ≤ bl ∧ bl ≤ 18446744073709551615) (hM : m1 < 18446744073709551616 ∧ m2 < 18446744073709551616 ∧ x1 < 18446744073709551616 ∧ x2 < 18446744073709551616)
    (Q : Option Addr → Nat → Nat → World → Prop) (PQ : Nat → Nat → Prop) (hQ : ∀ p l x w1 w2, Q p l x w1 → Keep 55 w1 w2 → Q p l x w2)
    (hRM : ∀ w1, Only (fun _ => False) w w1 → Calls Try.prog 43 #[.slice pa la xa, .slice pb lb xb] w1 fun e w2 => ∃ p l x, e = .returned (.slice p l x) ∧ Only (fun _ => False) w1 w2 ∧ Q p l x w2)
    (PM : ∀ w1, Calls Try.prog 44 #[.agg #[.int .u64 (s1 : Nat), .int .u64 (c1 : Nat)], .agg #[.int .u64 (s2 : Nat), .int .u64 (c2 : Nat)]] w1 fun e w2 => ∃ s c, e = .returned (.agg #[.int .u64 (s : Nat), .int .u64 (c : Nat)]) ∧ Only (fun _ => False) w1 w2 ∧ PQ s c) :
    Calls Try.prog 14 #[partr ah al pa la xa na s1 c1 m1 x1, partr bh bl pb lb xb nb s2 c2 m2 x2] w (RMergeRes Q PQ (hiSum ah al bh bl) (loSum al bl : Nat) (IntKind.u64.wrap (na + nb)) (minOf na nb m1 m2) (maxOf na nb x1 x2) w) := by
  have H2 := Lib.hid h2; have H4 := Lib.hid h4; have HM := Lib.hid hM
  clear h2 h4 hM
  unfold partr
  go_enter Try.func14, Try.ntmps14
  go_upto_region 1 with fail
  have e1 : (w.alloc (.cells #[.int .i64 ah, .int .u64 al, .slice pa la xa, .int .u64 na, .int .u64 (s1 : Nat), .int .u64 (c1 : Nat), .int .u64 (m1 : Nat), .int .u64 (x1 : Nat)] 47)).heap.size = w.heap.size + 1 := by simp
  have e2 : ((w.alloc (.cells #[.int .i64 ah, .int .u64 al, .slice pa la xa, .int .u64 na, .int .u64 (s1 : Nat), .int .u64 (c1 : Nat), .int .u64 (m1 : Nat), .int .u64 (x1 : Nat)] 47)).alloc (.cells #[.int .i64 bh, .int .u64 bl, .slice pb lb xb, .int .u64 nb, .int .u64 (s2 : Nat), .int .u64 (c2 : Nat), .int .u64 (m2 : Nat), .int .u64 (x2 : Nat)] 47)).heap.size = w.heap.size + 1 + 1 := by simp
  generalize hW : ((w.alloc (.cells #[.int .i64 ah, .int .u64 al, .slice pa la xa, .int .u64 na, .int .u64 (s1 : Nat), .int .u64 (c1 : Nat), .int .u64 (m1 : Nat), .int .u64 (x1 : Nat)] 47)).alloc (.cells #[.int .i64 bh, .int .u64 bl, .slice pb lb xb, .int .u64 nb, .int .u64 (s2 : Nat), .int .u64 (c2 : Nat), .int .u64 (m2 : Nat), .int .u64 (x2 : Nat)] 47)).alloc (.cells #[.int .i64 0, .int .u64 0, .slice none 0 0, .int .u64 0, .int .u64 0, .int .u64 0, .int .u64 0, .int .u64 0] 47) = W0
  have hA : W0.heap[w.heap.size]? = some (.cells #[.int .i64 ah, .int .u64 al, .slice pa la xa, .int .u64 na, .int .u64 (s1 : Nat), .int .u64 (c1 : Nat), .int .u64 (m1 : Nat), .int .u64 (x1 : Nat)] 47 (0, 0)) := by rw [← hW]; exact blk_alloc (blk_alloc (blk_new _ _) _) _
  have hB : W0.heap[w.heap.size + 1]? = some (.cells #[.int .i64 bh, .int .u64 bl, .slice pb lb xb, .int .u64 nb, .int .u64 (s2 : Nat), .int .u64 (c2 : Nat), .int .u64 (m2 : Nat), .int .u64 (x2 : Nat)] 47 (0, 0)) := by rw [← hW, ← e1]; exact blk_alloc (blk_new _ _) _
  have hZ : W0.heap[w.heap.size + 1 + 1]? = some (.cells #[.int .i64 0, .int .u64 0, .slice none 0 0, .int .u64 0, .int .u64 0, .int .u64 0, .int .u64 0, .int .u64 0] 47 (0, 0)) := by rw [← hW, ← e2]; exact blk_new _ _
  have O0 : Only (fun _ => False) w W0 := by rw [← hW]; exact (((Only.refl _ w).alloc _).alloc _).alloc _
  clear hW e1 e2
  have RM : ∀ w1, Only (fun _ => False) W0 w1 → Calls Try.prog 43 #[.slice pa la xa, .slice pb lb xb] w1 fun e w2 => ∃ p l x, e = .returned (.slice p l x) ∧ Only (fun _ => False) w1 w2 ∧ Q p l x w2 := fun w1 O => hRM w1 (O0.trans O)
  have HQ := Lib.hid hQ; clear hQ
  have HRM := Lib.hid RM; have HPM := Lib.hid PM
  clear hRM RM PM
  have HA := Lib.hid hA; have HB := Lib.hid hB; have HZ := Lib.hid hZ
  clear hA hB hZ
  go_cut [5] (fun v wx => RMergeCut Q PQ (hiSum ah al bh bl) (loSum al bl : Nat) (IntKind.u64.wrap (na + nb)) m1 x1 W0 v wx)
  case first =>
    have hs2 : Hid (∀ w', Only (fun _ => False) W0 w' → Only (fun _ => False) W0 w' ∧ w'.cell? ⟨w.heap.size, 0, none⟩ = some (.int .i64 ah) ∧ w'.cell? ⟨w.heap.size, 1, none⟩ = some (.int .u64 al) ∧ w'.cell? ⟨w.heap.size, 2, none⟩ = some (.slice pa la xa) ∧ w'.cell? ⟨w.heap.size, 3, none⟩ = some (.int .u64 na) ∧ w'.cell? ⟨w.heap.size, 4, none⟩ = some (.int .u64 (s1 : Nat)) ∧ w'.cell? ⟨w.heap.size, 5, none⟩ = some (.int .u64 (c1 : Nat)) ∧ w'.cell? ⟨w.heap.size, 6, none⟩ = some (.int .u64 (m1 : Nat)) ∧ w'.cell? ⟨w.heap.size, 7, none⟩ = some (.int .u64 (x1 : Nat)) ∧ w'.cell? ⟨w.heap.size + 1, 0, none⟩ = some (.int .i64 bh) ∧ w'.cell? ⟨w.heap.size + 1, 1, none⟩ = some (.int .u64 bl) ∧ w'.cell? ⟨w.heap.size + 1, 2, none⟩ = some (.slice pb lb xb) ∧ w'.cell? ⟨w.heap.size + 1, 3, none⟩ = some (.int .u64 nb) ∧ w'.cell? ⟨w.heap.size + 1, 4, none⟩ = some (.int .u64 (s2 : Nat)) ∧ w'.cell? ⟨w.heap.size + 1, 5, none⟩ = some (.int .u64 (c2 : Nat)) ∧ w'.cell? ⟨w.heap.size + 1, 6, none⟩ = some (.int .u64 (m2 : Nat)) ∧ w'.cell? ⟨w.heap.size + 1, 7, none⟩ = some (.int .u64 (x2 : Nat))) := fun w' O => by
      have qa := eight (O.blk HA.out (by simp))
      have qb := eight (O.blk HB.out (by simp))
      exact ⟨O, qa.d0, qa.d1, qa.d2, qa.d3, qa.d4, qa.d5, qa.d6, qa.d7, qb.d0, qb.d1, qb.d2, qb.d3, qb.d4, qb.d5, qb.d6, qb.d7⟩
    have N0 : Only (fun _ => False) W0 W0.drew := (Only.refl _ _).drew
    have ks1 := run_stf
    have ks2 := run_stc
    go_region_held3 (fun w' => Only (fun _ => False) W0 w' ∧ w'.cell? ⟨w.heap.size, 0, none⟩ = some (.int .i64 ah) ∧ w'.cell? ⟨w.heap.size, 1, none⟩ = some (.int .u64 al) ∧ w'.cell? ⟨w.heap.size, 2, none⟩ = some (.slice pa la xa) ∧ w'.cell? ⟨w.heap.size, 3, none⟩ = some (.int .u64 na) ∧ w'.cell? ⟨w.heap.size, 4, none⟩ = some (.int .u64 (s1 : Nat)) ∧ w'.cell? ⟨w.heap.size, 5, none⟩ = some (.int .u64 (c1 : Nat)) ∧ w'.cell? ⟨w.heap.size, 6, none⟩ = some (.int .u64 (m1 : Nat)) ∧ w'.cell? ⟨w.heap.size, 7, none⟩ = some (.int .u64 (x1 : Nat)) ∧ w'.cell? ⟨w.heap.size + 1, 0, none⟩ = some (.int .i64 bh) ∧ w'.cell? ⟨w.heap.size + 1, 1, none⟩ = some (.int .u64 bl) ∧ w'.cell? ⟨w.heap.size + 1, 2, none⟩ = some (.slice pb lb xb) ∧ w'.cell? ⟨w.heap.size + 1, 3, none⟩ = some (.int .u64 nb) ∧ w'.cell? ⟨w.heap.size + 1, 4, none⟩ = some (.int .u64 (s2 : Nat)) ∧ w'.cell? ⟨w.heap.size + 1, 5, none⟩ = some (.int .u64 (c2 : Nat)) ∧ w'.cell? ⟨w.heap.size + 1, 6, none⟩ = some (.int .u64 (m2 : Nat)) ∧ w'.cell? ⟨w.heap.size + 1, 7, none⟩ = some (.int .u64 (x2 : Nat)))
      ((go_split_ands; first | (with_reducible exact hs2.out _ N0) | (with_reducible exact hs2.out _ N3) | (with_reducible exact hs2.out _ (Only.chain8 N3 F3.hg _ _ _ _ _ _ _ _)) | (with_reducible exact hs2.out _ (Only.alloc (by assumption) _))))
      (first
        | (go_at_call 42; go_split_ands; refine (radd_calls _ _ _ _ _ H2.out.1 H2.out.2 H4.out.1 H4.out.2).mono ?_; rintro e w3 ⟨rfl, O3⟩; have N3 := Only.trans (show Only (fun _ => False) W0 _ by assumption) O3; first | (obtain ⟨d0, d1, d2, d3, d4, d5, d6, d7, f0, f1, f2, f3, f4, f5, f6, f7⟩ := eight (Fresh8.only (W0 := W0) (by assumption) O3).hb; have F3 := Fresh8.only (W0 := W0) (by assumption) O3) | (have F3 := fresh8_new0 (W0 := W0) O3; obtain ⟨d0, d1, d2, d3, d4, d5, d6, d7, f0, f1, f2, f3, f4, f5, f6, f7⟩ := eight F3.hb) | (have F3 := fresh8_new (W0 := W0) (by assumption) O3; obtain ⟨d0, d1, d2, d3, d4, d5, d6, d7, f0, f1, f2, f3, f4, f5, f6, f7⟩ := eight F3.hb) | skip)
        | (go_at_call 43; go_split_ands; refine (HRM.out _ (show Only (fun _ => False) W0 _ by assumption)).mono ?_; rintro e w3 ⟨pv, lv, xv, rfl, O3, hq⟩; have N3 := Only.trans (show Only (fun _ => False) W0 _ by assumption) O3; first | (obtain ⟨d0, d1, d2, d3, d4, d5, d6, d7, f0, f1, f2, f3, f4, f5, f6, f7⟩ := eight (Fresh8.only (W0 := W0) (by assumption) O3).hb; have F3 := Fresh8.only (W0 := W0) (by assumption) O3) | (have F3 := fresh8_new0 (W0 := W0) O3; obtain ⟨d0, d1, d2, d3, d4, d5, d6, d7, f0, f1, f2, f3, f4, f5, f6, f7⟩ := eight F3.hb) | (have F3 := fresh8_new (W0 := W0) (by assumption) O3; obtain ⟨d0, d1, d2, d3, d4, d5, d6, d7, f0, f1, f2, f3, f4, f5, f6, f7⟩ := eight F3.hb) | skip)
        | (go_at_call 44; go_split_ands; refine (HPM.out _).mono ?_; rintro e w3 ⟨ss, cc, rfl, O3, hp⟩; have hq3 := HQ.out _ _ _ _ _ hq (show Keep 55 _ w3 from by first | exact O3.keep 55 | exact (Only.trans ((Only.refl _ _).alloc _) O3).keep 55); have N3 := Only.trans (show Only (fun _ => False) W0 _ by assumption) O3; first | (obtain ⟨d0, d1, d2, d3, d4, d5, d6, d7, f0, f1, f2, f3, f4, f5, f6, f7⟩ := eight (Fresh8.only (W0 := W0) (by assumption) O3).hb; have F3 := Fresh8.only (W0 := W0) (by assumption) O3) | (have F3 := fresh8_new0 (W0 := W0) O3; obtain ⟨d0, d1, d2, d3, d4, d5, d6, d7, f0, f1, f2, f3, f4, f5, f6, f7⟩ := eight F3.hb) | (have F3 := fresh8_new (W0 := W0) (by assumption) O3; obtain ⟨d0, d1, d2, d3, d4, d5, d6, d7, f0, f1, f2, f3, f4, f5, f6, f7⟩ := eight F3.hb) | skip))
    all_goals (go_wp2_with fail; go_meet)
    all_goals first
      | (have hfin : RMergeCut Q PQ (hiSum ah al bh bl) (loSum al bl : Nat) (IntKind.u64.wrap (na + nb)) m1 x1 W0 (.pointer (some ⟨w3.heap.size, 0, none⟩)) _ := ⟨_, _, _, _, _, _, rfl, N3.size, blk_new _ _, N3.alloc _, HQ.out _ _ _ _ _ hq3 (((Only.refl _ _).alloc _).keep 55), hp⟩; exact hfin)
      | exact ⟨_, _, _, _, _, _, rfl, F3.hg, put8_blk F3.hb _ _ _ _ _ _ _ _, Only.chain8 N3 F3.hg _ _ _ _ _ _ _ _, HQ.out _ _ _ _ _ hq3 (Keep.chain8 ((Only.refl (fun _ => False) _).keep 55) F3.hb (by decide) _ _ _ _ _ _ _ _), hp⟩
  case rest =>
    obtain ⟨g, p, l, x, s, c, rfl, hg, hb, O1, hq, hp⟩ := hcut
    obtain ⟨a0, a1, a2, a3, a4, a5, a6, a7, _, _, _, _, _, _, _, _⟩ := eight (O1.blk HA.out (by simp))
    obtain ⟨b0, b1, b2, b3, b4, b5, b6, b7, _, _, _, _, _, _, _, _⟩ := eight (O1.blk HB.out (by simp))
    have hz := O1.blk HZ.out (by simp)
    obtain ⟨z0, z1, z2, z3, z4, z5, z6, z7, y0, y1, y2, y3, y4, y5, y6, y7⟩ := eight hz
    obtain ⟨g0, g1, g2, g3, g4, g5, g6, g7, i0, i1, i2, i3, i4, i5, i6, i7⟩ := eight hb
    have lz := blk_lt HZ.out
    have n1 : ¬ w.heap.size = g := by omega
    have n2 : ¬ w.heap.size + 1 = g := by omega
    have n3 : ¬ w.heap.size + 1 + 1 = g := by omega
    have n1' : ¬ g = w.heap.size := by omega
    have n2' : ¬ g = w.heap.size + 1 := by omega
    have n3' : ¬ g = w.heap.size + 1 + 1 := by omega
    have ng : w.heap.size ≤ g := by omega
    have ks1 := run_stf
    have ks2 := run_stc
    have Hb := Lib.hid hb; have Hz := Lib.hid hz; have Ho := Lib.hid O1; have HO0 := Lib.hid O0
    clear hb hz O1 O0 HA HB
    have kM := Lib.hid (fun w => ahead_calls m2 m1 w HM.out.2.1 HM.out.1)
    have kX := Lib.hid (fun w => ahead_calls x1 x2 w HM.out.2.2.1 HM.out.2.2.2)
    have eM : aheadB m2 m1 = decide (fcmp m2 m1 < 0) := rfl
    have eX : aheadB x1 x2 = decide (fcmp x2 x1 > 0) := by unfold aheadB; rw [decide_eq_decide]; exact (fcmp_swap x2 x1 HM.out.2.2.2 HM.out.2.2.1).symm
    have HEM := Lib.hid eM
    have HEX := Lib.hid eX
    clear eM eX
    go_wp2_with fail
    refine (kM.out _).mono ?_
    rintro e wd ⟨rfl, hw⟩; rw [hw]; clear hw wd
    go_wp2_with fail
    refine (kX.out _).mono ?_
    rintro e wd ⟨rfl, hw⟩; rw [hw]; clear hw wd
    generalize aheadB m2 m1 = bM at *
    generalize aheadB x1 x2 = bX at *
    by_cases hna : na = 0
    · subst hna
      go_wp2_with fail
      have hb := Hb.out; have hz := Hz.out; have O1 := Ho.out; have O0 := HO0.out
      have em : minOf 0 nb m1 m2 = m2 := rfl
      have ex : maxOf 0 nb x1 x2 = x2 := rfl
      have e7 := eight (put8_blk (blk_set_ne (blk_set_ne hz ⟨g, 6, none⟩ (.int .u64 (m2 : Nat)) n3) ⟨g, 7, none⟩ (.int .u64 (x2 : Nat)) n3) (.int .i64 (hiSum ah al bh bl)) (.int .u64 (loSum al bl : Nat)) (.slice p l x) (.int .u64 (IntKind.u64.wrap nb)) (.int .u64 (s : Nat)) (.int .u64 (c : Nat)) (.int .u64 (m2 : Nat)) (.int .u64 (x2 : Nat)))
      have O7 : Only (fun _ => False) w (put8 ((wc.setCell ⟨g, 6, none⟩ (.int .u64 (m2 : Nat))).setCell ⟨g, 7, none⟩ (.int .u64 (x2 : Nat))) (w.heap.size + 1 + 1) (.int .i64 (hiSum ah al bh bl)) (.int .u64 (loSum al bl : Nat)) (.slice p l x) (.int .u64 (IntKind.u64.wrap nb)) (.int .u64 (s : Nat)) (.int .u64 (c : Nat)) (.int .u64 (m2 : Nat)) (.int .u64 (x2 : Nat))) := (((O0.trans O1).setCell (p := ⟨g, 6, none⟩) (.inl ng) _).setCell (p := ⟨g, 7, none⟩) (.inl ng) _).put8 (.inl (by omega)) _ _ _ _ _ _ _ _
      have q7 : Q p l x (put8 ((wc.setCell ⟨g, 6, none⟩ (.int .u64 (m2 : Nat))).setCell ⟨g, 7, none⟩ (.int .u64 (x2 : Nat))) (w.heap.size + 1 + 1) (.int .i64 (hiSum ah al bh bl)) (.int .u64 (loSum al bl : Nat)) (.slice p l x) (.int .u64 (IntKind.u64.wrap nb)) (.int .u64 (s : Nat)) (.int .u64 (c : Nat)) (.int .u64 (m2 : Nat)) (.int .u64 (x2 : Nat))) := HQ.out _ _ _ _ _ hq (Keep.chain8 (Keep.set (i := 7) (v := .int .u64 (x2 : Nat)) (Keep.set (i := 6) (v := .int .u64 (m2 : Nat)) ((Only.refl (fun _ => False) wc).keep 55) hb (by decide)) (blk_set hb 6 (.int .u64 (m2 : Nat))) (by decide)) (blk_set_ne (blk_set_ne hz ⟨g, 6, none⟩ (.int .u64 (m2 : Nat)) n3) ⟨g, 7, none⟩ (.int .u64 (x2 : Nat)) n3) (by decide) _ _ _ _ _ _ _ _)
      refine bodyPost_ret (w := put8 ((wc.setCell ⟨g, 6, none⟩ (.int .u64 (m2 : Nat))).setCell ⟨g, 7, none⟩ (.int .u64 (x2 : Nat))) (w.heap.size + 1 + 1) (.int .i64 (hiSum ah al bh bl)) (.int .u64 (loSum al bl : Nat)) (.slice p l x) (.int .u64 (IntKind.u64.wrap nb)) (.int .u64 (s : Nat)) (.int .u64 (c : Nat)) (.int .u64 (m2 : Nat)) (.int .u64 (x2 : Nat))) (v := partr (hiSum ah al bh bl) (loSum al bl : Nat) p l x (IntKind.u64.wrap nb) s c m2 x2) ?_ rfl ⟨p, l, x, s, c, by rw [em, ex, Int.zero_add], q7, hp, O7⟩
      clear O7 q7
      generalize put8 ((wc.setCell ⟨g, 6, none⟩ (.int .u64 (m2 : Nat))).setCell ⟨g, 7, none⟩ (.int .u64 (x2 : Nat))) (w.heap.size + 1 + 1) (.int .i64 (hiSum ah al bh bl)) (.int .u64 (loSum al bl : Nat)) (.slice p l x) (.int .u64 (IntKind.u64.wrap nb)) (.int .u64 (s : Nat)) (.int .u64 (c : Nat)) (.int .u64 (m2 : Nat)) (.int .u64 (x2 : Nat)) = w7 at *
      obtain ⟨d0, d1, d2, d3, d4, d5, d6, d7, f0, f1, f2, f3, f4, f5, f6, f7⟩ := e7
      simp [results, Try.results14, go_sem, d0, d1, d2, d3, d4, d5, d6, d7, partr]
    by_cases hnb : nb = 0
    · subst hnb
      have v1 : (na == 0) = false := beq_eq_false_iff_ne.2 hna
      go_wp2_with fail
      have hb := Hb.out; have hz := Hz.out; have O1 := Ho.out; have O0 := HO0.out
      have em : minOf na 0 m1 m2 = m1 := by unfold minOf; rw [if_neg hna, if_pos rfl]
      have ex : maxOf na 0 x1 x2 = x1 := by unfold maxOf; rw [if_neg hna, if_pos rfl]
      have e7 := eight (put8_blk hz (.int .i64 (hiSum ah al bh bl)) (.int .u64 (loSum al bl : Nat)) (.slice p l x) (.int .u64 (IntKind.u64.wrap na)) (.int .u64 (s : Nat)) (.int .u64 (c : Nat)) (.int .u64 (m1 : Nat)) (.int .u64 (x1 : Nat)))
      have O7 : Only (fun _ => False) w (put8 wc (w.heap.size + 1 + 1) (.int .i64 (hiSum ah al bh bl)) (.int .u64 (loSum al bl : Nat)) (.slice p l x) (.int .u64 (IntKind.u64.wrap na)) (.int .u64 (s : Nat)) (.int .u64 (c : Nat)) (.int .u64 (m1 : Nat)) (.int .u64 (x1 : Nat))) := (O0.trans O1).put8 (.inl (by omega)) _ _ _ _ _ _ _ _
      have q7 : Q p l x (put8 wc (w.heap.size + 1 + 1) (.int .i64 (hiSum ah al bh bl)) (.int .u64 (loSum al bl : Nat)) (.slice p l x) (.int .u64 (IntKind.u64.wrap na)) (.int .u64 (s : Nat)) (.int .u64 (c : Nat)) (.int .u64 (m1 : Nat)) (.int .u64 (x1 : Nat))) := HQ.out _ _ _ _ _ hq (Keep.chain8 ((Only.refl (fun _ => False) wc).keep 55) hz (by decide) _ _ _ _ _ _ _ _)
      refine bodyPost_ret (w := put8 wc (w.heap.size + 1 + 1) (.int .i64 (hiSum ah al bh bl)) (.int .u64 (loSum al bl : Nat)) (.slice p l x) (.int .u64 (IntKind.u64.wrap na)) (.int .u64 (s : Nat)) (.int .u64 (c : Nat)) (.int .u64 (m1 : Nat)) (.int .u64 (x1 : Nat))) (v := partr (hiSum ah al bh bl) (loSum al bl : Nat) p l x (IntKind.u64.wrap na) s c m1 x1) ?_ rfl ⟨p, l, x, s, c, by rw [em, ex, Int.add_zero], q7, hp, O7⟩
      clear O7 q7
      generalize put8 wc (w.heap.size + 1 + 1) (.int .i64 (hiSum ah al bh bl)) (.int .u64 (loSum al bl : Nat)) (.slice p l x) (.int .u64 (IntKind.u64.wrap na)) (.int .u64 (s : Nat)) (.int .u64 (c : Nat)) (.int .u64 (m1 : Nat)) (.int .u64 (x1 : Nat)) = w7 at *
      obtain ⟨d0, d1, d2, d3, d4, d5, d6, d7, f0, f1, f2, f3, f4, f5, f6, f7⟩ := e7
      simp [results, Try.results14, go_sem, d0, d1, d2, d3, d4, d5, d6, d7, partr]
    have v1 : (na == 0) = false := beq_eq_false_iff_ne.2 hna
    have v2 : (nb == 0) = false := beq_eq_false_iff_ne.2 hnb
    have v3 : (nb != 0) = true := by rw [bne_iff_ne]; exact hnb
    have hna' := Lib.hid hna; have hnb' := Lib.hid hnb
    clear hna hnb
    by_cases k1 : fcmp m2 m1 < 0
    · by_cases k2 : fcmp x2 x1 > 0
      · obtain rfl : bM = true := by rw [HEM.out]; exact decide_eq_true k1
        obtain rfl : bX = true := by rw [HEX.out]; exact decide_eq_true k2
        have em := Lib.hid (show minOf na nb m1 m2 = m2 from by unfold minOf; rw [if_neg hna'.out, if_neg hnb'.out, if_pos k1])
        have ex := Lib.hid (show maxOf na nb x1 x2 = x2 from by unfold maxOf; rw [if_neg hna'.out, if_neg hnb'.out, if_pos k2])
        clear k1 k2
        go_wp2_with fail
        have hb := Hb.out; have hz := Hz.out; have O1 := Ho.out; have O0 := HO0.out
        have e7 := eight (put8_blk (blk_set_ne (blk_set_ne hz ⟨g, 6, none⟩ (.int .u64 (m2 : Nat)) n3) ⟨g, 7, none⟩ (.int .u64 (x2 : Nat)) n3) (.int .i64 (hiSum ah al bh bl)) (.int .u64 (loSum al bl : Nat)) (.slice p l x) (.int .u64 (IntKind.u64.wrap (na + nb))) (.int .u64 (s : Nat)) (.int .u64 (c : Nat)) (.int .u64 (m2 : Nat)) (.int .u64 (x2 : Nat)))
        have O7 : Only (fun _ => False) w (put8 ((wc.setCell ⟨g, 6, none⟩ (.int .u64 (m2 : Nat))).setCell ⟨g, 7, none⟩ (.int .u64 (x2 : Nat))) (w.heap.size + 1 + 1) (.int .i64 (hiSum ah al bh bl)) (.int .u64 (loSum al bl : Nat)) (.slice p l x) (.int .u64 (IntKind.u64.wrap (na + nb))) (.int .u64 (s : Nat)) (.int .u64 (c : Nat)) (.int .u64 (m2 : Nat)) (.int .u64 (x2 : Nat))) := (((O0.trans O1).setCell (p := ⟨g, 6, none⟩) (.inl ng) _).setCell (p := ⟨g, 7, none⟩) (.inl ng) _).put8 (.inl (by omega)) _ _ _ _ _ _ _ _
        have q7 : Q p l x (put8 ((wc.setCell ⟨g, 6, none⟩ (.int .u64 (m2 : Nat))).setCell ⟨g, 7, none⟩ (.int .u64 (x2 : Nat))) (w.heap.size + 1 + 1) (.int .i64 (hiSum ah al bh bl)) (.int .u64 (loSum al bl : Nat)) (.slice p l x) (.int .u64 (IntKind.u64.wrap (na + nb))) (.int .u64 (s : Nat)) (.int .u64 (c : Nat)) (.int .u64 (m2 : Nat)) (.int .u64 (x2 : Nat))) := HQ.out _ _ _ _ _ hq (Keep.chain8 (Keep.set (i := 7) (v := .int .u64 (x2 : Nat)) (Keep.set (i := 6) (v := .int .u64 (m2 : Nat)) ((Only.refl (fun _ => False) wc).keep 55) hb (by decide)) (blk_set hb 6 (.int .u64 (m2 : Nat))) (by decide)) (blk_set_ne (blk_set_ne hz ⟨g, 6, none⟩ (.int .u64 (m2 : Nat)) n3) ⟨g, 7, none⟩ (.int .u64 (x2 : Nat)) n3) (by decide) _ _ _ _ _ _ _ _)
        refine bodyPost_ret (w := put8 ((wc.setCell ⟨g, 6, none⟩ (.int .u64 (m2 : Nat))).setCell ⟨g, 7, none⟩ (.int .u64 (x2 : Nat))) (w.heap.size + 1 + 1) (.int .i64 (hiSum ah al bh bl)) (.int .u64 (loSum al bl : Nat)) (.slice p l x) (.int .u64 (IntKind.u64.wrap (na + nb))) (.int .u64 (s : Nat)) (.int .u64 (c : Nat)) (.int .u64 (m2 : Nat)) (.int .u64 (x2 : Nat))) (v := partr (hiSum ah al bh bl) (loSum al bl : Nat) p l x (IntKind.u64.wrap (na + nb)) s c m2 x2) ?_ rfl ⟨p, l, x, s, c, by rw [em.out, ex.out], q7, hp, O7⟩
        clear O7 q7
        generalize put8 ((wc.setCell ⟨g, 6, none⟩ (.int .u64 (m2 : Nat))).setCell ⟨g, 7, none⟩ (.int .u64 (x2 : Nat))) (w.heap.size + 1 + 1) (.int .i64 (hiSum ah al bh bl)) (.int .u64 (loSum al bl : Nat)) (.slice p l x) (.int .u64 (IntKind.u64.wrap (na + nb))) (.int .u64 (s : Nat)) (.int .u64 (c : Nat)) (.int .u64 (m2 : Nat)) (.int .u64 (x2 : Nat)) = w7 at *
        obtain ⟨d0, d1, d2, d3, d4, d5, d6, d7, f0, f1, f2, f3, f4, f5, f6, f7⟩ := e7
        simp [results, Try.results14, go_sem, d0, d1, d2, d3, d4, d5, d6, d7, partr]
      · obtain rfl : bM = true := by rw [HEM.out]; exact decide_eq_true k1
        obtain rfl : bX = false := by rw [HEX.out]; exact decide_eq_false k2
        have em := Lib.hid (show minOf na nb m1 m2 = m2 from by unfold minOf; rw [if_neg hna'.out, if_neg hnb'.out, if_pos k1])
        have ex := Lib.hid (show maxOf na nb x1 x2 = x1 from by unfold maxOf; rw [if_neg hna'.out, if_neg hnb'.out, if_neg k2])
        clear k1 k2
        go_wp2_with fail
        have hb := Hb.out; have hz := Hz.out; have O1 := Ho.out; have O0 := HO0.out
        have e7 := eight (put8_blk (blk_set_ne hz ⟨g, 6, none⟩ (.int .u64 (m2 : Nat)) n3) (.int .i64 (hiSum ah al bh bl)) (.int .u64 (loSum al bl : Nat)) (.slice p l x) (.int .u64 (IntKind.u64.wrap (na + nb))) (.int .u64 (s : Nat)) (.int .u64 (c : Nat)) (.int .u64 (m2 : Nat)) (.int .u64 (x1 : Nat)))
        have O7 : Only (fun _ => False) w (put8 (wc.setCell ⟨g, 6, none⟩ (.int .u64 (m2 : Nat))) (w.heap.size + 1 + 1) (.int .i64 (hiSum ah al bh bl)) (.int .u64 (loSum al bl : Nat)) (.slice p l x) (.int .u64 (IntKind.u64.wrap (na + nb))) (.int .u64 (s : Nat)) (.int .u64 (c : Nat)) (.int .u64 (m2 : Nat)) (.int .u64 (x1 : Nat))) := ((O0.trans O1).setCell (p := ⟨g, 6, none⟩) (.inl ng) _).put8 (.inl (by omega)) _ _ _ _ _ _ _ _
        have q7 : Q p l x (put8 (wc.setCell ⟨g, 6, none⟩ (.int .u64 (m2 : Nat))) (w.heap.size + 1 + 1) (.int .i64 (hiSum ah al bh bl)) (.int .u64 (loSum al bl : Nat)) (.slice p l x) (.int .u64 (IntKind.u64.wrap (na + nb))) (.int .u64 (s : Nat)) (.int .u64 (c : Nat)) (.int .u64 (m2 : Nat)) (.int .u64 (x1 : Nat))) := HQ.out _ _ _ _ _ hq (Keep.chain8 (Keep.set (i := 6) (v := .int .u64 (m2 : Nat)) ((Only.refl (fun _ => False) wc).keep 55) hb (by decide)) (blk_set_ne hz ⟨g, 6, none⟩ (.int .u64 (m2 : Nat)) n3) (by decide) _ _ _ _ _ _ _ _)
        refine bodyPost_ret (w := put8 (wc.setCell ⟨g, 6, none⟩ (.int .u64 (m2 : Nat))) (w.heap.size + 1 + 1) (.int .i64 (hiSum ah al bh bl)) (.int .u64 (loSum al bl : Nat)) (.slice p l x) (.int .u64 (IntKind.u64.wrap (na + nb))) (.int .u64 (s : Nat)) (.int .u64 (c : Nat)) (.int .u64 (m2 : Nat)) (.int .u64 (x1 : Nat))) (v := partr (hiSum ah al bh bl) (loSum al bl : Nat) p l x (IntKind.u64.wrap (na + nb)) s c m2 x1) ?_ rfl ⟨p, l, x, s, c, by rw [em.out, ex.out], q7, hp, O7⟩
        clear O7 q7
        generalize put8 (wc.setCell ⟨g, 6, none⟩ (.int .u64 (m2 : Nat))) (w.heap.size + 1 + 1) (.int .i64 (hiSum ah al bh bl)) (.int .u64 (loSum al bl : Nat)) (.slice p l x) (.int .u64 (IntKind.u64.wrap (na + nb))) (.int .u64 (s : Nat)) (.int .u64 (c : Nat)) (.int .u64 (m2 : Nat)) (.int .u64 (x1 : Nat)) = w7 at *
        obtain ⟨d0, d1, d2, d3, d4, d5, d6, d7, f0, f1, f2, f3, f4, f5, f6, f7⟩ := e7
        simp [results, Try.results14, go_sem, d0, d1, d2, d3, d4, d5, d6, d7, partr]
    · by_cases k2 : fcmp x2 x1 > 0
      · obtain rfl : bM = false := by rw [HEM.out]; exact decide_eq_false k1
        obtain rfl : bX = true := by rw [HEX.out]; exact decide_eq_true k2
        have em := Lib.hid (show minOf na nb m1 m2 = m1 from by unfold minOf; rw [if_neg hna'.out, if_neg hnb'.out, if_neg k1])
        have ex := Lib.hid (show maxOf na nb x1 x2 = x2 from by unfold maxOf; rw [if_neg hna'.out, if_neg hnb'.out, if_pos k2])
        clear k1 k2
        go_wp2_with fail
        have hb := Hb.out; have hz := Hz.out; have O1 := Ho.out; have O0 := HO0.out
        have e7 := eight (put8_blk (blk_set_ne hz ⟨g, 7, none⟩ (.int .u64 (x2 : Nat)) n3) (.int .i64 (hiSum ah al bh bl)) (.int .u64 (loSum al bl : Nat)) (.slice p l x) (.int .u64 (IntKind.u64.wrap (na + nb))) (.int .u64 (s : Nat)) (.int .u64 (c : Nat)) (.int .u64 (m1 : Nat)) (.int .u64 (x2 : Nat)))
        have O7 : Only (fun _ => False) w (put8 (wc.setCell ⟨g, 7, none⟩ (.int .u64 (x2 : Nat))) (w.heap.size + 1 + 1) (.int .i64 (hiSum ah al bh bl)) (.int .u64 (loSum al bl : Nat)) (.slice p l x) (.int .u64 (IntKind.u64.wrap (na + nb))) (.int .u64 (s : Nat)) (.int .u64 (c : Nat)) (.int .u64 (m1 : Nat)) (.int .u64 (x2 : Nat))) := ((O0.trans O1).setCell (p := ⟨g, 7, none⟩) (.inl ng) _).put8 (.inl (by omega)) _ _ _ _ _ _ _ _
        have q7 : Q p l x (put8 (wc.setCell ⟨g, 7, none⟩ (.int .u64 (x2 : Nat))) (w.heap.size + 1 + 1) (.int .i64 (hiSum ah al bh bl)) (.int .u64 (loSum al bl : Nat)) (.slice p l x) (.int .u64 (IntKind.u64.wrap (na + nb))) (.int .u64 (s : Nat)) (.int .u64 (c : Nat)) (.int .u64 (m1 : Nat)) (.int .u64 (x2 : Nat))) := HQ.out _ _ _ _ _ hq (Keep.chain8 (Keep.set (i := 7) (v := .int .u64 (x2 : Nat)) ((Only.refl (fun _ => False) wc).keep 55) hb (by decide)) (blk_set_ne hz ⟨g, 7, none⟩ (.int .u64 (x2 : Nat)) n3) (by decide) _ _ _ _ _ _ _ _)
        refine bodyPost_ret (w := put8 (wc.setCell ⟨g, 7, none⟩ (.int .u64 (x2 : Nat))) (w.heap.size + 1 + 1) (.int .i64 (hiSum ah al bh bl)) (.int .u64 (loSum al bl : Nat)) (.slice p l x) (.int .u64 (IntKind.u64.wrap (na + nb))) (.int .u64 (s : Nat)) (.int .u64 (c : Nat)) (.int .u64 (m1 : Nat)) (.int .u64 (x2 : Nat))) (v := partr (hiSum ah al bh bl) (loSum al bl : Nat) p l x (IntKind.u64.wrap (na + nb)) s c m1 x2) ?_ rfl ⟨p, l, x, s, c, by rw [em.out, ex.out], q7, hp, O7⟩
        clear O7 q7
        generalize put8 (wc.setCell ⟨g, 7, none⟩ (.int .u64 (x2 : Nat))) (w.heap.size + 1 + 1) (.int .i64 (hiSum ah al bh bl)) (.int .u64 (loSum al bl : Nat)) (.slice p l x) (.int .u64 (IntKind.u64.wrap (na + nb))) (.int .u64 (s : Nat)) (.int .u64 (c : Nat)) (.int .u64 (m1 : Nat)) (.int .u64 (x2 : Nat)) = w7 at *
        obtain ⟨d0, d1, d2, d3, d4, d5, d6, d7, f0, f1, f2, f3, f4, f5, f6, f7⟩ := e7
        simp [results, Try.results14, go_sem, d0, d1, d2, d3, d4, d5, d6, d7, partr]
      · obtain rfl : bM = false := by rw [HEM.out]; exact decide_eq_false k1
        obtain rfl : bX = false := by rw [HEX.out]; exact decide_eq_false k2
        have em := Lib.hid (show minOf na nb m1 m2 = m1 from by unfold minOf; rw [if_neg hna'.out, if_neg hnb'.out, if_neg k1])
        have ex := Lib.hid (show maxOf na nb x1 x2 = x1 from by unfold maxOf; rw [if_neg hna'.out, if_neg hnb'.out, if_neg k2])
        clear k1 k2
        go_wp2_with fail
        have hb := Hb.out; have hz := Hz.out; have O1 := Ho.out; have O0 := HO0.out
        have e7 := eight (put8_blk hz (.int .i64 (hiSum ah al bh bl)) (.int .u64 (loSum al bl : Nat)) (.slice p l x) (.int .u64 (IntKind.u64.wrap (na + nb))) (.int .u64 (s : Nat)) (.int .u64 (c : Nat)) (.int .u64 (m1 : Nat)) (.int .u64 (x1 : Nat)))
        have O7 : Only (fun _ => False) w (put8 wc (w.heap.size + 1 + 1) (.int .i64 (hiSum ah al bh bl)) (.int .u64 (loSum al bl : Nat)) (.slice p l x) (.int .u64 (IntKind.u64.wrap (na + nb))) (.int .u64 (s : Nat)) (.int .u64 (c : Nat)) (.int .u64 (m1 : Nat)) (.int .u64 (x1 : Nat))) := (O0.trans O1).put8 (.inl (by omega)) _ _ _ _ _ _ _ _
        have q7 : Q p l x (put8 wc (w.heap.size + 1 + 1) (.int .i64 (hiSum ah al bh bl)) (.int .u64 (loSum al bl : Nat)) (.slice p l x) (.int .u64 (IntKind.u64.wrap (na + nb))) (.int .u64 (s : Nat)) (.int .u64 (c : Nat)) (.int .u64 (m1 : Nat)) (.int .u64 (x1 : Nat))) := HQ.out _ _ _ _ _ hq (Keep.chain8 ((Only.refl (fun _ => False) wc).keep 55) hz (by decide) _ _ _ _ _ _ _ _)
        refine bodyPost_ret (w := put8 wc (w.heap.size + 1 + 1) (.int .i64 (hiSum ah al bh bl)) (.int .u64 (loSum al bl : Nat)) (.slice p l x) (.int .u64 (IntKind.u64.wrap (na + nb))) (.int .u64 (s : Nat)) (.int .u64 (c : Nat)) (.int .u64 (m1 : Nat)) (.int .u64 (x1 : Nat))) (v := partr (hiSum ah al bh bl) (loSum al bl : Nat) p l x (IntKind.u64.wrap (na + nb)) s c m1 x1) ?_ rfl ⟨p, l, x, s, c, by rw [em.out, ex.out], q7, hp, O7⟩
        clear O7 q7
        generalize put8 wc (w.heap.size + 1 + 1) (.int .i64 (hiSum ah al bh bl)) (.int .u64 (loSum al bl : Nat)) (.slice p l x) (.int .u64 (IntKind.u64.wrap (na + nb))) (.int .u64 (s : Nat)) (.int .u64 (c : Nat)) (.int .u64 (m1 : Nat)) (.int .u64 (x1 : Nat)) = w7 at *
        obtain ⟨d0, d1, d2, d3, d4, d5, d6, d7, f0, f1, f2, f3, f4, f5, f6, f7⟩ := e7
        simp [results, Try.results14, go_sem, d0, d1, d2, d3, d4, d5, d6, d7, partr]
end Go.Proofs.Ytimiojckinpfdaa

/- The walks of ref, of, kept, part and like: parts made of raw ones, parts held against each other. -/
namespace Go.Proofs.Ytimiojckinpfdaa
open Go.RowKit Srt

theorem ref_calls (hi lo n : Int) (p : Option Addr) (l cap S C Mn Mx : Nat) (w : World) :
    Calls Try.prog 15 #[partr hi lo p l cap n S C Mn Mx] w fun e w' => e = .returned (partr hi lo p l cap n S C Mn Mx) ∧ Only (fun _ => False) w w' := by
  unfold partr
  go_enter Try.func15, Try.ntmps15
  go_wp2_with fail
  refine bodyPost_ret (v := .agg #[.int .i64 hi, .int .u64 lo, .slice p l cap, .int .u64 n, .int .u64 (S : Nat), .int .u64 (C : Nat), .int .u64 (Mn : Nat), .int .u64 (Mx : Nat)]) (by simp [results, Try.results15, go_sem]) rfl ⟨rfl, ?_⟩
  exact ((Only.refl _ w).alloc _).alloc _
theorem run_make55 (n : Nat) (h2 : n ≤ 8796093022208) (W : World) : Sem.run Try.prog (Instr.makeSlice 36 (.int .i64 ((n : Int) + 2)) (.int .i64 ((n : Int) + 2))) W = .ok (.slice (some ⟨W.heap.size, 0, none⟩) (n + 2) (n + 2)) (W.alloc (.cells (madeCells #[.int .i64 0, .int .u64 0] ((n + 2) * 2)) 55)) := by
  obtain ⟨i4, hi4, hz4, hs4, hb4⟩ := info_parts info55
  have hmk := run_make (P := Try.prog) (w := W) 36 55 i4 (.agg #[.int .i64 0, .int .u64 0]) Try.underlying36 hi4 hz4 .i64 .i64 ((n : Int) + 2) ((n : Int) + 2) (by omega) (by omega) (by rw [hb4]; omega) (by omega)
  rw [hs4, show ((n : Int) + 2).toNat = n + 2 by omega] at hmk
  exact hmk
def ofc (c : Nat → Cn) (n i : Nat) : Cn := if i < n then c i else if i = n then (91, 0) else (92, 0)
/-- behind the copy: the counts, and room for two -/
structure OfIn (W w' : World) (g n : Nat) (c : Nat → Cn) : Prop where
  only : Only (fun _ => False) W w'
  row : RowC w' g n (n + 2) c
  gg : W.heap.size ≤ g
theorem ofc_row {w : World} {g n : Nat} {c : Nat → Cn} (h : RowC w g n (n + 2) c) : RowC (((((w.setCell ⟨g, n * 2, none⟩ (.int .i64 91)).setCell ⟨g, n * 2 + 1, none⟩ (.int .u64 0)).setCell ⟨g, (n + 1) * 2, none⟩ (.int .i64 92)).setCell ⟨g, (n + 1) * 2 + 1, none⟩ (.int .u64 0))) g (n + 2) (n + 2) (ofc c n) := by
  obtain ⟨X, h1, h2, h3, h4, h5⟩ := h
  refine ⟨_, blk_set (blk_set (blk_set (blk_set h1 _ _) _ _) _ _) _ _, by simpa using h2, Nat.le_refl _, h4, fun k hk => ?_⟩
  unfold ci cn ofc
  have hs : X.size = (n + 2) * 2 := h2
  by_cases e1 : k < n
  · obtain ⟨q1, q2⟩ := h5 k e1
    rw [if_pos e1]
    constructor
    · rw [Array.getElem?_setIfInBounds_ne (by omega), Array.getElem?_setIfInBounds_ne (by omega), Array.getElem?_setIfInBounds_ne (by omega), Array.getElem?_setIfInBounds_ne (by omega), q1]; rfl
    · rw [Array.getElem?_setIfInBounds_ne (by omega), Array.getElem?_setIfInBounds_ne (by omega), Array.getElem?_setIfInBounds_ne (by omega), Array.getElem?_setIfInBounds_ne (by omega), q2]; rfl
  · rw [if_neg e1]
    by_cases e2 : k = n
    · subst e2
      rw [if_pos rfl]
      constructor
      · rw [Array.getElem?_setIfInBounds_ne (by omega), Array.getElem?_setIfInBounds_ne (by omega), Array.getElem?_setIfInBounds_ne (by omega), Array.getElem?_setIfInBounds_self_of_lt (by omega)]
      · rw [Array.getElem?_setIfInBounds_ne (by omega), Array.getElem?_setIfInBounds_ne (by omega), Array.getElem?_setIfInBounds_self_of_lt (by simp; omega)]; rfl
    · rw [if_neg e2]
      obtain rfl : k = n + 1 := by omega
      constructor
      · rw [Array.getElem?_setIfInBounds_ne (by omega), Array.getElem?_setIfInBounds_self_of_lt (by simp; omega)]
      · rw [Array.getElem?_setIfInBounds_self_of_lt (by simp; omega)]; rfl
theorem of_copied {w3 : World} {g n : Nat} {c : Nat → Cn} (hn : n + 2 ≤ 9223372036854775807) (h : w3.heap[g]? = some (.cells (cl c n ++ (madeCells #[Value.int .i64 0, .int .u64 0] ((n + 2) * 2)).toList.drop (cl c n).length).toArray 55 (0, 0))) : RowC w3 g n (n + 2) c := by
  refine ⟨_, h, ?_, by omega, hn, fun k hk => ?_⟩
  · rw [List.size_toArray, List.length_append, cl_len, List.length_drop, Array.length_toList, size_madeCells]; omega
  · constructor
    · rw [List.getElem?_toArray, List.getElem?_append_left (by rw [cl_len]; omega), cl_at _ _ _ (by omega), if_pos (by omega), show k * 2 / 2 = k by omega]
    · rw [List.getElem?_toArray, List.getElem?_append_left (by rw [cl_len]; omega), cl_at _ _ _ (by omega), if_neg (by omega), show (k * 2 + 1) / 2 = k by omega]
structure OfRoom (w3 : World) (g n : Nat) : Prop where
  y0 : ∃ v, w3.cell? ⟨g, n * 2, none⟩ = some v
  y1 : ∃ v, w3.cell? ⟨g, n * 2 + 1, none⟩ = some v
  y2 : ∃ v, w3.cell? ⟨g, (n + 1) * 2, none⟩ = some v
  y3 : ∃ v, w3.cell? ⟨g, (n + 1) * 2 + 1, none⟩ = some v
  z0 : w3.frozen? ⟨g, n * 2, none⟩ = false
  z1 : w3.frozen? ⟨g, n * 2 + 1, none⟩ = false
  z2 : w3.frozen? ⟨g, (n + 1) * 2, none⟩ = false
  z3 : w3.frozen? ⟨g, (n + 1) * 2 + 1, none⟩ = false
theorem of_room {w3 : World} {g n : Nat} {c : Nat → Cn} (h : RowC w3 g n (n + 2) c) : OfRoom w3 g n := by
  obtain ⟨X, h1, h2, _⟩ := h
  refine ⟨⟨X[n * 2]'(by omega), ?_⟩, ⟨X[n * 2 + 1]'(by omega), ?_⟩, ⟨X[(n + 1) * 2]'(by omega), ?_⟩, ⟨X[(n + 1) * 2 + 1]'(by omega), ?_⟩, blk_free h1 _, blk_free h1 _, blk_free h1 _, blk_free h1 _⟩ <;> rw [blk_cell h1, Array.getElem?_eq_getElem]
def OfCut (w : World) (hi lo N : Int) (p : Option Addr) (n cap S C Mn Mx : Nat) (c : Nat → Cn) (g : Nat) (v4 v1 v2 v3 : Value) (w4 : World) : Prop :=
  v4 = .func (.func 41) #[] #[] ∧ v1 = .pointer (some ⟨w.heap.size, 0, none⟩) ∧ v2 = .pointer (some ⟨w.heap.size + 1, 0, none⟩) ∧ v3 = hv g (n + 2) (n + 2) ∧ Only (fun _ => False) w w4 ∧ RowC w4 g (n + 2) (n + 2) (ofc c n) ∧
  w4.heap[w.heap.size]? = some (.cells #[.int .i64 hi, .int .u64 lo, .slice p n cap, .int .u64 N, .int .u64 (S : Nat), .int .u64 (C : Nat), .int .u64 (Mn : Nat), .int .u64 (Mx : Nat)] 38 (0, 0)) ∧
  w4.heap[w.heap.size + 1]? = some (.cells #[.int .i64 0, .int .u64 0, .slice none 0 0, .int .u64 0, .complex .f64 0 0, .float .f64 0, .float .f64 0] 42 (0, 0))
theorem Only.chain7s {a w : World} {b : Nat} (h : Only (· = b) a w) (v0 v1 v2 v3 v4 v5 v6 : Value) :
    Only (· = b) a (((((((w.setCell ⟨b, 0, none⟩ v0).setCell ⟨b, 1, none⟩ v1).setCell ⟨b, 2, none⟩ v2).setCell ⟨b, 3, none⟩ v3).setCell ⟨b, 4, none⟩ v4).setCell ⟨b, 5, none⟩ v5).setCell ⟨b, 6, none⟩ v6) := h.put7 (.inr rfl) v0 v1 v2 v3 v4 v5 v6
def OfRes (w : World) (hi lo n : Int) (l S C Mn Mx : Nat) (c : Nat → Cn) (e : Ending) (w' : World) : Prop :=
  ∃ g, e = .returned (partv hi lo (some ⟨g, 0, none⟩) l (l + 2) n S C Mn Mx) ∧ w.heap.size ≤ g ∧ Only (fun _ => False) w w' ∧ RowC w' g (l + 2) (l + 2) (ofc c l)
set_option maxRecDepth 100000 in
set_option maxHeartbeats 1000000 in
theorem of_calls (hi lo N : Int) (p : Option Addr) (n cap : Nat) (S C Mn Mx : Nat) (c : Nat → Cn) (w : World) (hn : n ≤ 8796093022208) (hp : Cnts w p n c) (hnil : p = none → n = 0 ∧ cap = 0) :
    Calls Try.prog 13 #[partr hi lo p n cap N S C Mn Mx] w (OfRes w hi lo N n S C Mn Mx c) := by
  unfold partr
  have hmk := run_make55 n hn
  have hp' := Lib.hid hp
  have hnil' := Lib.hid hnil
  have kf1 := run_frombits S
  have kf2 := run_frombits C
  have kf3 := run_frombits Mn
  have kf4 := run_frombits Mx
  clear hp hnil
  go_enter Try.func13, Try.ntmps13
  go_upto_region 2 with fail
  have e1 : (w.alloc (.cells #[.int .i64 hi, .int .u64 lo, .slice p n cap, .int .u64 N, .int .u64 (S : Nat), .int .u64 (C : Nat), .int .u64 (Mn : Nat), .int .u64 (Mx : Nat)] 38)).heap.size = w.heap.size + 1 := by simp
  have e2 : ((w.alloc (.cells #[.int .i64 hi, .int .u64 lo, .slice p n cap, .int .u64 N, .int .u64 (S : Nat), .int .u64 (C : Nat), .int .u64 (Mn : Nat), .int .u64 (Mx : Nat)] 38)).alloc (.cells #[.int .i64 0, .int .u64 0, .slice none 0 0, .int .u64 0, .complex .f64 0 0, .float .f64 0, .float .f64 0] 42)).heap.size = w.heap.size + 1 + 1 := by simp
  generalize hW : ((w.alloc (.cells #[.int .i64 hi, .int .u64 lo, .slice p n cap, .int .u64 N, .int .u64 (S : Nat), .int .u64 (C : Nat), .int .u64 (Mn : Nat), .int .u64 (Mx : Nat)] 38)).alloc (.cells #[.int .i64 0, .int .u64 0, .slice none 0 0, .int .u64 0, .complex .f64 0 0, .float .f64 0, .float .f64 0] 42)).alloc (.cells (madeCells #[.int .i64 0, .int .u64 0] ((n + 2) * 2)) 55) = W0
  have hA : W0.heap[w.heap.size]? = some (.cells #[.int .i64 hi, .int .u64 lo, .slice p n cap, .int .u64 N, .int .u64 (S : Nat), .int .u64 (C : Nat), .int .u64 (Mn : Nat), .int .u64 (Mx : Nat)] 38 (0, 0)) := by rw [← hW]; exact blk_alloc (blk_alloc (blk_new _ _) _) _
  have hZ : W0.heap[w.heap.size + 1]? = some (.cells #[.int .i64 0, .int .u64 0, .slice none 0 0, .int .u64 0, .complex .f64 0 0, .float .f64 0, .float .f64 0] 42 (0, 0)) := by rw [← hW, ← e1]; exact blk_alloc (blk_new _ _) _
  have hM : W0.heap[w.heap.size + 1 + 1]? = some (.cells (madeCells #[.int .i64 0, .int .u64 0] ((n + 2) * 2)) 55 (0, 0)) := by rw [← hW, ← e2]; exact blk_new _ _
  have O0 : Only (fun _ => False) w W0 := by rw [← hW]; exact (((Only.refl _ w).alloc _).alloc _).alloc _
  have e3 : W0.heap.size = w.heap.size + 1 + 1 + 1 := by rw [← hW]; simp
  clear hW e1 e2
  obtain ⟨g, hg⟩ : ∃ g, g = w.heap.size + 1 + 1 := ⟨_, rfl⟩
  have HA := Lib.hid hA; have HZ := Lib.hid hZ; have HO0 := Lib.hid O0
  have a2 : W0.cell? ⟨w.heap.size, 2, none⟩ = some (.slice p n cap) := blk_cell hA 2
  have ng1 : w.heap.size ≠ g := by omega
  have ng2 : w.heap.size + 1 ≠ g := by omega
  have gge : w.heap.size ≤ g := by omega
  rw [← hg] at hM ⊢
  have HM := Lib.hid hM
  have E3 := Lib.hid e3
  clear hA hZ O0 hM hg e3
  go_wp2_with (with_reducible refine wpList_copy_rows rfl (.tmp 10) (.tmp 12) 36 36 rfl 55 2 n Try.underlying36 size55 g (n + 2) (n + 2) n cap p (by simp [Act.eval]) (by simp [Act.eval]) hnil'.out (madeCells #[.int .i64 0, .int .u64 0] ((n + 2) * 2)).toList 55 (by simpa using HM.out) (cl c n) (Nat.min_eq_left (by omega)) (cl_len _ _) (fun ad j u hp hj => cl_src (hp'.out.only HO0.out (fun _ _ h => h)) ad j u hp hj) (by rw [cl_len, Array.length_toList, size_madeCells]; omega) (cl_one _ _) ?_; intro w3 hb3 O3; have X := Lib.hid (of_copied (by omega) hb3); have O3' := Lib.hid O3; clear hb3 O3; obtain ⟨⟨v0, y0⟩, ⟨v1, y1⟩, ⟨v2, y2⟩, ⟨v3, y3⟩, z0, z1, z2, z3⟩ := of_room X.out; have a2' := O3'.out.cel a2 ng1; clear a2)
  have R4 := Lib.hid (ofc_row X.out)
  have O4 : Only (· = g) w3 ((((w3.setCell ⟨g, n * 2, none⟩ (.int .i64 91)).setCell ⟨g, n * 2 + 1, none⟩ (.int .u64 0)).setCell ⟨g, (n + 1) * 2, none⟩ (.int .i64 92)).setCell ⟨g, (n + 1) * 2 + 1, none⟩ (.int .u64 0)) :=
    ((((Only.refl (· = g) w3).setCell (p := ⟨g, _, none⟩) (.inr rfl) _).setCell (p := ⟨g, _, none⟩) (.inr rfl) _).setCell (p := ⟨g, _, none⟩) (.inr rfl) _).setCell (p := ⟨g, _, none⟩) (.inr rfl) _
  have O5 := O3'.out.trans O4
  have hA := O5.blk HA.out ng1
  have hZ := O5.blk HZ.out ng2
  have O6 := Lib.hid (show Only (fun _ => False) w _ from HO0.out.seq2 O5 (by rintro k rfl; exact .inl gge))
  have HZ4 := Lib.hid hZ
  have HA4 := Lib.hid hA
  obtain ⟨d0, d1, d2, d3, d4, d5, d6, d7, _, _, _, _, _, _, _, _⟩ := eight hA
  obtain ⟨h0, h1, h2, h3, h4, h5, h6, f0, f1, f2, f3, f4, f5, f6⟩ := seven hZ
  clear hA hZ O4 O5 y0 y1 y2 y3 z0 z1 z2 z3 a2'
  generalize (((w3.setCell ⟨g, n * 2, none⟩ (.int .i64 91)).setCell ⟨g, n * 2 + 1, none⟩ (.int .u64 0)).setCell ⟨g, (n + 1) * 2, none⟩ (.int .i64 92)).setCell ⟨g, (n + 1) * 2 + 1, none⟩ (.int .u64 0) = w4 at *
  have ks1 := run_stf
  have ks2 := run_stc
  obtain ⟨m, hm⟩ : ∃ m, m = n + 2 := ⟨_, rfl⟩
  have hnm : n ≤ m := by omega
  rw [← hm]
  have Hm := Lib.hid hm
  clear hm
  go_still_tail 27, (by kernel_rfl)
  change wpList _ _ _ _ _ (World.drew w4)
  go_wp2_with fail
  have hb := HZ4.out
  have e7 := seven (put7_blk hb (.int .i64 hi) (.int .u64 lo) (.slice (some ⟨g, 0, none⟩) n m) (.int .u64 N) (.complex .f64 S C) (.float .f64 Mn) (.float .f64 Mx))
  have O7 : Only (· = w.heap.size + 1) w4 (put7 w4 (w.heap.size + 1) (.int .i64 hi) (.int .u64 lo) (.slice (some ⟨g, 0, none⟩) n m) (.int .u64 N) (.complex .f64 S C) (.float .f64 Mn) (.float .f64 Mx)) := (Only.refl (· = w.heap.size + 1) w4).put7 (.inr rfl) _ _ _ _ _ _ _
  refine bodyPost_ret (w := (put7 w4 (w.heap.size + 1) (.int .i64 hi) (.int .u64 lo) (.slice (some ⟨g, 0, none⟩) n m) (.int .u64 N) (.complex .f64 S C) (.float .f64 Mn) (.float .f64 Mx)).drew) (v := partv hi lo (some ⟨g, 0, none⟩) n m N S C Mn Mx) ?_ rfl ⟨g, by rw [Hm.out], gge, (O6.out.seq2 O7 (by rintro k rfl; exact .inl (by omega))).drew, R4.out.only O7.drew (fun e => ng2 e.symm)⟩
  clear O7
  generalize put7 w4 (w.heap.size + 1) (.int .i64 hi) (.int .u64 lo) (.slice (some ⟨g, 0, none⟩) n m) (.int .u64 N) (.complex .f64 S C) (.float .f64 Mn) (.float .f64 Mx) = w7 at *
  obtain ⟨d0, d1, d2, d3, d4, d5, d6, f0, f1, f2, f3, f4, f5, f6⟩ := e7
  simp [results, Try.results13, go_sem, d0, d1, d2, d3, d4, d5, d6, partv]
end Go.Proofs.Ytimiojckinpfdaa

/- The walk of kept: a part is as it was made, its room too. -/
namespace Go.Proofs.Ytimiojckinpfdaa
open Go.RowKit Srt

def DrewN (w w' : World) : Prop := ∃ m, w' = w.drewN m
set_option maxHeartbeats 1000000 in
theorem same_counts_n (p q : Option Addr) (n c1 c2 : Nat) (c : Nat → Srt.Cn) (w : World) (hn : n ≤ 9223372036854775807) (hp : Cnts w p n c) (hq : Cnts w q n c) :
    Calls Try.prog 50 #[.slice p n c1, .slice q n c2] w fun e w' => e = .returned (.bool true) ∧ DrewN w w' := by
  have hp' := Lib.hid hp
  have hq' := Lib.hid hq
  clear hp hq
  have kn := run_ne55s
  go_enter Try.func50, Try.ntmps50
  go_wp2_with fail
  go_loopw [5] (fun i wr => ∃ k : Nat, k ≤ n ∧ i = .int .i64 k ∧ DrewN w wr) (fun i _ => n - (intOf i).toNat)
  case atStart => exact ⟨0, Nat.zero_le _, rfl, 0, rfl⟩
  case round =>
    obtain ⟨k, hk, rfl, z, hz⟩ := hrel
    have hst : Still w wr := by rw [hz]; exact (Still.refl w).drewN z
    have HZ := Lib.hid hz
    clear hz
    by_cases hlt : k < n
    · obtain ⟨b1, o1, rfl, g1, d1, e1⟩ := hp'.out k hlt
      obtain ⟨b2, o2, rfl, g2, d2, e2⟩ := hq'.out k hlt
      rw [← hst.cell] at d1 e1 d2 e2
      unfold ci at d1 d2
      unfold cn at e1 e2
      generalize (c k).1 = x at *
      generalize (c k).2 = y at *
      clear hst
      go_wp2_with fail
      go_quiet (fail)
      go_wp2
      go_roundw
      case rel => exact ⟨k + 1, by omega, by go_num, z + nq, by rw [HZ.out, World.drewN_drewN]⟩
      case measure => simp [intOf]; omega
    · obtain rfl : k = n := by omega
      go_wp2_with fail
      go_ret
      exact ⟨rfl, z, HZ.out⟩
set_option maxRecDepth 100000 in
set_option maxHeartbeats 2000000 in
theorem kept_calls (hi lo N hi' lo' N' : Int) (p : Option Addr) (g n cap S C Mn Mx S' C' Mn' Mx' : Nat) (c : Nat → Cn) (w : World) (hn : n ≤ 8796093022208) (hp : Cnts w p n c) (hg : RowC w g (n + 2) (n + 2) (ofc c n)) :
    Calls Try.prog 19 #[partv hi lo (some ⟨g, 0, none⟩) n (n + 2) N S C Mn Mx, partr hi' lo' p n cap N' S' C' Mn' Mx'] w fun e w' => e = .returned (.bool true) ∧ Only (fun _ => False) w w' := by
  unfold partv partr
  have O0 := ((Only.refl (fun _ => False) w).alloc (.cells #[.int .i64 hi, .int .u64 lo, .slice (some ⟨g, 0, none⟩) n (n + 2), .int .u64 N, .complex .f64 S C, .float .f64 Mn, .float .f64 Mx] 42)).alloc (.cells #[.int .i64 hi', .int .u64 lo', .slice p n cap, .int .u64 N', .int .u64 (S' : Nat), .int .u64 (C' : Nat), .int .u64 (Mn' : Nat), .int .u64 (Mx' : Nat)] 38)
  have hp2 := Lib.hid (hp.only O0 (fun _ _ h => h))
  have hg2 := Lib.hid (hg.only O0 id)
  have hgl : g < w.heap.size := by obtain ⟨X, h1, _⟩ := hg; exact blk_lt h1
  have HO := Lib.hid O0
  clear hp hg O0
  go_enter Try.func19, Try.ntmps19
  go_wp2_with fail
  generalize hW : (w.alloc (.cells #[.int .i64 hi, .int .u64 lo, .slice (some ⟨g, 0, none⟩) n (n + 2), .int .u64 N, .complex .f64 S C, .float .f64 Mn, .float .f64 Mx] 42)).alloc (.cells #[.int .i64 hi', .int .u64 lo', .slice p n cap, .int .u64 N', .int .u64 (S' : Nat), .int .u64 (C' : Nat), .int .u64 (Mn' : Nat), .int .u64 (Mx' : Nat)] 38) = W0 at *
  have hB : W0.heap[w.heap.size + 1]? = some (.cells #[.int .i64 hi', .int .u64 lo', .slice p n cap, .int .u64 N', .int .u64 (S' : Nat), .int .u64 (C' : Nat), .int .u64 (Mn' : Nat), .int .u64 (Mx' : Nat)] 38 (0, 0)) := by rw [← hW, show w.heap.size + 1 = (w.alloc (.cells #[.int .i64 hi, .int .u64 lo, .slice (some ⟨g, 0, none⟩) n (n + 2), .int .u64 N, .complex .f64 S C, .float .f64 Mn, .float .f64 Mx] 42)).heap.size by simp]; exact blk_new _ _
  have b2 : W0.cell? ⟨w.heap.size + 1, 2, none⟩ = some (.slice p n cap) := blk_cell hB 2
  obtain ⟨x0, _⟩ := hg2.out.arr.get (i := n) (by omega)
  obtain ⟨x1, _⟩ := hg2.out.arr.get (i := n + 1) (by omega)
  unfold ofc at x0 x1
  rw [if_neg (by omega), if_pos rfl] at x0
  rw [if_neg (by omega), if_neg (by omega)] at x1
  dsimp only at x0 x1
  have KS := Lib.hid (fun z => same_counts_n (some ⟨g, 0, none⟩) p n (n + 2) cap c (W0.drewN z) (by omega) (((hg2.out.cnts (m := n) (by omega)).congr (fun i hi => by unfold ci ofc; rw [if_pos hi]) (fun i hi => by unfold cn ofc; rw [if_pos hi])).still ((Still.refl W0).drewN z)) (hp2.out.still ((Still.refl W0).drewN z)))
  clear hW hB
  obtain ⟨m, hm⟩ : ∃ m, m = n + 2 := ⟨_, rfl⟩
  have hnm : n ≤ m := by omega
  have hnm2 : n < m := by omega
  have hnm3 : n + 1 < m := by omega
  rw [← hm] at KS ⊢
  clear hm
  go_quiet ((go_at_call 50; exact Calls.quiet_of (KS.out _)))
  have O1 := Lib.hid (HO.out.drewN nq)
  have x0' : (W0.drewN nq).cell? ⟨g, n * 2, none⟩ = some (.int .i64 91) := x0
  have x1' : (W0.drewN nq).cell? ⟨g, (n + 1) * 2, none⟩ = some (.int .i64 92) := x1
  have b2' : (W0.drewN nq).cell? ⟨w.heap.size + 1, 2, none⟩ = some (.slice p n cap) := b2
  clear x0 x1 b2
  generalize W0.drewN nq = w2 at *
  go_wp2_with fail
  go_ret
  exact ⟨rfl, O1.out⟩
end Go.Proofs.Ytimiojckinpfdaa

/- The walks of part and like: a program's part as the document's; two parts held against each other. -/
namespace Go.Proofs.Ytimiojckinpfdaa
open Go.RowKit Srt

theorem lbits_calls (x : Nat) (w : World) : Calls Try.prog 52 #[.float .f64 x] w fun e w' => e = .returned (.int .u64 (x : Nat)) ∧ w' = w := by
  have k := run_tobits x
  go_enter Try.func52, Try.ntmps52
  go_wp2_with fail
  go_ret
  exact ⟨rfl, rfl⟩
theorem lbits_still (x : Nat) (w : World) : Calls Try.prog 52 #[.float .f64 x] w fun e w' => e = .returned (.int .u64 (x : Nat)) ∧ w' = w := lbits_calls x w
set_option maxRecDepth 100000 in
set_option maxHeartbeats 2000000 in
theorem part_calls (hi lo N : Int) (p : Option Addr) (l cap S C Mn Mx : Nat) (w : World) :
    Calls Try.prog 18 #[partv hi lo p l cap N S C Mn Mx] w fun e w' => e = .returned (partr hi lo p l cap N S C Mn Mx) ∧ Only (fun _ => False) w w' := by
  unfold partv
  go_enter Try.func18, Try.ntmps18
  go_upto_region 1 with fail
  have e1 : (w.alloc (.cells #[.int .i64 hi, .int .u64 lo, .slice p l cap, .int .u64 N, .complex .f64 S C, .float .f64 Mn, .float .f64 Mx] 42)).heap.size = w.heap.size + 1 := by simp
  generalize hW : (w.alloc (.cells #[.int .i64 hi, .int .u64 lo, .slice p l cap, .int .u64 N, .complex .f64 S C, .float .f64 Mn, .float .f64 Mx] 42)).alloc (.cells #[.int .i64 0, .int .u64 0, .slice none 0 0, .int .u64 0, .int .u64 0, .int .u64 0, .int .u64 0, .int .u64 0] 47) = W0
  have hA : W0.heap[w.heap.size]? = some (.cells #[.int .i64 hi, .int .u64 lo, .slice p l cap, .int .u64 N, .complex .f64 S C, .float .f64 Mn, .float .f64 Mx] 42 (0, 0)) := by rw [← hW]; exact blk_alloc (blk_new _ _) _
  have hZ : W0.heap[w.heap.size + 1]? = some (.cells #[.int .i64 0, .int .u64 0, .slice none 0 0, .int .u64 0, .int .u64 0, .int .u64 0, .int .u64 0, .int .u64 0] 47 (0, 0)) := by rw [← hW, ← e1]; exact blk_new _ _
  have O0 := Lib.hid (show Only (fun _ => False) w W0 by rw [← hW]; exact ((Only.refl _ w).alloc _).alloc _)
  clear hW e1
  have HZ := Lib.hid hZ
  obtain ⟨a0, a1, a2, a3, a4, a5, a6, _, _, _, _, _, _, _⟩ := seven hA
  obtain ⟨h0, h1, h2, h3, h4, h5, h6, h7, f0, f1, f2, f3, f4, f5, f6, f7⟩ := eight hZ
  clear hA hZ
  go_still_tail 22, (by kernel_rfl)
  still_call (lbits_calls S _)
  repeat still_step
  still_call (lbits_calls C _)
  repeat still_step
  still_call (lbits_calls Mn _)
  repeat still_step
  still_call (lbits_calls Mx _)
  repeat still_step
  refine wpStill_nil ?_
  change wpList _ _ _ _ _ (World.drew W0)
  go_wp2_with fail
  have hb := HZ.out
  have e7 := eight (put8_blk hb (.int .i64 hi) (.int .u64 lo) (.slice p l cap) (.int .u64 N) (.int .u64 (S : Nat)) (.int .u64 (C : Nat)) (.int .u64 (Mn : Nat)) (.int .u64 (Mx : Nat)))
  have O7 : Only (· = w.heap.size + 1) W0 (put8 W0 (w.heap.size + 1) (.int .i64 hi) (.int .u64 lo) (.slice p l cap) (.int .u64 N) (.int .u64 (S : Nat)) (.int .u64 (C : Nat)) (.int .u64 (Mn : Nat)) (.int .u64 (Mx : Nat))) := (Only.refl (· = w.heap.size + 1) W0).put8 (.inr rfl) _ _ _ _ _ _ _ _
  refine bodyPost_ret (w := (put8 W0 (w.heap.size + 1) (.int .i64 hi) (.int .u64 lo) (.slice p l cap) (.int .u64 N) (.int .u64 (S : Nat)) (.int .u64 (C : Nat)) (.int .u64 (Mn : Nat)) (.int .u64 (Mx : Nat))).drew) (v := partr hi lo p l cap N S C Mn Mx) ?_ rfl ⟨rfl, (O0.out.seq2 O7 (by rintro k rfl; exact .inl (by omega))).drew⟩
  clear O7
  generalize put8 W0 (w.heap.size + 1) (.int .i64 hi) (.int .u64 lo) (.slice p l cap) (.int .u64 N) (.int .u64 (S : Nat)) (.int .u64 (C : Nat)) (.int .u64 (Mn : Nat)) (.int .u64 (Mx : Nat)) = w7 at *
  obtain ⟨d0, d1, d2, d3, d4, d5, d6, d7, f0, f1, f2, f3, f4, f5, f6, f7⟩ := e7
  simp [results, Try.results18, go_sem, d0, d1, d2, d3, d4, d5, d6, d7, partr]
theorem run_eqi35 (h l : Int) (w : World) : Sem.run Try.prog (binOp .eql 35 (.agg #[.int .i64 h, .int .u64 l]) (.agg #[.int .i64 h, .int .u64 l])) w = .ok (.bool true) w := by
  have u3 := Try.underlying2
  have u4 := Try.underlying33
  have hS : Try.prog.underlying 35 = some (.struct (Try.prog.fieldsOf 35)) := by kernel_rfl
  have hp : Try.prog.stoodInHeld 35 = false := by kernel_rfl
  rw [run_eql_struct, show (10000 : Nat) = 9999 + 1 from rfl, run_equalIn_struct w 9999 35 _ _ hS hp]
  simp only [Program.fieldsOf, Try.underlying35]
  go_simp
set_option maxRecDepth 100000 in
set_option maxHeartbeats 2000000 in
theorem like_calls (hi lo N : Int) (p q : Option Addr) (n k1 k2 : Nat) (c : Nat → Cn) (S C Mn Mx S' C' Mn' Mx' : Nat) (w : World) (hn : n ≤ 9223372036854775807) (hp : Cnts w p n c) (hq : Cnts w q n c)
    (b : S < 18446744073709551616 ∧ C < 18446744073709551616 ∧ Mn < 18446744073709551616 ∧ Mx < 18446744073709551616) (b' : S' < 18446744073709551616 ∧ C' < 18446744073709551616 ∧ Mn' < 18446744073709551616 ∧ Mx' < 18446744073709551616)
    (s1 : Pq.sameW S S' = true) (s2 : Pq.sameW C C' = true) (s3 : Pq.sameW Mn Mn' = true) (s4 : Pq.sameW Mx Mx' = true) :
    Calls Try.prog 17 #[partr hi lo p n k1 N S C Mn Mx, partr hi lo q n k2 N S' C' Mn' Mx'] w fun e w' => e = .returned (.bool true) ∧ Only (fun _ => False) w w' := by
  unfold partr
  have ke := run_eqi35 hi lo
  have O0 := Lib.hid (((Only.refl (fun _ => False) w).alloc (.cells #[.int .i64 hi, .int .u64 lo, .slice p n k1, .int .u64 N, .int .u64 (S : Nat), .int .u64 (C : Nat), .int .u64 (Mn : Nat), .int .u64 (Mx : Nat)] 47)).alloc (.cells #[.int .i64 hi, .int .u64 lo, .slice q n k2, .int .u64 N, .int .u64 (S' : Nat), .int .u64 (C' : Nat), .int .u64 (Mn' : Nat), .int .u64 (Mx' : Nat)] 47))
  have KS := Lib.hid (fun w1 O => same_counts p q n k1 k2 c w1 hn (hp.only (S := fun _ => False) O (fun _ _ h => h)) (hq.only (S := fun _ => False) O (fun _ _ h => h)))
  have B := Lib.hid b
  have B' := Lib.hid b'
  have T1 := Lib.hid s1
  have T2 := Lib.hid s2
  have T3 := Lib.hid s3
  have T4 := Lib.hid s4
  clear hp hq b b' s1 s2 s3 s4
  go_enter Try.func17, Try.ntmps17
  go_wp2_with fail
  generalize hW : (w.alloc (.cells #[.int .i64 hi, .int .u64 lo, .slice p n k1, .int .u64 N, .int .u64 (S : Nat), .int .u64 (C : Nat), .int .u64 (Mn : Nat), .int .u64 (Mx : Nat)] 47)).alloc (.cells #[.int .i64 hi, .int .u64 lo, .slice q n k2, .int .u64 N, .int .u64 (S' : Nat), .int .u64 (C' : Nat), .int .u64 (Mn' : Nat), .int .u64 (Mx' : Nat)] 47) = W0
  rw [hW] at O0
  have hA : W0.heap[w.heap.size]? = some (.cells #[.int .i64 hi, .int .u64 lo, .slice p n k1, .int .u64 N, .int .u64 (S : Nat), .int .u64 (C : Nat), .int .u64 (Mn : Nat), .int .u64 (Mx : Nat)] 47 (0, 0)) := by rw [← hW]; exact blk_alloc (blk_new _ _) _
  have hB : W0.heap[w.heap.size + 1]? = some (.cells #[.int .i64 hi, .int .u64 lo, .slice q n k2, .int .u64 N, .int .u64 (S' : Nat), .int .u64 (C' : Nat), .int .u64 (Mn' : Nat), .int .u64 (Mx' : Nat)] 47 (0, 0)) := by rw [← hW, show w.heap.size + 1 = (w.alloc (.cells #[.int .i64 hi, .int .u64 lo, .slice p n k1, .int .u64 N, .int .u64 (S : Nat), .int .u64 (C : Nat), .int .u64 (Mn : Nat), .int .u64 (Mx : Nat)] 47)).heap.size by simp]; exact blk_new _ _
  clear hW
  refine (KS.out _ O0.out).mono ?_
  rintro e w1 ⟨rfl, st⟩
  have O1 := Lib.hid (O0.out.trans (st.only _))
  rw [← st.heap] at hA hB
  obtain ⟨a0, a1, a2, a3, a4, a5, a6, a7, _, _, _, _, _, _, _, _⟩ := eight hA
  obtain ⟨g0, g1, g2, g3, g4, g5, g6, g7, _, _, _, _, _, _, _, _⟩ := eight hB
  clear hA hB st
  go_wp2_with fail
  refine (Pq.sameW_any S S' _ B.out.1 B'.out.1).mono ?_
  rintro e w2 ⟨rfl, rfl⟩
  rw [T1.out]
  go_wp2_with fail
  refine (Pq.sameW_any C C' _ B.out.2.1 B'.out.2.1).mono ?_
  rintro e w2 ⟨rfl, rfl⟩
  rw [T2.out]
  go_wp2_with fail
  refine (Pq.sameW_any Mn Mn' _ B.out.2.2.1 B'.out.2.2.1).mono ?_
  rintro e w2 ⟨rfl, rfl⟩
  rw [T3.out]
  go_wp2_with fail
  refine (Pq.sameW_any Mx Mx' _ B.out.2.2.2 B'.out.2.2.2).mono ?_
  rintro e w2 ⟨rfl, rfl⟩
  rw [T4.out]
  go_wp2_with fail
  go_ret
  exact ⟨rfl, O1.out⟩
end Go.Proofs.Ytimiojckinpfdaa
