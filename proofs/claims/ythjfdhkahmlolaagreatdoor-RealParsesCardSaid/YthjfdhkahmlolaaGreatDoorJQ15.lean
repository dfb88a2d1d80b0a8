/- Whole numbers as floats, times and over powers of ten: where the decimal reads back as b, b is told. -/
import Derived.Test.YthjfdhkahmlolaaGreatDoorJQ14
import Derived.Test.YthjfdhkahmlolaaGreatDoorJQ07
import Derived.Test.YthjfdhkahmlolaaGreatDoorJQ04
import Derived.WalkMore
import Derived.LoopN
namespace Go.Proofs.YthjfdhkahmlolaaGreatDoor.Usc
open Pq.Flt Ieee
set_option maxRecDepth 100000
/-- the float of a whole number, with a sign -/
def wd (neg : Bool) (v : Nat) : Nat := D.word neg (rung v 0)
theorem rung_small {d : Nat} (h0 : 1 ≤ d) (h1 : d < 9007199254740992) : d.log2 ≤ 52 ∧ rung d 0 = (1074 - (52 - d.log2)) * 4503599627370496 + d * 2 ^ (52 - d.log2) ∧ 4503599627370496 ≤ d * 2 ^ (52 - d.log2) ∧ d * 2 ^ (52 - d.log2) < 9007199254740992 := by
  have hd : d ≠ 0 := by omega
  have g1 := Nat.log2_self_le hd
  have g2 := @Nat.lt_log2_self d
  have hl : d.log2 ≤ 52 := by
    have : d.log2 < 53 := (Nat.log2_lt hd).2 (by rw [show (2 : Nat) ^ 53 = 9007199254740992 by decide]; exact h1)
    omega
  have e1 : 2 ^ d.log2 * 2 ^ (52 - d.log2) = 4503599627370496 := by rw [← Nat.pow_add, show d.log2 + (52 - d.log2) = 52 by omega]
  have e2 : 2 ^ (d.log2 + 1) * 2 ^ (52 - d.log2) = 9007199254740992 := by rw [← Nat.pow_add, show d.log2 + 1 + (52 - d.log2) = 53 by omega]
  have q1 := Nat.mul_le_mul_right (2 ^ (52 - d.log2)) g1
  have q2 := Nat.mul_lt_mul_of_pos_right g2 (Nat.two_pow_pos (52 - d.log2))
  refine ⟨hl, ?_, by omega, by omega⟩
  unfold rung
  rw [if_neg hd]
  have hlast : max ((0 : Int) + (d.log2 : Int) - 52) (-1074) = (d.log2 : Int) - 52 := by omega
  simp only
  rw [hlast, show ((0 : Int) - ((d.log2 : Int) - 52)).toNat = 52 - d.log2 by omega, show ((d.log2 : Int) - 52 - 0).toNat = 0 by omega, show ((d.log2 : Int) - 52 + 1074).toNat = 1074 - (52 - d.log2) by omega, rne_zero]
  exact Nat.min_eq_left (by omega)
theorem word_parts (s : Bool) (r : Nat) (hr : r < 9223372036854775808) : mag (D.word s r) = r ∧ neg (D.word s r) = s ∧ D.word s r < 18446744073709551616 := by
  rw [word_eq]
  unfold mag neg
  cases s
  · simp only [Bool.false_eq_true, if_false]
    refine ⟨by omega, ?_, by omega⟩
    rw [beq_eq_false_iff_ne]; omega
  · simp only [if_true]
    refine ⟨by omega, ?_, by omega⟩
    rw [beq_iff_eq]; omega
/-- the parts of a whole number's float -/
theorem read_wd {s : Bool} {d : Nat} (h0 : 1 ≤ d) (h1 : d < 9007199254740992) : D.read (wd s d) = .number s (d * 2 ^ (52 - d.log2)) (-((52 - d.log2 : Nat) : Int)) ∧ wd s d < 18446744073709551616 := by
  obtain ⟨hl, hr, q1, q2⟩ := rung_small h0 h1
  unfold wd
  have hlt : rung d 0 < 9218868437227405312 := by rw [hr]; omega
  obtain ⟨m1, m2, m3⟩ := word_parts s (rung d 0) (by omega)
  refine ⟨?_, m3⟩
  rw [read_fin _ (by rw [m1]; exact hlt), m1, m2, hr]
  generalize d * 2 ^ (52 - d.log2) = t at *
  have e1 : sig ((1074 - (52 - d.log2)) * 4503599627370496 + t) = t := by unfold sig; rw [if_neg (by omega)]; omega
  have e2 : ex ((1074 - (52 - d.log2)) * 4503599627370496 + t) = -((52 - d.log2 : Nat) : Int) := by unfold ex; rw [if_neg (by omega)]; omega
  rw [e1, e2]
def p10ok (j : Nat) : Bool := decide (p10 j < 9218868437227405312) && decide (sig (p10 j) * 2 ^ (ex (p10 j) + 1075).toNat = 10 ^ j * big) && decide (-52 ≤ ex (p10 j)) && decide (ex (p10 j) ≤ 52) && decide (4503599627370496 ≤ sig (p10 j))
theorem p10_all : (List.range 23).all p10ok = true := by decide +kernel
theorem p10_at {j : Nat} (h : j < 23) : p10 j < 9218868437227405312 ∧ sig (p10 j) * 2 ^ (ex (p10 j) + 1075).toNat = 10 ^ j * big ∧ -52 ≤ ex (p10 j) ∧ ex (p10 j) ≤ 52 ∧ 4503599627370496 ≤ sig (p10 j) := by
  have := List.all_eq_true.1 p10_all j (List.mem_range.2 h)
  unfold p10ok at this
  simp only [Bool.and_eq_true, decide_eq_true_eq] at this
  obtain ⟨⟨⟨⟨a, b⟩, c⟩, d⟩, e⟩ := this
  exact ⟨a, b, c, d, e⟩
theorem read_p10 {j : Nat} (h : j < 23) : D.read (p10 j) = .number false (sig (p10 j)) (ex (p10 j)) := by
  have h1 := (p10_at h).1
  have hm : mag (p10 j) = p10 j := by unfold mag; omega
  have hn : neg (p10 j) = false := by unfold neg; rw [beq_eq_false_iff_ne]; omega
  rw [read_fin _ (by rw [hm]; exact h1), hm, hn]
/-- the product, by its parts -/
theorem mul_wd {s : Bool} {d j : Nat} (h0 : 1 ≤ d) (h1 : d < 9007199254740992) (hj : j < 23) : D.mul (wd s d) (p10 j) = some (D.word s (rung (d * 2 ^ (52 - d.log2) * sig (p10 j)) (-((52 - d.log2 : Nat) : Int) + ex (p10 j)))) := by
  unfold Format.mul
  rw [(read_wd h0 h1).1, read_p10 hj]
  simp only [Datum.product, Option.map_some, Format.write, nearest_eq, Bool.bne_false]
/-- the product is the float that the decimal reads back as -/
theorem mul_is {s : Bool} {b d j : Nat} (hb : 1 ≤ b) (hb2 : b < 9218868437227405312) (h0 : 1 ≤ d) (h1 : d < 9007199254740992) (hj : j < 23) (hR : Rd b d j) : D.mul (wd s d) (p10 j) = some (D.word s b) := by
  rw [mul_wd h0 h1 hj]
  obtain ⟨a1, a2, a3, a4, a5⟩ := p10_at hj
  obtain ⟨hl, _, q1, _⟩ := rung_small h0 h1
  congr 2
  refine rung_is hb hb2 (Nat.mul_pos (by omega) (by omega)) (Y := 1) (by decide) (.inl (Nat.mul_one _).symm) ?_
  rw [rd_near] at hR
  rw [show (-(-((52 - d.log2 : Nat) : Int) + ex (p10 j) + 1075)).toNat = 0 by omega]
  rw [show (-((j : Nat) : Int)).toNat = 0 by omega, show (((j : Nat) : Int)).toNat = j by omega] at hR
  refine (near_cross (by decide) (by decide) ?_).1 hR
  have e1 : 2 ^ (ex (p10 j) + 1075).toNat = 2 ^ (52 - d.log2) * 2 ^ (-((52 - d.log2 : Nat) : Int) + ex (p10 j) + 1075).toNat := by rw [← Nat.pow_add]; congr 1; omega
  rw [e1] at a2
  simp only [Nat.mul_one, Nat.pow_zero]
  rw [Nat.mul_assoc d, ← a2]
  generalize 2 ^ (52 - d.log2) = A
  generalize 2 ^ (-((52 - d.log2 : Nat) : Int) + ex (p10 j) + 1075).toNat = B
  generalize sig (p10 j) = C
  grind
theorem quot_big {m n : Nat} (h : 4503599627370496 ≤ m) (hn : n < 9007199254740992) (hn0 : 0 < n) : 9007199254740992 ≤ m * 18014398509481984 / n := by
  rw [Nat.le_div_iff_mul_le hn0]
  omega
theorem quot_core {dd n Q R : Nat} {q : Int} (hdm : Q * n + R = dd) (hR : R < n) (hQ : 9007199254740992 ≤ Q) (hq : -1000 ≤ q) :
    0 < 2 * Q + (R != 0).toNat ∧ (2 * dd = (2 * Q + (R != 0).toNat) * n ∨ (18014398509481984 ≤ 2 * Q + (R != 0).toNat ∧ (2 * Q + (R != 0).toNat) % 2 = 1 ∧ (2 * Q + (R != 0).toNat - 1) * n < 2 * dd ∧ 2 * dd < (2 * Q + (R != 0).toNat + 1) * n ∧ -1074 ≤ q + ((2 * Q + (R != 0).toNat).log2 : Int) - 52)) := by
  have hl2 : 54 ≤ (2 * Q + (R != 0).toNat).log2 := (Nat.le_log2 (by omega)).2 (by rw [show (2 : Nat) ^ 54 = 18014398509481984 by decide]; omega)
  refine ⟨by omega, ?_⟩
  by_cases hR0 : R = 0
  · left
    have e0 : (R != 0).toNat = 0 := by rw [hR0]; rfl
    rw [e0, ← hdm, hR0, Nat.add_zero, Nat.add_zero, Nat.mul_assoc]
  · right
    have e1 : (R != 0).toNat = 1 := by rw [show (R != 0) = true by rw [bne_iff_ne]; exact hR0]; rfl
    rw [e1] at hl2 ⊢
    refine ⟨by omega, by omega, ?_, ?_, by omega⟩
    · rw [Nat.add_sub_cancel, Nat.mul_assoc]; omega
    · rw [show 2 * Q + 1 + 1 = 2 * (Q + 1) by omega, Nat.mul_assoc, Nat.add_mul, Nat.one_mul]; omega
theorem div_is {s : Bool} {b d j : Nat} (hb : 1 ≤ b) (hb2 : b < 9218868437227405312) (h0 : 1 ≤ d) (h1 : d < 9007199254740992) (hj : j < 23) (hR : Rd b d (-(j : Int))) : D.div (wd s d) (p10 j) = some (D.word s b) := by
  obtain ⟨a1, a2, a3, a4, a5⟩ := p10_at hj
  obtain ⟨hl, _, q1, q2⟩ := rung_small h0 h1
  have hs := sig_lt (p10 j)
  unfold Format.div
  rw [(read_wd h0 h1).1, read_p10 hj]
  have hn0 : sig (p10 j) ≠ 0 := by omega
  have l1 : (sig (p10 j)).log2 = 52 := (Nat.log2_eq_iff hn0).2 ⟨by rw [show (2 : Nat) ^ 52 = 4503599627370496 by decide]; exact a5, by rw [show (2 : Nat) ^ (52 + 1) = 9007199254740992 by decide]; exact hs⟩
  have l2 : (d * 2 ^ (52 - d.log2)).log2 = 52 := (Nat.log2_eq_iff (by omega)).2 ⟨by rw [show (2 : Nat) ^ 52 = 4503599627370496 by decide]; exact q1, by rw [show (2 : Nat) ^ (52 + 1) = 9007199254740992 by decide]; exact q2⟩
  have hQ := quot_big q1 hs (by omega)
  simp only [Datum.quotient, if_neg hn0, l1, l2, Option.map_some, Format.write, nearest_eq, fb, Nat.shiftLeft_eq]
  rw [rd_near] at hR
  rw [show (-(-((j : Nat) : Int))).toNat = j by omega, show (-((j : Nat) : Int)).toNat = 0 by omega, Nat.pow_zero, Nat.mul_one] at hR
  rw [show (52 + 2 + 52 - 52 : Nat) = 54 from rfl, show (2 : Nat) ^ 54 = 18014398509481984 by decide]
  have hdm := Nat.div_add_mod (d * 2 ^ (52 - d.log2) * 18014398509481984) (sig (p10 j))
  have hml := Nat.mod_lt (d * 2 ^ (52 - d.log2) * 18014398509481984) (show 0 < sig (p10 j) by omega)
  rw [Nat.mul_comm] at hdm
  obtain ⟨c1, c2⟩ := quot_core (q := -((52 - d.log2 : Nat) : Int) - ex (p10 j) - ((54 : Nat) : Int) - 1) hdm hml hQ (by omega)
  have hbn : (s ^^ false) = s := by cases s <;> rfl
  rw [hbn]
  refine congrArg (fun r => some (D.word s r)) (rung_is hb hb2 c1 (by omega) c2 ?_)
  rw [show (-(-((52 - d.log2 : Nat) : Int) - ex (p10 j) - ((54 : Nat) : Int) - 1 + 1075)).toNat = 0 by omega, Nat.pow_zero, Nat.one_mul]
  refine (near_cross (Nat.pow_pos (by decide)) (by omega) ?_).1 hR
  have e2 : 10 ^ j * 2 ^ (1075 - ex (p10 j)).toNat = sig (p10 j) * big := by
    have h3 : sig (p10 j) * 2 ^ (ex (p10 j) + 1075).toNat * 2 ^ (1075 - ex (p10 j)).toNat = sig (p10 j) * big * big := by
      have hk : (ex (p10 j) + 1075).toNat + (1075 - ex (p10 j)).toNat = kbig + kbig := by
        have hk : kbig = 1075 := rfl
        rw [hk]; omega
      unfold big
      rw [Nat.mul_assoc, Nat.mul_assoc, ← Nat.pow_add, ← Nat.pow_add, hk]
    rw [a2] at h3
    have h4 : 10 ^ j * 2 ^ (1075 - ex (p10 j)).toNat * big = sig (p10 j) * big * big := by rw [← h3, Nat.mul_right_comm]
    exact Nat.eq_of_mul_eq_mul_right big_pos h4
  have e3 : 2 ^ (1075 - ex (p10 j)).toNat = 2 * (2 ^ (52 - d.log2) * 18014398509481984 * 2 ^ (-((52 - d.log2 : Nat) : Int) - ex (p10 j) - ((54 : Nat) : Int) - 1 + 1075).toNat) := by
    rw [show (18014398509481984 : Nat) = 2 ^ 54 by decide, ← Nat.pow_add, ← Nat.pow_add, Nat.mul_comm 2, ← Nat.pow_succ]
    congr 1
    omega
  rw [e3] at e2
  have fin : ∀ B A T G n C : Nat, T * (2 * (A * C * B)) = n * G → d * G * n = 2 * (d * A * C) * B * T := fun B A T G n C h => by
    have : d * G * n = d * (n * G) := by grind
    rw [this, ← h]; grind
  exact fin _ _ _ _ _ _ e2
end Go.Proofs.YthjfdhkahmlolaaGreatDoor.Usc

/- The walk of fmtEFG at 'e', any digits (printed by gen_efh.py). -/
namespace Go.Proofs.YthjfdhkahmlolaaGreatDoor
open Go.RowKit
def ch8 (x : UInt8) : Value := .int .u8 (x.toNat : Int)
def i8 (n : Int) : Value := .int .u8 n
/-- an exponent's size in digits -/
def expCells (n : Int) : List Value := if n < 10 then [i8 48, i8 (48 + n)] else if n < 100 then [i8 (48 + n / 10), i8 (48 + n % 10)] else [i8 (48 + n / 100), i8 (48 + n / 10 % 10), i8 (48 + n % 10)]
def signCell (x : Int) : Value := i8 (if x < 0 then 45 else 43)
theorem row_cells {b : Nat} {d0 : Value} {l : List UInt8} {w w' : World} (O : Only (fun k => d0.ownBlock = some k) w w') (hb : b < w.heap.size) (hne : d0.ownBlock ≠ some b)
    (hc : ∀ j u, (l.map ch8)[j]? = some u → w.cell? ⟨b, 1 + j, none⟩ = some u) : ∀ j u, (l.map ch8)[j]? = some u → w'.cell? ((⟨b, 1, none⟩ : Addr).add j) = some u := by
  intro j u hu
  have ha : (⟨b, 1, none⟩ : Addr).add j = ⟨b, 1 + j, none⟩ := by unfold Addr.add; split <;> simp_all
  rw [ha, O.cellAt hb (fun h => hne h), hc j u hu]
/-- the text of what is printed -/
def efgOne (x : UInt8) (dp : Int) : List Value := [ch8 x] ++ [i8 101, signCell (dp - 1)] ++ expCells (if dp - 1 < 0 then 1 - dp else dp - 1)
def efgMany (x : UInt8) (l : List UInt8) (dp : Int) : List Value := [ch8 x, i8 46] ++ l.map ch8 ++ [i8 101, signCell (dp - 1)] ++ expCells (if dp - 1 < 0 then 1 - dp else dp - 1)
theorem tdiv_neg {dp : Int} (h : dp - 1 < 0) (k : Int) : (dp - 1).tdiv k = -((1 - dp) / k) := by
  rw [show dp - 1 = -(1 - dp) by omega, Int.neg_tdiv, Int.tdiv_eq_ediv_of_nonneg (by omega)]
theorem tmod_neg {dp : Int} (h : dp - 1 < 0) (k : Int) : (dp - 1).tmod k = -((1 - dp) % k) := by
  rw [show dp - 1 = -(1 - dp) by omega, Int.neg_tmod, Int.tmod_eq_emod_of_nonneg (by omega)]
set_option maxRecDepth 100000 in
set_option maxHeartbeats 8000000 in
theorem efg_1 (B b : Nat) (d0 : Value) (x : UInt8) (dp : Int) (w : World) (hB : B ≤ w.heap.size) (ho : w.ownsRow B 5 1 d0 0 [])
    (hx : w.cell? ⟨b, 0, none⟩ = some (.int .u8 (x.toNat : Int))) (he : -998 ≤ dp ∧ dp ≤ 1000) :
    Calls Tryz.prog 95 #[d0, .bool false, .slice (some ⟨b, 0, none⟩) 32 32, .int .i64 dp, .int .i64 1, .int .i64 0, .int .u8 101, .bool true] w fun e w' =>
      ∃ v, e = .returned v ∧ Hid (Ap w B d0 v (efgOne x dp) w') := by
  have HA0 := Lib.hid (Ap.start ho)
  have HB := Lib.hid hB
  have HX := hx
  clear hB ho hx
  go_enter Tryz.func95, Tryz.ntmps95
  go_wp2_with (at_builtin; (first | (exfalso; omega) | (refine wp_app HA3.out HB.out rfl _ _ rfl _ 2 (by simp [Act.eval]) (by simp [Act.eval]) rfl (by simp [Value.oneCell']) (by decide) (by simp) (by decide) ?_; intro v4 w4 hA'; have HA4 := Lib.hid hA'; clear hA') | (refine wp_app HA3.out HB.out rfl _ _ rfl _ 3 (by simp [Act.eval]) (by simp [Act.eval]) rfl (by simp [Value.oneCell']) (by decide) (by simp) (by decide) ?_; intro v4 w4 hA'; have HA4 := Lib.hid hA'; clear hA') | (refine wp_app HA2.out HB.out rfl _ _ rfl _ 1 (by simp [Act.eval]) (by simp [Act.eval]) rfl (by simp [Value.oneCell']) (by decide) (by simp) (by decide) ?_; intro v3 w3 hA'; have HA3 := Lib.hid hA'; clear hA') | (refine wp_app HA1.out HB.out rfl _ _ rfl _ 1 (by simp [Act.eval]) (by simp [Act.eval]) rfl (by simp [Value.oneCell']) (by decide) (by simp) (by decide) ?_; intro v2 w2 hA'; have HA2 := Lib.hid hA'; clear hA') | (refine wp_app HA0.out HB.out rfl _ _ rfl _ 1 (by simp [Act.eval]) (by simp [Act.eval]) rfl (by simp [Value.oneCell']) (by decide) (by simp) (by decide) ?_; intro v1 w1 hA'; have HA1 := Lib.hid hA'; clear hA')))
  all_goals (
    have H := HA4.out
    clear HA0 HA1 HA2 HA3 HA4
    go_ret
    refine ⟨_, rfl, Lib.hid ?_⟩
    refine Eq.mp (congrArg (fun q => Ap w B d0 v4 q w4) ?_) H
    clear H
    by_cases hs : dp - 1 < 0
    · have t10 : (dp - 1).tdiv 10 = -((1 - dp) / 10) := tdiv_neg hs 10
      have t100 : (dp - 1).tdiv 100 = -((1 - dp) / 100) := tdiv_neg hs 100
      have m10 : (dp - 1).tmod 10 = -((1 - dp) % 10) := tmod_neg hs 10
      unfold efgOne expCells signCell
      rw [if_pos hs, if_pos hs]
      first
        | (rw [if_pos (by omega)]; simp only [List.nil_append, List.cons_append, List.append_assoc, List.append_cancel_left_eq, List.cons.injEq, Value.int.injEq, true_and, and_true, i8, ch8, t10, t100, m10]; (try unfold wrap64); omega)
        | (rw [if_neg (by omega), if_pos (by omega)]; simp only [List.nil_append, List.cons_append, List.append_assoc, List.append_cancel_left_eq, List.cons.injEq, Value.int.injEq, true_and, and_true, i8, ch8, t10, t100, m10]; (try unfold wrap64); omega)
        | (rw [if_neg (by omega), if_neg (by omega)]; simp only [List.nil_append, List.cons_append, List.append_assoc, List.append_cancel_left_eq, List.cons.injEq, Value.int.injEq, true_and, and_true, i8, ch8, t10, t100, m10]; (try unfold wrap64); omega)
    · unfold efgOne expCells signCell
      rw [if_neg hs, if_neg hs]
      first
        | (rw [if_pos (by omega)]; simp only [List.nil_append, List.cons_append, List.append_assoc, List.append_cancel_left_eq, List.cons.injEq, Value.int.injEq, true_and, and_true, i8, ch8]; (try unfold wrap64); omega)
        | (rw [if_neg (by omega), if_pos (by omega)]; simp only [List.nil_append, List.cons_append, List.append_assoc, List.append_cancel_left_eq, List.cons.injEq, Value.int.injEq, true_and, and_true, i8, ch8]; (try unfold wrap64); omega)
        | (rw [if_neg (by omega), if_neg (by omega)]; simp only [List.nil_append, List.cons_append, List.append_assoc, List.append_cancel_left_eq, List.cons.injEq, Value.int.injEq, true_and, and_true, i8, ch8]; (try unfold wrap64); omega))
set_option maxRecDepth 100000 in
set_option maxHeartbeats 8000000 in
theorem efg_many (B b nd : Nat) (d0 : Value) (x : UInt8) (l : List UInt8) (dp : Int) (w : World) (hB : B ≤ w.heap.size) (ho : w.ownsRow B 5 1 d0 0 []) (hn : 2 ≤ nd ∧ nd ≤ 17) (hl : l.length + 1 = nd)
    (hx : w.cell? ⟨b, 0, none⟩ = some (.int .u8 (x.toNat : Int))) (hc : ∀ j u, (l.map ch8)[j]? = some u → w.cell? ⟨b, 1 + j, none⟩ = some u) (hb : b < w.heap.size) (hne : d0.ownBlock ≠ some b) (he : -998 ≤ dp ∧ dp ≤ 1000) :
    Calls Tryz.prog 95 #[d0, .bool false, .slice (some ⟨b, 0, none⟩) 32 32, .int .i64 dp, .int .i64 nd, .int .i64 ((nd : Int) - 1), .int .u8 101, .bool true] w fun e w' =>
      ∃ v, e = .returned v ∧ Hid (Ap w B d0 v (efgMany x l dp) w') := by
  have HC := Lib.hid hc
  have HL := Lib.hid hl
  clear hc hl
  have HA0 := Lib.hid (Ap.start ho)
  have HB := Lib.hid hB
  have HX := hx
  clear hB ho hx
  go_enter Tryz.func95, Tryz.ntmps95
  go_wp2_with (at_builtin; (first | (exfalso; omega) | (refine wp_appS HA2.out HB.out rfl _ _ rfl (by simp [Act.eval]) ⟨b, 1, none⟩ (nd - 1) 31 (l.map ch8) (by simp [Act.eval]) (by have := HL.out; simp; omega) (row_cells HA2.out.only hb hne HC.out) (by simp [ch8, Value.oneCell']) (by omega) (by simp) (by omega) ?_; intro v3 w3 hA'; have HA3 := Lib.hid hA'; clear hA') | (refine wp_app HA1.out HB.out rfl _ _ rfl _ 1 (by simp [Act.eval]) (by simp [Act.eval]) rfl (by simp [Value.oneCell']) (by decide) (by simp) (by decide) ?_; intro v2 w2 hA'; have HA2 := Lib.hid hA'; clear hA') | (refine wp_app HA0.out HB.out rfl _ _ rfl _ 1 (by simp [Act.eval]) (by simp [Act.eval]) rfl (by simp [Value.oneCell']) (by decide) (by simp) (by decide) ?_; intro v1 w1 hA'; have HA1 := Lib.hid hA'; clear hA')))
  refine wp_loop_rounds 1 ?_
  rw [rounds_succ]
  go_wp2_with (at_builtin; (first | (exfalso; omega) | (refine wp_app HA5.out HB.out rfl _ _ rfl _ 2 (by simp [Act.eval]) (by simp [Act.eval]) rfl (by simp [Value.oneCell']) (by decide) (by have := HL.out; simp; omega) (by decide) ?_; intro v6 w6 hA'; have HA6 := Lib.hid hA'; clear hA') | (refine wp_app HA5.out HB.out rfl _ _ rfl _ 3 (by simp [Act.eval]) (by simp [Act.eval]) rfl (by simp [Value.oneCell']) (by decide) (by have := HL.out; simp; omega) (by decide) ?_; intro v6 w6 hA'; have HA6 := Lib.hid hA'; clear hA') | (refine wp_app HA4.out HB.out rfl _ _ rfl _ 1 (by simp [Act.eval]) (by simp [Act.eval]) rfl (by simp [Value.oneCell']) (by decide) (by have := HL.out; simp; omega) (by decide) ?_; intro v5 w5 hA'; have HA5 := Lib.hid hA'; clear hA') | (refine wp_app HA3.out HB.out rfl _ _ rfl _ 1 (by simp [Act.eval]) (by simp [Act.eval]) rfl (by simp [Value.oneCell']) (by decide) (by have := HL.out; simp; omega) (by decide) ?_; intro v4 w4 hA'; have HA4 := Lib.hid hA'; clear hA')))
  all_goals (
    have H := HA6.out
    clear HA0 HA1 HA2 HA3 HA4 HA5 HA6
    go_ret
    refine ⟨_, rfl, Lib.hid ?_⟩
    refine Eq.mp (congrArg (fun q => Ap w B d0 v6 q w6) ?_) H
    clear H
    by_cases hs : dp - 1 < 0
    · have t10 : (dp - 1).tdiv 10 = -((1 - dp) / 10) := tdiv_neg hs 10
      have t100 : (dp - 1).tdiv 100 = -((1 - dp) / 100) := tdiv_neg hs 100
      have m10 : (dp - 1).tmod 10 = -((1 - dp) % 10) := tmod_neg hs 10
      unfold efgMany expCells signCell
      rw [if_pos hs, if_pos hs]
      first
        | (rw [if_pos (by omega)]; simp only [List.nil_append, List.cons_append, List.append_assoc, List.append_cancel_left_eq, List.cons.injEq, Value.int.injEq, true_and, and_true, i8, ch8, t10, t100, m10]; (try unfold wrap64); omega)
        | (rw [if_neg (by omega), if_pos (by omega)]; simp only [List.nil_append, List.cons_append, List.append_assoc, List.append_cancel_left_eq, List.cons.injEq, Value.int.injEq, true_and, and_true, i8, ch8, t10, t100, m10]; (try unfold wrap64); omega)
        | (rw [if_neg (by omega), if_neg (by omega)]; simp only [List.nil_append, List.cons_append, List.append_assoc, List.append_cancel_left_eq, List.cons.injEq, Value.int.injEq, true_and, and_true, i8, ch8, t10, t100, m10]; (try unfold wrap64); omega)
    · unfold efgMany expCells signCell
      rw [if_neg hs, if_neg hs]
      first
        | (rw [if_pos (by omega)]; simp only [List.nil_append, List.cons_append, List.append_assoc, List.append_cancel_left_eq, List.cons.injEq, Value.int.injEq, true_and, and_true, i8, ch8]; (try unfold wrap64); omega)
        | (rw [if_neg (by omega), if_pos (by omega)]; simp only [List.nil_append, List.cons_append, List.append_assoc, List.append_cancel_left_eq, List.cons.injEq, Value.int.injEq, true_and, and_true, i8, ch8]; (try unfold wrap64); omega)
        | (rw [if_neg (by omega), if_neg (by omega)]; simp only [List.nil_append, List.cons_append, List.append_assoc, List.append_cancel_left_eq, List.cons.injEq, Value.int.injEq, true_and, and_true, i8, ch8]; (try unfold wrap64); omega))
end Go.Proofs.YthjfdhkahmlolaaGreatDoor
