/- The walk of fmtEFG at 'e', any digits (printed by gen_efh.py). -/
import Derived.Test.YtiijgghholhcnaaGreatDoorJL19
import Derived.WalkMore
import Derived.LoopN
namespace Go.Proofs.YtiijgghholhcnaaGreatDoor.Re
open Go.RowKit
def ch8 (x : UInt8) : Value := .int .u8 (x.toNat : Int)
def i8 (n : Int) : Value := .int .u8 n
/-- an exponent's size in digits -/
def expCells (n : Int) : List Value := if n < 10 then [i8 48, i8 (48 + n)] else if n < 100 then [i8 (48 + n / 10), i8 (48 + n % 10)] else [i8 (48 + n / 100), i8 (48 + n / 10 % 10), i8 (48 + n % 10)]
def signCell (x : Int) : Value := i8 (if x < 0 then 45 else 43)
theorem row_cells {b : Nat} {d0 : Value} {l : List UInt8} {w w' : World} (O : Only (fun k => d0.ownBlock = some k) w w') (hb : b < w.heap.size) (hne : d0.ownBlock ≠ some b)
    (hc : ∀ j u, (l.map ch8)[j]? = some u → w.cell? ⟨b, 1 + j, none⟩ = some u) : ∀ j u, (l.map ch8)[j]? = some u → w'.cell? ((⟨b, 1, none⟩ : Addr).add j) = some u := by
  intro j u hu
  have ha : (⟨b, 1, none⟩ : Addr).add j = ⟨b, 1 + j, none⟩ := by unfold Addr.add; split <;> simp_all
  rw [ha, O.cellAt hb (fun h => hne h), hc j u hu]
/-- the text of what is printed -/
def efgOne (x : UInt8) (dp : Int) : List Value := [ch8 x] ++ [i8 101, signCell (dp - 1)] ++ expCells (if dp - 1 < 0 then 1 - dp else dp - 1)
def efgMany (x : UInt8) (l : List UInt8) (dp : Int) : List Value := [ch8 x, i8 46] ++ l.map ch8 ++ [i8 101, signCell (dp - 1)] ++ expCells (if dp - 1 < 0 then 1 - dp else dp - 1)
theorem tdiv_neg {dp : Int} (h : dp - 1 < 0) (k : Int) : (dp - 1).tdiv k = -((1 - dp) / k) := by
  rw [show dp - 1 = -(1 - dp) by omega, Int.neg_tdiv, Int.tdiv_eq_ediv_of_nonneg (by omega)]
theorem tmod_neg {dp : Int} (h : dp - 1 < 0) (k : Int) : (dp - 1).tmod k = -((1 - dp) % k) := by
  rw [show dp - 1 = -(1 - dp) by omega, Int.neg_tmod, Int.tmod_eq_emod_of_nonneg (by omega)]
set_option maxRecDepth 100000 in
set_option maxHeartbeats 8000000 in
theorem efg_1 (B b : Nat) (d0 : Value) (x : UInt8) (dp : Int) (w : World) (hB : B ≤ w.heap.size) (ho : w.ownsRow B 5 1 d0 0 [])
    (hx : w.cell? ⟨b, 0, none⟩ = some (.int .u8 (x.toNat : Int))) (he : -998 ≤ dp ∧ dp ≤ 1000) :
    Calls Tryz.prog 232 #[d0, .bool false, .slice (some ⟨b, 0, none⟩) 32 32, .int .i64 dp, .int .i64 1, .int .i64 0, .int .u8 101, .bool true] w fun e w' =>
      ∃ v, e = .returned v ∧ Hid (Ap w B d0 v (efgOne x dp) w') := by
  have HA0 := Lib.hid (Ap.start ho)
  have HB := Lib.hid hB
  have HX := hx
  clear hB ho hx
  go_enter Tryz.func232, Tryz.ntmps232
  go_wp2_with (at_builtin; (first | (exfalso; omega) | (refine wp_app HA3.out HB.out rfl _ _ rfl _ 2 (by simp [Act.eval]) (by simp [Act.eval]) rfl (by simp [Value.oneCell']) (by decide) (by simp) (by decide) ?_; intro v4 w4 hA'; have HA4 := Lib.hid hA'; clear hA') | (refine wp_app HA3.out HB.out rfl _ _ rfl _ 3 (by simp [Act.eval]) (by simp [Act.eval]) rfl (by simp [Value.oneCell']) (by decide) (by simp) (by decide) ?_; intro v4 w4 hA'; have HA4 := Lib.hid hA'; clear hA') | (refine wp_app HA2.out HB.out rfl _ _ rfl _ 1 (by simp [Act.eval]) (by simp [Act.eval]) rfl (by simp [Value.oneCell']) (by decide) (by simp) (by decide) ?_; intro v3 w3 hA'; have HA3 := Lib.hid hA'; clear hA') | (refine wp_app HA1.out HB.out rfl _ _ rfl _ 1 (by simp [Act.eval]) (by simp [Act.eval]) rfl (by simp [Value.oneCell']) (by decide) (by simp) (by decide) ?_; intro v2 w2 hA'; have HA2 := Lib.hid hA'; clear hA') | (refine wp_app HA0.out HB.out rfl _ _ rfl _ 1 (by simp [Act.eval]) (by simp [Act.eval]) rfl (by simp [Value.oneCell']) (by decide) (by simp) (by decide) ?_; intro v1 w1 hA'; have HA1 := Lib.hid hA'; clear hA')))
  all_goals (
    have H := HA4.out
    clear HA0 HA1 HA2 HA3 HA4
    go_ret
    refine ⟨_, rfl, Lib.hid ?_⟩
    refine Eq.mp (congrArg (fun q => Ap w B d0 v4 q w4) ?_) H
    clear H
    by_cases hs : dp - 1 < 0
    · have t10 : (dp - 1).tdiv 10 = -((1 - dp) / 10) := tdiv_neg hs 10
      have t100 : (dp - 1).tdiv 100 = -((1 - dp) / 100) := tdiv_neg hs 100
      have m10 : (dp - 1).tmod 10 = -((1 - dp) % 10) := tmod_neg hs 10
      unfold efgOne expCells signCell
      rw [if_pos hs, if_pos hs]
      first
        | (rw [if_pos (by omega)]; simp only [List.nil_append, List.cons_append, List.append_assoc, List.append_cancel_left_eq, List.cons.injEq, Value.int.injEq, true_and, and_true, i8, ch8, t10, t100, m10]; (try unfold wrap64); omega)
        | (rw [if_neg (by omega), if_pos (by omega)]; simp only [List.nil_append, List.cons_append, List.append_assoc, List.append_cancel_left_eq, List.cons.injEq, Value.int.injEq, true_and, and_true, i8, ch8, t10, t100, m10]; (try unfold wrap64); omega)
        | (rw [if_neg (by omega), if_neg (by omega)]; simp only [List.nil_append, List.cons_append, List.append_assoc, List.append_cancel_left_eq, List.cons.injEq, Value.int.injEq, true_and, and_true, i8, ch8, t10, t100, m10]; (try unfold wrap64); omega)
    · unfold efgOne expCells signCell
      rw [if_neg hs, if_neg hs]
      first
        | (rw [if_pos (by omega)]; simp only [List.nil_append, List.cons_append, List.append_assoc, List.append_cancel_left_eq, List.cons.injEq, Value.int.injEq, true_and, and_true, i8, ch8]; (try unfold wrap64); omega)
        | (rw [if_neg (by omega), if_pos (by omega)]; simp only [List.nil_append, List.cons_append, List.append_assoc, List.append_cancel_left_eq, List.cons.injEq, Value.int.injEq, true_and, and_true, i8, ch8]; (try unfold wrap64); omega)
        | (rw [if_neg (by omega), if_neg (by omega)]; simp only [List.nil_append, List.cons_append, List.append_assoc, List.append_cancel_left_eq, List.cons.injEq, Value.int.injEq, true_and, and_true, i8, ch8]; (try unfold wrap64); omega))
set_option maxRecDepth 100000 in
set_option maxHeartbeats 8000000 in
theorem efg_many (B b nd : Nat) (d0 : Value) (x : UInt8) (l : List UInt8) (dp : Int) (w : World) (hB : B ≤ w.heap.size) (ho : w.ownsRow B 5 1 d0 0 []) (hn : 2 ≤ nd ∧ nd ≤ 17) (hl : l.length + 1 = nd)
    (hx : w.cell? ⟨b, 0, none⟩ = some (.int .u8 (x.toNat : Int))) (hc : ∀ j u, (l.map ch8)[j]? = some u → w.cell? ⟨b, 1 + j, none⟩ = some u) (hb : b < w.heap.size) (hne : d0.ownBlock ≠ some b) (he : -998 ≤ dp ∧ dp ≤ 1000) :
    Calls Tryz.prog 232 #[d0, .bool false, .slice (some ⟨b, 0, none⟩) 32 32, .int .i64 dp, .int .i64 nd, .int .i64 ((nd : Int) - 1), .int .u8 101, .bool true] w fun e w' =>
      ∃ v, e = .returned v ∧ Hid (Ap w B d0 v (efgMany x l dp) w') := by
  have HC := Lib.hid hc
  have HL := Lib.hid hl
  clear hc hl
  have HA0 := Lib.hid (Ap.start ho)
  have HB := Lib.hid hB
  have HX := hx
  clear hB ho hx
  go_enter Tryz.func232, Tryz.ntmps232
  go_wp2_with (at_builtin; (first | (exfalso; omega) | (refine wp_appS HA2.out HB.out rfl _ _ rfl (by simp [Act.eval]) ⟨b, 1, none⟩ (nd - 1) 31 (l.map ch8) (by simp [Act.eval]) (by have := HL.out; simp; omega) (row_cells HA2.out.only hb hne HC.out) (by simp [ch8, Value.oneCell']) (by omega) (by simp) (by omega) ?_; intro v3 w3 hA'; have HA3 := Lib.hid hA'; clear hA') | (refine wp_app HA1.out HB.out rfl _ _ rfl _ 1 (by simp [Act.eval]) (by simp [Act.eval]) rfl (by simp [Value.oneCell']) (by decide) (by simp) (by decide) ?_; intro v2 w2 hA'; have HA2 := Lib.hid hA'; clear hA') | (refine wp_app HA0.out HB.out rfl _ _ rfl _ 1 (by simp [Act.eval]) (by simp [Act.eval]) rfl (by simp [Value.oneCell']) (by decide) (by simp) (by decide) ?_; intro v1 w1 hA'; have HA1 := Lib.hid hA'; clear hA')))
  refine wp_loop_rounds 1 ?_
  rw [rounds_succ]
  go_wp2_with (at_builtin; (first | (exfalso; omega) | (refine wp_app HA5.out HB.out rfl _ _ rfl _ 2 (by simp [Act.eval]) (by simp [Act.eval]) rfl (by simp [Value.oneCell']) (by decide) (by have := HL.out; simp; omega) (by decide) ?_; intro v6 w6 hA'; have HA6 := Lib.hid hA'; clear hA') | (refine wp_app HA5.out HB.out rfl _ _ rfl _ 3 (by simp [Act.eval]) (by simp [Act.eval]) rfl (by simp [Value.oneCell']) (by decide) (by have := HL.out; simp; omega) (by decide) ?_; intro v6 w6 hA'; have HA6 := Lib.hid hA'; clear hA') | (refine wp_app HA4.out HB.out rfl _ _ rfl _ 1 (by simp [Act.eval]) (by simp [Act.eval]) rfl (by simp [Value.oneCell']) (by decide) (by have := HL.out; simp; omega) (by decide) ?_; intro v5 w5 hA'; have HA5 := Lib.hid hA'; clear hA') | (refine wp_app HA3.out HB.out rfl _ _ rfl _ 1 (by simp [Act.eval]) (by simp [Act.eval]) rfl (by simp [Value.oneCell']) (by decide) (by have := HL.out; simp; omega) (by decide) ?_; intro v4 w4 hA'; have HA4 := Lib.hid hA'; clear hA')))
  all_goals (
    have H := HA6.out
    clear HA0 HA1 HA2 HA3 HA4 HA5 HA6
    go_ret
    refine ⟨_, rfl, Lib.hid ?_⟩
    refine Eq.mp (congrArg (fun q => Ap w B d0 v6 q w6) ?_) H
    clear H
    by_cases hs : dp - 1 < 0
    · have t10 : (dp - 1).tdiv 10 = -((1 - dp) / 10) := tdiv_neg hs 10
      have t100 : (dp - 1).tdiv 100 = -((1 - dp) / 100) := tdiv_neg hs 100
      have m10 : (dp - 1).tmod 10 = -((1 - dp) % 10) := tmod_neg hs 10
      unfold efgMany expCells signCell
      rw [if_pos hs, if_pos hs]
      first
        | (rw [if_pos (by omega)]; simp only [List.nil_append, List.cons_append, List.append_assoc, List.append_cancel_left_eq, List.cons.injEq, Value.int.injEq, true_and, and_true, i8, ch8, t10, t100, m10]; (try unfold wrap64); omega)
        | (rw [if_neg (by omega), if_pos (by omega)]; simp only [List.nil_append, List.cons_append, List.append_assoc, List.append_cancel_left_eq, List.cons.injEq, Value.int.injEq, true_and, and_true, i8, ch8, t10, t100, m10]; (try unfold wrap64); omega)
        | (rw [if_neg (by omega), if_neg (by omega)]; simp only [List.nil_append, List.cons_append, List.append_assoc, List.append_cancel_left_eq, List.cons.injEq, Value.int.injEq, true_and, and_true, i8, ch8, t10, t100, m10]; (try unfold wrap64); omega)
    · unfold efgMany expCells signCell
      rw [if_neg hs, if_neg hs]
      first
        | (rw [if_pos (by omega)]; simp only [List.nil_append, List.cons_append, List.append_assoc, List.append_cancel_left_eq, List.cons.injEq, Value.int.injEq, true_and, and_true, i8, ch8]; (try unfold wrap64); omega)
        | (rw [if_neg (by omega), if_pos (by omega)]; simp only [List.nil_append, List.cons_append, List.append_assoc, List.append_cancel_left_eq, List.cons.injEq, Value.int.injEq, true_and, and_true, i8, ch8]; (try unfold wrap64); omega)
        | (rw [if_neg (by omega), if_neg (by omega)]; simp only [List.nil_append, List.cons_append, List.append_assoc, List.append_cancel_left_eq, List.cons.injEq, Value.int.injEq, true_and, and_true, i8, ch8]; (try unfold wrap64); omega))
end Go.Proofs.YtiijgghholhcnaaGreatDoor.Re
