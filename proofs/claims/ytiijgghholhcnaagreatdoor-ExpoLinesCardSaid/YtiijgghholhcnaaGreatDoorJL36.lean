/- The walks of ranks.Total and ranks.May at any counts. -/
import Derived.Test.YtiijgghholhcnaaGreatDoorJL35
import Derived.OrdersHeld
import Derived.StillTail
import Derived.Deep.RegionHeld
namespace Go.Proofs.YtiijgghholhcnaaGreatDoor
open Go.RowKit
set_option maxRecDepth 1000000
/-- counts in memory -/
structure Cts (w : World) (cp : Option Addr) (n : Nat) (X : Nat → Int) (N : Nat → Nat) : Prop where
  at' : ∀ i, i < n → ∃ b o, cp = some ⟨b, o, none⟩ ∧ b < w.heap.size ∧ w.cell? ⟨b, o + i * 2, none⟩ = some (.int .i64 (X i)) ∧ w.cell? ⟨b, o + i * 2 + 1, none⟩ = some (.int .u64 (N i : Int))
theorem Cts.still {w w' : World} {cp : Option Addr} {n : Nat} {X : Nat → Int} {N : Nat → Nat} (h : Cts w cp n X N) (O : Only (fun _ => False) w w') : Cts w' cp n X N := by
  refine ⟨fun i hi => ?_⟩
  obtain ⟨b, o, h1, h2, h3, h4⟩ := h.at' i hi
  exact ⟨b, o, h1, Nat.lt_of_lt_of_le h2 O.size, (O.cellAt h2 id _).trans h3, (O.cellAt h2 id _).trans h4⟩
/-- how many values there are in the first counts -/
def totN (N : Nat → Nat) : Nat → Nat
  | 0 => 0
  | k + 1 => (totN N k + N k) % 18446744073709551616
theorem totN_lt (N : Nat → Nat) (k : Nat) : totN N k < 18446744073709551616 := by
  cases k with
  | zero => exact Nat.zero_lt_of_lt (show 0 < 18446744073709551616 by decide)
  | succ k => exact Nat.mod_lt _ (by decide)
theorem u64_wrap (x : Int) : IntKind.u64.wrap x = x % 18446744073709551616 := by
  first | rfl | simp [IntKind.wrap] | (unfold IntKind.wrap; rfl)
def TtR (w0 : World) (n : Nat) (N : Nat → Nat) (v3 v8 : Value) (w : World) : Prop :=
  ∃ i : Nat, v8 = .int .i64 (i : Int) ∧ v3 = .int .u64 (totN N i : Int) ∧ i ≤ n ∧ Only (fun _ => False) w0 w
set_option maxHeartbeats 1600000 in
theorem total_calls (cp : Option Addr) (n cap : Nat) (X : Nat → Int) (N : Nat → Nat) (w : World) (hn : n ≤ 140737488355328) (hN : ∀ i, i < n → N i < 18446744073709551616) (hC : Cts w cp n X N) :
    Calls Tryz.prog 99 #[.slice cp n cap] w fun e w' => e = .returned (.int .u64 (totN N n : Int)) ∧ Only (fun _ => False) w w' := by
  have HC := Lib.hid hC
  have HN := Lib.hid hN
  clear hC hN
  go_enter Tryz.func99, Tryz.ntmps99
  go_wp2_with fail
  go_loopw [3, 5, 8] (fun v3 _ v8 wr => TtR w n N v3 v8 wr) (fun _ _ v8 _ => n - (intOf v8).toNat)
  case atStart => exact ⟨0, rfl, rfl, Nat.zero_le _, Only.refl _ _⟩
  case round =>
    obtain ⟨i, rfl, rfl, hi, hO⟩ := hrel
    have HO := Lib.hid hO; clear hO
    by_cases h : i < n
    · obtain ⟨b, o, hcp, hbs, l0, l1⟩ := (HC.out.still HO.out).at' i h
      subst hcp
      have hT := Lib.hid (totN_lt N i)
      have hE : Hid (totN N (i + 1) = (totN N i + N i) % 18446744073709551616) := Lib.hid rfl
      have hx := Lib.hid (HN.out i h)
      have hw1 : wrap64 ((i : Int) + 1) = (i : Int) + 1 := by unfold wrap64; omega
      obtain ⟨x, hxx⟩ : ∃ x, x = X i := ⟨_, rfl⟩
      rw [← hxx] at l0; clear hxx
      generalize N i = y at *
      generalize totN N i = t at *
      go_upto_region 5 with fail
      have hv := blk_new wr (.cells #[.int .i64 x, .int .u64 (y : Int)] 79)
      have hO4 := (Only.refl (fun _ => False) wr).alloc (.cells #[.int .i64 x, .int .u64 (y : Int)] 79)
      generalize wr.alloc (.cells #[.int .i64 x, .int .u64 (y : Int)] 79) = w4 at *
      have HO4 := Lib.hid (HO.out.trans hO4)
      have y1 : w4.cell? ⟨wr.heap.size, 1, none⟩ = some (.int .u64 (y : Int)) := by rw [blk_cell hv]; rfl
      clear hO4 hv l0 l1
      go_wp2_with fail
      refine ⟨⟨i + 1, by first | rfl | exact congrArg (Value.int .i64) (by omega), ?_, by omega, HO4.out⟩, by simp only [intOf]; omega⟩
      rw [hE.out]
      refine congrArg (Value.int .u64) ?_
      rw [u64_wrap]
      omega
    · obtain rfl : i = n := by omega
      go_wp2_with fail
      go_ret
      exact ⟨rfl, HO.out⟩
/-- what keeps counts from being those of buckets: in order, none of them 0 -/
def mayA (ln : Int) (X : Nat → Int) (N : Nat → Nat) : Nat → Nat → Int
  | 0, _ => 0
  | f + 1, i => if X i < 0 ∨ ln ≤ X i then 2 else if 0 < i ∧ X i ≤ X (i - 1) then 15 else if N i = 0 then 16 else mayA ln X N f (i + 1)
/-- no more than may be -/
def mayC (N : Nat → Nat) : Nat → Nat → Nat → Int
  | 0, _, _ => 0
  | f + 1, i, left => if left < N i then 3 else mayC N f (i + 1) (left - N i)
def mayE (p : Int) (n : Nat) (X : Nat → Int) (N : Nat → Nat) : Int :=
  if lenB p = 0 then 1 else if mayA (lenB p) X N n 0 ≠ 0 then mayA (lenB p) X N n 0 else mayC N n 0 9223372036854775807
def MaR (w0 : World) (ln : Int) (n : Nat) (X : Nat → Int) (N : Nat → Nat) (v17 : Value) (w : World) : Prop :=
  ∃ i : Nat, v17 = .int .i64 (i : Int) ∧ i ≤ n ∧ Only (fun _ => False) w0 w ∧ mayA ln X N n 0 = mayA ln X N (n - i) i
def McR (w0 : World) (n : Nat) (N : Nat → Nat) (v8 v53 : Value) (w : World) : Prop :=
  ∃ i left : Nat, v53 = .int .i64 (i : Int) ∧ v8 = .int .u64 (left : Int) ∧ left ≤ 9223372036854775807 ∧ i ≤ n ∧ Only (fun _ => False) w0 w ∧ mayC N n 0 9223372036854775807 = mayC N (n - i) i left
set_option maxHeartbeats 4000000 in
theorem may_calls (p : Int) (cp : Option Addr) (n cap : Nat) (X : Nat → Int) (N : Nat → Nat) (w : World) (hn : n ≤ 140737488355328) (hN : ∀ i, i < n → N i < 18446744073709551616) (hC : Cts w cp n X N) :
    Calls Tryz.prog 98 #[.int .i64 p, .slice cp n cap] w fun e w' => e = .returned (.int .i64 (mayE p n X N)) ∧ Only (fun _ => False) w w' := by
  have HC := Lib.hid hC
  have HN := Lib.hid hN
  clear hC hN
  have KL := Lib.hid (fun w => length_calls p w)
  have HM : Hid (mayE p n X N = if lenB p = 0 then 1 else if mayA (lenB p) X N n 0 ≠ 0 then mayA (lenB p) X N n 0 else mayC N n 0 9223372036854775807) := Lib.hid rfl
  generalize mayE p n X N = D at *
  generalize lenB p = ln at *
  go_enter Tryz.func98, Tryz.ntmps98
  go_wp2_with fail
  refine (KL.out _).mono ?_
  rintro e w1 ⟨rfl, hw⟩; rw [hw]; clear hw w1
  by_cases h0 : ln = 0
  · have HM1 : Hid (D = 1) := Lib.hid (by rw [HM.out, if_pos h0])
    clear HM
    subst h0
    go_wp2_with fail
    go_ret
    refine ⟨?_, Only.refl _ w⟩
    rw [HM1.out]; rfl
  have q : (ln == 0) = false := by simp [h0]
  have HM2 : Hid (D = if mayA ln X N n 0 ≠ 0 then mayA ln X N n 0 else mayC N n 0 9223372036854775807) := Lib.hid (by rw [HM.out, if_neg h0])
  clear HM h0
  go_wp2_with fail
  clear q
  go_loopw [6, 7, 17, 22, 32, 46] (fun _ _ v17 _ _ _ wr => MaR w ln n X N v17 wr) (fun _ _ v17 _ _ _ _ => n - (intOf v17).toNat)
  case atStart => exact ⟨0, rfl, Nat.zero_le _, Only.refl _ _, rfl⟩
  case round =>
    obtain ⟨i, rfl, hi, hO, hE⟩ := hrel
    have HO := Lib.hid hO; clear hO
    have HE := Lib.hid hE; clear hE
    by_cases h : i < n
    · obtain ⟨b, o, hcp, hbs, l0, l1⟩ := (HC.out.still HO.out).at' i h
      subst hcp
      have hpr : 0 < i → wr.cell? ⟨b, o + (i - 1) * 2, none⟩ = some (.int .i64 (X (i - 1))) := fun h0 => by
        obtain ⟨b', o', e, _, l, _⟩ := (HC.out.still HO.out).at' (i - 1) (by omega)
        injection e with e; injection e with e1 e2 _; subst e1; subst e2; exact l
      have HPr := Lib.hid hpr; clear hpr
      obtain ⟨m, hm⟩ : ∃ m, n - i = m + 1 := ⟨n - i - 1, by omega⟩
      have HX : Hid (mayA ln X N n 0 = if X i < 0 ∨ ln ≤ X i then 2 else if 0 < i ∧ X i ≤ X (i - 1) then 15 else if N i = 0 then 16 else mayA ln X N m (i + 1)) := Lib.hid (by rw [HE.out, hm, mayA])
      have HMm := Lib.hid (show m = n - (i + 1) by omega)
      clear hm HE
      have HRet : Hid (∀ c, mayA ln X N n 0 = c → c ≠ 0 → D = c) := Lib.hid (fun c h h0 => by rw [HM2.out, h, if_pos h0])
      have hw1 : wrap64 ((i : Int) + 1) = (i : Int) + 1 := by unfold wrap64; omega
      generalize X i = x at *
      generalize N i = y at *
      go_upto_region 7 with fail
      have hv := blk_new wr (.cells #[.int .i64 x, .int .u64 (y : Int)] 79)
      have hO4 := (Only.refl (fun _ => False) wr).alloc (.cells #[.int .i64 x, .int .u64 (y : Int)] 79)
      have HPr4 : Hid (0 < i → (wr.alloc (.cells #[.int .i64 x, .int .u64 (y : Int)] 79)).cell? ⟨b, o + (i - 1) * 2, none⟩ = some (.int .i64 (X (i - 1)))) := Lib.hid (fun h0 => (hO4.cellAt hbs id _).trans (HPr.out h0))
      generalize wr.alloc (.cells #[.int .i64 x, .int .u64 (y : Int)] 79) = w4 at *
      have HO4 := Lib.hid (HO.out.trans hO4)
      have y0 : w4.cell? ⟨wr.heap.size, 0, none⟩ = some (.int .i64 x) := by rw [blk_cell hv]; rfl
      have y1 : w4.cell? ⟨wr.heap.size, 1, none⟩ = some (.int .u64 (y : Int)) := by rw [blk_cell hv]; rfl
      clear hO4 hv l0 l1 HPr HO
      generalize wr.heap.size = vb at *
      by_cases c1 : x < 0
      · have HD : Hid (D = 2) := Lib.hid (HRet.out 2 (by rw [HX.out, if_pos (.inl c1)]) (by decide))
        have t : decide (x < 0) = true := decide_eq_true c1
        clear c1 HX HRet HM2
        go_wp2_with fail
        go_ret
        refine ⟨?_, HO4.out⟩
        rw [HD.out]; rfl
      by_cases c2 : ln ≤ x
      · have HD : Hid (D = 2) := Lib.hid (HRet.out 2 (by rw [HX.out, if_pos (.inr c2)]) (by decide))
        have t : decide (x < 0) = false := decide_eq_false c1
        have t2 : decide (ln ≤ x) = true := decide_eq_true c2
        clear c1 c2 HX HRet HM2
        go_wp2_with fail
        go_ret
        refine ⟨?_, HO4.out⟩
        rw [HD.out]; rfl
      have t : decide (x < 0) = false := decide_eq_false c1
      have t2 : decide (ln ≤ x) = false := decide_eq_false c2
      have HX2 : Hid (mayA ln X N n 0 = if 0 < i ∧ x ≤ X (i - 1) then 15 else if y = 0 then 16 else mayA ln X N m (i + 1)) := Lib.hid (by rw [HX.out, if_neg (by rintro (e | e); exact c1 e; exact c2 e)])
      clear HX
      go_upto_region 9 with fail
      clear t t2 c1 c2
      by_cases c3 : 0 < i ∧ x ≤ X (i - 1)
      · have HD : Hid (D = 15) := Lib.hid (HRet.out 15 (by rw [HX2.out, if_pos c3]) (by decide))
        have pc := HPr4.out c3.1
        obtain ⟨j, hj⟩ : ∃ j, i = j + 1 := ⟨i - 1, by omega⟩
        have t3 : decide ((0 : Int) < (i : Int)) = true := decide_eq_true (by omega)
        have t4 : decide (x ≤ X (i - 1)) = true := decide_eq_true c3.2
        have hw2 : wrap64 ((i : Int) - 1) = (j : Int) := by unfold wrap64; omega
        rw [show i - 1 = j by omega] at pc t4
        have hw3 : IntKind.i64.wrap ((i : Int) - 1) = (j : Int) := by rw [show (i : Int) - 1 = j by omega]; exact IntWalk.i64_in _ ⟨by omega, by omega⟩
        have hjn : j < n := by omega
        have h00 : 0 < i := c3.1
        clear c3 HX2 HRet HM2 HMm HPr4 hj
        generalize X j = xp at *
        go_quiet (fail)
        go_wp2_with fail
        go_ret
        refine ⟨?_, HO4.out.drewN _⟩
        rw [HD.out]; rfl
      have HX3 : Hid (mayA ln X N n 0 = if y = 0 then 16 else mayA ln X N m (i + 1)) := Lib.hid (by rw [HX2.out, if_neg c3])
      clear HX2
      have HR : Hid (y = 0 → D = 16) := Lib.hid (fun e => HRet.out 16 (by rw [HX3.out, if_pos e]) (by decide))
      have HN0 : Hid (y ≠ 0 → mayA ln X N n 0 = mayA ln X N (n - (i + 1)) (i + 1)) := Lib.hid (fun e => by rw [HX3.out, if_neg e, HMm.out])
      clear HX3 HRet HMm
      by_cases h00 : 0 < i
      · have pc := HPr4.out h00
        obtain ⟨j, hj⟩ : ∃ j, i = j + 1 := ⟨i - 1, by omega⟩
        have t3 : decide ((0 : Int) < (i : Int)) = true := decide_eq_true (by omega)
        have t4 : decide (x ≤ X (i - 1)) = false := decide_eq_false (fun e => c3 ⟨h00, e⟩)
        have hw3 : IntKind.i64.wrap ((i : Int) - 1) = (j : Int) := by rw [show (i : Int) - 1 = j by omega]; exact IntWalk.i64_in _ ⟨by omega, by omega⟩
        rw [show i - 1 = j by omega] at pc t4
        have hjn : j < n := by omega
        clear c3 HM2 HPr4 hj
        generalize X j = xp at *
        go_quiet (fail)
        have HO5 := Lib.hid (HO4.out.drewN nq)
        have y1' : (w4.drewN nq).cell? ⟨vb, 1, none⟩ = some (.int .u64 (y : Int)) := y1
        generalize w4.drewN nq = w5 at *
        clear pc t3 t4 y0 y1 HO4
        by_cases hy : y = 0
        · have q : ((y : Int) == 0) = true := by simp [hy]
          have HD := Lib.hid (HR.out hy)
          clear hy HR HN0
          go_wp2_with fail
          go_ret
          refine ⟨?_, HO5.out⟩
          rw [HD.out]; rfl
        · have q : ((y : Int) == 0) = false := by simp [hy]
          have HE := Lib.hid (HN0.out hy)
          clear hy HR HN0
          go_wp2_with fail
          exact ⟨⟨i + 1, by first | rfl | exact congrArg (Value.int .i64) (by omega), by omega, HO5.out, HE.out⟩, by simp only [intOf]; omega⟩
      · have t3 : decide ((0 : Int) < (i : Int)) = false := decide_eq_false (by omega)
        obtain ⟨z, hz⟩ : ∃ z, z = i := ⟨_, rfl⟩
        clear c3 HM2 HPr4
        go_quiet (fail)
        have HO5 := Lib.hid (HO4.out.drewN nq)
        have y1' : (w4.drewN nq).cell? ⟨vb, 1, none⟩ = some (.int .u64 (y : Int)) := y1
        generalize w4.drewN nq = w5 at *
        clear t3 y0 y1 HO4
        by_cases hy : y = 0
        · have q : ((y : Int) == 0) = true := by simp [hy]
          have HD := Lib.hid (HR.out hy)
          clear hy HR HN0
          go_wp2_with fail
          go_ret
          refine ⟨?_, HO5.out⟩
          rw [HD.out]; rfl
        · have q : ((y : Int) == 0) = false := by simp [hy]
          have HE := Lib.hid (HN0.out hy)
          clear hy HR HN0
          go_wp2_with fail
          exact ⟨⟨i + 1, by first | rfl | exact congrArg (Value.int .i64) (by omega), by omega, HO5.out, HE.out⟩, by simp only [intOf]; omega⟩
    · obtain rfl : n = i := by omega
      have HD2 : Hid (D = mayC N n 0 9223372036854775807) := Lib.hid (by
        rw [HM2.out, if_neg (fun e => e (by rw [HE.out, Nat.sub_self]; rfl))])
      clear HE HM2
      generalize wr = w2 at *
      go_wp2_with fail
      go_loopw [8, 10, 53] (fun v8 _ v53 wq => McR w2 n N v8 v53 wq) (fun _ _ v53 _ => n - (intOf v53).toNat)
      case atStart => exact ⟨0, 9223372036854775807, rfl, rfl, Nat.le_refl _, Nat.zero_le _, Only.refl _ _, rfl⟩
      case round =>
        obtain ⟨i, left, rfl, rfl, hl, hi, hO2, hE⟩ := hrel
        have HO2 := Lib.hid (HO.out.trans hO2)
        have HOq := Lib.hid hO2
        have HE := Lib.hid hE; clear hE hO2
        by_cases h : i < n
        · obtain ⟨b, o, hcp, hbs, l0, l1⟩ := (HC.out.still HO2.out).at' i h
          subst hcp
          obtain ⟨m, hm⟩ : ∃ m, n - i = m + 1 := ⟨n - i - 1, by omega⟩
          have HX : Hid (mayC N n 0 9223372036854775807 = if left < N i then 3 else mayC N m (i + 1) (left - N i)) := Lib.hid (by rw [HE.out, hm, mayC])
          have HMm := Lib.hid (show m = n - (i + 1) by omega)
          clear hm HE
          have hx := HN.out i h
          have hw1 : wrap64 ((i : Int) + 1) = (i : Int) + 1 := by unfold wrap64; omega
          generalize X i = x at *
          generalize N i = y at *
          go_upto_region 18 with fail
          have hv := blk_new wr (.cells #[.int .i64 x, .int .u64 (y : Int)] 79)
          have hO4 := (Only.refl (fun _ => False) wr).alloc (.cells #[.int .i64 x, .int .u64 (y : Int)] 79)
          generalize wr.alloc (.cells #[.int .i64 x, .int .u64 (y : Int)] 79) = w4 at *
          have HO4 := Lib.hid (HOq.out.trans hO4)
          have y1 : w4.cell? ⟨wr.heap.size, 1, none⟩ = some (.int .u64 (y : Int)) := by rw [blk_cell hv]; rfl
          clear hO4 hv l0 l1 HO2 HOq
          by_cases c1 : left < y
          · have t : decide ((left : Int) < (y : Int)) = true := decide_eq_true (by omega)
            have HD : Hid (D = 3) := Lib.hid (by rw [HD2.out, HX.out, if_pos c1])
            clear HX HD2
            go_wp2_with fail
            go_ret
            refine ⟨?_, HO.out.trans HO4.out⟩
            rw [HD.out]; rfl
          · have t : decide ((left : Int) < (y : Int)) = false := decide_eq_false (by omega)
            have HE2 : Hid (mayC N n 0 9223372036854775807 = mayC N (n - (i + 1)) (i + 1) (left - y)) := Lib.hid (by rw [HX.out, if_neg c1, HMm.out])
            have HC1 := Lib.hid c1
            clear HX c1
            go_wp2_with fail
            refine ⟨⟨i + 1, left - y, by first | rfl | exact congrArg (Value.int .i64) (by omega), ?_, by omega, by omega, HO4.out, HE2.out⟩, by simp only [intOf]; omega⟩
            refine congrArg (Value.int .u64) ?_
            have := HC1.out
            first | omega | (rw [u64_wrap]; omega)
        · obtain rfl : i = n := by omega
          have HD : Hid (D = 0) := Lib.hid (by rw [HD2.out, HE.out, Nat.sub_self]; rfl)
          clear HD2 HE
          go_wp2_with fail
          go_ret
          refine ⟨?_, HO2.out⟩
          rw [HD.out]; rfl
end Go.Proofs.YtiijgghholhcnaaGreatDoor

/- A drawn region with a tail that waits for all: a condition S holds till the tail begins. Plain. -/
namespace Go.Proofs.YtiijgghholhcnaaGreatDoor
open Go
section
variable {P : Program} {ops : Array Oper} {Q : Exit → Act → World → Prop} {md : Region.Mode} {S : World → Prop} {n : Nat}
/-- Whatever order is picked from here on; S holds behind each operation ahead of number n. -/
def wpAnyT (P : Program) (md : Region.Mode) (ops : Array Oper) (Q : Exit → Act → World → Prop) (S : World → Prop) (n : Nat) : Nat → Array Bool → Act → World → Prop
  | 0, listed, a, w => Region.ready md ops listed = [] ∧ Q .normal a w
  | fuel + 1, listed, a, w =>
    (Region.ready md ops listed = [] → Q .normal a w) ∧
    ∀ i ∈ Region.ready md ops listed, wpOp P ops Q i (fun a' w' => (i < n → S w') ∧ wpAnyT P md ops Q S n fuel (listed.setIfInBounds i true) a' w') a w
theorem wpAny_of_T : ∀ (fuel : Nat) (listed : Array Bool) (a : Act) (w : World), wpAnyT P md ops Q S n fuel listed a w → wpAny P md ops Q fuel listed a w
  | 0, _, _, _, h => h
  | fuel + 1, _, _, _, h => ⟨h.1, fun i hi => wpOp_mono (fun a' w' h' => wpAny_of_T fuel _ a' w' h'.2) (h.2 i hi)⟩
/-- j waits for i, directly or by way of others. -/
def waitsT (md : Region.Mode) (ops : Array Oper) : Nat → Nat → Nat → Bool
  | 0, _, _ => false
  | f + 1, j, i => Region.waitsFor md ops j i || (List.range ops.size).any fun k => Region.waitsFor md ops j k && waitsT md ops f k i
/-- What is listed stands with all that it waits for. -/
def Closed (md : Region.Mode) (ops : Array Oper) (listed : Array Bool) : Prop :=
  ∀ j i, listed.getD j false = true → Region.waitsFor md ops j i = true → listed.getD i false = true
def closedB (md : Region.Mode) (ops : Array Oper) (listed : Array Bool) : Bool :=
  (List.range ops.size).all fun j => !(listed.getD j false) || match ops[j]? with
    | some oj => oj.after.all fun e => !(Region.binds md e) || listed.getD e.on false
    | none => true
theorem closedB_spec {listed : Array Bool} (h : closedB md ops listed = true) : Closed md ops listed := by
  intro j i hj hw
  obtain ⟨oj, hoj, e, he, hb, hon⟩ := Region.waitsFor_spec hw
  have hjs : j < ops.size := (Array.getElem?_eq_some_iff.1 hoj).1
  have q := (List.all_eq_true.1 h) j (List.mem_range.2 hjs)
  rw [hj, hoj] at q
  simp only [Bool.not_true, Bool.false_or] at q
  have q2 := (Array.all_eq_true'.1 q) e he
  rw [hb, hon] at q2
  simpa using q2
theorem Closed.set {listed : Array Bool} {j : Nat} (h : Closed md ops listed) (hj : j ∈ Region.ready md ops listed) : Closed md ops (listed.setIfInBounds j true) := by
  intro k i hk hw
  obtain ⟨_, oj, hoj, hall⟩ := mem_ready.1 hj
  by_cases e : j = k
  · subst e
    obtain ⟨o', ho', e, he, hb, hon⟩ := Region.waitsFor_spec hw
    have : o' = oj := Option.some.inj (ho'.symm.trans hoj)
    subst this
    rw [← hon]
    exact getD_set_true (hall e he hb)
  · rw [getD_set_ne false e] at hk
    exact getD_set_true (h k i hk hw)
theorem waitsT_listed {listed : Array Bool} (h : Closed md ops listed) {i : Nat} : ∀ (f j : Nat), listed.getD j false = true → waitsT md ops f j i = true → listed.getD i false = true
  | 0, _, _, hw => by cases hw
  | f + 1, j, hj, hw => by
    unfold waitsT at hw
    rw [Bool.or_eq_true] at hw
    rcases hw with hw | hw
    · exact h j i hj hw
    · obtain ⟨k, _, hk⟩ := List.any_eq_true.1 hw
      rw [Bool.and_eq_true] at hk
      exact waitsT_listed h f k (h j k hj hk.1) hk.2
theorem waitsT_ready {listed : Array Bool} (h : Closed md ops listed) {i t : Nat} (ht : t ∈ Region.ready md ops listed) : ∀ (f : Nat), waitsT md ops f t i = true → listed.getD i false = true
  | 0, hw => by cases hw
  | f + 1, hw => by
    obtain ⟨_, ot, hot, hall⟩ := mem_ready.1 ht
    have direct : ∀ k, Region.waitsFor md ops t k = true → listed.getD k false = true := by
      intro k hk
      obtain ⟨o', ho', e, he, hb, hon⟩ := Region.waitsFor_spec hk
      have : o' = ot := Option.some.inj (ho'.symm.trans hot)
      subst this
      rw [← hon]; exact hall e he hb
    unfold waitsT at hw
    rw [Bool.or_eq_true] at hw
    rcases hw with hw | hw
    · exact direct i hw
    · obtain ⟨k, _, hk⟩ := List.any_eq_true.1 hw
      rw [Bool.and_eq_true] at hk
      exact waitsT_listed h f k (direct k hk.1) hk.2
/-- Each operation of the tail waits for number i. -/
def tailWaits (md : Region.Mode) (ops : Array Oper) (n i : Nat) : Bool := (List.range ops.size).all fun t => decide (t < n) || waitsT md ops 6 t i
theorem wpAnyT_first {i : Nat} {oi : Oper} {v : Value} (hi : ops[i]? = some oi) (hsel : ∀ (j : Nat) (o : Oper) cs b, ops[j]? = some o → o.op ≠ .select cs b)
    (hQ : ∀ c a w, Q (.panic c) (a.put oi.dst v) w → Q (.panic c) a w) (hin : i < n) (ht : tailWaits md ops n i = true) :
    ∀ (fuel : Nat) (listed : Array Bool) (a : Act) (w : World), Closed md ops listed →
      (∀ j oj, ops[j]? = some oj → j ≠ i → listed.getD j true = false → (∀ e ∈ oj.after, Region.binds md e = true → e.on ≠ i) → oi.apart ops oj = true) →
      i ∈ Region.ready md ops listed → YieldsIf P ops S oi v a → S w →
      wpAnyT P md ops Q S n fuel (listed.setIfInBounds i true) (a.put oi.dst v) w → wpAnyT P md ops Q S n (fuel + 1) listed a w := by
  intro fuel
  induction fuel with
  | zero =>
    intro listed a w _ _ hr hy hS H
    refine ⟨fun h => (by rw [h] at hr; cases hr), fun j hj => ?_⟩
    by_cases hji : j = i
    · subst hji; exact hy.wpOp hi hS ⟨fun _ => hS, H⟩
    · have := ready_mono hj hji
      rw [H.1] at this
      cases this
  | succ fuel ih =>
    intro listed a w hcl hfree hr hy hS H
    refine ⟨fun h => (by rw [h] at hr; cases hr), fun j hj => ?_⟩
    by_cases hji : j = i
    · subst hji; exact hy.wpOp hi hS ⟨fun _ => hS, H⟩
    · have h1 := H.2 j (ready_mono hj hji)
      obtain ⟨hjun, oj, hoj, hall⟩ := mem_ready.1 hj
      have hnot : ∀ e ∈ oj.after, Region.binds md e = true → e.on ≠ i := fun e he hb heq => by
        have h1 := hall e he hb
        have h0 := (mem_ready.1 hr).1
        rw [heq] at h1
        rcases Nat.lt_or_ge i listed.size with h' | h'
        · simp [h'] at h0 h1; rw [h0] at h1; cases h1
        · simp [Array.getElem?_eq_none h'] at h1
      have hjn : j < n := by
        rcases Nat.lt_or_ge j n with h | h
        · exact h
        · exfalso
          have hjs : j < ops.size := (Array.getElem?_eq_some_iff.1 hoj).1
          have q := (List.all_eq_true.1 ht) j (List.mem_range.2 hjs)
          rw [decide_eq_false (by omega), Bool.false_or] at q
          have q2 := waitsT_ready hcl hj 6 q
          have h0 := (mem_ready.1 hr).1
          rcases Nat.lt_or_ge i listed.size with h' | h'
          · simp [h'] at h0 q2; rw [h0] at q2; cases q2
          · simp [Array.getElem?_eq_none h'] at q2
      have h2 := wpOp_putIf hoj (hfree j oj hoj hji hjun hnot) (fun cs b => hsel i oi cs b hi) (fun cs b => hsel j oj cs b hoj) hQ hy h1
      have hfree' : ∀ k ok, ops[k]? = some ok → k ≠ i → (listed.setIfInBounds j true).getD k true = false →
          (∀ e ∈ ok.after, Region.binds md e = true → e.on ≠ i) → oi.apart ops ok = true := fun k ok hk hki hun hno => by
        refine hfree k ok hk hki ?_ hno
        by_cases hjk : j = k
        · subst hjk; exact hjun
        · rw [getD_set_ne true hjk] at hun; exact hun
      refine wpOp_mono (fun a' w' h3 => ⟨fun _ => h3.2.1 hjn, ih (listed.setIfInBounds j true) a' w' (hcl.set hj) hfree' (ready_mono hr (Ne.symm hji)) h3.1 (h3.2.1 hjn) ?_⟩) h2
      rw [Array.setIfInBounds_comm _ _ hji]
      exact h3.2.2
theorem wpAnyT_take (i : Nat) {oi : Oper} {v : Value} {fuel : Nat} {listed : Array Bool} {a : Act} {w : World} (hi : ops[i]? = some oi)
    (hs : Region.noSelect ops = true) (hf : Region.free md ops listed i = true) (hr : (Region.ready md ops listed).contains i = true) (ht : (decide (i < n) && tailWaits md ops n i && closedB md ops listed) = true)
    (hQ : ∀ c a w, Q (.panic c) (a.put oi.dst v) w → Q (.panic c) a w) (hwant : Region.wanted oi (yielded ops a.tmps) = true) (hy : ∀ w, S w → (execOp a.eval oi).run P w = .ok (.value v) w) (hS : S w)
    (h : wpAnyT P md ops Q S n fuel (listed.setIfInBounds i true) (a.put oi.dst v) w) : wpAnyT P md ops Q S n (fuel + 1) listed a w := by
  rw [Bool.and_eq_true, Bool.and_eq_true] at ht
  exact wpAnyT_first hi (Region.noSelect_spec hs) hQ (of_decide_eq_true ht.1.1) ht.1.2 fuel listed a w (closedB_spec ht.2) (Region.free_spec hi hf) (by simpa using hr) (Or.inl ⟨hwant, hy⟩) hS h
/-- One alone may come up. -/
theorem wpAnyT_one (i : Nat) {o : Oper} {fuel : Nat} {listed : Array Bool} {a : Act} {w : World} (hr : Region.ready md ops listed = [i]) (ho : ops[i]? = some o)
    (h : ∀ K' : Act → World → Prop, Shut (∀ a w, (i < n → S w) → wpAnyT P md ops Q S n fuel (listed.setIfInBounds i true) a w → K' a w) → if Region.wanted o (yielded ops a.tmps) = true then Oper.wp P o a w K' Q else K' (a.put o.dst undef) w) :
    wpAnyT P md ops Q S n (fuel + 1) listed a w := by
  refine ⟨fun h0 => (by rw [hr] at h0; cases h0), fun j hj => ?_⟩
  rw [hr] at hj
  obtain rfl : j = i := by simpa using hj
  exact wpOp_step ho (fun K' hK => h K' (fun a w hS hW => hK a w ⟨hS, hW⟩))
theorem wpAnyT_done {listed : Array Bool} {a : Act} {w : World} (hr : Region.ready md ops listed = []) (h : Q .normal a w) : ∀ fuel, wpAnyT P md ops Q S n fuel listed a w
  | 0 => ⟨hr, h⟩
  | _ + 1 => ⟨fun _ => h, by rw [hr]; simp⟩
theorem wp_region_T {id : Nat} {a : Act} {w : World} (n : Nat) (S : World → Prop) (hm : P.follows .mixedOrders = true)
    (h : wpAnyT P .any ops Q S n ops.size (Array.replicate ops.size false) a w.drew) : (Code.region id ops true).wp P Q a w :=
  wp_region_any hm (wpAny_of_T _ _ _ _ h)
end
end Go.Proofs.YtiijgghholhcnaaGreatDoor
