/- The walk of label.Compare at any two descriptions. -/
import Derived.Test.YtiijgghholhcnaaGreatDoorJL14
import Derived.Test.YtiijgghholhcnaaGreatDoorJL05
import Derived.Laws.StructEq
import Derived.BigQuiet
import Derived.Deep.QuietTactic
namespace Go.Proofs.YtiijgghholhcnaaGreatDoor
open Go.RowKit
set_option maxRecDepth 1000000
theorem cmp_calls (s t : List UInt8) (w : World) : Calls Tryz.prog 58 #[.string ⟨s.toArray⟩, .string ⟨t.toArray⟩] w fun e w' => e = .returned (.int .i64 (Lib.compareBytes s t)) ∧ w' = w := Tryz.strings_Compare ⟨s.toArray⟩ ⟨t.toArray⟩ w
def pairC (p q : List UInt8 × List UInt8) : Int := if Lib.compareBytes p.1 q.1 ≠ 0 then Lib.compareBytes p.1 q.1 else Lib.compareBytes p.2 q.2
theorem clo_calls (p q : List UInt8 × List UInt8) (w : World) : Calls Tryz.prog 60 #[.agg #[.string ⟨p.1.toArray⟩, .string ⟨p.2.toArray⟩], .agg #[.string ⟨q.1.toArray⟩, .string ⟨q.2.toArray⟩]] w fun e w' => e = .returned (.int .i64 (pairC p q)) ∧ Only (fun _ => False) w w' := by
  obtain ⟨p1, p2⟩ := p
  obtain ⟨q1, q2⟩ := q
  have HP : Hid (pairC (p1, p2) (q1, q2) = if Lib.compareBytes p1 q1 ≠ 0 then Lib.compareBytes p1 q1 else Lib.compareBytes p2 q2) := Lib.hid rfl
  generalize pairC (p1, p2) (q1, q2) = D at *
  have K1 := Lib.hid (fun w => cmp_calls p1 q1 w)
  have K2 := Lib.hid (fun w => cmp_calls p2 q2 w)
  generalize Lib.compareBytes p1 q1 = c1 at *
  generalize Lib.compareBytes p2 q2 = c2 at *
  dsimp only
  go_enter Tryz.func60, Tryz.ntmps60
  go_upto_region 1 with fail
  have hA := two_cell w (.cells #[.string ⟨p1.toArray⟩, .string ⟨p2.toArray⟩] 47) #[.string ⟨q1.toArray⟩, .string ⟨q2.toArray⟩] 47
  have O1 := (Only.refl (fun _ => False) w).alloc (.cells #[.string ⟨p1.toArray⟩, .string ⟨p2.toArray⟩] 47)
  have O2 := (Only.refl (fun _ => False) (w.alloc (.cells #[.string ⟨p1.toArray⟩, .string ⟨p2.toArray⟩] 47))).alloc (.cells #[.string ⟨q1.toArray⟩, .string ⟨q2.toArray⟩] 47)
  have hB := O2.blk (blk_new w (.cells #[.string ⟨p1.toArray⟩, .string ⟨p2.toArray⟩] 47)) (fun e => e)
  have HO := Lib.hid (O1.trans O2)
  clear O1 O2
  generalize (w.alloc (.cells #[.string ⟨p1.toArray⟩, .string ⟨p2.toArray⟩] 47)).alloc (.cells #[.string ⟨q1.toArray⟩, .string ⟨q2.toArray⟩] 47) = w1 at *
  have a0 : w1.cell? ⟨w.heap.size, 0, none⟩ = some (.string ⟨p1.toArray⟩) := by rw [blk_cell hB]; rfl
  have a1 : w1.cell? ⟨w.heap.size, 1, none⟩ = some (.string ⟨p2.toArray⟩) := by rw [blk_cell hB]; rfl
  have b0 : w1.cell? ⟨w.heap.size + 1, 0, none⟩ = some (.string ⟨q1.toArray⟩) := hA 0
  have b1 : w1.cell? ⟨w.heap.size + 1, 1, none⟩ = some (.string ⟨q2.toArray⟩) := hA 1
  clear hA hB
  go_wp2_with fail
  refine (K1.out _).mono ?_
  rintro e w2 ⟨rfl, hw⟩; rw [hw]; clear hw w2
  by_cases he : c1 = 0
  case neg =>
    have q : (c1 != 0) = true := by simp [he]
    have HE := Lib.hid he; clear he
    go_wp2_with fail
    go_ret
    refine ⟨?_, HO.out⟩
    rw [HP.out, if_pos HE.out]; rfl
  subst he
  go_wp2_with fail
  refine (K2.out _).mono ?_
  rintro e w2 ⟨rfl, hw⟩; rw [hw]; clear hw w2
  go_wp2_with fail
  go_ret
  refine ⟨?_, HO.out⟩
  rw [HP.out, if_neg (fun e => e rfl)]; rfl
/-- how labels stand, from number i on -/
def labsC (A : Nat → List UInt8 × List UInt8) (n : Nat) (C : Nat → List UInt8 × List UInt8) (m : Nat) : Nat → Nat → Int
  | 0, _ => if n < m then -1 else 0
  | f + 1, i => if m ≤ i then 1 else if pairC (A i) (C i) ≠ 0 then pairC (A i) (C i) else labsC A n C m f (i + 1)
def LcC (w0 : World) (A : Nat → List UInt8 × List UInt8) (n : Nat) (C : Nat → List UInt8 × List UInt8) (m : Nat) (v13 : Value) (w : World) : Prop :=
  ∃ i : Nat, v13 = .int .i64 (i : Int) ∧ i ≤ n ∧ Only (fun _ => False) w0 w ∧ labsC A n C m n 0 = labsC A n C m (n - i) i
set_option maxHeartbeats 4000000 in
theorem labs_calls (lp lq : Option Addr) (n cn m cm : Nat) (A C : Nat → List UInt8 × List UInt8) (w : World) (hn : n ≤ 1000000) (hm : m ≤ 1000000) (hA : Lbs w lp n A) (hC : Lbs w lq m C) :
    Calls Tryz.prog 59 #[.slice lp n cn, .slice lq m cm, .func (Fn.func 60) #[] #[]] w fun e w' => e = .returned (.int .i64 (labsC A n C m n 0)) ∧ Only (fun _ => False) w w' := by
  have HA := Lib.hid hA
  have HC := Lib.hid hC
  have KC := Lib.hid (fun p q w => clo_calls p q w)
  clear hA hC
  obtain ⟨D, hD⟩ : ∃ D, D = labsC A n C m n 0 := ⟨_, rfl⟩
  rw [← hD]
  have HD := Lib.hid hD; clear hD
  go_enter Tryz.func59, Tryz.ntmps59
  go_wp2_with fail
  go_loopw [7, 8, 9, 10, 13] (fun _ _ _ _ v13 wr => LcC w A n C m v13 wr) (fun _ _ _ _ v13 _ => n - (intOf v13).toNat)
  case atStart => exact ⟨0, rfl, Nat.zero_le _, Only.refl _ _, rfl⟩
  case round =>
    obtain ⟨i, rfl, hi, hO, hE⟩ := hrel
    have HE := Lib.hid hE; clear hE
    have HO := Lib.hid hO; clear hO
    by_cases h : i < n
    · obtain ⟨b, o, hlp, hbs, l0, l1⟩ := (HA.out.still HO.out).at' i h
      subst hlp
      obtain ⟨k, hk⟩ : ∃ k, n - i = k + 1 := ⟨n - i - 1, by omega⟩
      have HX : Hid (D = if m ≤ i then 1 else if pairC (A i) (C i) ≠ 0 then pairC (A i) (C i) else labsC A n C m k (i + 1)) := Lib.hid (by rw [HD.out, HE.out, hk, labsC])
      have HK := Lib.hid (show k = n - (i + 1) by omega)
      clear hk
      have hw1 : wrap64 ((i : Int) + 1) = (i : Int) + 1 := by unfold wrap64; omega
      obtain ⟨p, hp⟩ : ∃ p, p = A i := ⟨_, rfl⟩
      rw [← hp] at l0 l1 HX
      clear hp
      go_upto_region 4 with fail
      have hv := blk_new wr (.cells #[.string ⟨p.1.toArray⟩, .string ⟨p.2.toArray⟩] 47)
      have hO4 := (Only.refl (fun _ => False) wr).alloc (.cells #[.string ⟨p.1.toArray⟩, .string ⟨p.2.toArray⟩] 47)
      generalize wr.alloc (.cells #[.string ⟨p.1.toArray⟩, .string ⟨p.2.toArray⟩] 47) = w4 at *
      have HO4 := Lib.hid (HO.out.trans hO4)
      have HV4 := Lib.hid hv
      clear hO4 hv l0 l1
      generalize wr.heap.size = vb at *
      by_cases h2 : i < m
      · have t2 : decide ((m : Int) ≤ (i : Int)) = false := decide_eq_false (by omega)
        obtain ⟨b2, o2, hlq, hbs2, r0, r1⟩ := (HC.out.still HO4.out).at' i h2
        subst hlq
        obtain ⟨q, hq⟩ : ∃ q, q = C i := ⟨_, rfl⟩
        rw [← hq] at r0 r1 HX
        clear hq
        go_upto_region 7 with fail
        have hv2 := blk_new w4 (.cells #[.string ⟨q.1.toArray⟩, .string ⟨q.2.toArray⟩] 47)
        have hO5 := (Only.refl (fun _ => False) w4).alloc (.cells #[.string ⟨q.1.toArray⟩, .string ⟨q.2.toArray⟩] 47)
        generalize w4.alloc (.cells #[.string ⟨q.1.toArray⟩, .string ⟨q.2.toArray⟩] 47) = w5 at *
        have HO5 := Lib.hid (HO4.out.trans hO5)
        have hv4 := hO5.blk HV4.out (fun e => e)
        generalize w4.heap.size = vb2 at *
        have x0 : w5.cell? ⟨vb, 0, none⟩ = some (.string ⟨p.1.toArray⟩) := by rw [blk_cell hv4]; rfl
        have x1 : w5.cell? ⟨vb, 1, none⟩ = some (.string ⟨p.2.toArray⟩) := by rw [blk_cell hv4]; rfl
        have y0 : w5.cell? ⟨vb2, 0, none⟩ = some (.string ⟨q.1.toArray⟩) := by rw [blk_cell hv2]; rfl
        have y1 : w5.cell? ⟨vb2, 1, none⟩ = some (.string ⟨q.2.toArray⟩) := by rw [blk_cell hv2]; rfl
        clear hv2 hO5 hv4 HV4 HO4 r0 r1
        go_wp2_with fail
        refine (KC.out p q _).mono ?_
        rintro e w6 ⟨rfl, hO6⟩
        have HO6 := Lib.hid (HO5.out.trans hO6)
        clear hO6 HO5 x0 x1 y0 y1
        obtain ⟨ec, hec⟩ : ∃ z, z = pairC p q := ⟨_, rfl⟩
        rw [← hec] at HX ⊢
        clear hec
        by_cases he : ec = 0
        case neg =>
          have q1 : (ec != 0) = true := by simp [he]
          have HE2 := Lib.hid he; clear he
          go_wp2_with fail
          go_ret
          refine ⟨?_, HO6.out⟩
          rw [HX.out, if_neg (by omega), if_pos HE2.out]; rfl
        subst he
        go_wp2_with fail
        refine ⟨⟨i + 1, by first | rfl | exact congrArg (Value.int .i64) (by omega), by omega, HO6.out, ?_⟩, by simp only [intOf]; omega⟩
        rw [← HD.out, HX.out, if_neg (by omega), if_neg (fun e => e rfl), HK.out]
      · have t2 : decide ((m : Int) ≤ (i : Int)) = true := decide_eq_true (by omega)
        go_wp2_with fail
        go_ret
        refine ⟨?_, HO4.out⟩
        rw [HX.out, if_pos (by omega)]; rfl
    · obtain rfl : i = n := by omega
      have t1 : decide ((i : Int) < (i : Int)) = false := decide_eq_false (by omega)
      have HX : Hid (D = if i < m then -1 else 0) := Lib.hid (by rw [HD.out, HE.out, Nat.sub_self, labsC])
      by_cases h2 : i < m
      · have t2 : decide ((i : Int) < (m : Int)) = true := decide_eq_true (by omega)
        go_wp2_with fail
        go_ret
        refine ⟨?_, HO.out⟩
        rw [HX.out, if_pos h2]; rfl
      · have t2 : decide ((i : Int) < (m : Int)) = false := decide_eq_false (by omega)
        go_wp2_with fail
        go_ret
        refine ⟨?_, HO.out⟩
        rw [HX.out, if_neg h2]; rfl
/-- how two descriptions stand -/
def descsC (n1 : List UInt8) (A : Nat → List UInt8 × List UInt8) (n : Nat) (n2 : List UInt8) (C : Nat → List UInt8 × List UInt8) (m : Nat) : Int :=
  if Lib.compareBytes n1 n2 ≠ 0 then Lib.compareBytes n1 n2 else labsC A n C m n 0
set_option maxHeartbeats 4000000 in
theorem compare_calls (k1 k2 : Int) (n1 n2 : List UInt8) (h1 h2 : Value) (lp lq : Option Addr) (n cn m cm : Nat) (A C : Nat → List UInt8 × List UInt8) (w : World) (hn : n ≤ 1000000) (hm : m ≤ 1000000) (hA : Lbs w lp n A) (hC : Lbs w lq m C)
    (e1 : ∃ s, h1 = .string s) (e2 : ∃ s, h2 = .string s) :
    Calls Tryz.prog 28 #[.agg #[.int .i64 k1, .string ⟨n1.toArray⟩, h1, .slice lp n cn], .agg #[.int .i64 k2, .string ⟨n2.toArray⟩, h2, .slice lq m cm]] w fun e w' => e = .returned (.int .i64 (descsC n1 A n n2 C m)) ∧ Only (fun _ => False) w w' := by
  obtain ⟨s1, rfl⟩ := e1
  obtain ⟨s2, rfl⟩ := e2
  have HA := Lib.hid hA
  have HC := Lib.hid hC
  have KL := Lib.hid (fun w hA hC => labs_calls lp lq n cn m cm A C w hn hm hA hC)
  have K1 := Lib.hid (fun w => cmp_calls n1 n2 w)
  have HD : Hid (descsC n1 A n n2 C m = if Lib.compareBytes n1 n2 ≠ 0 then Lib.compareBytes n1 n2 else labsC A n C m n 0) := Lib.hid rfl
  generalize descsC n1 A n n2 C m = D at *
  generalize Lib.compareBytes n1 n2 = c1 at *
  generalize labsC A n C m n 0 = c2 at *
  clear hA hC
  go_enter Tryz.func28, Tryz.ntmps28
  go_upto_region 1 with fail
  have hA := two_cell w (.cells #[.int .i64 k1, .string ⟨n1.toArray⟩, .string s1, .slice lp n cn] 36) #[.int .i64 k2, .string ⟨n2.toArray⟩, .string s2, .slice lq m cm] 36
  have O1 := (Only.refl (fun _ => False) w).alloc (.cells #[.int .i64 k1, .string ⟨n1.toArray⟩, .string s1, .slice lp n cn] 36)
  have O2 := (Only.refl (fun _ => False) (w.alloc (.cells #[.int .i64 k1, .string ⟨n1.toArray⟩, .string s1, .slice lp n cn] 36))).alloc (.cells #[.int .i64 k2, .string ⟨n2.toArray⟩, .string s2, .slice lq m cm] 36)
  have hB := O2.blk (blk_new w (.cells #[.int .i64 k1, .string ⟨n1.toArray⟩, .string s1, .slice lp n cn] 36)) (fun e => e)
  have HO := Lib.hid (O1.trans O2)
  clear O1 O2
  generalize (w.alloc (.cells #[.int .i64 k1, .string ⟨n1.toArray⟩, .string s1, .slice lp n cn] 36)).alloc (.cells #[.int .i64 k2, .string ⟨n2.toArray⟩, .string s2, .slice lq m cm] 36) = w1 at *
  have a1 : w1.cell? ⟨w.heap.size, 1, none⟩ = some (.string ⟨n1.toArray⟩) := by rw [blk_cell hB]; rfl
  have a3 : w1.cell? ⟨w.heap.size, 3, none⟩ = some (.slice lp n cn) := by rw [blk_cell hB]; rfl
  have b1 : w1.cell? ⟨w.heap.size + 1, 1, none⟩ = some (.string ⟨n2.toArray⟩) := hA 1
  have b3 : w1.cell? ⟨w.heap.size + 1, 3, none⟩ = some (.slice lq m cm) := hA 3
  clear hA hB
  go_wp2_with fail
  refine (K1.out _).mono ?_
  rintro e w2 ⟨rfl, hw⟩; rw [hw]; clear hw w2
  by_cases he : c1 = 0
  case neg =>
    have q : (c1 != 0) = true := by simp [he]
    have HE := Lib.hid he; clear he
    go_wp2_with fail
    go_ret
    refine ⟨?_, HO.out⟩
    rw [HD.out, if_pos HE.out]; rfl
  subst he
  go_wp2_with fail
  refine (KL.out _ (HA.out.still HO.out) (HC.out.still HO.out)).mono ?_
  rintro e w2 ⟨rfl, hO2⟩
  have HO2 := Lib.hid (HO.out.trans hO2); clear hO2
  go_wp2_with fail
  go_ret
  refine ⟨?_, HO2.out⟩
  rw [HD.out, if_neg (fun e => e rfl)]; rfl
end Go.Proofs.YtiijgghholhcnaaGreatDoor

/- The walks of wide.Add, snap.times, wide.Compare, wide.Sign at any numbers. -/
namespace Go.Proofs.YtiijgghholhcnaaGreatDoor
open Go.RowKit
def lowOf (n : Nat) : Nat := n % 18446744073709551616
def carOf (n : Nat) : Nat := n / 18446744073709551616
theorem run_badd0 (x y : Int) (w : World) : Sem.run Tryz.prog (callFunc 138 #[.int .u64 x, .int .u64 y, .int .u64 0]) w = .ok (.value (.tuple #[.int .u64 (lowOf (x.toNat + y.toNat + 0) : Nat), .int .u64 (carOf (x.toNat + y.toNat + 0) : Nat)])) w := by kernel_rfl
theorem run_badd1 (x y : Int) (w : World) : Sem.run Tryz.prog (callFunc 138 #[.int .u64 x, .int .u64 y, .int .u64 1]) w = .ok (.value (.tuple #[.int .u64 (lowOf (x.toNat + y.toNat + 1) : Nat), .int .u64 (carOf (x.toNat + y.toNat + 1) : Nat)])) w := by kernel_rfl
theorem run_badd (x y : Int) (c : Nat) (hc : c ≤ 1) (w : World) : Sem.run Tryz.prog (callFunc 138 #[.int .u64 x, .int .u64 y, .int .u64 c]) w = .ok (.value (.tuple #[.int .u64 (lowOf (x.toNat + y.toNat + c) : Nat), .int .u64 (carOf (x.toNat + y.toNat + c) : Nat)])) w := by
  have h : c = 0 ∨ c = 1 := by omega
  rcases h with rfl | rfl
  · exact run_badd0 x y w
  · exact run_badd1 x y w
theorem car_le (x y : Int) (h2 : x ≤ 18446744073709551615) (h4 : y ≤ 18446744073709551615) : carOf (x.toNat + y.toNat) ≤ 1 := by unfold carOf; omega
/-- the low half, and the high half, of a sum -/
def loSum (al bl : Int) : Nat := lowOf (al.toNat + bl.toNat)
def hiSum (ah al bh bl : Int) : Int := wrap64 (lowOf ((IntKind.u64.wrap ah).toNat + (IntKind.u64.wrap bh).toNat + carOf (al.toNat + bl.toNat)) : Nat)
set_option maxRecDepth 100000 in
set_option maxHeartbeats 1000000 in
theorem wide_add (ah al bh bl : Int) (w : World) (h2 : al ≤ 18446744073709551615) (h4 : bl ≤ 18446744073709551615) :
    Calls Tryz.prog 101 #[.agg #[.int .i64 ah, .int .u64 al], .agg #[.int .i64 bh, .int .u64 bl]] w fun e w' => e = .returned (.agg #[.int .i64 (hiSum ah al bh bl), .int .u64 (loSum al bl : Nat)]) ∧ Only (fun _ => False) w w' := by
  have k0 := run_badd0
  have k1 := run_badd (IntKind.u64.wrap ah) (IntKind.u64.wrap bh) _ (car_le al bl h2 h4)
  clear h2 h4
  go_enter Tryz.func101, Tryz.ntmps101
  go_wp2_with fail
  refine bodyPost_ret (v := .agg #[.int .i64 (hiSum ah al bh bl), .int .u64 (loSum al bl : Nat)]) (by simp [results, Tryz.results101, go_sem]; exact ⟨rfl, rfl⟩) rfl ⟨rfl, ?_⟩
  exact (((Only.refl _ w).alloc _).alloc _).alloc _
set_option maxRecDepth 1000000
theorem mul_calls (x y : Nat) (w : World) (hx : x < 18446744073709551616) (hy : y < 18446744073709551616) : Calls Tryz.prog 139 #[.int .u64 x, .int .u64 y] w fun e w' => e = .returned (.tuple #[.int .u64 ((x * y / 18446744073709551616 : Nat) : Int), .int .u64 ((x * y % 18446744073709551616 : Nat) : Int)]) ∧ w' = w := by
  have K := Lib.hid (Tryz.bits_Mul64 x y hx hy w)
  go_enter Tryz.func139, Tryz.ntmps139
  go_wp2_with fail
  refine K.out.mono ?_
  rintro e w1 ⟨rfl, hw⟩; rw [hw]; clear hw w1
  go_wp2_with fail
  go_ret2
  exact ⟨rfl, rfl⟩
/-- a value, taken so often -/
def timesHi (v n : Nat) : Int := wrap64 ((v * n / 18446744073709551616 : Nat) : Int)
set_option maxHeartbeats 1000000 in
theorem times_calls (v n : Nat) (w : World) (hv : v < 9223372036854775808) (hn : n < 18446744073709551616) : Calls Tryz.prog 102 #[.int .i64 v, .int .u64 n] w fun e w' => e = .returned (.agg #[.int .i64 (timesHi v n), .int .u64 ((v * n % 18446744073709551616 : Nat) : Int)]) ∧ Only (fun _ => False) w w' := by
  have K := Lib.hid (fun w => mul_calls v n w (by omega) hn)
  have hc : IntKind.u64.wrap (v : Int) = (v : Int) := IntWalk.u64_in _ ⟨by omega, by omega⟩
  unfold timesHi
  generalize v * n / 18446744073709551616 = h at *
  generalize v * n % 18446744073709551616 = l at *
  go_enter Tryz.func102, Tryz.ntmps102
  go_wp2_with fail
  refine (K.out _).mono ?_
  rintro e w1 ⟨rfl, hw⟩; rw [hw]; clear hw w1
  go_wp2_with fail
  refine bodyPost_ret (v := .agg #[.int .i64 (wrap64 (h : Int)), .int .u64 (l : Int)]) (by simp [results, Tryz.results102, go_sem]) rfl ⟨rfl, ?_⟩
  exact (Only.refl _ w).alloc _
theorem run_ne38 (h l h' l' : Int) (w : World) : Sem.run Tryz.prog (binOp .neq 38 (.agg #[.int .i64 h, .int .u64 l]) (.agg #[.int .i64 h', .int .u64 l'])) w = .ok (.bool (!(h == h' && l == l'))) w := by
  have u3 := Tryz.underlying2
  have u4 := Tryz.underlying24
  have hS : Tryz.prog.underlying 38 = some (.struct (Tryz.prog.fieldsOf 38)) := by kernel_rfl
  have hp : Tryz.prog.stoodInHeld 38 = false := by kernel_rfl
  rw [run_neq_struct, show (10000 : Nat) = 9999 + 1 from rfl, run_equalIn_struct w 9999 38 _ _ hS hp]
  simp only [Program.fieldsOf, Tryz.underlying38]
  go_simp
  by_cases h1 : h = h' <;> by_cases h2 : l = l' <;> simp_all [go_sem]
theorem run_eq38 (h l h' l' : Int) (w : World) : Sem.run Tryz.prog (binOp .eql 38 (.agg #[.int .i64 h, .int .u64 l]) (.agg #[.int .i64 h', .int .u64 l'])) w = .ok (.bool (h == h' && l == l')) w := by
  have u3 := Tryz.underlying2
  have u4 := Tryz.underlying24
  have hS : Tryz.prog.underlying 38 = some (.struct (Tryz.prog.fieldsOf 38)) := by kernel_rfl
  have hp : Tryz.prog.stoodInHeld 38 = false := by kernel_rfl
  rw [run_eql_struct, show (10000 : Nat) = 9999 + 1 from rfl, run_equalIn_struct w 9999 38 _ _ hS hp]
  simp only [Program.fieldsOf, Tryz.underlying38]
  go_simp
  by_cases h1 : h = h' <;> by_cases h2 : l = l' <;> simp_all [go_sem]
/-- how two numbers stand -/
def cmpW (h1 l1 h2 l2 : Int) : Int := if h1 = h2 ∧ l1 = l2 then 0 else if h1 < h2 ∨ (h1 = h2 ∧ l1 < l2) then -1 else 1
set_option maxHeartbeats 1000000 in
theorem wcompare_calls (h1 l1 h2 l2 : Int) (w : World) : Calls Tryz.prog 97 #[.agg #[.int .i64 h1, .int .u64 l1], .agg #[.int .i64 h2, .int .u64 l2]] w fun e w' => e = .returned (.int .i64 (cmpW h1 l1 h2 l2)) ∧ Only (fun _ => False) w w' := by
  have k := fun w => run_eq38 h1 l1 h2 l2 w
  by_cases c0 : h1 = h2 ∧ l1 = l2
  · obtain ⟨rfl, rfl⟩ := c0
    rw [show cmpW h1 l1 h1 l1 = 0 from if_pos ⟨rfl, rfl⟩]
    have q : (h1 == h1 && l1 == l1) = true := by simp
    go_enter Tryz.func97, Tryz.ntmps97
    go_wp2_with fail
    go_ret
    exact ⟨rfl, ((Only.refl _ w).alloc _).alloc _⟩
  have q : (h1 == h2 && l1 == l2) = false := by
    rw [Bool.and_eq_false_iff]
    by_cases e : h1 = h2
    · right; simp; exact fun e2 => c0 ⟨e, e2⟩
    · left; simpa using e
  rw [q] at k
  by_cases c1 : h1 < h2
  · rw [show cmpW h1 l1 h2 l2 = -1 by unfold cmpW; rw [if_neg c0, if_pos (.inl c1)]]
    have t1 : decide (h1 < h2) = true := decide_eq_true c1
    clear q c0 c1
    go_enter Tryz.func97, Tryz.ntmps97
    go_wp2_with fail
    go_ret
    exact ⟨rfl, ((Only.refl _ w).alloc _).alloc _⟩
  have t1 : decide (h1 < h2) = false := decide_eq_false c1
  by_cases c2 : h1 = h2
  · subst c2
    have t2 : (h1 == h1) = true := by simp
    by_cases c3 : l1 < l2
    · rw [show cmpW h1 l1 h1 l2 = -1 by unfold cmpW; rw [if_neg c0, if_pos (.inr ⟨rfl, c3⟩)]]
      have t3 : decide (l1 < l2) = true := decide_eq_true c3
      clear q c0 c1 c3
      go_enter Tryz.func97, Tryz.ntmps97
      go_wp2_with fail
      go_ret
      exact ⟨rfl, ((Only.refl _ w).alloc _).alloc _⟩
    · rw [show cmpW h1 l1 h1 l2 = 1 by unfold cmpW; rw [if_neg c0, if_neg (by omega)]]
      have t3 : decide (l1 < l2) = false := decide_eq_false c3
      clear q c0 c1 c3
      go_enter Tryz.func97, Tryz.ntmps97
      go_wp2_with fail
      go_ret
      exact ⟨rfl, ((Only.refl _ w).alloc _).alloc _⟩
  · have t2 : (h1 == h2) = false := by simpa using c2
    rw [show cmpW h1 l1 h2 l2 = 1 by unfold cmpW; rw [if_neg c0, if_neg (by omega)]]
    clear q c0 c1 c2
    go_enter Tryz.func97, Tryz.ntmps97
    go_wp2_with fail
    go_ret
    exact ⟨rfl, ((Only.refl _ w).alloc _).alloc _⟩
theorem wsign_calls (h l : Int) (w : World) : Calls Tryz.prog 54 #[.agg #[.int .i64 h, .int .u64 l]] w fun e w' => e = .returned (.int .i64 (cmpW h l 0 0)) ∧ Only (fun _ => False) w w' := by
  have K := Lib.hid (fun w => wcompare_calls h l 0 0 w)
  generalize cmpW h l 0 0 = D at *
  go_enter Tryz.func54, Tryz.ntmps54
  go_wp2_with fail
  refine (K.out _).mono ?_
  rintro e w1 ⟨rfl, hO⟩
  have HO := Lib.hid (((Only.refl (fun _ => False) w).alloc _).trans hO); clear hO
  go_wp2_with fail
  go_ret
  exact ⟨rfl, HO.out⟩
end Go.Proofs.YtiijgghholhcnaaGreatDoor

/- The walk of wide.size at any number that is not below 0. -/
namespace Go.Proofs.YtiijgghholhcnaaGreatDoor
open Go.RowKit
set_option maxRecDepth 1000000
theorem wsize_calls (h l : Nat) (w : World) (hh : h < 9223372036854775808) : Calls Tryz.prog 114 #[.agg #[.int .i64 (h : Int), .int .u64 (l : Int)]] w fun e w' => e = .returned (.tuple #[.int .u64 (h : Int), .int .u64 (l : Int)]) ∧ Only (fun _ => False) w w' := by
  have t : decide ((h : Int) < 0) = false := decide_eq_false (by omega)
  have hc : IntKind.u64.wrap (h : Int) = (h : Int) := IntWalk.u64_in _ ⟨by omega, by omega⟩
  go_enter Tryz.func114, Tryz.ntmps114
  go_wp2_with fail
  go_quiet (fail)
  go_wp2_with fail
  go_ret2
  first
    | exact ⟨rfl, ((Only.refl _ w).alloc _).drewN _⟩
    | (refine ⟨?_, ((Only.refl _ w).alloc _).drewN _⟩; simp [hc])
end Go.Proofs.YtiijgghholhcnaaGreatDoor
