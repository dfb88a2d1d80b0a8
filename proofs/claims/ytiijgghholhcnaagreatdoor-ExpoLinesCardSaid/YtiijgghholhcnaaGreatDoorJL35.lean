/- The walk of wide.Print at any number that is not below 0. -/
import Derived.Test.YtiijgghholhcnaaGreatDoorJL16
import Derived.Test.YtiijgghholhcnaaGreatDoorJL17
import Derived.Test.YtiijgghholhcnaaGreatDoorJL34
import Derived.Test.YtiijgghholhcnaaGreatDoorJL15
import Derived.BigQuiet
import Derived.Deep.QuietTactic
namespace Go.Proofs.YtiijgghholhcnaaGreatDoor
open Go.RowKit
set_option maxRecDepth 1000000
/-- a number of 128 bits as text -/
def wideT (h l : Nat) : List UInt8 :=
  if h = 0 then Lib.decDigits l
  else if divQ h l = 0 then Lib.decDigits (divR h l)
  else Lib.decDigits (divQ h l) ++ List.replicate (19 - (Lib.decDigits (divR h l)).length) 48 ++ Lib.decDigits (divR h l)
theorem ba_nil (l : List UInt8) : (⟨#[]⟩ : ByteArray) ++ (⟨l.toArray⟩ : ByteArray) = ⟨l.toArray⟩ := by
  apply ByteArray.ext
  simp [ByteArray.data_append]
theorem ba_app (l m : List UInt8) : (⟨l.toArray⟩ : ByteArray) ++ (⟨m.toArray⟩ : ByteArray) = ⟨(l ++ m).toArray⟩ := by
  apply ByteArray.ext
  simp [ByteArray.data_append]
theorem dec_len_le : ∀ (k u : Nat), 0 < k → u < 10 ^ k → (Lib.decDigits u).length ≤ k
  | 0, u, hk, _ => by omega
  | k + 1, u, _, h => by
    by_cases h1 : u < 10
    · rw [Lib.decDigits_one h1]; simp
    · have e : Lib.decDigits u = Lib.decDigits (u / 10) ++ [UInt8.ofNat (48 + u % 10)] := by
        rw [Lib.decDigits, dif_neg h1]
      rw [e, List.length_append, List.length_singleton]
      have hk : 0 < k := by
        rcases Nat.eq_zero_or_pos k with q | q
        · subst q; simp at h; omega
        · exact q
      have := dec_len_le k (u / 10) hk (by rw [Nat.pow_succ] at h; omega)
      omega
theorem rep_eq (c : Nat) : Lib.repeatL ([48] : List UInt8) c = List.replicate c 48 := by
  induction c with
  | zero => rfl
  | succ c ih => simp [Lib.repeatL, ih, List.replicate_succ]
theorem rep_calls0 (c : Nat) (w : World) (hc : c ≤ 1000) : Calls Tryz.prog 116 #[.string ⟨#[48]⟩, .int .i64 (c : Int)] w fun e w' => e = .returned (.string ⟨(List.replicate c (48 : UInt8)).toArray⟩) ∧ Only (fun _ => False) w w' := by
  refine (Tryz.strings_Repeat ⟨#[48]⟩ c w (by omega) (by show 1 * c ≤ _; omega)).mono ?_
  rintro e w' ⟨rfl, hB⟩
  refine ⟨?_, hB.os, hB.tape, hB.output, hB.size, fun k hk _ => hB.block k hk⟩
  rw [show (⟨#[48]⟩ : ByteArray).data.toList = [48] from rfl, rep_eq]
theorem divR_len (h l : Nat) : (Lib.decDigits (divR h l)).length ≤ 19 := by
  refine dec_len_le 19 _ (by decide) ?_
  have := Nat.mod_lt (h * 18446744073709551616 + l) (show 0 < 10000000000000000000 by decide)
  unfold divR
  have e : (10 : Nat) ^ 19 = 10000000000000000000 := by decide
  rw [e]; exact this
theorem divQ_lt (h l : Nat) (hh : h < 9223372036854775808) (hl : l < 18446744073709551616) : divQ h l < 18446744073709551616 ∧ divR h l < 18446744073709551616 := by
  unfold divQ divR; omega
theorem dec_size (u : Nat) (h : u < 18446744073709551616) : (⟨(Lib.decDigits u).toArray⟩ : ByteArray).size ≤ 20 := by
  refine dec_len_le 20 u (by decide) ?_
  have e : (10 : Nat) ^ 20 = 100000000000000000000 := by decide
  rw [e]; omega
set_option maxHeartbeats 4000000 in
theorem wprint_calls (h l : Nat) (w : World) (hh : h < 9223372036854775808) (hl : l < 18446744073709551616) (hE : Re.Tab2 w) :
    Calls Tryz.prog 64 #[.agg #[.int .i64 (h : Int), .int .u64 (l : Int)]] w fun e w' => e = .returned (.string ⟨(wideT h l).toArray⟩) ∧ Only (fun _ => False) w w' := by
  have HE := Lib.hid (fun w' (O : Only (fun _ => False) w w') => hE.still O (fun e => e))
  have KS := Lib.hid (fun w => wsize_calls h l w hh)
  have KF := Lib.hid (fun u w' hu (O : Only (fun _ => False) w w') => fmtU31_calls u w' hu (HE.out w' O))
  have t1 : decide ((h : Int) < 0) = false := decide_eq_false (by omega)
  have HQ := Lib.hid (divQ_lt h l hh hl)
  have HLN := Lib.hid (divR_len h l)
  have HHL := Lib.hid (And.intro hh hl)
  obtain ⟨D, hD⟩ : ∃ D, D = wideT h l := ⟨_, rfl⟩
  rw [← hD]
  have HD := Lib.hid hD
  clear hE hh hl hD
  go_enter Tryz.func64, Tryz.ntmps64
  go_upto_region 1 with fail
  have hb := blk_new w (.cells #[.int .i64 (h : Int), .int .u64 (l : Int)] 38)
  have hO := Lib.hid ((Only.refl (fun _ => False) w).alloc (.cells #[.int .i64 (h : Int), .int .u64 (l : Int)] 38))
  generalize w.alloc (.cells #[.int .i64 (h : Int), .int .u64 (l : Int)] 38) = w1 at *
  generalize w.heap.size = sb at *
  have c0 : w1.cell? ⟨sb, 0, none⟩ = some (.int .i64 (h : Int)) := by rw [blk_cell hb]; rfl
  have c1 : w1.cell? ⟨sb, 1, none⟩ = some (.int .u64 (l : Int)) := by rw [blk_cell hb]; rfl
  have HB := Lib.hid hb; clear hb
  go_wp2_with fail
  refine (KS.out _).mono ?_
  rintro e w2 ⟨rfl, O2⟩
  have hb2 := O2.blk HB.out (fun e => e)
  have HO2 := Lib.hid (hO.out.trans O2)
  clear c0 c1 O2 HB hO KS
  have c0 : w2.cell? ⟨sb, 0, none⟩ = some (.int .i64 (h : Int)) := by rw [blk_cell hb2]; rfl
  clear hb2
  by_cases h0 : h = 0
  · subst h0
    have HT : Hid (D = Lib.decDigits l) := Lib.hid (by rw [HD.out]; unfold wideT; rw [if_pos rfl])
    go_wp2_with fail
    refine (KF.out l _ HHL.out.2 HO2.out).mono ?_
    have hz : (⟨(Lib.decDigits l).toArray⟩ : ByteArray).size ≤ 20 := dec_size l HHL.out.2
    have e1 := ba_nil (Lib.decDigits l)
    generalize hS : (⟨(Lib.decDigits l).toArray⟩ : ByteArray) = S at *
    have HS := Lib.hid hS; clear hS
    rintro e w3 ⟨rfl, O3⟩
    have HO3 := Lib.hid (HO2.out.trans O3)
    clear O3 c0
    go_wp2_with fail
    go_ret
    refine ⟨?_, HO3.out⟩
    rw [HT.out, HS.out]
    rfl
  have t2 : ((h : Int) == 0) = false := by simp; omega
  have HT : Hid (D = if divQ h l = 0 then Lib.decDigits (divR h l) else Lib.decDigits (divQ h l) ++ List.replicate (19 - (Lib.decDigits (divR h l)).length) 48 ++ Lib.decDigits (divR h l)) := Lib.hid (by rw [HD.out]; unfold wideT; rw [if_neg h0])
  have KD := Lib.hid (fun w => div64_calls h l w (by omega) HHL.out.1 HHL.out.2)
  clear h0 HD
  generalize divQ h l = q at *
  generalize divR h l = r at *
  go_wp2_with fail
  refine (KD.out _).mono ?_
  rintro e w3 ⟨rfl, hw⟩; rw [hw]; clear hw w3
  go_wp2_with fail
  have hz : (⟨(Lib.decDigits r).toArray⟩ : ByteArray).size ≤ 19 := HLN.out
  have e1 := ba_nil (Lib.decDigits r)
  have HLr : Hid ((⟨(Lib.decDigits r).toArray⟩ : ByteArray).size = (Lib.decDigits r).length) := Lib.hid rfl
  refine (KF.out r _ HQ.out.2 HO2.out).mono ?_
  generalize hS : (⟨(Lib.decDigits r).toArray⟩ : ByteArray) = S at *
  have HS := Lib.hid hS; clear hS
  rintro e w3 ⟨rfl, O3⟩
  have HO3 := Lib.hid (HO2.out.trans O3)
  clear O3 c0 HO2
  by_cases hq : q = 0
  · subst hq
    go_wp2_with fail
    go_ret
    refine ⟨?_, HO3.out⟩
    rw [HT.out]
    simp only [if_true]
    rw [HS.out]
    rfl
  have t3 : ((q : Int) == 0) = false := by simp; omega
  have HT2 := Lib.hid (show D = Lib.decDigits q ++ List.replicate (19 - (Lib.decDigits r).length) 48 ++ Lib.decDigits r by rw [HT.out, if_neg hq])
  clear HT hq
  obtain ⟨k, hk⟩ : ∃ k, k = S.size := ⟨_, rfl⟩
  have t4 : (19 : Int) - ((k : Nat) : Int) = ((19 - k : Nat) : Int) := by omega
  have hk' : S.size = k := hk.symm
  have HK := Lib.hid hk; clear hk
  go_wp2_with fail
  have hz2 : (⟨(Lib.decDigits q).toArray⟩ : ByteArray).size ≤ 20 := dec_size q HQ.out.1
  have e2 := ba_nil (Lib.decDigits q)
  refine (KF.out q _ HQ.out.1 HO3.out).mono ?_
  generalize hQ : (⟨(Lib.decDigits q).toArray⟩ : ByteArray) = Q at *
  have HQQ := Lib.hid hQ; clear hQ
  rintro e w4 ⟨rfl, O4⟩
  have HO4 := Lib.hid (HO3.out.trans O4)
  clear O4 HO3
  go_wp2_with fail
  have hz3 : (⟨(List.replicate (19 - k) (48 : UInt8)).toArray⟩ : ByteArray).size ≤ 19 := by
    show (List.replicate (19 - k) (48 : UInt8)).length ≤ 19
    rw [List.length_replicate]; omega
  refine (rep_calls0 (19 - k) _ (by omega)).mono ?_
  generalize hR : (⟨(List.replicate (19 - k) (48 : UInt8)).toArray⟩ : ByteArray) = R at *
  have HRR := Lib.hid hR; clear hR
  rintro e w5 ⟨rfl, O5⟩
  have HO5 := Lib.hid (HO4.out.trans O5)
  clear O5 HO4
  go_wp2_with fail
  go_ret
  refine ⟨?_, HO5.out⟩
  rw [HT2.out, ← HLr.out, ← HK.out]
  refine congrArg (fun z => Ending.returned (Value.string z)) ?_
  rw [← HQQ.out, ← HRR.out, ← HS.out, ba_app, ba_app]
end Go.Proofs.YtiijgghholhcnaaGreatDoor

/- The walks of package bucket at any precision and number. -/
namespace Go.Proofs.YtiijgghholhcnaaGreatDoor
open Go.RowKit
set_option maxRecDepth 1000000
theorem bright_calls (p : Int) (w : World) : Calls Tryz.prog 156 #[.int .i64 p] w fun e w' => e = .returned (.bool (decide (1 ≤ p ∧ p ≤ 14))) ∧ w' = w := by
  by_cases h : 1 ≤ p
  · have t1 : decide ((1 : Int) ≤ p) = true := decide_eq_true h
    by_cases h2 : p ≤ 14
    · have t2 : decide (p ≤ 14) = true := decide_eq_true h2
      rw [show decide (1 ≤ p ∧ p ≤ 14) = true from decide_eq_true ⟨h, h2⟩]
      clear h h2
      go_enter Tryz.func156, Tryz.ntmps156
      go_wp2_with fail
      go_ret
      exact ⟨rfl, rfl⟩
    · have t2 : decide (p ≤ 14) = false := decide_eq_false h2
      rw [show decide (1 ≤ p ∧ p ≤ 14) = false from decide_eq_false (fun q => h2 q.2)]
      clear h h2
      go_enter Tryz.func156, Tryz.ntmps156
      go_wp2_with fail
      go_ret
      exact ⟨rfl, rfl⟩
  · have t1 : decide ((1 : Int) ≤ p) = false := decide_eq_false h
    rw [show decide (1 ≤ p ∧ p ≤ 14) = false from decide_eq_false (fun q => h q.1)]
    clear h
    go_enter Tryz.func156, Tryz.ntmps156
    go_wp2_with fail
    go_ret
    exact ⟨rfl, rfl⟩
def lenB (p : Int) : Int := if 1 ≤ p ∧ p ≤ 14 then (64 - p) * 2 ^ p.toNat else 0
theorem pow_le14 (p : Nat) (h : p ≤ 14) : (2 : Int) ^ p ≤ 16384 ∧ 1 ≤ (2 : Int) ^ p := by
  have h1 : (2 : Int) ^ p ≤ 2 ^ 14 := by exact_mod_cast Nat.pow_le_pow_right (by omega) h
  have h2 : (2 : Int) ^ 0 ≤ 2 ^ p := by exact_mod_cast Nat.pow_le_pow_right (by omega) (Nat.zero_le p)
  exact ⟨by simpa using h1, by simpa using h2⟩
theorem length_calls (p : Int) (w : World) : Calls Tryz.prog 137 #[.int .i64 p] w fun e w' => e = .returned (.int .i64 (lenB p)) ∧ w' = w := by
  have K := Lib.hid (fun w => bright_calls p w)
  by_cases h : 1 ≤ p ∧ p ≤ 14
  · obtain ⟨n, rfl⟩ : ∃ n : Nat, p = n := ⟨p.toNat, by omega⟩
    have hB : lenB n = (64 - (n : Int)) * 2 ^ n := by unfold lenB; rw [if_pos h]; rfl
    rw [hB]
    rw [show decide (1 ≤ (n : Int) ∧ (n : Int) ≤ 14) = true from decide_eq_true h] at K
    have hp := pow_le14 n (by omega)
    have hx : 0 ≤ (64 - (n : Int)) * 2 ^ n := Int.mul_nonneg (by omega) (by omega)
    have hy : (64 - (n : Int)) * 2 ^ n ≤ 64 * 16384 := Int.mul_le_mul (by omega) hp.1 (by omega) (by omega)
    have hw1 : wrap64 (64 - (n : Int)) = 64 - (n : Int) := by unfold wrap64; omega
    have hw2 : wrap64 ((64 - (n : Int)) * 2 ^ n) = (64 - (n : Int)) * 2 ^ n := by
      generalize (64 - (n : Int)) * 2 ^ n = T at *
      unfold wrap64; omega
    have HW := Lib.hid hw2
    have hm : min n 64 = n := Nat.min_eq_left (by omega)
    clear hB hp hx hy h hw2
    go_enter Tryz.func137, Tryz.ntmps137
    go_wp2_with fail
    refine (K.out _).mono ?_
    rintro e w1 ⟨rfl, hw⟩; rw [hw]; clear hw w1
    go_wp2_with fail
    go_ret
    refine ⟨ret_eq (congrArg (Value.int .i64) ?_), rfl⟩
    first | exact HW.out | (rw [hm]; exact HW.out)
  · rw [show lenB p = 0 from if_neg h]
    rw [show decide (1 ≤ p ∧ p ≤ 14) = false from decide_eq_false h] at K
    clear h
    go_enter Tryz.func137, Tryz.ntmps137
    go_wp2_with fail
    refine (K.out _).mono ?_
    rintro e w1 ⟨rfl, hw⟩; rw [hw]; clear hw w1
    go_wp2_with fail
    go_ret
    exact ⟨rfl, rfl⟩
theorem ends_arith {p i k : Nat} (hp : p ≤ 14) (hk : k + 1 = i / 2 ^ p) (hd : k + 1 < 64 - p) :
    wrap64 ((k : Int) * 2 ^ p) = (k : Int) * 2 ^ p ∧ wrap64 ((i : Int) - (k : Int) * 2 ^ p) = (i : Int) - (k : Int) * 2 ^ p ∧ wrap64 (((i : Int) - (k : Int) * 2 ^ p) * 2 ^ k) = ((i : Int) - (k : Int) * 2 ^ p) * 2 ^ k ∧ wrap64 ((2 : Int) ^ k) = 2 ^ k ∧ wrap64 ((2 : Int) ^ k - 1) = 2 ^ k - 1 := by
  have P1 : 2 ^ p ≤ 16384 := by
    have : 2 ^ p ≤ 2 ^ 14 := Nat.pow_le_pow_right (by omega) hp
    simpa using this
  have P0 : 0 < 2 ^ p := Nat.pow_pos (by omega)
  have h1 : (k + 1) * 2 ^ p ≤ i := by rw [hk]; exact Nat.div_mul_le_self _ _
  have h2 : i < (k + 2) * 2 ^ p := (Nat.div_lt_iff_lt_mul P0).1 (by omega)
  have K0 : 0 < 2 ^ k := Nat.pow_pos (by omega)
  have hKP : 2 * 2 ^ p * 2 ^ k ≤ 9223372036854775808 := by
    have e : 2 * 2 ^ p * 2 ^ k = 2 ^ (p + k + 1) := by rw [Nat.pow_succ, Nat.pow_add, Nat.mul_comm _ 2, Nat.mul_assoc]
    rw [e]
    have : 2 ^ (p + k + 1) ≤ 2 ^ 63 := Nat.pow_le_pow_right (by omega) (by omega)
    simpa using this
  have K1 : 2 ^ k ≤ 4611686018427387904 := by
    have : 2 ^ k ≤ 2 ^ 62 := Nat.pow_le_pow_right (by omega) (by omega)
    simpa using this
  rw [Nat.add_mul, Nat.one_mul] at h1
  rw [Nat.add_mul] at h2
  have hM : k * 2 ^ p ≤ 63 * 16384 := Nat.mul_le_mul (by omega) P1
  have e1 : (2 : Int) ^ p = ((2 ^ p : Nat) : Int) := by push_cast; rfl
  have e2 : (2 : Int) ^ k = ((2 ^ k : Nat) : Int) := by push_cast; rfl
  rw [e1, e2]
  generalize 2 ^ p = A at *
  generalize 2 ^ k = C at *
  have e3 : (k : Int) * (A : Int) = ((k * A : Nat) : Int) := by push_cast; rfl
  rw [e3]
  generalize k * A = M at *
  obtain ⟨D, hD⟩ : ∃ D, i = M + D := ⟨i - M, by omega⟩
  have e4 : (i : Int) - (M : Int) = (D : Int) := by omega
  rw [e4]
  have e5 : (D : Int) * (C : Int) = ((D * C : Nat) : Int) := by push_cast; rfl
  rw [e5]
  have hDC : D * C < 2 * A * C := Nat.mul_lt_mul_of_pos_right (by omega) K0
  generalize D * C = E at *
  generalize 2 * A * C = F at *
  refine ⟨?_, ?_, ?_, ?_, ?_⟩ <;> (unfold wrap64; omega)
/-- the least value of a bucket -/
def lowB (p i : Nat) : Int := if i < 2 ^ p then i else ((i : Int) - ((i / 2 ^ p - 1 : Nat) : Int) * 2 ^ p) * 2 ^ (i / 2 ^ p - 1)
/-- by how much the greatest one is above it -/
def moreB (p i : Nat) : Int := if i < 2 ^ p then 0 else 2 ^ (i / 2 ^ p - 1) - 1
set_option maxHeartbeats 4000000 in
theorem ends_in (p i : Nat) (w : World) (h1 : 1 ≤ p) (h2 : p ≤ 14) (h : (i : Int) < lenB p) : Calls Tryz.prog 117 #[.int .i64 (p : Int), .int .i64 (i : Int)] w fun e w' => e = .returned (.tuple #[.int .i64 (lowB p i), .int .i64 (moreB p i), .int .i64 0]) ∧ Only (fun _ => False) w w' := by
  have K := Lib.hid (fun w => bright_calls (p : Int) w)
  rw [show decide (1 ≤ (p : Int) ∧ (p : Int) ≤ 14) = true from decide_eq_true ⟨by omega, by omega⟩] at K
  have KL := Lib.hid (fun w => length_calls (p : Int) w)
  have t1 : decide (lenB (p : Int) ≤ (i : Int)) = false := decide_eq_false (by omega)
  have hB : lenB p = (64 - (p : Int)) * 2 ^ p := by unfold lenB; rw [if_pos ⟨by omega, by omega⟩]; rfl
  have HB := Lib.hid hB
  have HL := Lib.hid h
  generalize lenB (p : Int) = Ln at *
  have hp := pow_le14 p h2
  have hm : min p 64 = p := Nat.min_eq_left (by omega)
  have hw1 : wrap64 ((2 : Int) ^ p) = 2 ^ p := by
    generalize (2 : Int) ^ p = T at *
    unfold wrap64; omega
  have t0 : decide ((i : Int) < 0) = false := decide_eq_false (by omega)
  by_cases hi : i < 2 ^ p
  · have t2 : decide ((i : Int) < 2 ^ p) = true := decide_eq_true (by exact_mod_cast hi)
    rw [show lowB p i = i from if_pos hi, show moreB p i = 0 from if_pos hi]
    clear hB h hp hi
    go_enter Tryz.func117, Tryz.ntmps117
    go_wp2_with fail
    refine (K.out _).mono ?_
    rintro e w1 ⟨rfl, hw⟩; rw [hw]; clear hw w1
    go_wp2_with fail
    refine (KL.out _).mono ?_
    rintro e w1 ⟨rfl, hw⟩; rw [hw]; clear hw w1
    go_wp2_with fail
    go_ret3
    exact ⟨rfl, Only.refl _ w⟩
  · have hi2 : 2 ^ p ≤ i := Nat.le_of_not_lt hi
    have t2 : decide ((i : Int) < 2 ^ p) = false := decide_eq_false (by intro q; exact hi (by exact_mod_cast q))
    obtain ⟨d, hd⟩ : ∃ d, d = i / 2 ^ p := ⟨_, rfl⟩
    have hd1 : 1 ≤ d := by rw [hd]; exact (Nat.one_le_div_iff (Nat.pos_of_ne_zero (by intro q; simp at q))).2 hi2
    have hd2 : d < 64 - p := by
      rw [hd]
      refine Nat.div_lt_of_lt_mul ?_
      have := HL.out
      rw [HB.out] at this
      have e : ((64 - p : Nat) : Int) = 64 - (p : Int) := by omega
      rw [← e] at this
      rw [Nat.mul_comm]
      exact_mod_cast this
    obtain ⟨k, hk⟩ : ∃ k, k + 1 = d := ⟨d - 1, by omega⟩
    have hq : (i : Int) / 2 ^ p = (d : Int) := by rw [hd]; push_cast; rfl
    have hw2 : wrap64 ((d : Int) - 1) = (k : Int) := by unfold wrap64; omega
    have hmk : min k 64 = k := Nat.min_eq_left (by omega)
    have hlow : lowB p i = ((i : Int) - (k : Int) * 2 ^ p) * 2 ^ k := by
      unfold lowB; rw [if_neg hi, ← hd, show d - 1 = k by omega]
    have hmore : moreB p i = 2 ^ k - 1 := by unfold moreB; rw [if_neg hi, ← hd, show d - 1 = k by omega]
    rw [hlow, hmore]
    have HD := Lib.hid hd; have HK := Lib.hid hk; have HD1 := Lib.hid hd1; have HD2 := Lib.hid hd2; have HI := Lib.hid hi2; have HP := Lib.hid hp
    clear hlow hmore hd hk hd1 hd2 hi hi2 hB h hp
    go_enter Tryz.func117, Tryz.ntmps117
    go_wp2_with fail
    refine (K.out _).mono ?_
    rintro e w1 ⟨rfl, hw⟩; rw [hw]; clear hw w1
    go_wp2_with fail
    refine (KL.out _).mono ?_
    rintro e w1 ⟨rfl, hw⟩; rw [hw]; clear hw w1
    go_wp2_with fail
    go_quiet (fail)
    go_wp2_with fail
    go_ret3
    refine ⟨?_, (Only.refl _ w).drewN _⟩
    obtain ⟨a1, a2, a3, a4, a5⟩ := ends_arith (p := p) (i := i) (k := k) (by omega) (by rw [HK.out, HD.out]) (by rw [HK.out]; exact HD2.out)
    show Ending.returned (.tuple #[.int .i64 (wrap64 (wrap64 ((i : Int) - wrap64 ((k : Int) * 2 ^ p)) * 2 ^ k)), .int .i64 (wrap64 (wrap64 (2 ^ k) - 1)), .int .i64 0]) = _
    rw [a1, a2, a3, a4, a5]
theorem low_calls (p i : Nat) (w : World) (h1 : 1 ≤ p) (h2 : p ≤ 14) (h : (i : Int) < lenB p) : Calls Tryz.prog 100 #[.int .i64 (p : Int), .int .i64 (i : Int)] w fun e w' => e = .returned (.tuple #[.int .i64 (lowB p i), .int .i64 0]) ∧ Only (fun _ => False) w w' := by
  have K := Lib.hid (fun w => ends_in p i w h1 h2 h)
  clear h1 h2 h
  generalize lowB p i = a at *
  generalize moreB p i = b at *
  go_enter Tryz.func100, Tryz.ntmps100
  go_wp2_with fail
  refine (K.out _).mono ?_
  rintro e w1 ⟨rfl, hO⟩
  have HO := Lib.hid hO; clear hO
  go_wp2_with fail
  go_ret2
  exact ⟨rfl, HO.out⟩
theorem high_calls (p i : Nat) (w : World) (h1 : 1 ≤ p) (h2 : p ≤ 14) (h : (i : Int) < lenB p) : Calls Tryz.prog 65 #[.int .i64 (p : Int), .int .i64 (i : Int)] w fun e w' => e = .returned (.tuple #[.int .i64 (wrap64 (lowB p i + moreB p i)), .int .i64 0]) ∧ Only (fun _ => False) w w' := by
  have K := Lib.hid (fun w => ends_in p i w h1 h2 h)
  clear h1 h2 h
  generalize lowB p i = a at *
  generalize moreB p i = b at *
  go_enter Tryz.func65, Tryz.ntmps65
  go_wp2_with fail
  refine (K.out _).mono ?_
  rintro e w1 ⟨rfl, hO⟩
  have HO := Lib.hid hO; clear hO
  go_wp2_with fail
  go_ret2
  exact ⟨rfl, HO.out⟩
end Go.Proofs.YtiijgghholhcnaaGreatDoor
