/- The walks of the reference's floats. -/
import Derived.Test.YtimiojckinpfdaaRows
import Derived.Deep.QuietTactic
import Derived.BigQuiet
import Derived.Deep.DeepCutAuto
import Derived.StillTailTactics
import Derived.Deep.RegionWith
import Derived.Test.YtimiojckinpfdaaJnValuese
namespace Go.Proofs.Ytimiojckinpfdaa.Pq
open Go.RowKit Flt

theorem nat_mag (a : Nat) (_h : a < 18446744073709551616) : a &&& (18446744073709551615 - 9223372036854775808) = mag a := by
  have := Nat.and_two_pow_sub_one_eq_mod a 63
  simpa [mag] using this
theorem mag_bits (a : Nat) (h : a < 18446744073709551616) : bits BinOp.andNot IntKind.u64 (a : Int) 9223372036854775808 = ((mag a : Nat) : Int) := by
  have := u64_andNot_nat a 9223372036854775808 h (by omega)
  rw [nat_mag a h] at this
  exact this

set_option maxHeartbeats 400000 in
theorem isnan_any (a : Nat) (w : World) (ha : a < 18446744073709551616) :
    Calls Try.prog 95 #[.int .u64 a] w fun e w' => e = .returned (.bool (nan a)) ∧ w = w' := by
  have hm := mag_bits a ha
  go_enter Try.func95, Try.ntmps95
  go_wp2
  go_ret
  exact ⟨ret_eq (by unfold nan; exact congrArg Value.bool (decide_eq_decide.2 Int.ofNat_lt)), rfl⟩

def lowbit (m : Nat) : Nat := m % 2
def low3 (m : Nat) : Nat := m % 8
theorem and1 (m : Nat) (h : m < 18446744073709551616) : bits BinOp.and IntKind.u64 (m : Int) 1 = ((lowbit m : Nat) : Int) := by
  have := u64_and_nat m 1 h (by omega)
  rw [nat_mask1] at this; exact this
theorem and7 (m : Nat) (h : m < 18446744073709551616) : bits BinOp.and IntKind.u64 (m : Int) 7 = ((low3 m : Nat) : Int) := by
  have := u64_and_nat m 7 h (by omega)
  rw [nat_mask3] at this; exact this
theorem or_stk (m : Nat) (h : m < 18446744073709551616) : bits BinOp.or IntKind.u64 ((m : Int) / 2) ((lowbit m : Nat) : Int) = ((stk m 1 : Nat) : Int) := by
  have := u64_or_nat (m / 2) (lowbit m) (by omega) (by unfold lowbit; omega)
  rw [show ((m : Int) / 2) = ((m / 2 : Nat) : Int) by omega, this]
  congr 1
  unfold stk lowbit
  have h1 : m % 2 = 0 ∨ m % 2 = 1 := by omega
  rw [show (2 : Nat) ^ 1 = 2 from rfl]
  rcases h1 with h1 | h1
  · rw [h1]; simp
  · rw [h1, if_neg (by omega)]
    have h2 := nat_mask1 (m / 2)
    have hor : m / 2 ||| 1 = m / 2 / 2 * 2 + 1 := by
      have e : m / 2 = m / 2 / 2 * 2 + m / 2 % 2 := by omega
      have j := nat_join 1 (m / 2 / 2 * 2) 1 (by simp) (by decide)
      rcases (show m / 2 % 2 = 0 ∨ m / 2 % 2 = 1 by omega) with q | q
      · rw [q] at e
        rw [Nat.add_zero] at e
        rw [← j]; congr 1
      · have e2 : m / 2 = m / 2 / 2 * 2 ||| 1 := by rw [j]; omega
        have : m / 2 ||| 1 = (m / 2 / 2 * 2 ||| 1) ||| 1 := by rw [← e2]
        rw [this, Nat.or_assoc, Nat.or_self, j]
    exact hor

structure PK (m : Nat) (e : Int) (m' : Nat) (e' : Int) : Prop where
  same : rung m' (e' - 3) = rung m (e - 3)
  lo : -1074 ≤ e'
  hi : e' ≤ 972
theorem stk1_le (m : Nat) : stk m 1 ≤ m / 2 / 2 * 2 + 1 := by unfold stk; rw [show (2 : Nat) ^ 1 = 2 from rfl]; split <;> omega
theorem stk1_ge (m : Nat) : m / 2 ≤ stk m 1 := by unfold stk; rw [show (2 : Nat) ^ 1 = 2 from rfl]; split <;> omega

def lowfrac (k : Nat) : Nat := k % 4503599627370496
theorem and_frac (k : Nat) (h : k < 18446744073709551616) : bits BinOp.and IntKind.u64 (k : Int) 4503599627370495 = ((lowfrac k : Nat) : Int) := by
  have h1 := u64_and_nat k 4503599627370495 h (by omega)
  have h2 := Nat.and_two_pow_sub_one_eq_mod k 52
  rw [show (2 ^ 52 - 1 : Nat) = 4503599627370495 from rfl] at h2
  rw [h2] at h1; exact h1
theorem or_exp (E : Int) (y : Nat) (h0 : 0 ≤ E) (h1 : E ≤ 2048) (hy : y < 4503599627370496) : bits BinOp.or IntKind.u64 (E * 4503599627370496) (y : Int) = ((E.toNat * 4503599627370496 + y : Nat) : Int) := by
  obtain ⟨n, rfl⟩ := Int.eq_ofNat_of_zero_le h0
  have h2 := u64_or_nat (n * 4503599627370496) y (by omega) (by omega)
  have h3 := nat_join 52 (n * 4503599627370496) y (by rw [show (2 ^ 52 : Nat) = 4503599627370496 from rfl]; exact Nat.mul_mod_left _ _) (by rw [show (2 ^ 52 : Nat) = 4503599627370496 from rfl]; exact hy)
  rw [h3] at h2
  rw [Int.toNat_natCast, ← h2]
  congr 1
theorem or_sign (P : Nat) (h : P < 9223372036854775808) : bits BinOp.or IntKind.u64 (P : Int) 9223372036854775808 = ((9223372036854775808 + P : Nat) : Int) := by
  have h2 := u64_or_nat P 9223372036854775808 (by omega) (by omega)
  have h3 := nat_join 63 9223372036854775808 P (by decide) (by rw [show (2 ^ 63 : Nat) = 9223372036854775808 from rfl]; exact h)
  rw [Nat.or_comm, h3] at h2
  exact h2
theorem rung_le (m : Nat) (p : Int) : rung m p ≤ 9218868437227405312 := by
  unfold rung; split
  · omega
  · exact Nat.min_le_right _ _
theorem pack2_a (f : Int) (h : 2047 ≤ f + 1 + 1075) : pack2 9007199254740992 f = 9218868437227405312 := by
  unfold pack2; dsimp only; rw [if_pos rfl, if_pos rfl, if_pos (by omega)]
theorem pack2_b (f : Int) (h : ¬ 2047 ≤ f + 1 + 1075) : pack2 9007199254740992 f = (f + 1 + 1075).toNat * 4503599627370496 + 0 := by
  unfold pack2; dsimp only; rw [if_pos rfl, if_pos rfl, if_neg (by omega), if_pos (by omega)]
theorem pack2_c (k : Nat) (f : Int) (hk : ¬ k = 9007199254740992) (h : 2047 ≤ f + 1075) : pack2 k f = 9218868437227405312 := by
  unfold pack2; dsimp only; rw [if_neg hk, if_neg hk, if_pos (by omega)]
theorem pack2_d (k : Nat) (f : Int) (hk : ¬ k = 9007199254740992) (h2 : 4503599627370496 ≤ k) (h : ¬ 2047 ≤ f + 1075) : pack2 k f = (f + 1075).toNat * 4503599627370496 + lowfrac k := by
  unfold pack2 lowfrac; dsimp only; rw [if_neg hk, if_neg hk, if_neg (by omega), if_pos h2]
theorem pack2_e (k : Nat) (f : Int) (hk : ¬ k = 9007199254740992) (h2 : ¬ 4503599627370496 ≤ k) (h : ¬ 2047 ≤ f + 1075) : pack2 k f = k := by
  unfold pack2; dsimp only; rw [if_neg hk, if_neg hk, if_neg (by omega), if_neg h2]

def up3 (m : Nat) : Bool := decide (4 < m % 8) || (m % 8 == 4 && m / 8 % 2 == 1)
theorem pack1_up (m : Nat) : pack1 m = if up3 m then m / 8 + 1 else m / 8 := by
  unfold pack1 up3
  by_cases h1 : 4 < m % 8
  · simp [h1]
  · by_cases h2 : m % 8 = 4 ∧ m / 8 % 2 = 1
    · simp [h2.1, h2.2]
    · have : (m % 8 == 4 && m / 8 % 2 == 1) = false := by
        rw [Bool.and_eq_false_imp]; intro a; rw [beq_eq_false_iff_ne]; exact fun b => h2 ⟨by simpa using a, b⟩
      simp [h1, h2, this]
theorem up_a (n : Nat) (h : 4 < n % 8) : up3 n = true := by unfold up3; simp [h]
theorem up_b (n : Nat) (h : n % 8 = 4) (k : n / 8 % 2 = 1) : up3 n = true := by unfold up3; simp [h, k]
theorem up_c (n : Nat) (h : n % 8 = 4) (k : ¬ n / 8 % 2 = 1) : up3 n = false := by unfold up3; simp [h, k]
theorem up_d (n : Nat) (h : ¬ 4 < n % 8) (k : ¬ n % 8 = 4) : up3 n = false := by unfold up3; simp [h, k]

set_option maxRecDepth 100000 in
set_option maxHeartbeats 1000000 in
theorem packed_any (s : Bool) (m : Nat) (e : Int) (w : World) (hm : m < 144115188075855872) (h1 : -1074 ≤ e) (h2 : e ≤ 971) :
    Calls Try.prog 99 #[.bool s, .int .u64 m, .int .i64 e] w fun e1 w' => e1 = .returned (.int .u64 (D.word s (rung m (e - 3)) : Nat)) ∧ w = w' := by
  go_enter Try.func99, Try.ntmps99
  go_wp2
  go_loop [1, 2] (fun a b => ∃ (m' : Nat) (e' : Int), a = .int .u64 m' ∧ b = .int .i64 e' ∧ PK m e m' e' ∧ m' < 144115188075855872 ∧ (72057594037927936 ≤ m' → m' = m ∧ e' = e)) (fun a _ => (intOf a).toNat)
  case atStart => exact ⟨m, e, rfl, rfl, ⟨rfl, h1, by omega⟩, hm, fun _ => ⟨rfl, rfl⟩⟩
  case round =>
    obtain ⟨m', e', rfl, rfl, hpk, hm', hback⟩ := hrel
    by_cases hge : 72057594037927936 ≤ m'
    · obtain ⟨rfl, rfl⟩ := hback hge
      have r1 := and1 m' (by omega)
      have r2 := or_stk m' (by omega)
      have hpk2 : Hid (PK m' e' (stk m' 1) (e' + 1)) := by
        refine ⟨?_, by omega, by omega⟩
        rw [rung_stk _ _ _ (by rw [show (2 : Nat) ^ 1 = 2 from rfl]; omega)]
        congr 1; omega
      have l1 := Lib.hid (stk1_le m')
      have ht : decide ((72057594037927936 : Int) ≤ (m' : Int)) = true := by rw [decide_eq_true_iff]; omega
      have hm'' := Lib.hid hm'
      have hge' := Lib.hid hge
      have hm0 := Lib.hid hm
      clear hpk hback hm' hge hm
      go_wp2
      go_round
      case rel => exact ⟨stk m' 1, e' + 1, rfl, rfl, hpk2.out, by have := l1.out; have := hm''.out; omega, by have := l1.out; have := hm''.out; omega⟩
      case measure => have := l1.out; have := hge'.out; simp [intOf]; omega
    · have ht : decide ((72057594037927936 : Int) ≤ (m' : Int)) = false := by rw [decide_eq_false_iff_not]; omega
      have hge' := Lib.hid hge
      have hm0 := Lib.hid hm
      clear hback hm' hge hm
      go_wp2
      clear ht
      go_loop [1, 2] (fun a b => ∃ (n : Nat) (f : Int), a = .int .u64 n ∧ b = .int .i64 f ∧ PK m e n f ∧ n < 72057594037927936) (fun _ b => (intOf b + 1074).toNat)
      case atStart => exact ⟨m', e', rfl, rfl, hpk, by have := hge'.out; omega⟩
      case round =>
        obtain ⟨n, f, rfl, rfl, hpn, hn⟩ := hrel
        have hlo := hpn.lo
        have hhi := hpn.hi
        by_cases hsm : n < 36028797018963968 ∧ -1074 < f
        · obtain ⟨q1, q2⟩ := hsm
          have hpk2 : Hid (PK m e (n * 2 ^ 1) (f - 1)) := by
            refine ⟨?_, by omega, by omega⟩
            rw [rung_scale, ← hpn.same]
            congr 1; omega
          have t1 : decide ((n : Int) < 36028797018963968) = true := by rw [decide_eq_true_iff]; omega
          have hwr : Hid (IntKind.u64.wrap ((n : Int) * 2) = ((n * 2 ^ 1 : Nat) : Int)) := by show _ = _; rw [IntKind.wrap_u64]; omega
          have hsz : Hid (n * 2 ^ 1 < 72057594037927936) := by show _ < _; omega
          have q1' := Lib.hid q1
          clear hpn hpk hn q1
          go_wp2
          go_round
          case rel => exact ⟨n * 2 ^ 1, f - 1, by rw [hwr.out], rfl, hpk2.out, hsz.out⟩
          case measure => simp [intOf]; omega
        · have hfin := pack_final n f hn (by omega) hlo
          rw [hpn.same] at hfin
          have hfin' := Lib.hid hfin
          have hn' := Lib.hid hn
          have r3 := and7 n (by omega)
          have hq : (n : Int) / 8 = ((n / 8 : Nat) : Int) := by omega
          have hq8 : Hid (n / 8 < 9007199254740992) := by show _ < _; omega
          have r4 := and1 (n / 8) (by omega)
          have hl3 : Hid (low3 n = n % 8) := rfl
          have hlb : Hid (lowbit (n / 8) = (n / 8) % 2) := rfl
          have hlt8 : low3 n < 8 := by unfold low3; omega
          have hlt2 : lowbit (n / 8) < 2 := by unfold lowbit; omega
          have htest : Hid (n < 36028797018963968 → f = -1074) := by intro h; omega
          clear hfin hpn hpk hn hsm
          have hlow : ∃ t : Bool, decide ((n : Int) < 36028797018963968) = t ∧ (t = true → decide (-1074 < f) = false) := ⟨_, rfl, fun h => by have := htest.out (by rw [decide_eq_true_iff] at h; omega); rw [decide_eq_false_iff_not]; omega⟩
          obtain ⟨t, ht1, ht2⟩ := hlow
          generalize hqq0 : n / 8 = q at *
          have hqq := Lib.hid hqq0; clear hqq0
          cases t
          all_goals (try have ht3 := ht2 rfl)
          all_goals clear ht2
          all_goals go_upto_region 9 with fail
          all_goals clear ht1
          all_goals (try clear ht3)
          all_goals go_cut [42] (fun a wx => w = wx ∧ a = .bool (up3 n))
          case first =>
            by_cases c1 : 4 < low3 n
            · have g1 : decide ((4 : Int) < (low3 n : Int)) = true := by rw [decide_eq_true_iff]; omega
              go_wp2_with fail
              go_meet
              exact ⟨rfl, by rw [up_a n (by rw [← hl3.out]; exact c1)]⟩
            · have g1 : decide ((4 : Int) < (low3 n : Int)) = false := by rw [decide_eq_false_iff_not]; omega
              by_cases c2 : low3 n = 4
              · have g2 : ((low3 n : Int) == 4) = true := by rw [beq_iff_eq]; omega
                by_cases c3 : lowbit q = 1
                · have g3 : ((lowbit q : Int) == 1) = true := by rw [beq_iff_eq]; omega
                  have hend : Hid (up3 n = true) := up_b n (by rw [← hl3.out]; exact c2) (by rw [hqq.out, ← hlb.out]; exact c3)
                  clear c1 c2 c3
                  go_wp2_with fail
                  go_meet
                  exact ⟨rfl, by rw [hend.out]⟩
                · have g3 : ((lowbit q : Int) == 1) = false := by rw [beq_eq_false_iff_ne]; omega
                  have hend : Hid (up3 n = false) := up_c n (by rw [← hl3.out]; exact c2) (by rw [hqq.out, ← hlb.out]; exact c3)
                  clear c1 c2 c3
                  go_wp2_with fail
                  go_meet
                  exact ⟨rfl, by rw [hend.out]⟩
              · have g2 : ((low3 n : Int) == 4) = false := by rw [beq_eq_false_iff_ne]; omega
                have hend : Hid (up3 n = false) := up_d n (by rw [← hl3.out]; exact c1) (by rw [← hl3.out]; exact c2)
                clear c1 c2
                go_wp2_with fail
                go_meet
                exact ⟨rfl, by rw [hend.out]⟩
          case rest =>
            obtain ⟨rfl, rfl⟩ := hcut
            clear r3 r4 hlt8 hlt2
            have hfk : Hid (pack1 n = if up3 n then q + 1 else q) := by show _ = _; rw [pack1_up, hqq.out]
            have hwq : IntKind.u64.wrap ((q : Int) + 1) = ((q + 1 : Nat) : Int) := by have := hq8.out; rw [IntKind.wrap_u64]; omega
            go_upto_if 42 with fail
            go_cut [1] (fun a wx => w = wx ∧ a = .int .u64 (pack1 n : Nat))
            case first =>
              cases hup : up3 n
              · go_wp2_with fail
                go_meet
                exact ⟨rfl, by rw [hfk.out, hup]; rfl⟩
              · go_wp2_with fail
                go_meet
                exact ⟨rfl, by rw [hfk.out, hup]; rfl⟩
            case rest =>
              obtain ⟨rfl, rfl⟩ := hcut
              clear hwq hq
              have hk0 : Hid (pack1 n ≤ 9007199254740992) := by show _ ≤ _; rw [hfk.out]; have := hq8.out; split <;> omega
              clear hfk
              generalize pack1 n = k at *
              by_cases hk : k = 9007199254740992
              · subst hk
                have rA : bits BinOp.and IntKind.u64 4503599627370496 4503599627370495 = 0 := by decide
                have rO : bits BinOp.or IntKind.u64 ((f + 1 + 1075) * 4503599627370496) 0 = (((f + 1 + 1075).toNat * 4503599627370496 + 0 : Nat) : Int) := or_exp (f + 1 + 1075) 0 (by omega) (by omega) (by omega)
                by_cases hinf : 2047 ≤ f + 1 + 1075
                · have hp2 : Hid (pack2 9007199254740992 f = 9218868437227405312) := pack2_a f hinf
                  go_upto_if 63 with fail
                  go_cut [8] (fun a wx => w = wx ∧ a = .int .u64 (pack2 9007199254740992 f : Nat))
                  case first =>
                    clear rA rO
                    go_wp2_with fail
                    go_meet
                    exact ⟨rfl, by rw [hp2.out]; rfl⟩
                  case rest =>
                    obtain ⟨rfl, rfl⟩ := hcut
                    have hP : Hid (pack2 9007199254740992 f = rung m (e - 3)) := hfin'.out
                    have hPl : pack2 9007199254740992 f < 9223372036854775808 := by rw [hP.out]; exact Nat.lt_of_le_of_lt (rung_le _ _) (by omega)
                    generalize pack2 9007199254740992 f = P at *
                    have hor : bits BinOp.or IntKind.u64 (P : Int) 9223372036854775808 = ((9223372036854775808 + P : Nat) : Int) := or_sign P hPl
                    have hPl' := Lib.hid hPl
                    clear hPl hk0
                    cases s
                    · go_wp2_with fail
                      go_ret
                      exact ⟨by rw [← hP.out, word_eq]; simp, rfl⟩
                    · go_wp2_with fail
                      go_ret
                      exact ⟨by rw [← hP.out, word_eq]; rfl, rfl⟩
                · have hp2 : Hid (pack2 9007199254740992 f = (f + 1 + 1075).toNat * 4503599627370496 + 0) := pack2_b f (by omega)
                  go_upto_if 63 with fail
                  go_cut [8] (fun a wx => w = wx ∧ a = .int .u64 (pack2 9007199254740992 f : Nat))
                  case first =>
                    clear rA rO
                    go_wp2_with fail
                    go_meet
                    exact ⟨rfl, by rw [hp2.out]; congr 1; omega⟩
                  case rest =>
                    obtain ⟨rfl, rfl⟩ := hcut
                    have hP : Hid (pack2 9007199254740992 f = rung m (e - 3)) := hfin'.out
                    have hPl : pack2 9007199254740992 f < 9223372036854775808 := by rw [hP.out]; exact Nat.lt_of_le_of_lt (rung_le _ _) (by omega)
                    generalize pack2 9007199254740992 f = P at *
                    have hor : bits BinOp.or IntKind.u64 (P : Int) 9223372036854775808 = ((9223372036854775808 + P : Nat) : Int) := or_sign P hPl
                    have hPl' := Lib.hid hPl
                    clear hPl hk0
                    cases s
                    · go_wp2_with fail
                      go_ret
                      exact ⟨by rw [← hP.out, word_eq]; simp, rfl⟩
                    · go_wp2_with fail
                      go_ret
                      exact ⟨by rw [← hP.out, word_eq]; rfl, rfl⟩
              · have g1 : ((k : Int) == 9007199254740992) = false := by rw [beq_eq_false_iff_ne]; omega
                by_cases hk2 : 4503599627370496 ≤ k
                · have g2 : decide ((4503599627370496 : Int) ≤ (k : Int)) = true := by rw [decide_eq_true_iff]; omega
                  have rA : bits BinOp.and IntKind.u64 (k : Int) 4503599627370495 = ((lowfrac k : Nat) : Int) := and_frac k (by have := hk0.out; omega)
                  have rO : bits BinOp.or IntKind.u64 ((f + 1075) * 4503599627370496) ((lowfrac k : Nat) : Int) = (((f + 1075).toNat * 4503599627370496 + lowfrac k : Nat) : Int) := or_exp (f + 1075) (lowfrac k) (by omega) (by omega) (by unfold lowfrac; omega)
                  by_cases hinf : 2047 ≤ f + 1075
                  · have hp2 : Hid (pack2 k f = 9218868437227405312) := pack2_c k f hk hinf
                    clear hk hk2
                    go_upto_if 63 with fail
                    go_cut [8] (fun a wx => w = wx ∧ a = .int .u64 (pack2 k f : Nat))
                    case first =>
                      clear rA rO
                      go_wp2_with fail
                      go_meet
                      exact ⟨rfl, by rw [hp2.out]; rfl⟩
                    case rest =>
                      obtain ⟨rfl, rfl⟩ := hcut
                      have hP : Hid (pack2 k f = rung m (e - 3)) := hfin'.out
                      have hPl : pack2 k f < 9223372036854775808 := by rw [hP.out]; exact Nat.lt_of_le_of_lt (rung_le _ _) (by omega)
                      generalize pack2 k f = P at *
                      have hor : bits BinOp.or IntKind.u64 (P : Int) 9223372036854775808 = ((9223372036854775808 + P : Nat) : Int) := or_sign P hPl
                      have hPl' := Lib.hid hPl
                      clear hPl hk0
                      cases s
                      · go_wp2_with fail
                        go_ret
                        exact ⟨by rw [← hP.out, word_eq]; simp, rfl⟩
                      · go_wp2_with fail
                        go_ret
                        exact ⟨by rw [← hP.out, word_eq]; rfl, rfl⟩
                  · have hp2 : Hid (pack2 k f = (f + 1075).toNat * 4503599627370496 + lowfrac k) := pack2_d k f hk hk2 hinf
                    clear hk hk2
                    go_upto_if 63 with fail
                    go_cut [8] (fun a wx => w = wx ∧ a = .int .u64 (pack2 k f : Nat))
                    case first =>
                      clear rA rO
                      go_wp2_with fail
                      go_meet
                      exact ⟨rfl, by rw [hp2.out]; congr 1; omega⟩
                    case rest =>
                      obtain ⟨rfl, rfl⟩ := hcut
                      have hP : Hid (pack2 k f = rung m (e - 3)) := hfin'.out
                      have hPl : pack2 k f < 9223372036854775808 := by rw [hP.out]; exact Nat.lt_of_le_of_lt (rung_le _ _) (by omega)
                      generalize pack2 k f = P at *
                      have hor : bits BinOp.or IntKind.u64 (P : Int) 9223372036854775808 = ((9223372036854775808 + P : Nat) : Int) := or_sign P hPl
                      have hPl' := Lib.hid hPl
                      clear hPl hk0
                      cases s
                      · go_wp2_with fail
                        go_ret
                        exact ⟨by rw [← hP.out, word_eq]; simp, rfl⟩
                      · go_wp2_with fail
                        go_ret
                        exact ⟨by rw [← hP.out, word_eq]; rfl, rfl⟩
                · have g2 : decide ((4503599627370496 : Int) ≤ (k : Int)) = false := by rw [decide_eq_false_iff_not]; omega
                  by_cases hinf : 2047 ≤ f + 1075
                  · have hp2 : Hid (pack2 k f = 9218868437227405312) := pack2_c k f hk hinf
                    clear hk hk2
                    go_upto_if 63 with fail
                    go_cut [8] (fun a wx => w = wx ∧ a = .int .u64 (pack2 k f : Nat))
                    case first =>
                      go_wp2_with fail
                      go_meet
                      exact ⟨rfl, by rw [hp2.out]; rfl⟩
                    case rest =>
                      obtain ⟨rfl, rfl⟩ := hcut
                      have hP : Hid (pack2 k f = rung m (e - 3)) := hfin'.out
                      have hPl : pack2 k f < 9223372036854775808 := by rw [hP.out]; exact Nat.lt_of_le_of_lt (rung_le _ _) (by omega)
                      generalize pack2 k f = P at *
                      have hor : bits BinOp.or IntKind.u64 (P : Int) 9223372036854775808 = ((9223372036854775808 + P : Nat) : Int) := or_sign P hPl
                      have hPl' := Lib.hid hPl
                      clear hPl hk0
                      cases s
                      · go_wp2_with fail
                        go_ret
                        exact ⟨by rw [← hP.out, word_eq]; simp, rfl⟩
                      · go_wp2_with fail
                        go_ret
                        exact ⟨by rw [← hP.out, word_eq]; rfl, rfl⟩
                  · have hp2 : Hid (pack2 k f = k) := pack2_e k f hk hk2 hinf
                    clear hk hk2
                    go_upto_if 63 with fail
                    go_cut [8] (fun a wx => w = wx ∧ a = .int .u64 (pack2 k f : Nat))
                    case first =>
                      go_wp2_with fail
                      go_meet
                      exact ⟨rfl, by rw [hp2.out]⟩
                    case rest =>
                      obtain ⟨rfl, rfl⟩ := hcut
                      have hP : Hid (pack2 k f = rung m (e - 3)) := hfin'.out
                      have hPl : pack2 k f < 9223372036854775808 := by rw [hP.out]; exact Nat.lt_of_le_of_lt (rung_le _ _) (by omega)
                      generalize pack2 k f = P at *
                      have hor : bits BinOp.or IntKind.u64 (P : Int) 9223372036854775808 = ((9223372036854775808 + P : Nat) : Int) := or_sign P hPl
                      have hPl' := Lib.hid hPl
                      clear hPl hk0
                      cases s
                      · go_wp2_with fail
                        go_ret
                        exact ⟨by rw [← hP.out, word_eq]; simp, rfl⟩
                      · go_wp2_with fail
                        go_ret
                        exact ⟨by rw [← hP.out, word_eq]; rfl, rfl⟩
          case first =>
            by_cases c1 : 4 < low3 n
            · have g1 : decide ((4 : Int) < (low3 n : Int)) = true := by rw [decide_eq_true_iff]; omega
              go_wp2_with fail
              go_meet
              exact ⟨rfl, by rw [up_a n (by rw [← hl3.out]; exact c1)]⟩
            · have g1 : decide ((4 : Int) < (low3 n : Int)) = false := by rw [decide_eq_false_iff_not]; omega
              by_cases c2 : low3 n = 4
              · have g2 : ((low3 n : Int) == 4) = true := by rw [beq_iff_eq]; omega
                by_cases c3 : lowbit q = 1
                · have g3 : ((lowbit q : Int) == 1) = true := by rw [beq_iff_eq]; omega
                  have hend : Hid (up3 n = true) := up_b n (by rw [← hl3.out]; exact c2) (by rw [hqq.out, ← hlb.out]; exact c3)
                  clear c1 c2 c3
                  go_wp2_with fail
                  go_meet
                  exact ⟨rfl, by rw [hend.out]⟩
                · have g3 : ((lowbit q : Int) == 1) = false := by rw [beq_eq_false_iff_ne]; omega
                  have hend : Hid (up3 n = false) := up_c n (by rw [← hl3.out]; exact c2) (by rw [hqq.out, ← hlb.out]; exact c3)
                  clear c1 c2 c3
                  go_wp2_with fail
                  go_meet
                  exact ⟨rfl, by rw [hend.out]⟩
              · have g2 : ((low3 n : Int) == 4) = false := by rw [beq_eq_false_iff_ne]; omega
                have hend : Hid (up3 n = false) := up_d n (by rw [← hl3.out]; exact c1) (by rw [← hl3.out]; exact c2)
                clear c1 c2
                go_wp2_with fail
                go_meet
                exact ⟨rfl, by rw [hend.out]⟩
          case rest =>
            obtain ⟨rfl, rfl⟩ := hcut
            clear r3 r4 hlt8 hlt2
            have hfk : Hid (pack1 n = if up3 n then q + 1 else q) := by show _ = _; rw [pack1_up, hqq.out]
            have hwq : IntKind.u64.wrap ((q : Int) + 1) = ((q + 1 : Nat) : Int) := by have := hq8.out; rw [IntKind.wrap_u64]; omega
            go_upto_if 42 with fail
            go_cut [1] (fun a wx => w = wx ∧ a = .int .u64 (pack1 n : Nat))
            case first =>
              cases hup : up3 n
              · go_wp2_with fail
                go_meet
                exact ⟨rfl, by rw [hfk.out, hup]; rfl⟩
              · go_wp2_with fail
                go_meet
                exact ⟨rfl, by rw [hfk.out, hup]; rfl⟩
            case rest =>
              obtain ⟨rfl, rfl⟩ := hcut
              clear hwq hq
              have hk0 : Hid (pack1 n ≤ 9007199254740992) := by show _ ≤ _; rw [hfk.out]; have := hq8.out; split <;> omega
              clear hfk
              generalize pack1 n = k at *
              by_cases hk : k = 9007199254740992
              · subst hk
                have rA : bits BinOp.and IntKind.u64 4503599627370496 4503599627370495 = 0 := by decide
                have rO : bits BinOp.or IntKind.u64 ((f + 1 + 1075) * 4503599627370496) 0 = (((f + 1 + 1075).toNat * 4503599627370496 + 0 : Nat) : Int) := or_exp (f + 1 + 1075) 0 (by omega) (by omega) (by omega)
                by_cases hinf : 2047 ≤ f + 1 + 1075
                · have hp2 : Hid (pack2 9007199254740992 f = 9218868437227405312) := pack2_a f hinf
                  go_upto_if 63 with fail
                  go_cut [8] (fun a wx => w = wx ∧ a = .int .u64 (pack2 9007199254740992 f : Nat))
                  case first =>
                    clear rA rO
                    go_wp2_with fail
                    go_meet
                    exact ⟨rfl, by rw [hp2.out]; rfl⟩
                  case rest =>
                    obtain ⟨rfl, rfl⟩ := hcut
                    have hP : Hid (pack2 9007199254740992 f = rung m (e - 3)) := hfin'.out
                    have hPl : pack2 9007199254740992 f < 9223372036854775808 := by rw [hP.out]; exact Nat.lt_of_le_of_lt (rung_le _ _) (by omega)
                    generalize pack2 9007199254740992 f = P at *
                    have hor : bits BinOp.or IntKind.u64 (P : Int) 9223372036854775808 = ((9223372036854775808 + P : Nat) : Int) := or_sign P hPl
                    have hPl' := Lib.hid hPl
                    clear hPl hk0
                    cases s
                    · go_wp2_with fail
                      go_ret
                      exact ⟨by rw [← hP.out, word_eq]; simp, rfl⟩
                    · go_wp2_with fail
                      go_ret
                      exact ⟨by rw [← hP.out, word_eq]; rfl, rfl⟩
                · have hp2 : Hid (pack2 9007199254740992 f = (f + 1 + 1075).toNat * 4503599627370496 + 0) := pack2_b f (by omega)
                  go_upto_if 63 with fail
                  go_cut [8] (fun a wx => w = wx ∧ a = .int .u64 (pack2 9007199254740992 f : Nat))
                  case first =>
                    clear rA rO
                    go_wp2_with fail
                    go_meet
                    exact ⟨rfl, by rw [hp2.out]; congr 1; omega⟩
                  case rest =>
                    obtain ⟨rfl, rfl⟩ := hcut
                    have hP : Hid (pack2 9007199254740992 f = rung m (e - 3)) := hfin'.out
                    have hPl : pack2 9007199254740992 f < 9223372036854775808 := by rw [hP.out]; exact Nat.lt_of_le_of_lt (rung_le _ _) (by omega)
                    generalize pack2 9007199254740992 f = P at *
                    have hor : bits BinOp.or IntKind.u64 (P : Int) 9223372036854775808 = ((9223372036854775808 + P : Nat) : Int) := or_sign P hPl
                    have hPl' := Lib.hid hPl
                    clear hPl hk0
                    cases s
                    · go_wp2_with fail
                      go_ret
                      exact ⟨by rw [← hP.out, word_eq]; simp, rfl⟩
                    · go_wp2_with fail
                      go_ret
                      exact ⟨by rw [← hP.out, word_eq]; rfl, rfl⟩
              · have g1 : ((k : Int) == 9007199254740992) = false := by rw [beq_eq_false_iff_ne]; omega
                by_cases hk2 : 4503599627370496 ≤ k
                · have g2 : decide ((4503599627370496 : Int) ≤ (k : Int)) = true := by rw [decide_eq_true_iff]; omega
                  have rA : bits BinOp.and IntKind.u64 (k : Int) 4503599627370495 = ((lowfrac k : Nat) : Int) := and_frac k (by have := hk0.out; omega)
                  have rO : bits BinOp.or IntKind.u64 ((f + 1075) * 4503599627370496) ((lowfrac k : Nat) : Int) = (((f + 1075).toNat * 4503599627370496 + lowfrac k : Nat) : Int) := or_exp (f + 1075) (lowfrac k) (by omega) (by omega) (by unfold lowfrac; omega)
                  by_cases hinf : 2047 ≤ f + 1075
                  · have hp2 : Hid (pack2 k f = 9218868437227405312) := pack2_c k f hk hinf
                    clear hk hk2
                    go_upto_if 63 with fail
                    go_cut [8] (fun a wx => w = wx ∧ a = .int .u64 (pack2 k f : Nat))
                    case first =>
                      clear rA rO
                      go_wp2_with fail
                      go_meet
                      exact ⟨rfl, by rw [hp2.out]; rfl⟩
                    case rest =>
                      obtain ⟨rfl, rfl⟩ := hcut
                      have hP : Hid (pack2 k f = rung m (e - 3)) := hfin'.out
                      have hPl : pack2 k f < 9223372036854775808 := by rw [hP.out]; exact Nat.lt_of_le_of_lt (rung_le _ _) (by omega)
                      generalize pack2 k f = P at *
                      have hor : bits BinOp.or IntKind.u64 (P : Int) 9223372036854775808 = ((9223372036854775808 + P : Nat) : Int) := or_sign P hPl
                      have hPl' := Lib.hid hPl
                      clear hPl hk0
                      cases s
                      · go_wp2_with fail
                        go_ret
                        exact ⟨by rw [← hP.out, word_eq]; simp, rfl⟩
                      · go_wp2_with fail
                        go_ret
                        exact ⟨by rw [← hP.out, word_eq]; rfl, rfl⟩
                  · have hp2 : Hid (pack2 k f = (f + 1075).toNat * 4503599627370496 + lowfrac k) := pack2_d k f hk hk2 hinf
                    clear hk hk2
                    go_upto_if 63 with fail
                    go_cut [8] (fun a wx => w = wx ∧ a = .int .u64 (pack2 k f : Nat))
                    case first =>
                      clear rA rO
                      go_wp2_with fail
                      go_meet
                      exact ⟨rfl, by rw [hp2.out]; congr 1; omega⟩
                    case rest =>
                      obtain ⟨rfl, rfl⟩ := hcut
                      have hP : Hid (pack2 k f = rung m (e - 3)) := hfin'.out
                      have hPl : pack2 k f < 9223372036854775808 := by rw [hP.out]; exact Nat.lt_of_le_of_lt (rung_le _ _) (by omega)
                      generalize pack2 k f = P at *
                      have hor : bits BinOp.or IntKind.u64 (P : Int) 9223372036854775808 = ((9223372036854775808 + P : Nat) : Int) := or_sign P hPl
                      have hPl' := Lib.hid hPl
                      clear hPl hk0
                      cases s
                      · go_wp2_with fail
                        go_ret
                        exact ⟨by rw [← hP.out, word_eq]; simp, rfl⟩
                      · go_wp2_with fail
                        go_ret
                        exact ⟨by rw [← hP.out, word_eq]; rfl, rfl⟩
                · have g2 : decide ((4503599627370496 : Int) ≤ (k : Int)) = false := by rw [decide_eq_false_iff_not]; omega
                  by_cases hinf : 2047 ≤ f + 1075
                  · have hp2 : Hid (pack2 k f = 9218868437227405312) := pack2_c k f hk hinf
                    clear hk hk2
                    go_upto_if 63 with fail
                    go_cut [8] (fun a wx => w = wx ∧ a = .int .u64 (pack2 k f : Nat))
                    case first =>
                      go_wp2_with fail
                      go_meet
                      exact ⟨rfl, by rw [hp2.out]; rfl⟩
                    case rest =>
                      obtain ⟨rfl, rfl⟩ := hcut
                      have hP : Hid (pack2 k f = rung m (e - 3)) := hfin'.out
                      have hPl : pack2 k f < 9223372036854775808 := by rw [hP.out]; exact Nat.lt_of_le_of_lt (rung_le _ _) (by omega)
                      generalize pack2 k f = P at *
                      have hor : bits BinOp.or IntKind.u64 (P : Int) 9223372036854775808 = ((9223372036854775808 + P : Nat) : Int) := or_sign P hPl
                      have hPl' := Lib.hid hPl
                      clear hPl hk0
                      cases s
                      · go_wp2_with fail
                        go_ret
                        exact ⟨by rw [← hP.out, word_eq]; simp, rfl⟩
                      · go_wp2_with fail
                        go_ret
                        exact ⟨by rw [← hP.out, word_eq]; rfl, rfl⟩
                  · have hp2 : Hid (pack2 k f = k) := pack2_e k f hk hk2 hinf
                    clear hk hk2
                    go_upto_if 63 with fail
                    go_cut [8] (fun a wx => w = wx ∧ a = .int .u64 (pack2 k f : Nat))
                    case first =>
                      go_wp2_with fail
                      go_meet
                      exact ⟨rfl, by rw [hp2.out]⟩
                    case rest =>
                      obtain ⟨rfl, rfl⟩ := hcut
                      have hP : Hid (pack2 k f = rung m (e - 3)) := hfin'.out
                      have hPl : pack2 k f < 9223372036854775808 := by rw [hP.out]; exact Nat.lt_of_le_of_lt (rung_le _ _) (by omega)
                      generalize pack2 k f = P at *
                      have hor : bits BinOp.or IntKind.u64 (P : Int) 9223372036854775808 = ((9223372036854775808 + P : Nat) : Int) := or_sign P hPl
                      have hPl' := Lib.hid hPl
                      clear hPl hk0
                      cases s
                      · go_wp2_with fail
                        go_ret
                        exact ⟨by rw [← hP.out, word_eq]; simp, rfl⟩
                      · go_wp2_with fail
                        go_ret
                        exact ⟨by rw [← hP.out, word_eq]; rfl, rfl⟩
end Go.Proofs.Ytimiojckinpfdaa.Pq

/- The walks of the reference's sum of two floats. -/
namespace Go.Proofs.Ytimiojckinpfdaa.Pq
open Go.RowKit Flt

theorem xor_flip (a : Nat) (h : a < 18446744073709551616) : a ^^^ 9223372036854775808 = flip a := by
  have key : ∀ b, b < 9223372036854775808 → b ^^^ 9223372036854775808 = b + 9223372036854775808 := by
    intro b hb
    have h1 := nat_join 63 9223372036854775808 b (by decide) (by rw [show (2 ^ 63 : Nat) = 9223372036854775808 from rfl]; exact hb)
    have h2 : b ^^^ 9223372036854775808 = 9223372036854775808 ||| b := by
      apply Nat.eq_of_testBit_eq
      intro i
      rw [Nat.testBit_xor, Nat.testBit_or, show (9223372036854775808 : Nat) = 2 ^ 63 from rfl, Nat.testBit_two_pow]
      by_cases e : 63 = i
      · subst e
        have : b.testBit 63 = false := Nat.testBit_lt_two_pow (by rw [show (2 ^ 63 : Nat) = 9223372036854775808 from rfl]; exact hb)
        simp [this]
      · simp [e]
    rw [h2, h1]; omega
  unfold Flt.flip
  by_cases hs : a < 9223372036854775808
  · rw [if_pos hs, key a hs]
  · rw [if_neg hs]
    have h1 := key (a - 9223372036854775808) (by omega)
    have h2 : a - 9223372036854775808 + 9223372036854775808 = a := by omega
    rw [h2] at h1
    have h3 : a ^^^ 9223372036854775808 = (a - 9223372036854775808 ^^^ 9223372036854775808) ^^^ 9223372036854775808 := by rw [h1]
    rw [h3, Nat.xor_assoc, Nat.xor_self, Nat.xor_zero]
theorem flip_lt (a : Nat) (h : a < 18446744073709551616) : flip a < 18446744073709551616 := by unfold Flt.flip; split <;> omega

set_option maxHeartbeats 400000 in
theorem negative_any (a : Nat) (w : World) (ha : a < 18446744073709551616) :
    Calls Try.prog 97 #[.int .u64 a] w fun e w' => e = .returned (.int .u64 (flip a : Nat)) ∧ w = w' := by
  have hm : bits BinOp.xor IntKind.u64 (a : Int) 9223372036854775808 = ((flip a : Nat) : Int) := by
    have := u64_xor_nat a 9223372036854775808 ha (by omega)
    rw [xor_flip a ha] at this; exact this
  have ha' := Lib.hid ha
  clear ha
  go_enter Try.func97, Try.ntmps97
  go_wp2
  go_ret
  exact ⟨rfl, rfl⟩

def ebits (a : Nat) : Nat := a / 4503599627370496 % 2048
theorem ebits_mag (a : Nat) : ebits a = mag a / 4503599627370496 := by unfold ebits mag; omega
theorem frac_mag (a : Nat) : lowfrac a = mag a % 4503599627370496 := by unfold lowfrac mag; omega
theorem sig_of (a : Nat) : sig (mag a) = if ebits a = 0 then lowfrac a else 4503599627370496 + lowfrac a := by
  rw [ebits_mag, frac_mag]; unfold sig
  by_cases h : mag a < 4503599627370496
  · rw [if_pos h, if_pos (by omega)]; omega
  · rw [if_neg h, if_neg (by omega)]
theorem ex_of (a : Nat) : ex (mag a) = if ebits a = 0 then -1074 else (ebits a : Int) - 1075 := by
  rw [ebits_mag]; unfold ex
  by_cases h : mag a < 4503599627370496
  · rw [if_pos h, if_pos (by omega)]
  · rw [if_neg h, if_neg (by omega)]; omega

set_option maxHeartbeats 400000 in
theorem parts_any (a : Nat) (w : World) (ha : a < 18446744073709551616) :
    Calls Try.prog 98 #[.int .u64 a] w fun e w' => e = .returned (.tuple #[.int .u64 (sig (mag a) : Nat), .int .i64 (ex (mag a))]) ∧ w = w' := by
  have r1 : (a : Int) / 4503599627370496 = ((a / 4503599627370496 : Nat) : Int) := by omega
  have r2 : bits BinOp.and IntKind.u64 ((a / 4503599627370496 : Nat) : Int) 2047 = ((ebits a : Nat) : Int) := by
    have h1 := u64_and_nat (a / 4503599627370496) 2047 (by omega) (by omega)
    have h2 := Nat.and_two_pow_sub_one_eq_mod (a / 4503599627370496) 11
    rw [show (2 ^ 11 - 1 : Nat) = 2047 from rfl] at h2
    rw [h2] at h1; exact h1
  have r3 := and_frac a ha
  have hl : lowfrac a < 4503599627370496 := by unfold lowfrac; omega
  have he : ebits a < 2048 := by unfold ebits; omega
  have r4 : bits BinOp.or IntKind.u64 ((lowfrac a : Nat) : Int) 4503599627370496 = ((4503599627370496 + lowfrac a : Nat) : Int) := by
    have h2 := u64_or_nat (lowfrac a) 4503599627370496 (by omega) (by omega)
    have h3 := nat_join 52 4503599627370496 (lowfrac a) (by decide) (by rw [show (2 ^ 52 : Nat) = 4503599627370496 from rfl]; exact hl)
    rw [Nat.or_comm, h3] at h2
    exact h2
  have hs := Lib.hid (sig_of a)
  have hx := Lib.hid (ex_of a)
  have ha' := Lib.hid ha
  have hl' := Lib.hid hl
  clear ha hl
  generalize hq : a / 4503599627370496 = q at *
  clear hq
  generalize hE : ebits a = E at *
  have hE' := Lib.hid hE; clear hE
  by_cases h0 : E = 0
  · subst h0
    go_enter Try.func98, Try.ntmps98
    go_wp2
    go_ret2
    exact ⟨by rw [hs.out, hx.out]; rfl, rfl⟩
  · have g1 : ((E : Int) == 0) = false := by rw [beq_eq_false_iff_ne]; omega
    have h0' := Lib.hid h0
    clear h0
    go_enter Try.func98, Try.ntmps98
    go_wp2
    go_ret2
    exact ⟨by rw [hs.out, hx.out, if_neg h0'.out, if_neg h0'.out]; rfl, rfl⟩

def sgn (a : Nat) : Nat := if neg a then 9223372036854775808 else 0
theorem and_sign (a : Nat) (h : a < 18446744073709551616) : bits BinOp.and IntKind.u64 (a : Int) 9223372036854775808 = ((sgn a : Nat) : Int) := by
  have h1 := u64_and_nat a 9223372036854775808 h (by omega)
  have h2 := nat_bit 63 a
  rw [show (2 ^ 63 : Nat) = 9223372036854775808 from rfl] at h2
  rw [h2] at h1
  have h3 : a / 9223372036854775808 % 2 * 9223372036854775808 = sgn a := by
    unfold sgn neg
    rcases (show a / 9223372036854775808 % 2 = 0 ∨ a / 9223372036854775808 % 2 = 1 by omega) with q | q <;> rw [q] <;> rfl
  rw [h3] at h1; exact h1
theorem stk_small (n k j : Nat) (h : stk n k ≤ 1) : stk n (k + j) = stk n k := by
  induction j with
  | zero => rfl
  | succ j ih =>
    rw [← Nat.add_assoc, ← stk_stk, ih]
    rcases (show stk n k = 0 ∨ stk n k = 1 by omega) with q | q <;> rw [q] <;> decide

/-- both numbers, the greater magnitude ahead -/
structure Big (a b x y : Nat) : Prop where
  xl : x < 18446744073709551616
  yl : y < 18446744073709551616
  ge : mag y ≤ mag x
  nx : nan x = false
  ny : nan y = false
  sum : radd a b = radd x y

theorem Big.fin {a b x y : Nat} (h : Big a b x y) (hx : ¬ mag x = 9218868437227405312) : mag x < 9218868437227405312 := by
  have := h.nx; unfold nan at this; have h2 : mag x ≤ 9218868437227405312 := by simpa using this
  omega

def TT (t : Bool) (P : Prop) : Prop := t = true ↔ P
theorem TT.no {P : Prop} (h : TT false P) : ¬ P := fun p => by have := h.2 p; cases this
theorem TT.yes {P : Prop} (h : TT true P) : P := h.1 rfl
def RL (N : Nat) (E F : Int) (p q : Value) : Prop := ∃ k : Nat, q = .int .i64 (F + k) ∧ p = .int .u64 (stk N k : Nat) ∧ F + k ≤ E
theorem stk_lt (N k : Nat) (h : N < 72057594037927936) : stk N k < 72057594037927936 := by
  have h1 : N / 2 ^ k ≤ N := Nat.div_le_self _ _
  unfold stk
  split
  · omega
  · by_cases hk : k = 0
    · subst hk; rename_i h2; simp [Nat.mod_one] at h2
    · have h2 : 2 ^ 1 ≤ 2 ^ k := Nat.pow_le_pow_right (by omega) (by omega)
      have h3 : N / 2 ^ k ≤ N / 2 := Nat.div_le_div_left h2 (by omega)
      omega
theorem stk_le_sig {g h : Nat} (hgh : h ≤ g) : stk (8 * sig h) (ex g - ex h).toNat ≤ 8 * sig g := by
  have hm := ex_mono hgh
  by_cases e : ex h = ex g
  · have : (ex g - ex h).toNat = 0 := by omega
    rw [this, stk_zero]
    have := sig_mono hgh e; omega
  · have h1 := sig_ge (g := g) (by have := ex_ge h; omega)
    have h2 := sig_lt h
    have h3 := stk_le (8 * sig h) (ex g - ex h).toNat (by omega)
    omega
def SW (a b : Nat) (p q : Value) : Prop := ∃ x y : Nat, p = .int .u64 x ∧ q = .int .u64 y ∧ Big a b x y

set_option maxRecDepth 100000 in
set_option maxHeartbeats 2000000 in
theorem add_any (a b : Nat) (w : World) (ha : a < 18446744073709551616) (hb : b < 18446744073709551616) :
    Calls Try.prog 71 #[.int .u64 a, .int .u64 b] w fun e w' => e = .returned (.int .u64 (radd a b : Nat)) ∧ w = w' := by
  cases hna : nan a
  · cases hnb : nan b
    · have hA := Lib.hid ha
      have hB := Lib.hid hb
      have m1 := mag_bits a ha
      have m2 := mag_bits b hb
      clear ha hb
      have hna' := Lib.hid hna
      have hnb' := Lib.hid hnb
      have hsw : ∃ t : Bool, decide (mag a < mag b) = t ∧ TT t (mag a < mag b) := ⟨_, rfl, by show _ ↔ _; rw [decide_eq_true_iff]⟩
      obtain ⟨t, ht, htt⟩ := hsw
      go_enter Try.func71, Try.ntmps71
      go_wp2_with fail
      refine (isnan_any a _ hA.out).mono ?_
      rintro e w1 ⟨rfl, rfl⟩
      go_wp2_with fail
      refine (isnan_any b _ hB.out).mono ?_
      rintro e w2 ⟨rfl, rfl⟩
      go_upto_if 24 with fail
      go_cut [0, 1] (fun p q wx => w = wx ∧ SW a b p q)
      case first =>
        cases t
        · go_wp2_with fail
          go_meet
          exact ⟨rfl, a, b, rfl, rfl, hA.out, hB.out, by have := htt.no; omega, hna'.out, hnb'.out, rfl⟩
        · go_wp2_with fail
          go_meet
          exact ⟨rfl, b, a, rfl, rfl, hB.out, hA.out, by have := htt.yes; omega, hnb'.out, hna'.out, radd_comm a b⟩
      case rest =>
        obtain ⟨rfl, x, y, rfl, rfl, hBig⟩ := hcut
        clear ht m1 m2 hna hnb
        have hBig' := Lib.hid hBig
        have m1 := mag_bits x hBig.xl
        clear hBig
        by_cases hinf : mag x = 9218868437227405312
        · have g1 : ((mag x : Int) == 9218868437227405312) = true := by rw [beq_iff_eq]; omega
          have hinf' := Lib.hid hinf
          clear hinf
          have hr := Lib.hid (radd_inf x y hBig'.out.xl hBig'.out.yl hinf'.out hBig'.out.ny)
          go_wp2_with fail
          refine (negative_any x _ hBig'.out.xl).mono ?_
          rintro e w1 ⟨rfl, rfl⟩
          by_cases hfl : y = Flt.flip x
          · have g2 : ((y : Int) == (Flt.flip x : Int)) = true := by rw [beq_iff_eq]; omega
            have g3 : (y == Flt.flip x) = true := by rw [beq_iff_eq]; exact hfl
            have hfl' := Lib.hid hfl
            clear hfl
            go_wp2_with fail
            go_ret
            exact ⟨by rw [hBig'.out.sum, hr.out, if_pos hfl'.out]; rfl, rfl⟩
          · have g2 : ((y : Int) == (Flt.flip x : Int)) = false := by rw [beq_eq_false_iff_ne]; omega
            have g3 : (y == Flt.flip x) = false := by rw [beq_eq_false_iff_ne]; exact hfl
            have hfl' := Lib.hid hfl
            clear hfl
            go_wp2_with fail
            go_ret
            exact ⟨by rw [hBig'.out.sum, hr.out, if_neg hfl'.out]; rfl, rfl⟩
        · have g1 : ((mag x : Int) == 9218868437227405312) = false := by rw [beq_eq_false_iff_ne]; omega
          have hfin := Lib.hid (hBig'.out.fin hinf)
          clear hinf
          have hsx : Hid (sig (mag x) < 9007199254740992) := sig_lt _
          have hsy : Hid (sig (mag y) < 9007199254740992) := sig_lt _
          have hxl := ex_ge (mag y)
          have hxm : ex (mag y) ≤ ex (mag x) := ex_mono hBig'.out.ge
          have hxh : ex (mag x) ≤ 971 := ex_le _ hfin.out
          have w8x : IntKind.u64.wrap ((sig (mag x) : Int) * 8) = ((8 * sig (mag x) : Nat) : Int) := by have := hsx.out; rw [IntKind.wrap_u64]; omega
          have w8y : IntKind.u64.wrap ((sig (mag y) : Int) * 8) = ((8 * sig (mag y) : Nat) : Int) := by have := hsy.out; rw [IntKind.wrap_u64]; omega
          have hm8 : Hid (8 * sig (mag x) < 72057594037927936) := by show _ < _; have := hsx.out; omega
          have hn8 : Hid (8 * sig (mag y) < 72057594037927936) := by show _ < _; have := hsy.out; omega
          go_wp2_with fail
          refine (parts_any x _ hBig'.out.xl).mono ?_
          rintro e w1 ⟨rfl, rfl⟩
          go_wp2_with fail
          refine (parts_any y _ hBig'.out.yl).mono ?_
          rintro e w1 ⟨rfl, rfl⟩
          have hle : Hid (stk (8 * sig (mag y)) (ex (mag x) - ex (mag y)).toNat ≤ 8 * sig (mag x)) := stk_le_sig hBig'.out.ge
          have hsame := fun h => Lib.hid (radd_same x y hfin.out hBig'.out.ge h)
          have hdiff := fun h => Lib.hid (radd_diff x y hfin.out hBig'.out.ge h)
          generalize hex : ex (mag x) = E at *
          generalize hey : ex (mag y) = F at *
          generalize hm80 : 8 * sig (mag x) = M at *
          generalize hn80 : 8 * sig (mag y) = N at *
          have hex' := Lib.hid hex
          have hey' := Lib.hid hey
          clear hex hey hm80 hn80
          go_wp2_with fail
          clear w8x w8y
          go_loop [9, 11] (fun p q => RL N E F p q) (fun _ q => (E - intOf q).toNat)
          case atStart => exact ⟨0, by simp, by rw [stk_zero], by omega⟩
          case round =>
            obtain ⟨k, rfl, rfl, hkd⟩ := hrel
            have hNl : Hid (stk N k < 72057594037927936) := stk_lt N k hn8.out
            by_cases hboth : F + (k : Int) < E ∧ 1 < stk N k
            · obtain ⟨q1, q2⟩ := hboth
              have r1 := and1 (stk N k) (by have := hNl.out; omega)
              have r2 := or_stk (stk N k) (by have := hNl.out; omega)
              rw [stk_stk] at r2
              generalize stk N k = n at *
              go_wp2_with fail
              go_round
              case rel => exact ⟨k + 1, by congr 1; omega, rfl, by omega⟩
              case measure => simp [intOf]; omega
            · have hd : Hid (stk N (E - F).toNat = stk N k) := by
                show _ = _
                by_cases h1 : F + (k : Int) < E
                · have h2 : stk N k ≤ 1 := by omega
                  have := stk_small N k ((E - F).toNat - k) h2
                  rw [← this]; congr 1; omega
                · congr 1; omega
              have htst : Hid (F + (k : Int) < E → stk N k ≤ 1) := by intro h; omega
              generalize stk N k = n at *
              by_cases h1 : F + (k : Int) < E
              · have h2 : n ≤ 1 := htst.out h1
                clear hboth
                have sx := and_sign x hBig'.out.xl
                have sy := and_sign y hBig'.out.yl
                have wadd : IntKind.u64.wrap ((M : Int) + (n : Int)) = ((M + n : Nat) : Int) := by have := hm8.out; have := hNl.out; rw [IntKind.wrap_u64]; omega
                have wsub : n ≤ M → IntKind.u64.wrap ((M : Int) - (n : Int)) = ((M - n : Nat) : Int) := by intro h; have := hm8.out; rw [IntKind.wrap_u64]; omega
                have hnM : Hid (n ≤ M) := by show _ ≤ _; rw [← hd.out]; exact hle.out
                have wsub' := wsub hnM.out
                clear wsub m1
                have hE1 := ex_ge (mag x)
                have hE2 := ex_le _ hfin.out
                rw [hex'.out] at hE1 hE2
                cases hnx : neg x
                · cases hny : neg y
                  · have e1 : sgn x = 0 := by unfold sgn; rw [hnx]; rfl
                    have e2 : sgn y = 0 := by unfold sgn; rw [hny]; rfl
                    rw [e1] at sx
                    rw [e2] at sy
                    have hres := hsame (by rw [hnx, hny])
                    clear hsame hdiff e1 e2
                    rw [hnx] at hres
                    clear hnx hny
                    go_wp2_with fail
                    refine (packed_any false (M + n) E _ (by have := hm8.out; have := hNl.out; omega) (by omega) (by omega)).mono ?_
                    rintro e w1 ⟨rfl, rfl⟩
                    go_wp2_with fail
                    go_ret
                    exact ⟨by rw [hBig'.out.sum, hres.out, hd.out]; rfl, rfl⟩
                  · have e1 : sgn x = 0 := by unfold sgn; rw [hnx]; rfl
                    have e2 : sgn y = 9223372036854775808 := by unfold sgn; rw [hny]; rfl
                    rw [e1] at sx
                    rw [e2] at sy
                    have hres := hdiff (by rw [hnx, hny]; simp)
                    clear hsame hdiff e1 e2
                    rw [hnx] at hres
                    clear hnx hny
                    by_cases heq : M = n
                    · have g2 : (M == n) = true := by rw [beq_iff_eq]; exact heq
                      have g3 : ((M : Int) == (n : Int)) = true := by rw [beq_iff_eq]; omega
                      have heq' := Lib.hid heq
                      clear heq
                      go_wp2_with fail
                      go_ret
                      exact ⟨by rw [hBig'.out.sum, hres.out, hd.out, if_pos heq'.out]; rfl, rfl⟩
                    · have g2 : (M == n) = false := by rw [beq_eq_false_iff_ne]; exact heq
                      have g3 : ((M : Int) == (n : Int)) = false := by rw [beq_eq_false_iff_ne]; omega
                      have heq' := Lib.hid heq
                      clear heq
                      go_wp2_with fail
                      refine (packed_any false (M - n) E _ (by have := hm8.out; omega) (by omega) (by omega)).mono ?_
                      rintro e w1 ⟨rfl, rfl⟩
                      go_wp2_with fail
                      go_ret
                      exact ⟨by rw [hBig'.out.sum, hres.out, hd.out, if_neg heq'.out]; rfl, rfl⟩
                · cases hny : neg y
                  · have e1 : sgn x = 9223372036854775808 := by unfold sgn; rw [hnx]; rfl
                    have e2 : sgn y = 0 := by unfold sgn; rw [hny]; rfl
                    rw [e1] at sx
                    rw [e2] at sy
                    have hres := hdiff (by rw [hnx, hny]; simp)
                    clear hsame hdiff e1 e2
                    rw [hnx] at hres
                    clear hnx hny
                    by_cases heq : M = n
                    · have g2 : (M == n) = true := by rw [beq_iff_eq]; exact heq
                      have g3 : ((M : Int) == (n : Int)) = true := by rw [beq_iff_eq]; omega
                      have heq' := Lib.hid heq
                      clear heq
                      go_wp2_with fail
                      go_ret
                      exact ⟨by rw [hBig'.out.sum, hres.out, hd.out, if_pos heq'.out]; rfl, rfl⟩
                    · have g2 : (M == n) = false := by rw [beq_eq_false_iff_ne]; exact heq
                      have g3 : ((M : Int) == (n : Int)) = false := by rw [beq_eq_false_iff_ne]; omega
                      have heq' := Lib.hid heq
                      clear heq
                      go_wp2_with fail
                      refine (packed_any true (M - n) E _ (by have := hm8.out; omega) (by omega) (by omega)).mono ?_
                      rintro e w1 ⟨rfl, rfl⟩
                      go_wp2_with fail
                      go_ret
                      exact ⟨by rw [hBig'.out.sum, hres.out, hd.out, if_neg heq'.out]; rfl, rfl⟩
                  · have e1 : sgn x = 9223372036854775808 := by unfold sgn; rw [hnx]; rfl
                    have e2 : sgn y = 9223372036854775808 := by unfold sgn; rw [hny]; rfl
                    rw [e1] at sx
                    rw [e2] at sy
                    have hres := hsame (by rw [hnx, hny])
                    clear hsame hdiff e1 e2
                    rw [hnx] at hres
                    clear hnx hny
                    go_wp2_with fail
                    refine (packed_any true (M + n) E _ (by have := hm8.out; have := hNl.out; omega) (by omega) (by omega)).mono ?_
                    rintro e w1 ⟨rfl, rfl⟩
                    go_wp2_with fail
                    go_ret
                    exact ⟨by rw [hBig'.out.sum, hres.out, hd.out]; rfl, rfl⟩
              · clear hboth
                have sx := and_sign x hBig'.out.xl
                have sy := and_sign y hBig'.out.yl
                have wadd : IntKind.u64.wrap ((M : Int) + (n : Int)) = ((M + n : Nat) : Int) := by have := hm8.out; have := hNl.out; rw [IntKind.wrap_u64]; omega
                have wsub : n ≤ M → IntKind.u64.wrap ((M : Int) - (n : Int)) = ((M - n : Nat) : Int) := by intro h; have := hm8.out; rw [IntKind.wrap_u64]; omega
                have hnM : Hid (n ≤ M) := by show _ ≤ _; rw [← hd.out]; exact hle.out
                have wsub' := wsub hnM.out
                clear wsub m1
                have hE1 := ex_ge (mag x)
                have hE2 := ex_le _ hfin.out
                rw [hex'.out] at hE1 hE2
                cases hnx : neg x
                · cases hny : neg y
                  · have e1 : sgn x = 0 := by unfold sgn; rw [hnx]; rfl
                    have e2 : sgn y = 0 := by unfold sgn; rw [hny]; rfl
                    rw [e1] at sx
                    rw [e2] at sy
                    have hres := hsame (by rw [hnx, hny])
                    clear hsame hdiff e1 e2
                    rw [hnx] at hres
                    clear hnx hny
                    go_wp2_with fail
                    refine (packed_any false (M + n) E _ (by have := hm8.out; have := hNl.out; omega) (by omega) (by omega)).mono ?_
                    rintro e w1 ⟨rfl, rfl⟩
                    go_wp2_with fail
                    go_ret
                    exact ⟨by rw [hBig'.out.sum, hres.out, hd.out]; rfl, rfl⟩
                  · have e1 : sgn x = 0 := by unfold sgn; rw [hnx]; rfl
                    have e2 : sgn y = 9223372036854775808 := by unfold sgn; rw [hny]; rfl
                    rw [e1] at sx
                    rw [e2] at sy
                    have hres := hdiff (by rw [hnx, hny]; simp)
                    clear hsame hdiff e1 e2
                    rw [hnx] at hres
                    clear hnx hny
                    by_cases heq : M = n
                    · have g2 : (M == n) = true := by rw [beq_iff_eq]; exact heq
                      have g3 : ((M : Int) == (n : Int)) = true := by rw [beq_iff_eq]; omega
                      have heq' := Lib.hid heq
                      clear heq
                      go_wp2_with fail
                      go_ret
                      exact ⟨by rw [hBig'.out.sum, hres.out, hd.out, if_pos heq'.out]; rfl, rfl⟩
                    · have g2 : (M == n) = false := by rw [beq_eq_false_iff_ne]; exact heq
                      have g3 : ((M : Int) == (n : Int)) = false := by rw [beq_eq_false_iff_ne]; omega
                      have heq' := Lib.hid heq
                      clear heq
                      go_wp2_with fail
                      refine (packed_any false (M - n) E _ (by have := hm8.out; omega) (by omega) (by omega)).mono ?_
                      rintro e w1 ⟨rfl, rfl⟩
                      go_wp2_with fail
                      go_ret
                      exact ⟨by rw [hBig'.out.sum, hres.out, hd.out, if_neg heq'.out]; rfl, rfl⟩
                · cases hny : neg y
                  · have e1 : sgn x = 9223372036854775808 := by unfold sgn; rw [hnx]; rfl
                    have e2 : sgn y = 0 := by unfold sgn; rw [hny]; rfl
                    rw [e1] at sx
                    rw [e2] at sy
                    have hres := hdiff (by rw [hnx, hny]; simp)
                    clear hsame hdiff e1 e2
                    rw [hnx] at hres
                    clear hnx hny
                    by_cases heq : M = n
                    · have g2 : (M == n) = true := by rw [beq_iff_eq]; exact heq
                      have g3 : ((M : Int) == (n : Int)) = true := by rw [beq_iff_eq]; omega
                      have heq' := Lib.hid heq
                      clear heq
                      go_wp2_with fail
                      go_ret
                      exact ⟨by rw [hBig'.out.sum, hres.out, hd.out, if_pos heq'.out]; rfl, rfl⟩
                    · have g2 : (M == n) = false := by rw [beq_eq_false_iff_ne]; exact heq
                      have g3 : ((M : Int) == (n : Int)) = false := by rw [beq_eq_false_iff_ne]; omega
                      have heq' := Lib.hid heq
                      clear heq
                      go_wp2_with fail
                      refine (packed_any true (M - n) E _ (by have := hm8.out; omega) (by omega) (by omega)).mono ?_
                      rintro e w1 ⟨rfl, rfl⟩
                      go_wp2_with fail
                      go_ret
                      exact ⟨by rw [hBig'.out.sum, hres.out, hd.out, if_neg heq'.out]; rfl, rfl⟩
                  · have e1 : sgn x = 9223372036854775808 := by unfold sgn; rw [hnx]; rfl
                    have e2 : sgn y = 9223372036854775808 := by unfold sgn; rw [hny]; rfl
                    rw [e1] at sx
                    rw [e2] at sy
                    have hres := hsame (by rw [hnx, hny])
                    clear hsame hdiff e1 e2
                    rw [hnx] at hres
                    clear hnx hny
                    go_wp2_with fail
                    refine (packed_any true (M + n) E _ (by have := hm8.out; have := hNl.out; omega) (by omega) (by omega)).mono ?_
                    rintro e w1 ⟨rfl, rfl⟩
                    go_wp2_with fail
                    go_ret
                    exact ⟨by rw [hBig'.out.sum, hres.out, hd.out]; rfl, rfl⟩
    · go_enter Try.func71, Try.ntmps71
      have hr := Lib.hid (radd_nan a b (.inr hnb))
      go_wp2_with fail
      refine (isnan_any a _ ha).mono ?_
      rintro e w1 ⟨rfl, rfl⟩
      go_wp2_with fail
      refine (isnan_any b _ hb).mono ?_
      rintro e w2 ⟨rfl, rfl⟩
      go_wp2_with fail
      go_ret
      exact ⟨by rw [hr.out]; rfl, rfl⟩
  · go_enter Try.func71, Try.ntmps71
    have hr := Lib.hid (radd_nan a b (.inl hna))
    go_wp2_with fail
    refine (isnan_any a _ ha).mono ?_
    rintro e w1 ⟨rfl, rfl⟩
    go_wp2_with fail
    refine (isnan_any b _ hb).mono ?_
    rintro e w2 ⟨rfl, rfl⟩
    go_wp2_with fail
    go_ret
    exact ⟨by rw [hr.out]; rfl, rfl⟩
end Go.Proofs.Ytimiojckinpfdaa.Pq

/- The walks of the reference's pairs. -/
namespace Go.Proofs.Ytimiojckinpfdaa.Pq
open Go.RowKit Flt

theorem radd_lt (a b : Nat) : radd a b < 18446744073709551616 := by
  unfold radd
  cases h : D.add a b with
  | none => simp
  | some r => exact Ieee.Format.add_lt D h
def rsub (a b : Nat) : Nat := radd a (Flt.flip b)
def rloss (a b : Nat) : Nat := if nan a = false ∧ nan b = false ∧ mag b ≤ mag a then radd (rsub a (radd a b)) b else radd (rsub b (radd a b)) a
theorem rloss_lt (a b : Nat) : rloss a b < 18446744073709551616 := by unfold rloss; split <;> exact radd_lt _ _

set_option maxHeartbeats 400000 in
theorem sub_any (a b : Nat) (w : World) (ha : a < 18446744073709551616) (hb : b < 18446744073709551616) :
    Calls Try.prog 96 #[.int .u64 a, .int .u64 b] w fun e w' => e = .returned (.int .u64 (rsub a b : Nat)) ∧ w = w' := by
  have hf := Lib.hid (flip_lt b hb)
  have ha' := Lib.hid ha
  have hb' := Lib.hid hb
  clear ha hb
  go_enter Try.func96, Try.ntmps96
  go_wp2_with fail
  refine (negative_any b _ hb'.out).mono ?_
  rintro e w1 ⟨rfl, rfl⟩
  go_wp2_with fail
  refine (add_any a (Flt.flip b) _ ha'.out hf.out).mono ?_
  rintro e w1 ⟨rfl, rfl⟩
  go_wp2_with fail
  go_ret
  exact ⟨rfl, rfl⟩

set_option maxHeartbeats 1000000 in
theorem loss_any (a b : Nat) (w : World) (ha : a < 18446744073709551616) (hb : b < 18446744073709551616) :
    Calls Try.prog 70 #[.int .u64 a, .int .u64 b] w fun e w' => e = .returned (.int .u64 (rloss a b : Nat)) ∧ w = w' := by
  have m1 := mag_bits a ha
  have m2 := mag_bits b hb
  have ha' := Lib.hid ha
  have hb' := Lib.hid hb
  have ht := Lib.hid (radd_lt a b)
  have hs1 : Hid (rsub a (radd a b) < 18446744073709551616) := radd_lt _ _
  have hs2 : Hid (rsub b (radd a b) < 18446744073709551616) := radd_lt _ _
  clear ha hb
  cases hna : nan a
  · cases hnb : nan b
    · by_cases hge : mag b ≤ mag a
      · have g1 : decide (mag b ≤ mag a) = true := by rw [decide_eq_true_iff]; exact hge
        have hr : Hid (rloss a b = radd (rsub a (radd a b)) b) := by show _ = _; unfold rloss; rw [if_pos ⟨hna, hnb, hge⟩]
        clear hge
        go_enter Try.func70, Try.ntmps70
        go_wp2_with fail
        refine (add_any a b _ ha'.out hb'.out).mono ?_
        rintro e w1 ⟨rfl, rfl⟩
        go_wp2_with fail
        refine (isnan_any a _ ha'.out).mono ?_
        rintro e w1 ⟨rfl, rfl⟩
        go_wp2_with fail
        refine (isnan_any b _ hb'.out).mono ?_
        rintro e w1 ⟨rfl, rfl⟩
        go_wp2_with fail
        refine (sub_any a (radd a b) _ ha'.out ht.out).mono ?_
        rintro e w1 ⟨rfl, rfl⟩
        go_wp2_with fail
        refine (add_any _ b _ hs1.out hb'.out).mono ?_
        rintro e w1 ⟨rfl, rfl⟩
        go_wp2_with fail
        go_ret
        exact ⟨by rw [hr.out]; rfl, rfl⟩
      · have g1 : decide (mag b ≤ mag a) = false := by rw [decide_eq_false_iff_not]; exact hge
        have hr : Hid (rloss a b = radd (rsub b (radd a b)) a) := by show _ = _; unfold rloss; rw [if_neg (fun h => hge h.2.2)]
        clear hge
        go_enter Try.func70, Try.ntmps70
        go_wp2_with fail
        refine (add_any a b _ ha'.out hb'.out).mono ?_
        rintro e w1 ⟨rfl, rfl⟩
        go_wp2_with fail
        refine (isnan_any a _ ha'.out).mono ?_
        rintro e w1 ⟨rfl, rfl⟩
        go_wp2_with fail
        refine (isnan_any b _ hb'.out).mono ?_
        rintro e w1 ⟨rfl, rfl⟩
        go_wp2_with fail
        refine (sub_any b (radd a b) _ hb'.out ht.out).mono ?_
        rintro e w1 ⟨rfl, rfl⟩
        go_wp2_with fail
        refine (add_any _ a _ hs2.out ha'.out).mono ?_
        rintro e w1 ⟨rfl, rfl⟩
        go_wp2_with fail
        go_ret
        exact ⟨by rw [hr.out]; rfl, rfl⟩
    · have hr : Hid (rloss a b = radd (rsub b (radd a b)) a) := by show _ = _; unfold rloss; rw [if_neg (fun h => by rw [hnb] at h; exact absurd h.2.1 (by simp))]
      go_enter Try.func70, Try.ntmps70
      go_wp2_with fail
      refine (add_any a b _ ha'.out hb'.out).mono ?_
      rintro e w1 ⟨rfl, rfl⟩
      go_wp2_with fail
      refine (isnan_any a _ ha'.out).mono ?_
      rintro e w1 ⟨rfl, rfl⟩
      go_wp2_with fail
      refine (isnan_any b _ hb'.out).mono ?_
      rintro e w1 ⟨rfl, rfl⟩
      go_wp2_with fail
      refine (sub_any b (radd a b) _ hb'.out ht.out).mono ?_
      rintro e w1 ⟨rfl, rfl⟩
      go_wp2_with fail
      refine (add_any _ a _ hs2.out ha'.out).mono ?_
      rintro e w1 ⟨rfl, rfl⟩
      go_wp2_with fail
      go_ret
      exact ⟨by rw [hr.out]; rfl, rfl⟩
  · have hr : Hid (rloss a b = radd (rsub b (radd a b)) a) := by show _ = _; unfold rloss; rw [if_neg (fun h => by rw [hna] at h; exact absurd h.1 (by simp))]
    go_enter Try.func70, Try.ntmps70
    go_wp2_with fail
    refine (add_any a b _ ha'.out hb'.out).mono ?_
    rintro e w1 ⟨rfl, rfl⟩
    go_wp2_with fail
    refine (isnan_any a _ ha'.out).mono ?_
    rintro e w1 ⟨rfl, rfl⟩
    go_wp2_with fail
    refine (isnan_any b _ hb'.out).mono ?_
    rintro e w1 ⟨rfl, rfl⟩
    go_wp2_with fail
    refine (sub_any b (radd a b) _ hb'.out ht.out).mono ?_
    rintro e w1 ⟨rfl, rfl⟩
    go_wp2_with fail
    refine (add_any _ a _ hs2.out ha'.out).mono ?_
    rintro e w1 ⟨rfl, rfl⟩
    go_wp2_with fail
    go_ret
    exact ⟨by rw [hr.out]; rfl, rfl⟩

theorem still_of {f : FuncId} {args : Array Value} {w : World} {v : Value} (h : Calls Try.prog f args w fun e w' => e = .returned v ∧ w = w') : Calls Try.prog f args w fun e w' => e = .returned v ∧ w' = w :=
  h.mono fun _ _ ⟨h1, h2⟩ => ⟨h1, h2.symm⟩
/-- a pair of words -/
abbrev PW (p : Nat × Nat) : Value := .agg #[.int .u64 (p.1 : Nat), .int .u64 (p.2 : Nat)]
def Ok2 (p : Nat × Nat) : Prop := p.1 < 18446744073709551616 ∧ p.2 < 18446744073709551616
def rput (p : Nat × Nat) (x : Nat) : Nat × Nat := (radd p.1 x, radd p.2 (rloss p.1 x))
def rmerge (p q : Nat × Nat) : Nat × Nat := (radd p.1 q.1, radd (radd p.2 q.2) (rloss p.1 q.1))
theorem rput_ok (p : Nat × Nat) (x : Nat) : Ok2 (rput p x) := ⟨radd_lt _ _, radd_lt _ _⟩
theorem rmerge_ok (p q : Nat × Nat) : Ok2 (rmerge p q) := ⟨radd_lt _ _, radd_lt _ _⟩

def one (a : Nat) : Nat := if nan a then 9221120237041090560 else a
def sameW (a b : Nat) : Bool := one a == one b

set_option maxHeartbeats 400000 in
theorem one_any (a : Nat) (w : World) (ha : a < 18446744073709551616) :
    Calls Try.prog 82 #[.int .u64 a] w fun e w' => e = .returned (.int .u64 (one a : Nat)) ∧ w = w' := by
  have ha' := Lib.hid ha
  clear ha
  cases hn : nan a
  · have hr : Hid (one a = a) := by show _ = _; unfold one; rw [hn]; rfl
    go_enter Try.func82, Try.ntmps82
    go_wp2_with fail
    refine (isnan_any a _ ha'.out).mono ?_
    rintro e w1 ⟨rfl, rfl⟩
    go_wp2_with fail
    go_ret
    exact ⟨by rw [hr.out]; rfl, rfl⟩
  · have hr : Hid (one a = 9221120237041090560) := by show _ = _; unfold one; rw [hn]; rfl
    go_enter Try.func82, Try.ntmps82
    go_wp2_with fail
    refine (isnan_any a _ ha'.out).mono ?_
    rintro e w1 ⟨rfl, rfl⟩
    go_wp2_with fail
    go_ret
    exact ⟨by rw [hr.out]; rfl, rfl⟩

set_option maxHeartbeats 400000 in
theorem sameW_any (a b : Nat) (w : World) (ha : a < 18446744073709551616) (hb : b < 18446744073709551616) :
    Calls Try.prog 51 #[.int .u64 a, .int .u64 b] w fun e w' => e = .returned (.bool (sameW a b)) ∧ w = w' := by
  have ha' := Lib.hid ha
  have hb' := Lib.hid hb
  clear ha hb
  have hr : Hid (sameW a b = ((one a : Int) == (one b : Int))) := by show _ = _; unfold sameW; rw [Bool.eq_iff_iff]; simp; omega
  go_enter Try.func51, Try.ntmps51
  go_wp2_with fail
  refine (one_any a _ ha'.out).mono ?_
  rintro e w1 ⟨rfl, rfl⟩
  go_wp2_with fail
  refine (one_any b _ hb'.out).mono ?_
  rintro e w1 ⟨rfl, rfl⟩
  go_wp2_with fail
  go_ret
  exact ⟨ret_eq (by rw [hr.out]; rfl), rfl⟩

theorem rtotal_any (p : Nat × Nat) (w : World) (hp : Ok2 p) :
    Calls Try.prog 53 #[.agg #[.int .u64 (p.1 : Nat), .int .u64 (p.2 : Nat)]] w fun e w' => e = .returned (.int .u64 (radd p.1 p.2 : Nat)) ∧ Only (fun _ => False) w w' := by
  obtain ⟨s, c⟩ := p
  obtain ⟨hs, hc⟩ := hp
  have hs' := Lib.hid hs
  have hc' := Lib.hid hc
  clear hs hc
  dsimp only at hs' hc' ⊢
  go_enter Try.func53, Try.ntmps53
  go_wp2_with fail
  refine (add_any s c _ hs'.out hc'.out).mono ?_
  rintro e w1 ⟨rfl, rfl⟩
  go_wp2_with fail
  go_ret
  exact ⟨rfl, (Only.refl _ _).alloc _⟩

set_option maxHeartbeats 1000000 in
theorem rmerge_any (p q : Nat × Nat) (w : World) (hp : Ok2 p) (hq : Ok2 q) :
    Calls Try.prog 44 #[.agg #[.int .u64 (p.1 : Nat), .int .u64 (p.2 : Nat)], .agg #[.int .u64 (q.1 : Nat), .int .u64 (q.2 : Nat)]] w fun e w' => e = .returned (PW (rmerge p q)) ∧ Only (fun _ => False) w w' := by
  obtain ⟨s, c⟩ := p
  obtain ⟨hs, hc⟩ := hp
  obtain ⟨t, d⟩ := q
  obtain ⟨ht, hd⟩ := hq
  have hs' := Lib.hid hs
  have hc' := Lib.hid hc
  have ht' := Lib.hid ht
  have hd' := Lib.hid hd
  have hl := Lib.hid (rloss_lt s t)
  have hcd := Lib.hid (radd_lt c d)
  clear hs hc ht hd
  dsimp only at hs' hc' ht' hd' ⊢
  go_enter Try.func44, Try.ntmps44
  go_wp2_with fail
  refine (loss_any s t _ hs'.out ht'.out).mono ?_
  rintro e w1 ⟨rfl, rfl⟩
  go_wp2_with fail
  refine (add_any c d _ hc'.out hd'.out).mono ?_
  rintro e w1 ⟨rfl, rfl⟩
  go_wp2_with fail
  refine (add_any s t _ hs'.out ht'.out).mono ?_
  rintro e w1 ⟨rfl, rfl⟩
  go_wp2_with fail
  refine (add_any (radd c d) (rloss s t) _ hcd.out hl.out).mono ?_
  rintro e w1 ⟨rfl, rfl⟩
  go_wp2_with fail
  refine bodyPost_ret (v := PW (rmerge (s, c) (t, d))) (by simp [results, Try.results44, go_sem, rmerge]) rfl ⟨rfl, ?_⟩
  exact (((Only.refl _ _).alloc _).alloc _).alloc _

/-- words that came in -/
structure Words (w : World) (a : Option Addr) (len : Nat) (us : Nat → Nat) : Prop where
  at_ : ∀ j, j < len → ∃ p o, a = some ⟨p, o, none⟩ ∧ p < w.heap.size ∧ w.cell? ⟨p, o + j, none⟩ = some (.int .u64 (us j : Nat)) ∧ us j < 18446744073709551616
def rof (us : Nat → Nat) : Nat → Nat × Nat
  | 0 => (0, 0)
  | n + 1 => rput (rof us n) (us n)
theorem rof_ok (us : Nat → Nat) (n : Nat) : Ok2 (rof us n) := by
  cases n with
  | zero => exact ⟨(by omega : (0:Nat) < 18446744073709551616), (by omega : (0:Nat) < 18446744073709551616)⟩
  | succ n => exact rput_ok _ _

theorem blk_upd2 {w : World} {b : Nat} {x y : Value} {t : TypeId} (h : w.heap[b]? = some (.cells #[x, y] t (0, 0))) (u v : Value) : ((w.setCell ⟨b, 0, none⟩ u).setCell ⟨b, 1, none⟩ v).heap[b]? = some (.cells #[u, v] t (0, 0)) :=
  blk_set (blk_set h 0 u) 1 v
def RO (w : World) (us : Nat → Nat) (len b : Nat) (i : Value) (wr : World) : Prop := ∃ k : Nat, k ≤ len ∧ i = .int .i64 k ∧ Only (fun _ => False) w wr ∧ wr.heap[w.heap.size]? = some (.cells #[.int .u64 0, .int .u64 0] 24 (0, 0)) ∧ wr.heap[b]? = some (.cells #[.int .u64 ((rof us k).1 : Nat), .int .u64 ((rof us k).2 : Nat)] 24 (0, 0)) ∧ b < wr.heap.size

end Go.Proofs.Ytimiojckinpfdaa.Pq

/- The walks of the program's pairs. -/
namespace Go.Proofs.Ytimiojckinpfdaa.Pq
open Go.RowKit Flt

theorem run_tobits (x : Nat) (w : World) : Sem.run Try.prog (callFunc 83 #[.float .f64 x]) w = .ok (.value (.int .u64 (x : Nat))) w := by kernel_rfl
theorem run_frombits (x : Nat) (w : World) : Sem.run Try.prog (callFunc 41 #[.int .u64 (x : Nat)]) w = .ok (.value (.float .f64 x)) w := by kernel_rfl

/-- the sum as the program has it: of a NaN, whichever the tape tells -/
def faddV (x y : Nat) (w : World) : Nat :=
  match D.add x y with
  | some r => r
  | none => (Question.nanBits .f64 x y).cut (w.tape w.drawn (Question.nanBits .f64 x y))
def faddW (x y : Nat) (w : World) : World := match D.add x y with | some _ => w | none => w.drew
def fsubV (x y : Nat) (w : World) : Nat :=
  match D.sub x y with
  | some r => r
  | none => (Question.nanBits .f64 x y).cut (w.tape w.drawn (Question.nanBits .f64 x y))
def fsubW (x y : Nat) (w : World) : World := match D.sub x y with | some _ => w | none => w.drew
theorem run_fadd (x y : Nat) (w : World) : Sem.run Try.prog (binOp .add 40 (.float .f64 x) (.float .f64 y)) w = .ok (.float .f64 (faddV x y w)) (faddW x y w) := by
  unfold faddV faddW
  cases h : D.add x y with
  | some r => simp [binOp, Op.floatArith, FloatKind.format, h]
  | none => simp [binOp, Op.floatArith, FloatKind.format, h, choose]; rfl
theorem run_fsub (x y : Nat) (w : World) : Sem.run Try.prog (binOp .sub 40 (.float .f64 x) (.float .f64 y)) w = .ok (.float .f64 (fsubV x y w)) (fsubW x y w) := by
  unfold fsubV fsubW
  cases h : D.sub x y with
  | some r => simp [binOp, Op.floatArith, FloatKind.format, h]
  | none => simp [binOp, Op.floatArith, FloatKind.format, h, choose]; rfl

set_option maxHeartbeats 400000 in
theorem abs_any (x : Nat) (w : World) (hx : x < 18446744073709551616) :
    Calls Try.prog 104 #[.float .f64 x] w fun e w' => e = .returned (.float .f64 (mag x)) ∧ w = w' := by
  have hm := mag_bits x hx
  have hx' := Lib.hid hx
  have k1 := run_tobits
  have k2 := run_frombits
  clear hx
  go_enter Try.func104, Try.ntmps104
  go_wp2
  go_ret
  exact ⟨rfl, rfl⟩

def fgeq (x y : Nat) : Bool := D.order x y == some .gt || D.order x y == some .eq
theorem run_fgeq (x y : Nat) (w : World) : Sem.run Try.prog (binOp .geq 40 (.float .f64 x) (.float .f64 y)) w = .ok (.bool (fgeq x y)) w := by
  simp [binOp, Op.floatCmp, FloatKind.format, fgeq]

/-- the same floats, all NaNs alike -/
def Sim (x y : Nat) : Prop := one x = one y
theorem Sim.refl (x : Nat) : Sim x x := rfl
theorem one_nan {x : Nat} (h : nan x = true) : one x = 9221120237041090560 := by unfold one; rw [h]; rfl
theorem one_num {x : Nat} (h : nan x = false) : one x = x := by unfold one; rw [h]; rfl
theorem nan_one (x : Nat) : nan (one x) = nan x := by
  cases h : nan x
  · rw [one_num h, h]
  · rw [one_nan h]; decide
theorem Sim.nan {x y : Nat} (h : Sim x y) : nan x = nan y := by rw [← nan_one x, h, nan_one]
theorem radd_one (x y : Nat) : radd (one x) (one y) = radd x y := by
  cases hx : Flt.nan x
  · cases hy : Flt.nan y
    · rw [one_num hx, one_num hy]
    · rw [radd_nan x y (.inr hy), radd_nan _ _ (.inr (by rw [nan_one]; exact hy))]
  · rw [radd_nan x y (.inl hx), radd_nan _ _ (.inl (by rw [nan_one]; exact hx))]
theorem Sim.radd {x y x' y' : Nat} (h : Sim x x') (k : Sim y y') : radd x y = radd x' y' := by rw [← radd_one x y, h, k, radd_one]
theorem flip_nan {x : Nat} (hx : x < 18446744073709551616) : Flt.nan (Flt.flip x) = Flt.nan x := by unfold Flt.nan; rw [mag_flip x hx]
theorem Sim.flip {x x' : Nat} (h : Sim x x') (hx : x < 18446744073709551616) (hx' : x' < 18446744073709551616) : Sim (Flt.flip x) (Flt.flip x') := by
  have hn := h.nan
  cases hv : Flt.nan x
  · have : x = x' := by have e := h; unfold Sim at e; rw [one_num hv, one_num (by rw [← hn]; exact hv)] at e; exact e
    rw [this]; exact Sim.refl _
  · unfold Sim
    rw [one_nan (by rw [flip_nan hx]; exact hv), one_nan (by rw [flip_nan hx', ← hn]; exact hv)]

theorem cut_nan (x y t : Nat) : Flt.nan ((Question.nanBits .f64 x y).cut t) = true ∧ (Question.nanBits .f64 x y).cut t < 18446744073709551616 := by
  have e : (Question.nanBits .f64 x y).cut t = (t % 2) * 9223372036854775808 + 9218868437227405312 + 1 + (t / 2) % 4503599627370495 := rfl
  rw [e]
  unfold Flt.nan mag
  rw [decide_eq_true_iff]
  have hr : t / 2 % 4503599627370495 < 4503599627370495 := Nat.mod_lt _ (by omega)
  generalize t / 2 % 4503599627370495 = r at *
  rcases (show t % 2 = 0 ∨ t % 2 = 1 by omega) with q | q <;> rw [q] <;> omega
theorem faddV_sim (x y : Nat) (w : World) : Sim (faddV x y w) (radd x y) ∧ faddV x y w < 18446744073709551616 := by
  unfold faddV radd
  cases h : D.add x y with
  | some r => exact ⟨Sim.refl _, Ieee.Format.add_lt D h⟩
  | none =>
    obtain ⟨h1, h2⟩ := cut_nan x y (w.tape w.drawn (.nanBits .f64 x y))
    exact ⟨by unfold Sim; rw [one_nan h1]; decide, h2⟩
theorem read_flip (y : Nat) (hy : y < 18446744073709551616) : (D.read y).opposite = D.read (Flt.flip y) ∨ Flt.nan y = true := by
  cases hn : Flt.nan y
  · left
    have hm : mag y ≤ 9218868437227405312 := by unfold Flt.nan at hn; simpa using hn
    by_cases h : mag y < 9218868437227405312
    · rw [read_fin y h, read_fin (Flt.flip y) (by rw [mag_flip y hy]; exact h), mag_flip y hy, neg_flip y hy]; rfl
    · rw [read_inf y (by omega), read_inf (Flt.flip y) (by rw [mag_flip y hy]; omega), neg_flip y hy]; rfl
  · exact .inr rfl
theorem sub_eq (x y : Nat) (hy : y < 18446744073709551616) : D.sub x y = D.add x (Flt.flip y) := by
  rcases read_flip y hy with h | h
  · unfold Ieee.Format.sub Ieee.Format.add; rw [h]
  · rw [add_nan x (Flt.flip y) (.inr (by rw [flip_nan hy]; exact h))]
    obtain ⟨s, t, e⟩ := read_nan y h
    unfold Ieee.Format.sub
    rw [e, sum_comm]; rfl
theorem fsubV_sim (x y : Nat) (w : World) (hy : y < 18446744073709551616) : Sim (fsubV x y w) (rsub x y) ∧ fsubV x y w < 18446744073709551616 := by
  unfold fsubV rsub radd
  rw [sub_eq x y hy]
  cases h : D.add x (Flt.flip y) with
  | some r => exact ⟨Sim.refl _, Ieee.Format.add_lt D h⟩
  | none =>
    obtain ⟨h1, h2⟩ := cut_nan x y (w.tape w.drawn (.nanBits .f64 x y))
    exact ⟨by unfold Sim; rw [one_nan h1]; decide, h2⟩
theorem faddW_still (x y : Nat) (w : World) : Still w (faddW x y w) := by
  unfold faddW; cases D.add x y with
  | some r => exact Still.refl _
  | none => exact (Still.refl _).drew
theorem fsubW_still (x y : Nat) (w : World) : Still w (fsubW x y w) := by
  unfold fsubW; cases D.sub x y with
  | some r => exact Still.refl _
  | none => exact (Still.refl _).drew

theorem mag_mag (x : Nat) : mag (mag x) = mag x := by unfold mag; omega
theorem nan_mag (x : Nat) : Flt.nan (mag x) = Flt.nan x := by unfold Flt.nan; rw [mag_mag]
theorem key_mag (x : Nat) : key (mag x) = (mag x : Int) := by
  have : neg (mag x) = false := by unfold neg mag; rw [beq_eq_false_iff_ne]; omega
  unfold key; rw [this, mag_mag]; rfl
theorem fgeq_mag (a b : Nat) : fgeq (mag a) (mag b) = (!nan a && !nan b && decide (mag b ≤ mag a)) := by
  unfold fgeq
  cases ha : nan a
  · cases hb : nan b
    · rw [order_eq _ _ (by rw [nan_mag]; exact ha) (by rw [nan_mag]; exact hb), key_mag, key_mag]
      have e : compare (mag a : Int) (mag b : Int) = if mag a < mag b then Ordering.lt else if mag a = mag b then Ordering.eq else Ordering.gt := by
        simp only [compare, compareOfLessAndEq]
        by_cases h1 : mag a < mag b
        · rw [if_pos h1, if_pos (by omega)]
        · rw [if_neg h1, if_neg (by omega)]
          by_cases h2 : mag a = mag b
          · rw [if_pos h2, if_pos (by omega)]
          · rw [if_neg h2, if_neg (by omega)]
      rw [e]
      by_cases h1 : mag a < mag b
      · have : ¬ mag b ≤ mag a := by omega
        simp [h1, this]
      · have : mag b ≤ mag a := by omega
        by_cases h2 : mag a = mag b <;> simp [h1, h2, this]
    · rw [order_nan _ _ (.inr (by rw [nan_mag]; exact hb))]; simp
  · rw [order_nan _ _ (.inl (by rw [nan_mag]; exact ha))]; simp
def ploss (a b t : Nat) : Nat := if fgeq (mag a) (mag b) then radd (rsub a t) b else radd (rsub b t) a
theorem rloss_eq (a b : Nat) : rloss a b = ploss a b (radd a b) := by
  unfold rloss ploss
  rw [fgeq_mag]
  cases nan a <;> cases nan b <;> simp

theorem ploss_sim {a b t t' : Nat} (h : Sim t t') (ht : t < 18446744073709551616) (ht' : t' < 18446744073709551616) : ploss a b t = ploss a b t' := by
  unfold ploss rsub
  rw [(Sim.refl a).radd (h.flip ht ht'), (Sim.refl b).radd (h.flip ht ht')]
def FRes (w : World) (v : Nat) (e : Ending) (w' : World) : Prop := ∃ r, e = .returned (.float .f64 r) ∧ Sim r v ∧ r < 18446744073709551616 ∧ Still w w'

set_option maxHeartbeats 400000 in
theorem ploss_any (a b t : Nat) (w : World) (ha : a < 18446744073709551616) (hb : b < 18446744073709551616) (ht : t < 18446744073709551616) :
    Calls Try.prog 79 #[.float .f64 a, .float .f64 b, .float .f64 t] w (FRes w (ploss a b t)) := by
  have ha' := Lib.hid ha
  have hb' := Lib.hid hb
  have ht' := Lib.hid ht
  have k1 := run_fadd
  have k2 := run_fsub
  clear ha hb ht
  cases h1 : (FloatKind.f64.format.order (mag a) (mag b) == some Ordering.gt) <;> cases h2 : (FloatKind.f64.format.order (mag a) (mag b) == some Ordering.eq)
  · have hr : Hid (ploss a b t = radd (rsub b t) a) := by
      show _ = _; unfold ploss fgeq
      rw [show (D.order (mag a) (mag b) == some Ordering.gt) = false from h1, show (D.order (mag a) (mag b) == some Ordering.eq) = false from h2]; rfl
    go_enter Try.func79, Try.ntmps79
    go_wp2_with fail
    refine (abs_any a _ ha'.out).mono ?_
    rintro e w1 ⟨rfl, rfl⟩
    go_wp2_with fail
    refine (abs_any b _ hb'.out).mono ?_
    rintro e w1 ⟨rfl, rfl⟩
    go_wp2_with fail
    go_ret
    obtain ⟨s1, l1⟩ := fsubV_sim b t w ht'.out
    obtain ⟨s2, l2⟩ := faddV_sim (fsubV b t w) a (fsubW b t w)
    exact ⟨_, rfl, by unfold Sim; rw [s2, hr.out, s1.radd (Sim.refl a)], l2, (fsubW_still _ _ _).trans (faddW_still _ _ _)⟩
  all_goals
    have hr : Hid (ploss a b t = radd (rsub a t) b) := by
      show _ = _; unfold ploss fgeq
      rw [show (D.order (mag a) (mag b) == some Ordering.gt) = _ from h1, show (D.order (mag a) (mag b) == some Ordering.eq) = _ from h2]; rfl
    go_enter Try.func79, Try.ntmps79
    go_wp2_with fail
    refine (abs_any a _ ha'.out).mono ?_
    rintro e w1 ⟨rfl, rfl⟩
    go_wp2_with fail
    refine (abs_any b _ hb'.out).mono ?_
    rintro e w1 ⟨rfl, rfl⟩
    go_wp2_with fail
    go_ret
    obtain ⟨s1, l1⟩ := fsubV_sim a t w ht'.out
    obtain ⟨s2, l2⟩ := faddV_sim (fsubV a t w) b (fsubW a t w)
    exact ⟨_, rfl, by unfold Sim; rw [s2, hr.out, s1.radd (Sim.refl b)], l2, (fsubW_still _ _ _).trans (faddW_still _ _ _)⟩

/-- complex numbers as pairs of words -/
abbrev CW (p : Nat × Nat) : Value := .complex .f64 p.1 p.2
def Sim2 (p q : Nat × Nat) : Prop := Sim p.1 q.1 ∧ Sim p.2 q.2
def CRes (w : World) (q : Nat × Nat) (e : Ending) (w' : World) : Prop := ∃ p, e = .returned (CW p) ∧ Sim2 p q ∧ Ok2 p ∧ Still w w'

end Go.Proofs.Ytimiojckinpfdaa.Pq

/- The walks of Merge, Total, Of, and of the law's small functions. -/
namespace Go.Proofs.Ytimiojckinpfdaa.Pq
open Go.RowKit Flt

theorem Sim.num {x y : Nat} (h : Sim x y) (hx : Flt.nan x = false) : x = y := by
  have e := h
  unfold Sim at e
  rwa [one_num hx, one_num (by rw [← h.nan]; exact hx)] at e
theorem rloss_nan {a b : Nat} (h : Flt.nan a = true ∨ Flt.nan b = true) : rloss a b = 9221120237041090560 := by
  have : ¬ (Flt.nan a = false ∧ Flt.nan b = false ∧ mag b ≤ mag a) := by
    rintro ⟨h1, h2, _⟩
    rcases h with h | h
    · rw [h1] at h; cases h
    · rw [h2] at h; cases h
  unfold rloss
  rw [if_neg this]
  rcases h with h | h
  · exact radd_nan _ _ (.inr h)
  · have h2 : rsub b (radd a b) = 9221120237041090560 := radd_nan _ _ (.inl h)
    rw [h2]; exact radd_nan _ _ (.inl (by decide))
theorem rloss_sim {a a' b b' : Nat} (h : Sim a a') (k : Sim b b') : rloss a b = rloss a' b' := by
  cases hna : Flt.nan a
  · cases hnb : Flt.nan b
    · rw [h.num hna, k.num hnb]
    · rw [rloss_nan (.inr hnb), rloss_nan (.inr (by rw [← k.nan]; exact hnb))]
  · rw [rloss_nan (.inl hna), rloss_nan (.inl (by rw [← h.nan]; exact hna))]
theorem rput_sim {p q : Nat × Nat} {x y : Nat} (h : Sim2 p q) (k : Sim x y) : rput p x = rput q y := by
  unfold rput
  rw [h.1.radd k, rloss_sim h.1 k, h.2.radd (Sim.refl _)]
theorem rmerge_sim {p q p' q' : Nat × Nat} (h : Sim2 p p') (k : Sim2 q q') : rmerge p q = rmerge p' q' := by
  unfold rmerge
  rw [h.1.radd k.1, rloss_sim h.1 k.1, h.2.radd k.2]

set_option maxHeartbeats 400000 in
theorem pmerge_any (p q : Nat × Nat) (w : World) (hp : Ok2 p) (hq : Ok2 q) :
    Calls Try.prog 48 #[.complex .f64 p.1 p.2, .complex .f64 q.1 q.2] w (CRes w (rmerge p q)) := by
  obtain ⟨s, c⟩ := p
  obtain ⟨hs, hc⟩ := hp
  obtain ⟨x, d⟩ := q
  obtain ⟨hx, hd⟩ := hq
  have hs' := Lib.hid hs
  have hc' := Lib.hid hc
  have hx' := Lib.hid hx
  have hd' := Lib.hid hd
  have k1 := run_fadd
  clear hs hc hx hd
  dsimp only at hs' hc' hx' hd' ⊢
  obtain ⟨t1, t2⟩ := faddV_sim s x w
  have t1' := Lib.hid t1
  have t2' := Lib.hid t2
  obtain ⟨v1, v2⟩ := faddV_sim c d (faddW s x w)
  have v1' := Lib.hid v1
  clear t1 t2 v1 v2
  have st := Lib.hid ((faddW_still s x w).trans (faddW_still c d _))
  go_enter Try.func48, Try.ntmps48
  go_wp2_with fail
  refine (ploss_any s x _ _ hs'.out hx'.out t2'.out).mono ?_
  rintro e w1 ⟨r, rfl, r1, r2, r3⟩
  have r1' := Lib.hid r1
  have r2' := Lib.hid r2
  clear r1 r2
  go_wp2_with fail
  go_ret
  obtain ⟨u1, u2⟩ := faddV_sim (faddV c d (faddW s x w)) r w1
  refine ⟨(faddV s x w, faddV (faddV c d (faddW s x w)) r w1), rfl, ⟨t1'.out, ?_⟩, ⟨t2'.out, u2⟩, (st.out.trans r3).trans (faddW_still _ _ _)⟩
  unfold Sim
  rw [u1]
  show one (radd (faddV c d (faddW s x w)) r) = one (radd (radd c d) (rloss s x))
  have : ploss s x (faddV s x w) = rloss s x := by rw [rloss_eq]; exact ploss_sim t1'.out t2'.out (radd_lt _ _)
  rw [v1'.out.radd r1'.out, this]

set_option maxHeartbeats 400000 in
theorem ptotal_any (p : Nat × Nat) (w : World) :
    Calls Try.prog 56 #[.complex .f64 p.1 p.2] w (FRes w (radd p.1 p.2)) := by
  have k1 := run_fadd
  go_enter Try.func56, Try.ntmps56
  go_wp2_with fail
  go_ret
  obtain ⟨u1, u2⟩ := faddV_sim p.1 p.2 w
  exact ⟨_, rfl, by unfold Sim; rw [u1], u2, faddW_still _ _ _⟩

theorem sameW_of {x y : Nat} (h : Sim x y) : sameW x y = true := by unfold sameW; rw [beq_iff_eq]; exact h

end Go.Proofs.Ytimiojckinpfdaa.Pq
