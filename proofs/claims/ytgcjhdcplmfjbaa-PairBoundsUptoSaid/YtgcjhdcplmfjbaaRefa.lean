/- The walks of the reference's sum of two floats. -/
import Derived.Test.YtgcjhdcplmfjbaaRefw
namespace Go.Proofs.Ytgcjhdcplmfjbaa
open Go.RowKit Flt

theorem xor_flip (a : Nat) (h : a < 18446744073709551616) : a ^^^ 9223372036854775808 = flip a := by
  have key : ∀ b, b < 9223372036854775808 → b ^^^ 9223372036854775808 = b + 9223372036854775808 := by
    intro b hb
    have h1 := nat_join 63 9223372036854775808 b (by decide) (by rw [show (2 ^ 63 : Nat) = 9223372036854775808 from rfl]; exact hb)
    have h2 : b ^^^ 9223372036854775808 = 9223372036854775808 ||| b := by
      apply Nat.eq_of_testBit_eq
      intro i
      rw [Nat.testBit_xor, Nat.testBit_or, show (9223372036854775808 : Nat) = 2 ^ 63 from rfl, Nat.testBit_two_pow]
      by_cases e : 63 = i
      · subst e
        have : b.testBit 63 = false := Nat.testBit_lt_two_pow (by rw [show (2 ^ 63 : Nat) = 9223372036854775808 from rfl]; exact hb)
        simp [this]
      · simp [e]
    rw [h2, h1]; omega
  unfold Flt.flip
  by_cases hs : a < 9223372036854775808
  · rw [if_pos hs, key a hs]
  · rw [if_neg hs]
    have h1 := key (a - 9223372036854775808) (by omega)
    have h2 : a - 9223372036854775808 + 9223372036854775808 = a := by omega
    rw [h2] at h1
    have h3 : a ^^^ 9223372036854775808 = (a - 9223372036854775808 ^^^ 9223372036854775808) ^^^ 9223372036854775808 := by rw [h1]
    rw [h3, Nat.xor_assoc, Nat.xor_self, Nat.xor_zero]
theorem flip_lt (a : Nat) (h : a < 18446744073709551616) : flip a < 18446744073709551616 := by unfold Flt.flip; split <;> omega

set_option maxHeartbeats 400000 in
theorem negative_any (a : Nat) (w : World) (ha : a < 18446744073709551616) :
    Calls Try.prog 35 #[.int .u64 a] w fun e w' => e = .returned (.int .u64 (flip a : Nat)) ∧ w = w' := by
  have hm : bits BinOp.xor IntKind.u64 (a : Int) 9223372036854775808 = ((flip a : Nat) : Int) := by
    have := u64_xor_nat a 9223372036854775808 ha (by omega)
    rw [xor_flip a ha] at this; exact this
  have ha' := Lib.hid ha
  clear ha
  go_enter Try.func35, Try.ntmps35
  go_wp2
  go_ret
  exact ⟨rfl, rfl⟩

def ebits (a : Nat) : Nat := a / 4503599627370496 % 2048
theorem ebits_mag (a : Nat) : ebits a = mag a / 4503599627370496 := by unfold ebits mag; omega
theorem frac_mag (a : Nat) : lowfrac a = mag a % 4503599627370496 := by unfold lowfrac mag; omega
theorem sig_of (a : Nat) : sig (mag a) = if ebits a = 0 then lowfrac a else 4503599627370496 + lowfrac a := by
  rw [ebits_mag, frac_mag]; unfold sig
  by_cases h : mag a < 4503599627370496
  · rw [if_pos h, if_pos (by omega)]; omega
  · rw [if_neg h, if_neg (by omega)]
theorem ex_of (a : Nat) : ex (mag a) = if ebits a = 0 then -1074 else (ebits a : Int) - 1075 := by
  rw [ebits_mag]; unfold ex
  by_cases h : mag a < 4503599627370496
  · rw [if_pos h, if_pos (by omega)]
  · rw [if_neg h, if_neg (by omega)]; omega

set_option maxHeartbeats 400000 in
theorem parts_any (a : Nat) (w : World) (ha : a < 18446744073709551616) :
    Calls Try.prog 43 #[.int .u64 a] w fun e w' => e = .returned (.tuple #[.int .u64 (sig (mag a) : Nat), .int .i64 (ex (mag a))]) ∧ w = w' := by
  have r1 : (a : Int) / 4503599627370496 = ((a / 4503599627370496 : Nat) : Int) := by omega
  have r2 : bits BinOp.and IntKind.u64 ((a / 4503599627370496 : Nat) : Int) 2047 = ((ebits a : Nat) : Int) := by
    have h1 := u64_and_nat (a / 4503599627370496) 2047 (by omega) (by omega)
    have h2 := Nat.and_two_pow_sub_one_eq_mod (a / 4503599627370496) 11
    rw [show (2 ^ 11 - 1 : Nat) = 2047 from rfl] at h2
    rw [h2] at h1; exact h1
  have r3 := and_frac a ha
  have hl : lowfrac a < 4503599627370496 := by unfold lowfrac; omega
  have he : ebits a < 2048 := by unfold ebits; omega
  have r4 : bits BinOp.or IntKind.u64 ((lowfrac a : Nat) : Int) 4503599627370496 = ((4503599627370496 + lowfrac a : Nat) : Int) := by
    have h2 := u64_or_nat (lowfrac a) 4503599627370496 (by omega) (by omega)
    have h3 := nat_join 52 4503599627370496 (lowfrac a) (by decide) (by rw [show (2 ^ 52 : Nat) = 4503599627370496 from rfl]; exact hl)
    rw [Nat.or_comm, h3] at h2
    exact h2
  have hs := Lib.hid (sig_of a)
  have hx := Lib.hid (ex_of a)
  have ha' := Lib.hid ha
  have hl' := Lib.hid hl
  clear ha hl
  generalize hq : a / 4503599627370496 = q at *
  clear hq
  generalize hE : ebits a = E at *
  have hE' := Lib.hid hE; clear hE
  by_cases h0 : E = 0
  · subst h0
    go_enter Try.func43, Try.ntmps43
    go_wp2
    go_ret2
    exact ⟨by rw [hs.out, hx.out]; rfl, rfl⟩
  · have g1 : ((E : Int) == 0) = false := by rw [beq_eq_false_iff_ne]; omega
    have h0' := Lib.hid h0
    clear h0
    go_enter Try.func43, Try.ntmps43
    go_wp2
    go_ret2
    exact ⟨by rw [hs.out, hx.out, if_neg h0'.out, if_neg h0'.out]; rfl, rfl⟩

def sgn (a : Nat) : Nat := if neg a then 9223372036854775808 else 0
theorem and_sign (a : Nat) (h : a < 18446744073709551616) : bits BinOp.and IntKind.u64 (a : Int) 9223372036854775808 = ((sgn a : Nat) : Int) := by
  have h1 := u64_and_nat a 9223372036854775808 h (by omega)
  have h2 := nat_bit 63 a
  rw [show (2 ^ 63 : Nat) = 9223372036854775808 from rfl] at h2
  rw [h2] at h1
  have h3 : a / 9223372036854775808 % 2 * 9223372036854775808 = sgn a := by
    unfold sgn neg
    rcases (show a / 9223372036854775808 % 2 = 0 ∨ a / 9223372036854775808 % 2 = 1 by omega) with q | q <;> rw [q] <;> rfl
  rw [h3] at h1; exact h1
theorem stk_small (n k j : Nat) (h : stk n k ≤ 1) : stk n (k + j) = stk n k := by
  induction j with
  | zero => rfl
  | succ j ih =>
    rw [← Nat.add_assoc, ← stk_stk, ih]
    rcases (show stk n k = 0 ∨ stk n k = 1 by omega) with q | q <;> rw [q] <;> decide

/-- both numbers, the greater magnitude ahead -/
structure Big (a b x y : Nat) : Prop where
  xl : x < 18446744073709551616
  yl : y < 18446744073709551616
  ge : mag y ≤ mag x
  nx : nan x = false
  ny : nan y = false
  sum : radd a b = radd x y

theorem Big.fin {a b x y : Nat} (h : Big a b x y) (hx : ¬ mag x = 9218868437227405312) : mag x < 9218868437227405312 := by
  have := h.nx; unfold nan at this; have h2 : mag x ≤ 9218868437227405312 := by simpa using this
  omega

def TT (t : Bool) (P : Prop) : Prop := t = true ↔ P
theorem TT.no {P : Prop} (h : TT false P) : ¬ P := fun p => by have := h.2 p; cases this
theorem TT.yes {P : Prop} (h : TT true P) : P := h.1 rfl
def RL (N : Nat) (E F : Int) (p q : Value) : Prop := ∃ k : Nat, q = .int .i64 (F + k) ∧ p = .int .u64 (stk N k : Nat) ∧ F + k ≤ E
theorem stk_lt (N k : Nat) (h : N < 72057594037927936) : stk N k < 72057594037927936 := by
  have h1 : N / 2 ^ k ≤ N := Nat.div_le_self _ _
  unfold stk
  split
  · omega
  · by_cases hk : k = 0
    · subst hk; rename_i h2; simp [Nat.mod_one] at h2
    · have h2 : 2 ^ 1 ≤ 2 ^ k := Nat.pow_le_pow_right (by omega) (by omega)
      have h3 : N / 2 ^ k ≤ N / 2 := Nat.div_le_div_left h2 (by omega)
      omega
theorem stk_le_sig {g h : Nat} (hgh : h ≤ g) : stk (8 * sig h) (ex g - ex h).toNat ≤ 8 * sig g := by
  have hm := ex_mono hgh
  by_cases e : ex h = ex g
  · have : (ex g - ex h).toNat = 0 := by omega
    rw [this, stk_zero]
    have := sig_mono hgh e; omega
  · have h1 := sig_ge (g := g) (by have := ex_ge h; omega)
    have h2 := sig_lt h
    have h3 := stk_le (8 * sig h) (ex g - ex h).toNat (by omega)
    omega
def SW (a b : Nat) (p q : Value) : Prop := ∃ x y : Nat, p = .int .u64 x ∧ q = .int .u64 y ∧ Big a b x y

set_option maxRecDepth 100000 in
set_option maxHeartbeats 2000000 in
theorem add_any (a b : Nat) (w : World) (ha : a < 18446744073709551616) (hb : b < 18446744073709551616) :
    Calls Try.prog 31 #[.int .u64 a, .int .u64 b] w fun e w' => e = .returned (.int .u64 (radd a b : Nat)) ∧ w = w' := by
  cases hna : nan a
  · cases hnb : nan b
    · have hA := Lib.hid ha
      have hB := Lib.hid hb
      have m1 := mag_bits a ha
      have m2 := mag_bits b hb
      clear ha hb
      have hna' := Lib.hid hna
      have hnb' := Lib.hid hnb
      have hsw : ∃ t : Bool, decide (mag a < mag b) = t ∧ TT t (mag a < mag b) := ⟨_, rfl, by show _ ↔ _; rw [decide_eq_true_iff]⟩
      obtain ⟨t, ht, htt⟩ := hsw
      go_enter Try.func31, Try.ntmps31
      go_wp2_with fail
      refine (isnan_any a _ hA.out).mono ?_
      rintro e w1 ⟨rfl, rfl⟩
      go_wp2_with fail
      refine (isnan_any b _ hB.out).mono ?_
      rintro e w2 ⟨rfl, rfl⟩
      go_upto_if 24 with fail
      go_cut [0, 1] (fun p q wx => w = wx ∧ SW a b p q)
      case first =>
        cases t
        · go_wp2_with fail
          go_meet
          exact ⟨rfl, a, b, rfl, rfl, hA.out, hB.out, by have := htt.no; omega, hna'.out, hnb'.out, rfl⟩
        · go_wp2_with fail
          go_meet
          exact ⟨rfl, b, a, rfl, rfl, hB.out, hA.out, by have := htt.yes; omega, hnb'.out, hna'.out, radd_comm a b⟩
      case rest =>
        obtain ⟨rfl, x, y, rfl, rfl, hBig⟩ := hcut
        clear ht m1 m2 hna hnb
        have hBig' := Lib.hid hBig
        have m1 := mag_bits x hBig.xl
        clear hBig
        by_cases hinf : mag x = 9218868437227405312
        · have g1 : ((mag x : Int) == 9218868437227405312) = true := by rw [beq_iff_eq]; omega
          have hinf' := Lib.hid hinf
          clear hinf
          have hr := Lib.hid (radd_inf x y hBig'.out.xl hBig'.out.yl hinf'.out hBig'.out.ny)
          go_wp2_with fail
          refine (negative_any x _ hBig'.out.xl).mono ?_
          rintro e w1 ⟨rfl, rfl⟩
          by_cases hfl : y = Flt.flip x
          · have g2 : ((y : Int) == (Flt.flip x : Int)) = true := by rw [beq_iff_eq]; omega
            have g3 : (y == Flt.flip x) = true := by rw [beq_iff_eq]; exact hfl
            have hfl' := Lib.hid hfl
            clear hfl
            go_wp2_with fail
            go_ret
            exact ⟨by rw [hBig'.out.sum, hr.out, if_pos hfl'.out]; rfl, rfl⟩
          · have g2 : ((y : Int) == (Flt.flip x : Int)) = false := by rw [beq_eq_false_iff_ne]; omega
            have g3 : (y == Flt.flip x) = false := by rw [beq_eq_false_iff_ne]; exact hfl
            have hfl' := Lib.hid hfl
            clear hfl
            go_wp2_with fail
            go_ret
            exact ⟨by rw [hBig'.out.sum, hr.out, if_neg hfl'.out]; rfl, rfl⟩
        · have g1 : ((mag x : Int) == 9218868437227405312) = false := by rw [beq_eq_false_iff_ne]; omega
          have hfin := Lib.hid (hBig'.out.fin hinf)
          clear hinf
          have hsx : Hid (sig (mag x) < 9007199254740992) := sig_lt _
          have hsy : Hid (sig (mag y) < 9007199254740992) := sig_lt _
          have hxl := ex_ge (mag y)
          have hxm : ex (mag y) ≤ ex (mag x) := ex_mono hBig'.out.ge
          have hxh : ex (mag x) ≤ 971 := ex_le _ hfin.out
          have w8x : IntKind.u64.wrap ((sig (mag x) : Int) * 8) = ((8 * sig (mag x) : Nat) : Int) := by have := hsx.out; rw [IntKind.wrap_u64]; omega
          have w8y : IntKind.u64.wrap ((sig (mag y) : Int) * 8) = ((8 * sig (mag y) : Nat) : Int) := by have := hsy.out; rw [IntKind.wrap_u64]; omega
          have hm8 : Hid (8 * sig (mag x) < 72057594037927936) := by show _ < _; have := hsx.out; omega
          have hn8 : Hid (8 * sig (mag y) < 72057594037927936) := by show _ < _; have := hsy.out; omega
          go_wp2_with fail
          refine (parts_any x _ hBig'.out.xl).mono ?_
          rintro e w1 ⟨rfl, rfl⟩
          go_wp2_with fail
          refine (parts_any y _ hBig'.out.yl).mono ?_
          rintro e w1 ⟨rfl, rfl⟩
          have hle : Hid (stk (8 * sig (mag y)) (ex (mag x) - ex (mag y)).toNat ≤ 8 * sig (mag x)) := stk_le_sig hBig'.out.ge
          have hsame := fun h => Lib.hid (radd_same x y hfin.out hBig'.out.ge h)
          have hdiff := fun h => Lib.hid (radd_diff x y hfin.out hBig'.out.ge h)
          generalize hex : ex (mag x) = E at *
          generalize hey : ex (mag y) = F at *
          generalize hm80 : 8 * sig (mag x) = M at *
          generalize hn80 : 8 * sig (mag y) = N at *
          have hex' := Lib.hid hex
          have hey' := Lib.hid hey
          clear hex hey hm80 hn80
          go_wp2_with fail
          clear w8x w8y
          go_loop [9, 11] (fun p q => RL N E F p q) (fun _ q => (E - intOf q).toNat)
          case atStart => exact ⟨0, by simp, by rw [stk_zero], by omega⟩
          case round =>
            obtain ⟨k, rfl, rfl, hkd⟩ := hrel
            have hNl : Hid (stk N k < 72057594037927936) := stk_lt N k hn8.out
            by_cases hboth : F + (k : Int) < E ∧ 1 < stk N k
            · obtain ⟨q1, q2⟩ := hboth
              have r1 := and1 (stk N k) (by have := hNl.out; omega)
              have r2 := or_stk (stk N k) (by have := hNl.out; omega)
              rw [stk_stk] at r2
              generalize stk N k = n at *
              go_wp2_with fail
              go_round
              case rel => exact ⟨k + 1, by congr 1; omega, rfl, by omega⟩
              case measure => simp [intOf]; omega
            · have hd : Hid (stk N (E - F).toNat = stk N k) := by
                show _ = _
                by_cases h1 : F + (k : Int) < E
                · have h2 : stk N k ≤ 1 := by omega
                  have := stk_small N k ((E - F).toNat - k) h2
                  rw [← this]; congr 1; omega
                · congr 1; omega
              have htst : Hid (F + (k : Int) < E → stk N k ≤ 1) := by intro h; omega
              generalize stk N k = n at *
              by_cases h1 : F + (k : Int) < E
              · have h2 : n ≤ 1 := htst.out h1
                clear hboth
                have sx := and_sign x hBig'.out.xl
                have sy := and_sign y hBig'.out.yl
                have wadd : IntKind.u64.wrap ((M : Int) + (n : Int)) = ((M + n : Nat) : Int) := by have := hm8.out; have := hNl.out; rw [IntKind.wrap_u64]; omega
                have wsub : n ≤ M → IntKind.u64.wrap ((M : Int) - (n : Int)) = ((M - n : Nat) : Int) := by intro h; have := hm8.out; rw [IntKind.wrap_u64]; omega
                have hnM : Hid (n ≤ M) := by show _ ≤ _; rw [← hd.out]; exact hle.out
                have wsub' := wsub hnM.out
                clear wsub m1
                have hE1 := ex_ge (mag x)
                have hE2 := ex_le _ hfin.out
                rw [hex'.out] at hE1 hE2
                cases hnx : neg x
                · cases hny : neg y
                  · have e1 : sgn x = 0 := by unfold sgn; rw [hnx]; rfl
                    have e2 : sgn y = 0 := by unfold sgn; rw [hny]; rfl
                    rw [e1] at sx
                    rw [e2] at sy
                    have hres := hsame (by rw [hnx, hny])
                    clear hsame hdiff e1 e2
                    rw [hnx] at hres
                    clear hnx hny
                    go_wp2_with fail
                    refine (packed_any false (M + n) E _ (by have := hm8.out; have := hNl.out; omega) (by omega) (by omega)).mono ?_
                    rintro e w1 ⟨rfl, rfl⟩
                    go_wp2_with fail
                    go_ret
                    exact ⟨by rw [hBig'.out.sum, hres.out, hd.out]; rfl, rfl⟩
                  · have e1 : sgn x = 0 := by unfold sgn; rw [hnx]; rfl
                    have e2 : sgn y = 9223372036854775808 := by unfold sgn; rw [hny]; rfl
                    rw [e1] at sx
                    rw [e2] at sy
                    have hres := hdiff (by rw [hnx, hny]; simp)
                    clear hsame hdiff e1 e2
                    rw [hnx] at hres
                    clear hnx hny
                    by_cases heq : M = n
                    · have g2 : (M == n) = true := by rw [beq_iff_eq]; exact heq
                      have g3 : ((M : Int) == (n : Int)) = true := by rw [beq_iff_eq]; omega
                      have heq' := Lib.hid heq
                      clear heq
                      go_wp2_with fail
                      go_ret
                      exact ⟨by rw [hBig'.out.sum, hres.out, hd.out, if_pos heq'.out]; rfl, rfl⟩
                    · have g2 : (M == n) = false := by rw [beq_eq_false_iff_ne]; exact heq
                      have g3 : ((M : Int) == (n : Int)) = false := by rw [beq_eq_false_iff_ne]; omega
                      have heq' := Lib.hid heq
                      clear heq
                      go_wp2_with fail
                      refine (packed_any false (M - n) E _ (by have := hm8.out; omega) (by omega) (by omega)).mono ?_
                      rintro e w1 ⟨rfl, rfl⟩
                      go_wp2_with fail
                      go_ret
                      exact ⟨by rw [hBig'.out.sum, hres.out, hd.out, if_neg heq'.out]; rfl, rfl⟩
                · cases hny : neg y
                  · have e1 : sgn x = 9223372036854775808 := by unfold sgn; rw [hnx]; rfl
                    have e2 : sgn y = 0 := by unfold sgn; rw [hny]; rfl
                    rw [e1] at sx
                    rw [e2] at sy
                    have hres := hdiff (by rw [hnx, hny]; simp)
                    clear hsame hdiff e1 e2
                    rw [hnx] at hres
                    clear hnx hny
                    by_cases heq : M = n
                    · have g2 : (M == n) = true := by rw [beq_iff_eq]; exact heq
                      have g3 : ((M : Int) == (n : Int)) = true := by rw [beq_iff_eq]; omega
                      have heq' := Lib.hid heq
                      clear heq
                      go_wp2_with fail
                      go_ret
                      exact ⟨by rw [hBig'.out.sum, hres.out, hd.out, if_pos heq'.out]; rfl, rfl⟩
                    · have g2 : (M == n) = false := by rw [beq_eq_false_iff_ne]; exact heq
                      have g3 : ((M : Int) == (n : Int)) = false := by rw [beq_eq_false_iff_ne]; omega
                      have heq' := Lib.hid heq
                      clear heq
                      go_wp2_with fail
                      refine (packed_any true (M - n) E _ (by have := hm8.out; omega) (by omega) (by omega)).mono ?_
                      rintro e w1 ⟨rfl, rfl⟩
                      go_wp2_with fail
                      go_ret
                      exact ⟨by rw [hBig'.out.sum, hres.out, hd.out, if_neg heq'.out]; rfl, rfl⟩
                  · have e1 : sgn x = 9223372036854775808 := by unfold sgn; rw [hnx]; rfl
                    have e2 : sgn y = 9223372036854775808 := by unfold sgn; rw [hny]; rfl
                    rw [e1] at sx
                    rw [e2] at sy
                    have hres := hsame (by rw [hnx, hny])
                    clear hsame hdiff e1 e2
                    rw [hnx] at hres
                    clear hnx hny
                    go_wp2_with fail
                    refine (packed_any true (M + n) E _ (by have := hm8.out; have := hNl.out; omega) (by omega) (by omega)).mono ?_
                    rintro e w1 ⟨rfl, rfl⟩
                    go_wp2_with fail
                    go_ret
                    exact ⟨by rw [hBig'.out.sum, hres.out, hd.out]; rfl, rfl⟩
              · clear hboth
                have sx := and_sign x hBig'.out.xl
                have sy := and_sign y hBig'.out.yl
                have wadd : IntKind.u64.wrap ((M : Int) + (n : Int)) = ((M + n : Nat) : Int) := by have := hm8.out; have := hNl.out; rw [IntKind.wrap_u64]; omega
                have wsub : n ≤ M → IntKind.u64.wrap ((M : Int) - (n : Int)) = ((M - n : Nat) : Int) := by intro h; have := hm8.out; rw [IntKind.wrap_u64]; omega
                have hnM : Hid (n ≤ M) := by show _ ≤ _; rw [← hd.out]; exact hle.out
                have wsub' := wsub hnM.out
                clear wsub m1
                have hE1 := ex_ge (mag x)
                have hE2 := ex_le _ hfin.out
                rw [hex'.out] at hE1 hE2
                cases hnx : neg x
                · cases hny : neg y
                  · have e1 : sgn x = 0 := by unfold sgn; rw [hnx]; rfl
                    have e2 : sgn y = 0 := by unfold sgn; rw [hny]; rfl
                    rw [e1] at sx
                    rw [e2] at sy
                    have hres := hsame (by rw [hnx, hny])
                    clear hsame hdiff e1 e2
                    rw [hnx] at hres
                    clear hnx hny
                    go_wp2_with fail
                    refine (packed_any false (M + n) E _ (by have := hm8.out; have := hNl.out; omega) (by omega) (by omega)).mono ?_
                    rintro e w1 ⟨rfl, rfl⟩
                    go_wp2_with fail
                    go_ret
                    exact ⟨by rw [hBig'.out.sum, hres.out, hd.out]; rfl, rfl⟩
                  · have e1 : sgn x = 0 := by unfold sgn; rw [hnx]; rfl
                    have e2 : sgn y = 9223372036854775808 := by unfold sgn; rw [hny]; rfl
                    rw [e1] at sx
                    rw [e2] at sy
                    have hres := hdiff (by rw [hnx, hny]; simp)
                    clear hsame hdiff e1 e2
                    rw [hnx] at hres
                    clear hnx hny
                    by_cases heq : M = n
                    · have g2 : (M == n) = true := by rw [beq_iff_eq]; exact heq
                      have g3 : ((M : Int) == (n : Int)) = true := by rw [beq_iff_eq]; omega
                      have heq' := Lib.hid heq
                      clear heq
                      go_wp2_with fail
                      go_ret
                      exact ⟨by rw [hBig'.out.sum, hres.out, hd.out, if_pos heq'.out]; rfl, rfl⟩
                    · have g2 : (M == n) = false := by rw [beq_eq_false_iff_ne]; exact heq
                      have g3 : ((M : Int) == (n : Int)) = false := by rw [beq_eq_false_iff_ne]; omega
                      have heq' := Lib.hid heq
                      clear heq
                      go_wp2_with fail
                      refine (packed_any false (M - n) E _ (by have := hm8.out; omega) (by omega) (by omega)).mono ?_
                      rintro e w1 ⟨rfl, rfl⟩
                      go_wp2_with fail
                      go_ret
                      exact ⟨by rw [hBig'.out.sum, hres.out, hd.out, if_neg heq'.out]; rfl, rfl⟩
                · cases hny : neg y
                  · have e1 : sgn x = 9223372036854775808 := by unfold sgn; rw [hnx]; rfl
                    have e2 : sgn y = 0 := by unfold sgn; rw [hny]; rfl
                    rw [e1] at sx
                    rw [e2] at sy
                    have hres := hdiff (by rw [hnx, hny]; simp)
                    clear hsame hdiff e1 e2
                    rw [hnx] at hres
                    clear hnx hny
                    by_cases heq : M = n
                    · have g2 : (M == n) = true := by rw [beq_iff_eq]; exact heq
                      have g3 : ((M : Int) == (n : Int)) = true := by rw [beq_iff_eq]; omega
                      have heq' := Lib.hid heq
                      clear heq
                      go_wp2_with fail
                      go_ret
                      exact ⟨by rw [hBig'.out.sum, hres.out, hd.out, if_pos heq'.out]; rfl, rfl⟩
                    · have g2 : (M == n) = false := by rw [beq_eq_false_iff_ne]; exact heq
                      have g3 : ((M : Int) == (n : Int)) = false := by rw [beq_eq_false_iff_ne]; omega
                      have heq' := Lib.hid heq
                      clear heq
                      go_wp2_with fail
                      refine (packed_any true (M - n) E _ (by have := hm8.out; omega) (by omega) (by omega)).mono ?_
                      rintro e w1 ⟨rfl, rfl⟩
                      go_wp2_with fail
                      go_ret
                      exact ⟨by rw [hBig'.out.sum, hres.out, hd.out, if_neg heq'.out]; rfl, rfl⟩
                  · have e1 : sgn x = 9223372036854775808 := by unfold sgn; rw [hnx]; rfl
                    have e2 : sgn y = 9223372036854775808 := by unfold sgn; rw [hny]; rfl
                    rw [e1] at sx
                    rw [e2] at sy
                    have hres := hsame (by rw [hnx, hny])
                    clear hsame hdiff e1 e2
                    rw [hnx] at hres
                    clear hnx hny
                    go_wp2_with fail
                    refine (packed_any true (M + n) E _ (by have := hm8.out; have := hNl.out; omega) (by omega) (by omega)).mono ?_
                    rintro e w1 ⟨rfl, rfl⟩
                    go_wp2_with fail
                    go_ret
                    exact ⟨by rw [hBig'.out.sum, hres.out, hd.out]; rfl, rfl⟩
    · go_enter Try.func31, Try.ntmps31
      have hr := Lib.hid (radd_nan a b (.inr hnb))
      go_wp2_with fail
      refine (isnan_any a _ ha).mono ?_
      rintro e w1 ⟨rfl, rfl⟩
      go_wp2_with fail
      refine (isnan_any b _ hb).mono ?_
      rintro e w2 ⟨rfl, rfl⟩
      go_wp2_with fail
      go_ret
      exact ⟨by rw [hr.out]; rfl, rfl⟩
  · go_enter Try.func31, Try.ntmps31
    have hr := Lib.hid (radd_nan a b (.inl hna))
    go_wp2_with fail
    refine (isnan_any a _ ha).mono ?_
    rintro e w1 ⟨rfl, rfl⟩
    go_wp2_with fail
    refine (isnan_any b _ hb).mono ?_
    rintro e w2 ⟨rfl, rfl⟩
    go_wp2_with fail
    go_ret
    exact ⟨by rw [hr.out]; rfl, rfl⟩
end Go.Proofs.Ytgcjhdcplmfjbaa
