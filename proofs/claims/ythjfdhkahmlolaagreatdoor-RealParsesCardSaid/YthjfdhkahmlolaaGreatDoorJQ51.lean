/- readFloat at a printed number. -/
import Derived.Test.YthjfdhkahmlolaaGreatDoorJQ31
import Derived.Test.YthjfdhkahmlolaaGreatDoorJQ46
import Derived.Test.YthjfdhkahmlolaaGreatDoorJQ47
import Derived.Test.YthjfdhkahmlolaaGreatDoorJQ48
import Derived.Test.YthjfdhkahmlolaaGreatDoorJQ49
import Derived.Test.YthjfdhkahmlolaaGreatDoorJQ50
import Derived.Test.YthjfdhkahmlolaaGreatDoorJQ30
import Derived.Test.YthjfdhkahmlolaaGreatDoorJQ14
import Derived.Test.YthjfdhkahmlolaaGreatDoorJQ11
import Derived.Test.YthjfdhkahmlolaaGreatDoorJQ25
import Derived.Test.YthjfdhkahmlolaaGreatDoorJQ19
namespace Go.Proofs.YthjfdhkahmlolaaGreatDoor
open Go.RowKit
def sgB (neg : Bool) : List UInt8 := if neg then [45] else []
/-- what readFloat answers -/
def RfPost (t : List UInt8) (neg : Bool) (m : Nat) (p : Int) (w : World) (en : Ending) (w' : World) : Prop :=
  en = .returned (.tuple #[.int .u64 m, .int .i64 p, .bool neg, .bool false, .bool false, .int .i64 ((sgB neg ++ t).length : Nat), .bool true]) ∧ w' = w
theorem sg_size (t : List UInt8) (neg : Bool) : (⟨(sgB neg ++ t).toArray⟩ : ByteArray).size = (sgB neg ++ t).length := ba_size _
theorem rfp_plain (t : List UInt8) (neg : Bool) (c0 : Nat) (l0 : List Nat) (st : St) (w : World) (hl : nl t = c0 :: l0) (h0 : 48 ≤ c0 ∧ c0 ≤ 57) (hs : t.length < 1000) (hx : l0 = [] ∨ c0 ≠ 48 ∨ ∃ l1, l0 = 46 :: l1)
    (ht : scan St.zero (nl t) = (st, [])) (hd : st.dig = true) (hu : st.und = false) (htr : st.tr = false) (p : Int) (hm : st.m ≠ 0) (hp : (if st.dot then st.dp else (st.nd : Int)) - st.nM = p) :
    Calls Tryz.prog 117 #[.string ⟨(sgB neg ++ t).toArray⟩] w (RfPost t neg st.m p w) := by
  have hz := sg_size t neg
  rw [hl] at ht
  unfold RfPost
  rw [← hz]
  cases neg
  · have := rf_plain ⟨(sgB false ++ t).toArray⟩ c0 l0 st w (by rw [bl_of]; exact hl) (by rw [hz]; simp [sgB]; omega) ⟨by omega, by omega⟩ hx ht hd hu
    rw [if_neg hm, hp, htr] at this
    exact this
  · have := rf_plain_neg ⟨(sgB true ++ t).toArray⟩ c0 l0 st w (by rw [bl_of, nl_app, hl]; rfl) (by rw [hz]; simp [sgB]; omega) ⟨by omega, by omega⟩ hx ht hd hu
    rw [if_neg hm, hp, htr] at this
    exact this
theorem rfp_exp (t : List UInt8) (neg : Bool) (c0 : Nat) (l0 : List Nat) (st : St) (w : World) (x : Int) (hl : nl t = c0 :: l0) (h0 : 49 ≤ c0 ∧ c0 ≤ 57) (hs : t.length < 1000) (hs3 : 3 ≤ t.length)
    (ht : scan St.zero (nl t) = (st, 101 :: nl (Lib.itoa x))) (hx : -1000 < x ∧ x < 1000) (hd : st.dig = true) (hu : st.und = false) (htr : st.tr = false) (p : Int) (hm : st.m ≠ 0) (hp : (if st.dot then st.dp else (st.nd : Int)) - st.nM = p) :
    Calls Tryz.prog 117 #[.string ⟨(sgB neg ++ t).toArray⟩] w (RfPost t neg st.m (p + x) w) := by
  have hz := sg_size t neg
  rw [hl] at ht
  unfold RfPost
  rw [← hz]
  have hlen : (sgB neg ++ t).length < 4611686018427387904 := by cases neg <;> simp [sgB] <;> omega
  by_cases h : x < 0
  · obtain ⟨n, rfl⟩ : ∃ n : Nat, x = -(n : Int) := ⟨x.natAbs, by omega⟩
    have hi : nl (Lib.itoa (-(n : Int))) = 45 :: nl (Lib.decDigits n) := by
      unfold Lib.itoa; rw [if_pos h, Int.natAbs_neg, Int.natAbs_natCast]; rfl
    obtain ⟨d0, ds, hD, g1, g2⟩ := digs_head n (by omega)
    have hal := digs_all n
    have hdv := dv_digits n
    rw [hi, hD] at ht
    rw [hD] at hal hdv
    cases neg
    · have := rf_expn ⟨(sgB false ++ t).toArray⟩ c0 l0 st w d0 ds n (by rw [bl_of]; exact hl) (by rw [hz]; exact hlen) ⟨by omega, by omega⟩ (by omega) (by rw [hz]; simp [sgB]; omega) ht hal hdv (by omega) hd hu
      rw [if_neg hm, htr, show (if st.dot = true then st.dp else (st.nd : Int)) - (n : Int) - (st.nM : Int) = p + -(n : Int) by omega] at this
      exact this
    · have := rf_expn_neg ⟨(sgB true ++ t).toArray⟩ c0 l0 st w d0 ds n (by rw [bl_of, nl_app, hl]; rfl) (by rw [hz]; exact hlen) ⟨by omega, by omega⟩ (by omega) (by rw [hz]; simp [sgB]; omega) ht hal hdv (by omega) hd hu
      rw [if_neg hm, htr, show (if st.dot = true then st.dp else (st.nd : Int)) - (n : Int) - (st.nM : Int) = p + -(n : Int) by omega] at this
      exact this
  · obtain ⟨n, rfl⟩ : ∃ n : Nat, x = (n : Int) := ⟨x.toNat, by omega⟩
    have hi : nl (Lib.itoa (n : Int)) = nl (Lib.decDigits n) := by
      unfold Lib.itoa; rw [if_neg h, Int.toNat_natCast]
    have hal := digs_all n
    have hdv := dv_digits n
    obtain ⟨d0, ds, hD⟩ : ∃ d0 ds, nl (Lib.decDigits n) = d0 :: ds := by
      obtain ⟨y, l, hy⟩ := dec_cons n
      exact ⟨y.toNat, nl l, by rw [hy]; rfl⟩
    rw [hi, hD] at ht
    rw [hD] at hal hdv
    cases neg
    · have := rf_exp ⟨(sgB false ++ t).toArray⟩ c0 l0 st w d0 ds n (by rw [bl_of]; exact hl) (by rw [hz]; exact hlen) ⟨by omega, by omega⟩ (by omega) (by rw [hz]; simp [sgB]; omega) ht hal hdv (by omega) hd hu
      rw [if_neg hm, htr, show (if st.dot = true then st.dp else (st.nd : Int)) + (n : Int) - (st.nM : Int) = p + (n : Int) by omega] at this
      exact this
    · have := rf_exp_neg ⟨(sgB true ++ t).toArray⟩ c0 l0 st w d0 ds n (by rw [bl_of, nl_app, hl]; rfl) (by rw [hz]; exact hlen) ⟨by omega, by omega⟩ (by omega) (by rw [hz]; simp [sgB]; omega) ht hal hdv (by omega) hd hu
      rw [if_neg hm, htr, show (if st.dot = true then st.dp else (st.nd : Int)) + (n : Int) - (st.nM : Int) = p + (n : Int) by omega] at this
      exact this
end Go.Proofs.YthjfdhkahmlolaaGreatDoor

/- readFloat at a printed number, put together. -/
namespace Go.Proofs.YthjfdhkahmlolaaGreatDoor
open Go.RowKit Usc
theorem rf_printed {c : Nat} {s : Int} (H : Shb c s) (neg : Bool) : ∃ (m : Nat) (p : Int) (j : Nat), m = c * 10 ^ j ∧ p = s - j ∧ (j = 0 ∨ (0 ≤ p ∧ p ≤ 24)) ∧ Lib.nDigits c + j ≤ 19 ∧ (∃ c0 l0, nl (laidB c (exp10 c s)) = c0 :: l0 ∧ 48 ≤ c0 ∧ c0 ≤ 57) ∧
    ∀ w : World, Calls Tryz.prog 117 #[.string ⟨(sgB neg ++ laidB c (exp10 c s)).toArray⟩] w (RfPost (laidB c (exp10 c s)) neg m p w) := by
  have h24 := laid_len24 H
  obtain ⟨c0, c1, n0, n1, s0, s1⟩ := H
  obtain ⟨d, l, hd, d1, d2⟩ := digs_head c c0
  have hs : s = exp10 c s + 1 - Lib.nDigits c := by unfold exp10; omega
  have hb : -1000 < exp10 c s ∧ exp10 c s < 1000 := by unfold exp10; omega
  generalize exp10 c s = e at *
  have hm : ∀ j, c * 10 ^ j ≠ 0 := fun j => Nat.pos_iff_ne_zero.1 (Nat.mul_pos c0 (Nat.pow_pos (by decide)))
  have hlen := digs_len c
  by_cases h1 : 0 ≤ e ∧ e ≤ 20
  · by_cases h2 : (Lib.nDigits c : Int) ≤ e + 1
    · have hL : laidB c e = Lib.decDigits c ++ List.replicate (e + 1 - Lib.nDigits c).toNat 48 := by unfold laidB; rw [if_pos h1, if_pos h2]
      obtain ⟨st, j, hsc, hR, hj, hj2⟩ := scan_A c0 n1 h1 h2
      rw [← hL] at hsc
      have hh : nl (laidB c e) = d :: (l ++ nl (List.replicate (e + 1 - Lib.nDigits c).toNat 48)) := by rw [hL, nl_app, hd]; rfl
      refine ⟨st.m, e + 1 - Lib.nDigits c - j, j, hR.m, by omega, by omega, hj2, ⟨_, _, hh, by omega, d2⟩, ?_⟩
      exact fun w => rfp_plain _ neg _ _ st w hh ⟨by omega, d2⟩ (by omega) (.inr (.inl (by omega))) hsc hR.dig hR.und hR.tr _ (by rw [hR.m]; exact hm j) hR.at_
    · have hL : laidB c e = (Lib.decDigits c).take (e + 1).toNat ++ 46 :: (Lib.decDigits c).drop (e + 1).toNat := by unfold laidB; rw [if_pos h1, if_neg h2]
      obtain ⟨k, hk⟩ : ∃ k, (e + 1).toNat = k + 1 := ⟨(e + 1).toNat - 1, by omega⟩
      have hsc : scan St.zero (nl (laidB c e)) = (⟨c, Lib.nDigits c, Lib.nDigits c, ((k + 1 : Nat) : Int), true, true, false, false⟩, []) := by
        have := scan_B (c := c) (k := k + 1) c0 n1 (by omega) (by omega) []
        rw [List.append_nil, scan_end] at this
        rw [hL, hk, nl_app]
        exact this
      have hh : nl (laidB c e) = d :: (l.take k ++ nl (46 :: (Lib.decDigits c).drop (e + 1).toNat)) := by
        have e1 : nl ((Lib.decDigits c).take (k + 1)) = d :: l.take k := by
          have : nl ((Lib.decDigits c).take (k + 1)) = (nl (Lib.decDigits c)).take (k + 1) := by unfold nl; rw [List.map_take]
          rw [this, hd]; rfl
        rw [hL, nl_app, hk, e1]; rfl
      refine ⟨c, s, 0, by simp, by simp, .inl rfl, by omega, ⟨_, _, hh, by omega, d2⟩, ?_⟩
      exact fun w => rfp_plain _ neg _ _ _ w hh ⟨by omega, d2⟩ (by omega) (.inr (.inl (by omega))) hsc rfl rfl rfl s (by simp only; omega) (by simp only [if_true]; omega)
  · by_cases h2 : -6 ≤ e ∧ e < 0
    · have hL : laidB c e = [48, 46] ++ List.replicate (-e - 1).toNat 48 ++ Lib.decDigits c := by unfold laidB; rw [if_neg h1, if_pos h2]
      have hh : nl (laidB c e) = 48 :: 46 :: (List.replicate (-e - 1).toNat 48 ++ nl (Lib.decDigits c)) := by
        rw [hL, nl_app, nl_app, nl_zeros]; rfl
      have hsc := scan_C (c := c) (k := (-e - 1).toNat) c0 n1
      rw [← hh] at hsc
      refine ⟨c, s, 0, by simp, by simp, .inl rfl, by omega, ⟨_, _, hh, by omega, by omega⟩, ?_⟩
      exact fun w => rfp_plain _ neg _ _ _ w hh ⟨by omega, by omega⟩ (by omega) (.inr (.inr ⟨_, rfl⟩)) hsc rfl rfl rfl s (by simp only; omega) (by simp only [if_true]; omega)
    · have hL : laidB c e = pointB c ++ 101 :: Lib.itoa e := by unfold laidB; rw [if_neg h1, if_neg h2]
      obtain ⟨st, hsc, hR⟩ := scan_D c0 n1 (nl (Lib.itoa e))
      have hsc2 : scan St.zero (nl (laidB c e)) = (st, 101 :: nl (Lib.itoa e)) := by rw [hL, nl_app]; exact hsc
      obtain ⟨r, hp⟩ : ∃ r, nl (pointB c) = d :: r := by
        unfold pointB
        rw [nl_app]
        have : nl ((Lib.decDigits c).take 1) = (nl (Lib.decDigits c)).take 1 := by unfold nl; rw [List.map_take]
        rw [this, hd]
        exact ⟨_, rfl⟩
      have hh : nl (laidB c e) = d :: (r ++ nl (101 :: Lib.itoa e)) := by rw [hL, nl_app, hp]; rfl
      have h3 : 3 ≤ (laidB c e).length := by
        rw [hL]
        have : 1 ≤ (pointB c).length := by rw [← nl_len, hp]; simp
        have : 1 ≤ (Lib.itoa e).length := by
          unfold Lib.itoa
          split
          · simp
          · rw [Lib.decDigits_length]; exact Lib.nDigits_pos _
        simp only [List.length_append, List.length_cons]; omega
      have hm1 : st.m = c := by rw [hR.m]; simp
      refine ⟨st.m, s, 0, by rw [hR.m], by simp, .inl rfl, by omega, ⟨_, _, hh, by omega, d2⟩, ?_⟩
      intro w
      have := rfp_exp _ neg _ _ st w e hh ⟨d1, d2⟩ (by omega) h3 hsc2 hb hR.dig hR.und hR.tr _ (by rw [hm1]; omega) hR.at_
      rw [show (1 : Int) - Lib.nDigits c - ((0 : Nat) : Int) + e = s by omega] at this
      exact this
end Go.Proofs.YthjfdhkahmlolaaGreatDoor

/- Where the decimal reads back as a float, the parser's shift is below 64. Plain. -/
namespace Go.Proofs.YthjfdhkahmlolaaGreatDoor.Usc
set_option maxRecDepth 100000
theorem shift_core {x B A S Q : Nat} (hA : 0 < A) (t2 : B ≤ A * 340282366920938463463374607431768211456) (hx : x < 18446744073709551616) (hS : 18446744073709551616 ≤ S) (hQ : Q = A * (S * 340282366920938463463374607431768211456)) (h : 2 * Q ≤ x * B) : False := by
  have h1 : x * B ≤ 18446744073709551616 * (A * 340282366920938463463374607431768211456) := Nat.mul_le_mul (by omega) t2
  have h2 : A * (18446744073709551616 * 340282366920938463463374607431768211456) ≤ A * (S * 340282366920938463463374607431768211456) := Nat.mul_le_mul_left _ (Nat.mul_le_mul_right _ hS)
  have h3 : 18446744073709551616 * (A * 340282366920938463463374607431768211456) = A * (18446744073709551616 * 340282366920938463463374607431768211456) := Nat.mul_left_comm ..
  have h4 : 0 < Q := by rw [hQ]; exact Nat.mul_pos hA (Nat.mul_pos (by omega) (by decide))
  rw [h3] at h1
  rw [← hQ] at h2
  omega
theorem pfs_lt {b d : Nat} {p : Int} (hb : 1 ≤ b) (hR : Rd b d p) (h0 : 1 ≤ d) (h1 : d < 18446744073709551616) (hp : -348 ≤ p ∧ p ≤ 347) : pfs d p < 64 := by
  rcases Int.lt_or_le (pfs d p) 64 with h | h
  · exact h
  exfalso
  obtain ⟨s1, s2⟩ := pfs_ge (p := p) h0 h1
  obtain ⟨x1, x2, _, _⟩ := pfx_bounds h0 h1
  obtain ⟨t1, t2⟩ := row_top (i := pfi p) (by unfold pfi; omega)
  have t2 : numOf (pfi p) ≤ denOf (pfi p) * 340282366920938463463374607431768211456 := Nat.le_trans t2 (Nat.mul_le_mul_left _ (by decide))
  have cr := parse_cross h0 h1 hp.1 (by omega)
  have he : pfe d p ≤ 1074 := by unfold pfe; omega
  have he2 : pfe d p = 1074 := by
    rcases Int.lt_or_le (pfe d p) 1074 with g | g
    · have := s2 g; omega
    · omega
  have hQ : 0 < denOf (pfi p) * (2 ^ (pfs d p).toNat * 340282366920938463463374607431768211456) := Nat.mul_pos (denOf_pos _) (Nat.mul_pos (Nat.two_pow_pos _) (by decide))
  rw [rd_near] at hR
  have hN := (near_cross (by omega) (Nat.pow_pos (by decide)) cr).2 hR
  have hpos := hN.pos hb (by omega)
  rw [he2] at hpos
  have e0 : ((1074 : Int) - 1074).toNat = 0 := rfl
  rw [e0, Nat.pow_zero, Nat.mul_one] at hpos
  have h64 : 18446744073709551616 ≤ 2 ^ (pfs d p).toNat := Nat.le_trans (by decide : 18446744073709551616 ≤ 2 ^ 64) (Nat.pow_le_pow_right (by decide) (by omega))
  have hA := denOf_pos (pfi p)
  clear hN cr hR hQ t1 x1 s1 s2
  generalize 2 ^ (pfs d p).toNat = S at *
  generalize denOf (pfi p) = A at *
  generalize numOf (pfi p) = B at *
  generalize pfx d = x at *
  obtain ⟨Q, hQ⟩ : ∃ Q, Q = A * (S * 340282366920938463463374607431768211456) := ⟨_, rfl⟩
  rw [← hQ] at hpos
  exact shift_core hA t2 x2 h64 hQ (Nat.le_of_lt hpos)
end Go.Proofs.YthjfdhkahmlolaaGreatDoor.Usc

/- The exponents of decimals that read back as floats. Plain. -/
namespace Go.Proofs.YthjfdhkahmlolaaGreatDoor.Usc
set_option maxRecDepth 100000
theorem ten_le {e k : Nat} (h : e ≤ k) : 10 ^ e ≤ 10 ^ k := Nat.pow_le_pow_right (by decide) h
def tenTo (e : Nat) : Nat := 10 ^ e
theorem tenTo_le {e k : Nat} (h : e ≤ k) : tenTo e ≤ 10 ^ k := ten_le h
theorem low_big : 100000000000000000 * big ≤ tenTo 346 := by decide +kernel
theorem rd_low {b c : Nat} {s : Int} (hb : 1 ≤ b) (hR : Rd b c s) (hc : c < 100000000000000000) : -345 ≤ s := by
  rcases Int.lt_or_le s (-345) with h | h
  · exfalso
    rw [rd_near, show s.toNat = 0 by omega, Nat.pow_zero, Nat.mul_one] at hR
    have h1 := hR.pos hb (Nat.pow_pos (by decide))
    have h2 : tenTo 346 ≤ 10 ^ (-s).toNat := tenTo_le (by omega)
    have h3 : c * big ≤ 100000000000000000 * big := Nat.mul_le_mul_right _ (by omega)
    exact absurd (Nat.lt_of_lt_of_le h1 h3) (Nat.not_lt.2 (Nat.le_trans low_big h2))
  · exact h
theorem mid_top : mid 9218868437227405311 < tenTo 311 * big := by decide +kernel
theorem rd_high {b c : Nat} {s : Int} (hb2 : b < 9218868437227405312) (hR : Rd b c s) (hc : 1 ≤ c) : s ≤ 310 := by
  rcases Int.lt_or_le 310 s with h | h
  · exfalso
    have h1 := hR.le.2
    rw [show (-s).toNat = 0 by omega, Nat.pow_zero, Nat.mul_one] at h1
    have h2 : tenTo 311 ≤ 10 ^ s.toNat := tenTo_le (by omega)
    have h3 : 1 * tenTo 311 ≤ c * 10 ^ s.toNat := Nat.mul_le_mul hc h2
    rw [Nat.one_mul] at h3
    have h4 := Nat.mul_le_mul_right big h3
    have h5 : mid b ≤ mid 9218868437227405311 := by
      rcases Nat.lt_or_ge b 9218868437227405311 with g | g
      · exact Nat.le_of_lt (mid_lt g)
      · rw [show b = 9218868437227405311 by omega]; exact Nat.le_refl _
    exact absurd (Nat.lt_of_le_of_lt (Nat.le_trans h4 (Nat.le_trans h1 h5)) mid_top) (Nat.lt_irrefl _)
  · exact h
/-- what readFloat makes of a printed number is exact for the parser -/
theorem pex_printed {b c j : Nat} {s p : Int} (hb : 1 ≤ b) (hb2 : b < 9218868437227405312) (hR : Rd b c s) (h0 : 1 ≤ c) (h1 : c < 100000000000000000) (hp : p = s - j) (hj : j = 0 ∨ 0 ≤ p) (hm : c * 10 ^ j < 10000000000000000000) :
    Rd b (c * 10 ^ j) p ∧ (-345 ≤ p ∧ p ≤ 310) ∧ pfs (c * 10 ^ j) p < 64 ∧ (p ≤ 24 → PEx (c * 10 ^ j) p) ∧ (j = 0 → PEx (c * 10 ^ j) p) := by
  have hR2 : Rd b (c * 10 ^ j) p := by
    rw [Nat.mul_comm]
    refine (Rd.tens b j c p).2 ?_
    rw [show p + (j : Int) = s by omega]
    exact hR
  have hl := rd_low hb hR h1
  have hh := rd_high hb2 hR h0
  have hm0 : 1 ≤ c * 10 ^ j := Nat.mul_pos h0 (Nat.pow_pos (by decide))
  have hs := pfs_lt hb hR2 hm0 (by omega) (p := p) (by omega)
  have small : j = 0 → PEx (c * 10 ^ j) p := fun h => by
    subst h
    exact pex_small hm0 (by rw [Nat.pow_zero, Nat.mul_one]; omega) (by omega) hs
  refine ⟨hR2, by omega, hs, fun h => ?_, small⟩
  by_cases hj0 : j = 0
  · exact small hj0
  · refine pex_whole hm0 (by omega) ?_ (by omega)
    obtain ⟨k, rfl⟩ : ∃ k, j = k + 1 := ⟨j - 1, by omega⟩
    rw [Nat.pow_succ, ← Nat.mul_assoc]
    omega
end Go.Proofs.YthjfdhkahmlolaaGreatDoor.Usc

/- atof64 at a printed number. -/
namespace Go.Proofs.YthjfdhkahmlolaaGreatDoor
open Go.RowKit Usc
set_option maxRecDepth 100000
def sgN (neg : Bool) : Nat := if neg then 9223372036854775808 else 0
theorem word_sg (neg : Bool) (b : Nat) : Ieee.double.word neg b = sgN neg + b := Pq.Flt.word_eq neg b
theorem pack_printed {b d : Nat} {p : Int} (sg : Nat) (hsg : sg = 0 ∨ sg = 9223372036854775808) (hb : 1 ≤ b) (hb2 : b < 9218868437227405312) (hR : Rd b d p) (h0 : 1 ≤ d) (h1 : d < 18446744073709551616) (hp : -345 ≤ p ∧ p ≤ 310) (hx : PEx d p) (w : World) :
    Calls Tryz.prog 158 #[.int .u64 ((sg ||| pfr d p : Nat) : Int), .int .i64 (-(pfe d p - pfk d p))] w fun e w' => ∃ x y, e = .returned (.tuple #[x, y]) ∧ (x = .float .f64 (sg + b) ∧ y = .nilIface) ∧ w' = w := by
  obtain ⟨g1, g2, g3, g4⟩ := parse_is hb hb2 hR h0 h1 (by omega) hx
  have hk : pfk d p = 0 ∨ pfk d p = 1 := by unfold pfk; split <;> simp
  have he : pfe d p ≤ 1074 := by unfold pfe; omega
  by_cases h : 4503599627370496 ≤ pfr d p
  · refine (pack_high sg (pfr d p) _ w hsg ⟨h, g2⟩ (by omega)).mono ?_
    rintro e w' ⟨h5, h6⟩
    refine ⟨_, _, h5, ⟨?_, rfl⟩, h6⟩
    rw [← g1]
    unfold pfb
    rw [show ((1074 : Int) + -(pfe d p - pfk d p)).toNat = (1074 - pfe d p).toNat + pfk d p by omega]
  · have hK : (1074 - pfe d p).toNat + pfk d p = 0 := by omega
    have hM : sg ||| pfr d p = sg + pfr d p := by
      rcases hsg with e | e
      · subst e; simp
      · subst e
        exact nat_join 63 9223372036854775808 (pfr d p) (by decide) (by rw [show (2 ^ 63 : Nat) = 9223372036854775808 from rfl]; omega)
    have hbv : b = pfr d p := by rw [← g1]; unfold pfb; rw [hK, Nat.zero_mul, Nat.zero_add]
    rw [hM]
    refine (pack_low (sg + pfr d p) _ w (by omega) (by omega)).mono ?_
    rintro e w' ⟨h5, h6⟩
    exact ⟨_, _, h5, ⟨by rw [← hbv], rfl⟩, h6⟩
theorem parse_printed {b d : Nat} {p : Int} (sg : Nat) (hsg : sg = 0 ∨ sg = 9223372036854775808) (w : World) (hT : Tab w) (hb : 1 ≤ b) (hb2 : b < 9218868437227405312) (hR : Rd b d p) (h0 : 1 ≤ d) (h1 : d < 18446744073709551616) (hp : -345 ≤ p ∧ p ≤ 310) (hs : pfs d p < 64) (hx : PEx d p) :
    Calls Tryz.prog 128 #[.int .u64 d, .int .i64 p, .int .u64 sg] w fun e w' => e = .returned (.tuple #[.float .f64 (sg + b), .nilIface]) ∧ Only (fun _ => False) w w' := by
  refine (parse_calls d p sg w hT h0 h1 hp hsg (fun x y => x = .float .f64 (sg + b) ∧ y = .nilIface) (fun h => absurd hs (by omega)) (fun _ w => pack_printed sg hsg hb hb2 hR h0 h1 hp hx w)).mono ?_
  rintro e w' ⟨x, y, h5, ⟨rfl, rfl⟩, h6⟩
  exact ⟨h5, h6⟩
set_option maxRecDepth 100000
set_option maxHeartbeats 4000000 in
theorem at_printed {b c : Nat} {s : Int} (neg : Bool) (w : World) (hE : Env w) (hE3 : Env3 w) (hb : 1 ≤ b) (hb2 : b < 9218868437227405312) (hR : Rd b c s) (H : Shb c s) :
    Calls Tryz.prog 88 #[.string ⟨(sgB neg ++ laidB c (exp10 c s)).toArray⟩] w fun en w' => en = .returned (.tuple #[.float .f64 (sgN neg + b), .int .i64 ((sgB neg ++ laidB c (exp10 c s)).length : Nat), .nilIface]) ∧ Only (fun _ => False) w w' := by
  obtain ⟨m, p, j, hm, hp, hj, hn, ⟨c0, l0, hl, hc⟩, hrf⟩ := rf_printed H neg
  have RF : Hid (∀ w, Calls Tryz.prog 117 #[.string ⟨(sgB neg ++ laidB c (exp10 c s)).toArray⟩] w (RfPost (laidB c (exp10 c s)) neg m p w)) := Lib.hid hrf
  have hm19 : m < 10000000000000000000 := by
    have h1 := Lib.lt_pow_nDigits c
    have h2 : c * 10 ^ j < 10 ^ Lib.nDigits c * 10 ^ j := Nat.mul_lt_mul_of_pos_right h1 (Nat.pow_pos (by decide))
    rw [← Nat.pow_add] at h2
    rw [hm]
    exact Nat.lt_of_lt_of_le h2 (Nat.le_trans (Nat.pow_le_pow_right (by decide) hn) (by decide))
  obtain ⟨x1, x2, x3, x4, x5⟩ := pex_printed hb hb2 hR H.c0 H.c1 hp (by omega) (by rw [← hm]; exact hm19)
  rw [← hm] at x1 x3 x4 x5
  have hx : PEx m p := by
    rcases hj with h | h
    · exact x5 h
    · exact x4 h.2
  have hm0 : 1 ≤ m := by rw [hm]; exact Nat.mul_pos H.c0 (Nat.pow_pos (by decide))
  have opt := hE3.opt
  have SP : Hid (∀ w, Calls Tryz.prog 116 #[.string ⟨(sgB neg ++ laidB c (exp10 c s)).toArray⟩] w fun en w' => en = .returned (.tuple #[.float .f64 0, .int .i64 0, .bool false]) ∧ w' = w) := Lib.hid (fun w => by
    cases neg
    · exact sp_digit _ c0 l0 w (by rw [bl_of]; exact hl) hc
    · exact sp_neg _ c0 l0 w (by rw [bl_of, nl_app, hl]; rfl) hc)
  have EX : Hid (∀ w, Env3 w → Calls Tryz.prog 127 #[.int .u64 m, .int .i64 p, .bool neg] w (ExPost b neg w)) := Lib.hid (fun w h => exact_calls m p neg b w h hm0 (by omega) (by omega) hb hb2 x1)
  have PP : Hid (∀ w, Tab w → Calls Tryz.prog 128 #[.int .u64 m, .int .i64 p, .int .u64 (sgN neg)] w fun e w' => e = .returned (.tuple #[.float .f64 (sgN neg + b), .nilIface]) ∧ Only (fun _ => False) w w') :=
    Lib.hid (fun w h => parse_printed (sgN neg) (by unfold sgN; cases neg <;> simp) w h hb hb2 x1 hm0 (by omega) x2 x3 hx)
  have HE := Lib.hid hE
  have HE3 := Lib.hid hE3
  have t1 : ((m : Int) == 0) = false := by rw [beq_eq_false_iff_ne]; omega
  unfold RfPost at RF
  clear hE hE3 hR hl hx x3 x4 x5 x1 hj hn hm hp H hrf
  generalize (sgB neg ++ laidB c (exp10 c s)).length = L at *
  generalize (sgB neg ++ laidB c (exp10 c s)).toArray = T at *
  cases neg
  · go_enter Tryz.func88, Tryz.ntmps88
    go_wp2_with fail
    refine (SP.out _).mono ?_
    rintro en w1 ⟨rfl, hw⟩; rw [hw]; clear hw w1
    go_wp2_with fail
    refine (RF.out _).mono ?_
    rintro en w1 ⟨rfl, hw⟩; rw [hw]; clear hw w1
    go_wp2_with fail
    refine (b2_calls false _).mono ?_
    rintro en w1 ⟨rfl, hw⟩; rw [hw]; clear hw w1
    go_wp2_with fail
    refine (EX.out _ HE3.out).mono ?_
    rintro en w1 ⟨x, ok, rfl, hx, hw⟩; rw [hw]; clear hw w1
    have HX := Lib.hid hx; clear hx
    cases ok
    · go_wp2_with fail
      refine (PP.out _ HE.out.1).mono ?_
      rintro en w1 ⟨rfl, hO⟩
      have HO := Lib.hid hO; clear hO
      go_wp2_with fail
      go_ret3
      exact ⟨rfl, HO.out⟩
    · have hxe : x = sgN false + b := by rw [HX.out rfl, word_sg]
      subst hxe
      go_wp2_with fail
      go_ret3
      exact ⟨rfl, Only.refl _ _⟩
  · go_enter Tryz.func88, Tryz.ntmps88
    go_wp2_with fail
    refine (SP.out _).mono ?_
    rintro en w1 ⟨rfl, hw⟩; rw [hw]; clear hw w1
    go_wp2_with fail
    refine (RF.out _).mono ?_
    rintro en w1 ⟨rfl, hw⟩; rw [hw]; clear hw w1
    go_wp2_with fail
    refine (b2_calls true _).mono ?_
    rintro en w1 ⟨rfl, hw⟩; rw [hw]; clear hw w1
    go_wp2_with fail
    refine (EX.out _ HE3.out).mono ?_
    rintro en w1 ⟨x, ok, rfl, hx, hw⟩; rw [hw]; clear hw w1
    have HX := Lib.hid hx; clear hx
    cases ok
    · go_wp2_with fail
      refine (PP.out _ HE.out.1).mono ?_
      rintro en w1 ⟨rfl, hO⟩
      have HO := Lib.hid hO; clear hO
      go_wp2_with fail
      go_ret3
      exact ⟨rfl, HO.out⟩
    · have hxe : x = sgN true + b := by rw [HX.out rfl, word_sg]
      subst hxe
      go_wp2_with fail
      go_ret3
      exact ⟨rfl, Only.refl _ _⟩
end Go.Proofs.YthjfdhkahmlolaaGreatDoor
