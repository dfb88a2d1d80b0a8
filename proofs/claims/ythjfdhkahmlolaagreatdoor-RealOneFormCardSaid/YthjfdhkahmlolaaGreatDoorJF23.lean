/- The float that parseFloat64 tells of a decimal that reads back. Plain. -/
import Derived.Test.YthjfdhkahmlolaaGreatDoorJF22
namespace Go.Proofs.YthjfdhkahmlolaaGreatDoor.Usc
def plp (p : Int) : Int := p * 108853 / 32768
def pfz (d : Nat) : Nat := 64 - Lib.bitLen d
def pfx (d : Nat) : Nat := d * 2 ^ pfz d
def pfe (d : Nat) (p : Int) : Int := min 1074 (53 - (Lib.bitLen d : Int) - plp p)
def pfs (d : Nat) (p : Int) : Int := -(pfe d p - pfz d + plp p + 3)
def pfu (d : Nat) (p : Int) : Nat := uscaleN (pfx d) (th p) (tl p) (pfs d p).toNat
def pfk (d : Nat) (p : Int) : Nat := if 36028797018963966 ≤ pfu d p then 1 else 0
def pfr (d : Nat) (p : Int) : Nat := rndm (if 36028797018963966 ≤ pfu d p then (pfu d p / 2) ||| (pfu d p % 2) else pfu d p)
def pfb (d : Nat) (p : Int) : Nat := ((1074 - pfe d p).toNat + pfk d p) * 4503599627370496 + pfr d p
def pfi (p : Int) : Nat := (p + 348).toNat
/-- what is scaled is exact -/
def PEx (d : Nat) (p : Int) : Prop := pfu d p = unr (pfx d * numOf (pfi p)) (denOf (pfi p) * (2 ^ (pfs d p).toNat * 340282366920938463463374607431768211456))
theorem pfx_bounds {d : Nat} (h0 : 1 ≤ d) (h1 : d < 18446744073709551616) : 9223372036854775808 ≤ pfx d ∧ pfx d < 18446744073709551616 ∧ 1 ≤ Lib.bitLen d ∧ Lib.bitLen d ≤ 64 := by
  obtain ⟨l3, l1, l2⟩ := bitLen_bounds d h0 h1
  have l4 : Lib.bitLen d ≤ 64 := Lib.bitLen_le _ 64 (by decide) (by rw [show (2 : Nat) ^ 64 = 18446744073709551616 by decide]; exact h1)
  have e64 : 2 ^ Lib.bitLen d * 2 ^ pfz d = 18446744073709551616 := by
    rw [← Nat.pow_add]; unfold pfz; rw [show Lib.bitLen d + (64 - Lib.bitLen d) = 64 by omega]
  have e63 : 2 ^ (Lib.bitLen d - 1) * 2 ^ pfz d = 9223372036854775808 := by
    rw [← Nat.pow_add]; unfold pfz; rw [show Lib.bitLen d - 1 + (64 - Lib.bitLen d) = 63 by omega]
  have a1 := Nat.mul_le_mul_right (2 ^ pfz d) l1
  have a2 := Nat.mul_lt_mul_of_pos_right l2 (Nat.two_pow_pos (pfz d))
  exact ⟨by unfold pfx; omega, by unfold pfx; omega, l3, l4⟩
theorem lpOf_pfi {p : Int} (hp : -348 ≤ p) : lpOf (pfi p) = plp p ∧ powOf (pfi p) = p := by
  have : powOf (pfi p) = p := by unfold powOf pfi; omega
  refine ⟨?_, this⟩
  unfold lpOf; rw [this]; exact Int.shiftRight_eq_div_pow _ _
theorem exps {d : Nat} {p : Int} (h0 : 1 ≤ d) (h1 : d < 18446744073709551616) (hs : 0 ≤ pfs d p) :
    pfz d + (127 - plp p).toNat + (1074 - pfe d p).toNat = kbig + 1 + (-(127 - plp p)).toNat + (pfs d p).toNat + 128 := by
  obtain ⟨_, _, b1, b2⟩ := pfx_bounds h0 h1
  have he : pfe d p ≤ 1074 := by unfold pfe; omega
  have hk : kbig = 1075 := rfl
  rw [hk]
  unfold pfs at *
  unfold pfz at *
  generalize pfe d p = e at *
  generalize plp p = l at *
  omega
/-- scaled to halves of units, against the decimal -/
theorem parse_cross {d : Nat} {p : Int} (h0 : 1 ≤ d) (h1 : d < 18446744073709551616) (hp : -348 ≤ p) (hs : 0 ≤ pfs d p) :
    pfx d * numOf (pfi p) * 2 ^ (1074 - pfe d p).toNat * 10 ^ (-p).toNat = d * 10 ^ p.toNat * big * (2 * (denOf (pfi p) * (2 ^ (pfs d p).toNat * 340282366920938463463374607431768211456))) := by
  obtain ⟨_, _, b1, b2⟩ := pfx_bounds h0 h1
  obtain ⟨e1, e2⟩ := lpOf_pfi hp
  have he : pfe d p ≤ 1074 := by unfold pfe; omega
  unfold numOf denOf big pfx
  rw [e1, e2]
  have e128 : (340282366920938463463374607431768211456 : Nat) = 2 ^ 128 := by decide
  have hx := exps h0 h1 hs
  rw [e128]
  generalize kbig = kk at *
  generalize (127 - plp p).toNat = v at *
  generalize (-(127 - plp p)).toNat = u at *
  generalize (pfs d p).toNat = s at *
  generalize (1074 - pfe d p).toNat = k at *
  generalize pfz d = z at *
  generalize 10 ^ p.toNat = b at *
  generalize 10 ^ (-p).toNat = g at *
  have hL : d * 2 ^ z * (b * 2 ^ v) * 2 ^ k * g = d * b * g * 2 ^ (z + v + k) := by
    rw [Nat.pow_add, Nat.pow_add]
    generalize 2 ^ z = a
    generalize 2 ^ v = c
    generalize 2 ^ k = f
    grind
  have hR : d * b * 2 ^ kk * (2 * (g * 2 ^ u * (2 ^ s * 2 ^ 128))) = d * b * g * 2 ^ (kk + 1 + u + s + 128) := by
    rw [Nat.pow_add, Nat.pow_add, Nat.pow_add, Nat.pow_add, Nat.pow_one]
    generalize 2 ^ kk = a
    generalize 2 ^ u = c
    generalize 2 ^ s = f
    generalize 2 ^ 128 = h
    grind
  rw [hL, hR, hx]
theorem Near.pos {b N D : Nat} (hb : 1 ≤ b) (hD : 0 < D) (h : Near b N D) : D < N := by
  have m1 : mid 1 = 3 := by decide
  have m0 : mid 0 = 1 := by decide
  unfold Near at h
  rcases Nat.lt_or_ge b 2 with q | q
  · have e : b = 1 := by omega
    subst e
    rw [if_neg (by decide), show 1 - 1 = 0 from rfl, m0] at h
    omega
  · have h2 : mid 1 ≤ mid (b - 1) := by
      rcases Nat.lt_or_ge 1 (b - 1) with g | g
      · exact Nat.le_of_lt (mid_lt g)
      · rw [show b - 1 = 1 by omega]; exact Nat.le_refl _
    rw [m1] at h2
    have h3 : 3 * D ≤ mid (b - 1) * D := Nat.mul_le_mul_right _ h2
    split at h <;> omega
theorem pfs_ge {d : Nat} {p : Int} (h0 : 1 ≤ d) (h1 : d < 18446744073709551616) : 8 ≤ pfs d p ∧ (pfe d p < 1074 → pfs d p = 8) := by
  obtain ⟨_, _, b1, b2⟩ := pfx_bounds h0 h1
  unfold pfs pfe pfz
  constructor <;> omega
theorem sb_core {x B A S C C2 : Nat} (hA : 0 < A) (hC : 0 < C2) (hx : x < 18446744073709551616) (t2 : B ≤ A * C2) (h8 : 256 ≤ S) (e : 18446744073709551616 * C2 = 71987225293750272 * (256 * C)) :
    x * B < 72057594037927936 * (A * (S * C)) - 70368744177664 * (A * (S * C)) := by
  have a : x * B ≤ x * (A * C2) := Nat.mul_le_mul_left _ t2
  have b : x * (A * C2) < 18446744073709551616 * (A * C2) := Nat.mul_lt_mul_of_pos_right hx (Nat.mul_pos hA hC)
  have c : 18446744073709551616 * (A * C2) = 71987225293750272 * (A * (256 * C)) := by rw [Nat.mul_left_comm, e, Nat.mul_left_comm]
  have d : A * (256 * C) ≤ A * (S * C) := Nat.mul_le_mul_left _ (Nat.mul_le_mul_right _ h8)
  generalize A * (S * C) = Q at *
  generalize A * (256 * C) = Q2 at *
  omega
/-- the bounds of what is scaled -/
theorem scaled_bounds {d : Nat} {p : Int} (h0 : 1 ≤ d) (h1 : d < 18446744073709551616) (hp : -348 ≤ p ∧ p ≤ 347) :
    pfx d * numOf (pfi p) < 72057594037927936 * (denOf (pfi p) * (2 ^ (pfs d p).toNat * 340282366920938463463374607431768211456)) - 70368744177664 * (denOf (pfi p) * (2 ^ (pfs d p).toNat * 340282366920938463463374607431768211456)) ∧
    (pfe d p < 1074 → 18014398509481984 * (denOf (pfi p) * (2 ^ (pfs d p).toNat * 340282366920938463463374607431768211456)) ≤ pfx d * numOf (pfi p)) := by
  obtain ⟨x1, x2, _, _⟩ := pfx_bounds h0 h1
  obtain ⟨s1, s2⟩ := pfs_ge (p := p) h0 h1
  obtain ⟨t1, t2⟩ := row_top (i := pfi p) (by unfold pfi; omega)
  have hden := denOf_pos (pfi p)
  generalize denOf (pfi p) = A at *
  generalize numOf (pfi p) = B at *
  generalize pfx d = x at *
  constructor
  · have h8 : 256 ≤ 2 ^ (pfs d p).toNat := Nat.le_trans (by decide : 256 ≤ 2 ^ 8) (Nat.pow_le_pow_right (by decide) (by omega))
    exact sb_core hden (by decide) x2 t2 h8 (by decide +kernel)
  · intro h
    have e8 : (pfs d p).toNat = 8 := by have := s2 h; omega
    rw [e8]
    have q1 : 9223372036854775808 * (A * 170141183460469231731687303715884105728) ≤ x * B := Nat.mul_le_mul x1 t1
    rw [show (2 ^ 8 * 340282366920938463463374607431768211456 : Nat) = 87112285931760246646623899502532662132736 by decide +kernel]
    have e1 : 18014398509481984 * (A * 87112285931760246646623899502532662132736) = 9223372036854775808 * (A * 170141183460469231731687303715884105728) := by
      rw [Nat.mul_left_comm, Nat.mul_left_comm 9223372036854775808, show (18014398509481984 * 87112285931760246646623899502532662132736 : Nat) = 9223372036854775808 * 170141183460469231731687303715884105728 by decide +kernel]
    rw [e1]; exact q1
theorem parse_is {b d : Nat} {p : Int} (hb : 1 ≤ b) (hb2 : b < 9218868437227405312) (hR : Rd b d p) (h0 : 1 ≤ d) (h1 : d < 18446744073709551616) (hp : -348 ≤ p ∧ p ≤ 347) (hx : PEx d p) :
    pfb d p = b ∧ pfr d p < 9007199254740992 ∧ ((1074 - pfe d p).toNat + pfk d p = 0 ∨ 4503599627370496 ≤ pfr d p) ∧ (1074 - pfe d p).toNat + pfk d p ≤ 2045 := by
  obtain ⟨s1, s2⟩ := pfs_ge (p := p) h0 h1
  obtain ⟨q1, q2⟩ := scaled_bounds h0 h1 hp
  have cr := parse_cross h0 h1 hp.1 (by omega)
  have hQ : 0 < denOf (pfi p) * (2 ^ (pfs d p).toNat * 340282366920938463463374607431768211456) := Nat.mul_pos (denOf_pos _) (Nat.mul_pos (Nat.two_pow_pos _) (by decide))
  unfold PEx at hx
  have he : pfe d p ≤ 1074 := by unfold pfe; omega
  rw [rd_near] at hR
  unfold pfb pfr pfk
  rw [hx]
  clear hx
  generalize denOf (pfi p) * (2 ^ (pfs d p).toNat * 340282366920938463463374607431768211456) = Q at *
  generalize pfx d * numOf (pfi p) = n at *
  have hN : Near b (n * 2 ^ (1074 - pfe d p).toNat) (2 * Q) := (near_cross (by omega) (Nat.pow_pos (by decide)) cr).2 hR
  have hpos := hN.pos hb (by omega)
  generalize hK : (1074 - pfe d p).toNat = K at *
  clear hR cr
  by_cases hs : 36028797018963966 ≤ unr n Q
  · rw [if_pos hs, if_pos hs]
    obtain ⟨a1, a2, a3⟩ := near_shift (K := K) hQ hs q1
    have := a1.uniq (by omega) hN
    refine ⟨this, a2, .inr a3, ?_⟩
    omega
  · rw [if_neg hs, if_neg hs]
    have h52 : K = 0 ∨ 18014398509481984 * Q ≤ n := by
      rcases Nat.eq_zero_or_pos K with e | e
      · exact .inl e
      · exact .inr (q2 (by omega))
    have hr1 : 1 ≤ rndm (unr n Q) := by
      have h3 : 3 ≤ unr n Q := by
        rcases h52 with e | e
        · rw [e, Nat.pow_zero, Nat.mul_one] at hpos
          have h4 := Nat.div_add_mod n Q
          have h5 := Nat.mod_lt n hQ
          rw [unr_eq]
          have h6 : 2 ≤ n / Q := (Nat.le_div_iff_mul_le hQ).2 (by omega)
          split
          · next h7 =>
            rcases Nat.lt_or_ge 2 (n / Q) with g | g
            · omega
            · have e2 : n / Q = 2 := by omega
              rw [e2, h7] at h4
              omega
          · omega
        · have := le_unr hQ e
          omega
      unfold rndm; omega
    obtain ⟨a1, a2, a3⟩ := near_plain (K := K) hQ h52 (by omega) hr1
    have := a1.uniq (by omega) hN
    refine ⟨by rw [Nat.add_zero]; exact this, a2, by rw [Nat.add_zero]; exact a3, ?_⟩
    rcases a3 with e | e <;> omega
/-- a decimal of 57 bits is scaled exactly -/
theorem pex_small {d : Nat} {p : Int} (h0 : 1 ≤ d) (h57 : d < 144115188075855872) (hp : -345 ≤ p ∧ p ≤ 310) (hs : pfs d p < 64) : PEx d p := by
  obtain ⟨x1, x2, b1, b2⟩ := pfx_bounds h0 (by omega)
  obtain ⟨s1, s2⟩ := pfs_ge (p := p) h0 (by omega)
  have hb : Lib.bitLen d ≤ 57 := Lib.bitLen_le _ 57 (by decide) (by rw [show (2 : Nat) ^ 57 = 144115188075855872 by decide]; exact h57)
  have hi : pfi p < 696 := by unfold pfi; omega
  obtain ⟨r, hr⟩ : ∃ r, Go.Pinned.pow10Rows[pfi p]? = some r := ⟨_, List.getElem?_eq_getElem (by rw [rows_len]; exact hi)⟩
  have e1 : th p = r.1 := by unfold th; rw [show (p + 348).toNat = pfi p from rfl, hr]; rfl
  have e2 : tl p = r.2 := by unfold tl; rw [show (p + 348).toNat = pfi p from rfl, hr]; rfl
  unfold PEx pfu
  rw [e1, e2]
  refine uscale_parse hr ?_ ⟨x1, x2⟩ ?_
  · by_cases h : pfe d p < 1074
    · exact .inl (by have := s2 h; omega)
    · by_cases h8 : pfs d p = 8
      · exact .inl (by omega)
      · right
        refine ⟨?_, by omega, by omega⟩
        unfold pfi pfs pfe pfz plp at *
        omega
  · unfold pfx pfz
    have : 2 ^ (64 - Lib.bitLen d) = 128 * 2 ^ (57 - Lib.bitLen d) := by
      rw [show (128 : Nat) = 2 ^ 7 by decide, ← Nat.pow_add]; congr 1; omega
    rw [this, Nat.mul_left_comm, Nat.mul_mod_right]
/-- at the powers from 0 to 24 every even number is scaled exactly -/
theorem pex_whole {d : Nat} {p : Int} (h0 : 1 ≤ d) (h1 : d < 18446744073709551616) (he : d % 2 = 0) (hp : 0 ≤ p ∧ p ≤ 24) : PEx d p := by
  obtain ⟨x1, x2, b1, b2⟩ := pfx_bounds h0 h1
  have hi : pfi p < 696 := by unfold pfi; omega
  obtain ⟨r, hr⟩ : ∃ r, Go.Pinned.pow10Rows[pfi p]? = some r := ⟨_, List.getElem?_eq_getElem (by rw [rows_len]; exact hi)⟩
  have e1 : th p = r.1 := by unfold th; rw [show (p + 348).toNat = pfi p from rfl, hr]; rfl
  have e2 : tl p = r.2 := by unfold tl; rw [show (p + 348).toNat = pfi p from rfl, hr]; rfl
  unfold PEx pfu
  rw [e1, e2]
  have hk : pfi p = 348 + p.toNat := by unfold pfi; omega
  rw [hk] at hr ⊢
  refine uscale_zero hr (by omega) x2 ?_
  unfold pfx
  rw [Nat.mul_mod, he]; simp
end Go.Proofs.YthjfdhkahmlolaaGreatDoor.Usc
