/- What parseFloat64 tells reads back. Plain. -/
import Derived.Test.YthjfdhkahmlolaaGreatDoorJQ12
import Derived.Test.YthjfdhkahmlolaaGreatDoorJQ13
import Derived.Test.YthjfdhkahmlolaaGreatDoorJQ05
import Derived.Laws.BitsAllLaws
namespace Go.Proofs.YthjfdhkahmlolaaGreatDoor.Usc
theorem unr_half (n d : Nat) (hd : 0 < d) : (unr n d / 2) ||| (unr n d % 2) = unr n (2 * d) := by
  have h := Nat.div_add_mod n d
  have hl := Nat.mod_lt n hd
  have e1 : n / (2 * d) = n / d / 2 := by rw [Nat.mul_comm, Nat.div_div_eq_div_mul]
  have e2 : n % (2 * d) = d * (n / d % 2) + n % d := by rw [Nat.mul_comm 2 d, Nat.mod_mul, Nat.add_comm]
  have e3 : n % (2 * d) = 0 ↔ n / d % 2 = 0 ∧ n % d = 0 := by
    rw [e2]
    constructor
    · intro h
      have h1 : d * (n / d % 2) = 0 := by omega
      rcases Nat.mul_eq_zero.1 h1 with q | q
      · omega
      · exact ⟨q, by omega⟩
    · rintro ⟨a, b⟩
      rw [a, b]; rfl
  have orb : ∀ a b : Nat, b < 2 → a ||| b = if b = 0 then a else 2 * (a / 2) + 1 := fun a b hb => by
    rcases (by omega : b = 0 ∨ b = 1) with q | q
    · subst q; simp
    · subst q; rw [if_neg (by decide)]; exact or_one_eq a
  rw [orb _ _ (Nat.mod_lt _ (by decide)), unr_eq, unr_eq, e1]
  by_cases hr : n % d = 0
  · rw [if_pos hr]
    by_cases h2 : n / d % 2 = 0
    · rw [if_pos h2, if_pos (e3.2 ⟨h2, hr⟩)]
    · rw [if_neg h2, if_neg (fun q => h2 (e3.1 q).1)]
  · rw [if_neg hr, if_neg (fun q => hr (e3.1 q).2)]
    have : (2 * (n / d / 2) + 1) % 2 = 1 := by omega
    rw [this, if_neg (by decide)]
    have : (2 * (n / d / 2) + 1) / 2 = n / d / 2 := by omega
    rw [this]
theorem unr_ge_even {n d h : Nat} (hd : 0 < d) (he : h % 2 = 0) (hu : h ≤ unr n d) : h * d ≤ n := by
  rw [← Nat.le_div_iff_mul_le hd]
  rw [unr_eq] at hu
  split at hu <;> omega
theorem le_unr {n d h : Nat} (hd : 0 < d) (hn : h * d ≤ n) : h ≤ unr n d := by
  rw [← Nat.le_div_iff_mul_le hd] at hn
  rw [unr_eq]
  split <;> omega
theorem unr_lt {n d h : Nat} (hd : 0 < d) (he : h % 2 = 0) (hn : n < h * d) : unr n d < h := by
  rw [← Nat.div_lt_iff_lt_mul hd] at hn
  rw [unr_eq]
  split <;> omega
/-- every row lies between one half and one, and not too near to one -/
def rowTop (i : Nat) : Bool := decide (denOf i * 170141183460469231731687303715884105728 ≤ numOf i) && decide (numOf i ≤ denOf i * 339950059921992234495148655666698125312)
theorem top_all : (List.range 696).all rowTop = true := by kernel_rfl
theorem row_top {i : Nat} (h : i < 696) : denOf i * 170141183460469231731687303715884105728 ≤ numOf i ∧ numOf i ≤ denOf i * 339950059921992234495148655666698125312 := by
  have := List.all_eq_true.1 top_all i (List.mem_range.2 h)
  unfold rowTop at this
  simpa using this
/-- the rounding of n/Q quarters at K units -/
def rndm (u : Nat) : Nat := (u + 1 + u / 4 % 2) / 4
/-- no shift -/
theorem near_plain {n Q K : Nat} (hQ : 0 < Q) (h52 : K = 0 ∨ 18014398509481984 * Q ≤ n) (hlt : unr n Q < 36028797018963966) (h1 : 1 ≤ rndm (unr n Q)) : Near (K * 4503599627370496 + rndm (unr n Q)) (n * 2 ^ K) (2 * Q) ∧ rndm (unr n Q) < 9007199254740992 ∧ (K = 0 ∨ 4503599627370496 ≤ rndm (unr n Q)) := by
  obtain ⟨b1, b2, b3, b4⟩ := round0 n Q hQ (rndm (unr n Q)) rfl
  have hm : rndm (unr n Q) < 9007199254740992 := by unfold rndm; omega
  have hK : K = 0 ∨ 4503599627370496 ≤ rndm (unr n Q) := by
    rcases h52 with e | e
    · exact .inl e
    · have := le_unr hQ e
      right; unfold rndm; omega
  generalize rndm (unr n Q) = t at *
  have hP := Nat.two_pow_pos K
  have cv : ∀ X : Nat, X * 2 ^ K * (2 * Q) = X * (2 * Q) * 2 ^ K := fun X => Nat.mul_right_comm ..
  refine ⟨near_of_round h1 (by omega) (by omega) ?_ ?_ (fun h => b3 ?_) (fun h => b4 ?_) (fun h hk => ?_), hm, hK⟩
  · rw [cv]
    refine Nat.mul_le_mul_right _ ?_
    rw [Nat.sub_mul]
    have : 2 * t * (2 * Q) = 4 * t * Q := by rw [← Nat.mul_assoc]; congr 1; omega
    omega
  · rw [cv]
    refine Nat.mul_le_mul_right _ ?_
    rw [Nat.add_mul]
    have : 2 * t * (2 * Q) = 4 * t * Q := by rw [← Nat.mul_assoc]; congr 1; omega
    omega
  · rw [cv] at h
    have h2 := Nat.eq_of_mul_eq_mul_right hP h
    rw [Nat.sub_mul] at h2
    have : 2 * t * (2 * Q) = 4 * t * Q := by rw [← Nat.mul_assoc]; congr 1; omega
    have h3 : 1 * (2 * Q) ≤ 2 * t * (2 * Q) := Nat.mul_le_mul_right _ (by omega)
    omega
  · rw [cv] at h
    have h2 := Nat.eq_of_mul_eq_mul_right hP h
    rw [Nat.add_mul] at h2
    have : 2 * t * (2 * Q) = 4 * t * Q := by rw [← Nat.mul_assoc]; congr 1; omega
    omega
  · rcases h52 with e | e
    · omega
    · have e2 : 2 ^ K = 2 * 2 ^ (K - 1) := by rw [Nat.mul_comm, ← Nat.pow_succ]; congr 1; omega
      subst h
      rw [e2]
      have : (4 * 4503599627370496 - 1) * 2 ^ (K - 1) * (2 * Q) = ((4 * 4503599627370496 - 1) * Q) * (2 * 2 ^ (K - 1)) := by
        generalize 2 ^ (K - 1) = A; grind
      rw [this]
      exact Nat.mul_le_mul_right _ (Nat.le_trans (Nat.mul_le_mul_right _ (by decide)) e)
/-- shifted by one -/
theorem near_shift {n Q K : Nat} (hQ : 0 < Q) (hge : 36028797018963966 ≤ unr n Q) (hlt : n < 72057594037927936 * Q - 70368744177664 * Q) :
    Near ((K + 1) * 4503599627370496 + rndm ((unr n Q / 2) ||| (unr n Q % 2))) (n * 2 ^ K) (2 * Q) ∧ rndm ((unr n Q / 2) ||| (unr n Q % 2)) < 9007199254740992 ∧ 4503599627370496 ≤ rndm ((unr n Q / 2) ||| (unr n Q % 2)) := by
  have hn := unr_ge_even hQ (by decide) hge
  rw [unr_half n Q hQ]
  have hQ2 : 0 < 2 * Q := by omega
  obtain ⟨b1, b2, b3, b4⟩ := round0 n (2 * Q) hQ2 (rndm (unr n (2 * Q))) rfl
  have hu1 : unr n (2 * Q) < 35993612646875136 := unr_lt hQ2 (by decide) (by rw [← Nat.mul_assoc]; omega)
  have hu2 : 18014398509481983 ≤ unr n (2 * Q) := le_unr hQ2 (by rw [← Nat.mul_assoc]; omega)
  have hm : rndm (unr n (2 * Q)) < 9007199254740992 := by unfold rndm; omega
  have hm2 : 4503599627370496 ≤ rndm (unr n (2 * Q)) := by unfold rndm; omega
  generalize rndm (unr n (2 * Q)) = t at *
  have hP := Nat.two_pow_pos (K + 1)
  have cv : ∀ X : Nat, X * 2 ^ (K + 1) * (2 * (2 * Q)) = X * (2 * (2 * Q)) * 2 ^ (K + 1) := fun X => Nat.mul_right_comm ..
  have key : Near ((K + 1) * 4503599627370496 + t) (n * 2 ^ (K + 1)) (2 * (2 * Q)) := by
    refine near_of_round (by omega) (by omega) (by omega) ?_ ?_ (fun h => b3 ?_) (fun h => b4 ?_) (fun h hk => ?_)
    · rw [cv]
      refine Nat.mul_le_mul_right _ ?_
      rw [Nat.sub_mul]
      have : 2 * t * (2 * (2 * Q)) = 4 * t * (2 * Q) := by rw [← Nat.mul_assoc]; congr 1; omega
      omega
    · rw [cv]
      refine Nat.mul_le_mul_right _ ?_
      rw [Nat.add_mul]
      have : 2 * t * (2 * (2 * Q)) = 4 * t * (2 * Q) := by rw [← Nat.mul_assoc]; congr 1; omega
      omega
    · rw [cv] at h
      have h2 := Nat.eq_of_mul_eq_mul_right hP h
      rw [Nat.sub_mul] at h2
      have : 2 * t * (2 * (2 * Q)) = 4 * t * (2 * Q) := by rw [← Nat.mul_assoc]; congr 1; omega
      have h3 : 1 * (2 * (2 * Q)) ≤ 2 * t * (2 * (2 * Q)) := Nat.mul_le_mul_right _ (by omega)
      omega
    · rw [cv] at h
      have h2 := Nat.eq_of_mul_eq_mul_right hP h
      rw [Nat.add_mul] at h2
      have : 2 * t * (2 * (2 * Q)) = 4 * t * (2 * Q) := by rw [← Nat.mul_assoc]; congr 1; omega
      omega
    · subst h
      rw [Nat.add_sub_cancel]
      have : (4 * 4503599627370496 - 1) * 2 ^ K * (2 * (2 * Q)) = (36028797018963966 * Q) * 2 ^ (K + 1) := by
        rw [Nat.pow_succ]
        generalize 2 ^ K = A
        have : (4 * 4503599627370496 - 1 : Nat) = 18014398509481983 := by decide
        rw [this]; grind
      rw [this]
      exact Nat.mul_le_mul_right _ hn
  refine ⟨?_, hm, hm2⟩
  have e : n * 2 ^ (K + 1) = n * 2 ^ K * 2 := by rw [Nat.pow_succ, Nat.mul_assoc]
  rw [e, Nat.mul_comm 2 (2 * Q)] at key
  exact (near_scale (by decide)).1 key
end Go.Proofs.YthjfdhkahmlolaaGreatDoor.Usc

/- The float that parseFloat64 tells of a decimal that reads back. Plain. -/
namespace Go.Proofs.YthjfdhkahmlolaaGreatDoor.Usc
def plp (p : Int) : Int := p * 108853 / 32768
def pfz (d : Nat) : Nat := 64 - Lib.bitLen d
def pfx (d : Nat) : Nat := d * 2 ^ pfz d
def pfe (d : Nat) (p : Int) : Int := min 1074 (53 - (Lib.bitLen d : Int) - plp p)
def pfs (d : Nat) (p : Int) : Int := -(pfe d p - pfz d + plp p + 3)
def pfu (d : Nat) (p : Int) : Nat := uscaleN (pfx d) (th p) (tl p) (pfs d p).toNat
def pfk (d : Nat) (p : Int) : Nat := if 36028797018963966 ≤ pfu d p then 1 else 0
def pfr (d : Nat) (p : Int) : Nat := rndm (if 36028797018963966 ≤ pfu d p then (pfu d p / 2) ||| (pfu d p % 2) else pfu d p)
def pfb (d : Nat) (p : Int) : Nat := ((1074 - pfe d p).toNat + pfk d p) * 4503599627370496 + pfr d p
def pfi (p : Int) : Nat := (p + 348).toNat
/-- what is scaled is exact -/
def PEx (d : Nat) (p : Int) : Prop := pfu d p = unr (pfx d * numOf (pfi p)) (denOf (pfi p) * (2 ^ (pfs d p).toNat * 340282366920938463463374607431768211456))
theorem pfx_bounds {d : Nat} (h0 : 1 ≤ d) (h1 : d < 18446744073709551616) : 9223372036854775808 ≤ pfx d ∧ pfx d < 18446744073709551616 ∧ 1 ≤ Lib.bitLen d ∧ Lib.bitLen d ≤ 64 := by
  obtain ⟨l3, l1, l2⟩ := bitLen_bounds d h0 h1
  have l4 : Lib.bitLen d ≤ 64 := Lib.bitLen_le _ 64 (by decide) (by rw [show (2 : Nat) ^ 64 = 18446744073709551616 by decide]; exact h1)
  have e64 : 2 ^ Lib.bitLen d * 2 ^ pfz d = 18446744073709551616 := by
    rw [← Nat.pow_add]; unfold pfz; rw [show Lib.bitLen d + (64 - Lib.bitLen d) = 64 by omega]
  have e63 : 2 ^ (Lib.bitLen d - 1) * 2 ^ pfz d = 9223372036854775808 := by
    rw [← Nat.pow_add]; unfold pfz; rw [show Lib.bitLen d - 1 + (64 - Lib.bitLen d) = 63 by omega]
  have a1 := Nat.mul_le_mul_right (2 ^ pfz d) l1
  have a2 := Nat.mul_lt_mul_of_pos_right l2 (Nat.two_pow_pos (pfz d))
  exact ⟨by unfold pfx; omega, by unfold pfx; omega, l3, l4⟩
theorem lpOf_pfi {p : Int} (hp : -348 ≤ p) : lpOf (pfi p) = plp p ∧ powOf (pfi p) = p := by
  have : powOf (pfi p) = p := by unfold powOf pfi; omega
  refine ⟨?_, this⟩
  unfold lpOf; rw [this]; exact Int.shiftRight_eq_div_pow _ _
theorem exps {d : Nat} {p : Int} (h0 : 1 ≤ d) (h1 : d < 18446744073709551616) (hs : 0 ≤ pfs d p) :
    pfz d + (127 - plp p).toNat + (1074 - pfe d p).toNat = kbig + 1 + (-(127 - plp p)).toNat + (pfs d p).toNat + 128 := by
  obtain ⟨_, _, b1, b2⟩ := pfx_bounds h0 h1
  have he : pfe d p ≤ 1074 := by unfold pfe; omega
  have hk : kbig = 1075 := rfl
  rw [hk]
  unfold pfs at *
  unfold pfz at *
  generalize pfe d p = e at *
  generalize plp p = l at *
  omega
/-- scaled to halves of units, against the decimal -/
theorem parse_cross {d : Nat} {p : Int} (h0 : 1 ≤ d) (h1 : d < 18446744073709551616) (hp : -348 ≤ p) (hs : 0 ≤ pfs d p) :
    pfx d * numOf (pfi p) * 2 ^ (1074 - pfe d p).toNat * 10 ^ (-p).toNat = d * 10 ^ p.toNat * big * (2 * (denOf (pfi p) * (2 ^ (pfs d p).toNat * 340282366920938463463374607431768211456))) := by
  obtain ⟨_, _, b1, b2⟩ := pfx_bounds h0 h1
  obtain ⟨e1, e2⟩ := lpOf_pfi hp
  have he : pfe d p ≤ 1074 := by unfold pfe; omega
  unfold numOf denOf big pfx
  rw [e1, e2]
  have e128 : (340282366920938463463374607431768211456 : Nat) = 2 ^ 128 := by decide
  have hx := exps h0 h1 hs
  rw [e128]
  generalize kbig = kk at *
  generalize (127 - plp p).toNat = v at *
  generalize (-(127 - plp p)).toNat = u at *
  generalize (pfs d p).toNat = s at *
  generalize (1074 - pfe d p).toNat = k at *
  generalize pfz d = z at *
  generalize 10 ^ p.toNat = b at *
  generalize 10 ^ (-p).toNat = g at *
  have hL : d * 2 ^ z * (b * 2 ^ v) * 2 ^ k * g = d * b * g * 2 ^ (z + v + k) := by
    rw [Nat.pow_add, Nat.pow_add]
    generalize 2 ^ z = a
    generalize 2 ^ v = c
    generalize 2 ^ k = f
    grind
  have hR : d * b * 2 ^ kk * (2 * (g * 2 ^ u * (2 ^ s * 2 ^ 128))) = d * b * g * 2 ^ (kk + 1 + u + s + 128) := by
    rw [Nat.pow_add, Nat.pow_add, Nat.pow_add, Nat.pow_add, Nat.pow_one]
    generalize 2 ^ kk = a
    generalize 2 ^ u = c
    generalize 2 ^ s = f
    generalize 2 ^ 128 = h
    grind
  rw [hL, hR, hx]
theorem Near.pos {b N D : Nat} (hb : 1 ≤ b) (hD : 0 < D) (h : Near b N D) : D < N := by
  have m1 : mid 1 = 3 := by decide
  have m0 : mid 0 = 1 := by decide
  unfold Near at h
  rcases Nat.lt_or_ge b 2 with q | q
  · have e : b = 1 := by omega
    subst e
    rw [if_neg (by decide), show 1 - 1 = 0 from rfl, m0] at h
    omega
  · have h2 : mid 1 ≤ mid (b - 1) := by
      rcases Nat.lt_or_ge 1 (b - 1) with g | g
      · exact Nat.le_of_lt (mid_lt g)
      · rw [show b - 1 = 1 by omega]; exact Nat.le_refl _
    rw [m1] at h2
    have h3 : 3 * D ≤ mid (b - 1) * D := Nat.mul_le_mul_right _ h2
    split at h <;> omega
theorem pfs_ge {d : Nat} {p : Int} (h0 : 1 ≤ d) (h1 : d < 18446744073709551616) : 8 ≤ pfs d p ∧ (pfe d p < 1074 → pfs d p = 8) := by
  obtain ⟨_, _, b1, b2⟩ := pfx_bounds h0 h1
  unfold pfs pfe pfz
  constructor <;> omega
theorem sb_core {x B A S C C2 : Nat} (hA : 0 < A) (hC : 0 < C2) (hx : x < 18446744073709551616) (t2 : B ≤ A * C2) (h8 : 256 ≤ S) (e : 18446744073709551616 * C2 = 71987225293750272 * (256 * C)) :
    x * B < 72057594037927936 * (A * (S * C)) - 70368744177664 * (A * (S * C)) := by
  have a : x * B ≤ x * (A * C2) := Nat.mul_le_mul_left _ t2
  have b : x * (A * C2) < 18446744073709551616 * (A * C2) := Nat.mul_lt_mul_of_pos_right hx (Nat.mul_pos hA hC)
  have c : 18446744073709551616 * (A * C2) = 71987225293750272 * (A * (256 * C)) := by rw [Nat.mul_left_comm, e, Nat.mul_left_comm]
  have d : A * (256 * C) ≤ A * (S * C) := Nat.mul_le_mul_left _ (Nat.mul_le_mul_right _ h8)
  generalize A * (S * C) = Q at *
  generalize A * (256 * C) = Q2 at *
  omega
/-- the bounds of what is scaled -/
theorem scaled_bounds {d : Nat} {p : Int} (h0 : 1 ≤ d) (h1 : d < 18446744073709551616) (hp : -348 ≤ p ∧ p ≤ 347) :
    pfx d * numOf (pfi p) < 72057594037927936 * (denOf (pfi p) * (2 ^ (pfs d p).toNat * 340282366920938463463374607431768211456)) - 70368744177664 * (denOf (pfi p) * (2 ^ (pfs d p).toNat * 340282366920938463463374607431768211456)) ∧
    (pfe d p < 1074 → 18014398509481984 * (denOf (pfi p) * (2 ^ (pfs d p).toNat * 340282366920938463463374607431768211456)) ≤ pfx d * numOf (pfi p)) := by
  obtain ⟨x1, x2, _, _⟩ := pfx_bounds h0 h1
  obtain ⟨s1, s2⟩ := pfs_ge (p := p) h0 h1
  obtain ⟨t1, t2⟩ := row_top (i := pfi p) (by unfold pfi; omega)
  have hden := denOf_pos (pfi p)
  generalize denOf (pfi p) = A at *
  generalize numOf (pfi p) = B at *
  generalize pfx d = x at *
  constructor
  · have h8 : 256 ≤ 2 ^ (pfs d p).toNat := Nat.le_trans (by decide : 256 ≤ 2 ^ 8) (Nat.pow_le_pow_right (by decide) (by omega))
    exact sb_core hden (by decide) x2 t2 h8 (by decide +kernel)
  · intro h
    have e8 : (pfs d p).toNat = 8 := by have := s2 h; omega
    rw [e8]
    have q1 : 9223372036854775808 * (A * 170141183460469231731687303715884105728) ≤ x * B := Nat.mul_le_mul x1 t1
    rw [show (2 ^ 8 * 340282366920938463463374607431768211456 : Nat) = 87112285931760246646623899502532662132736 by decide +kernel]
    have e1 : 18014398509481984 * (A * 87112285931760246646623899502532662132736) = 9223372036854775808 * (A * 170141183460469231731687303715884105728) := by
      rw [Nat.mul_left_comm, Nat.mul_left_comm 9223372036854775808, show (18014398509481984 * 87112285931760246646623899502532662132736 : Nat) = 9223372036854775808 * 170141183460469231731687303715884105728 by decide +kernel]
    rw [e1]; exact q1
theorem parse_is {b d : Nat} {p : Int} (hb : 1 ≤ b) (hb2 : b < 9218868437227405312) (hR : Rd b d p) (h0 : 1 ≤ d) (h1 : d < 18446744073709551616) (hp : -348 ≤ p ∧ p ≤ 347) (hx : PEx d p) :
    pfb d p = b ∧ pfr d p < 9007199254740992 ∧ ((1074 - pfe d p).toNat + pfk d p = 0 ∨ 4503599627370496 ≤ pfr d p) ∧ (1074 - pfe d p).toNat + pfk d p ≤ 2045 := by
  obtain ⟨s1, s2⟩ := pfs_ge (p := p) h0 h1
  obtain ⟨q1, q2⟩ := scaled_bounds h0 h1 hp
  have cr := parse_cross h0 h1 hp.1 (by omega)
  have hQ : 0 < denOf (pfi p) * (2 ^ (pfs d p).toNat * 340282366920938463463374607431768211456) := Nat.mul_pos (denOf_pos _) (Nat.mul_pos (Nat.two_pow_pos _) (by decide))
  unfold PEx at hx
  have he : pfe d p ≤ 1074 := by unfold pfe; omega
  rw [rd_near] at hR
  unfold pfb pfr pfk
  rw [hx]
  clear hx
  generalize denOf (pfi p) * (2 ^ (pfs d p).toNat * 340282366920938463463374607431768211456) = Q at *
  generalize pfx d * numOf (pfi p) = n at *
  have hN : Near b (n * 2 ^ (1074 - pfe d p).toNat) (2 * Q) := (near_cross (by omega) (Nat.pow_pos (by decide)) cr).2 hR
  have hpos := hN.pos hb (by omega)
  generalize hK : (1074 - pfe d p).toNat = K at *
  clear hR cr
  by_cases hs : 36028797018963966 ≤ unr n Q
  · rw [if_pos hs, if_pos hs]
    obtain ⟨a1, a2, a3⟩ := near_shift (K := K) hQ hs q1
    have := a1.uniq (by omega) hN
    refine ⟨this, a2, .inr a3, ?_⟩
    omega
  · rw [if_neg hs, if_neg hs]
    have h52 : K = 0 ∨ 18014398509481984 * Q ≤ n := by
      rcases Nat.eq_zero_or_pos K with e | e
      · exact .inl e
      · exact .inr (q2 (by omega))
    have hr1 : 1 ≤ rndm (unr n Q) := by
      have h3 : 3 ≤ unr n Q := by
        rcases h52 with e | e
        · rw [e, Nat.pow_zero, Nat.mul_one] at hpos
          have h4 := Nat.div_add_mod n Q
          have h5 := Nat.mod_lt n hQ
          rw [unr_eq]
          have h6 : 2 ≤ n / Q := (Nat.le_div_iff_mul_le hQ).2 (by omega)
          split
          · next h7 =>
            rcases Nat.lt_or_ge 2 (n / Q) with g | g
            · omega
            · have e2 : n / Q = 2 := by omega
              rw [e2, h7] at h4
              omega
          · omega
        · have := le_unr hQ e
          omega
      unfold rndm; omega
    obtain ⟨a1, a2, a3⟩ := near_plain (K := K) hQ h52 (by omega) hr1
    have := a1.uniq (by omega) hN
    refine ⟨by rw [Nat.add_zero]; exact this, a2, by rw [Nat.add_zero]; exact a3, ?_⟩
    rcases a3 with e | e <;> omega
/-- a decimal of 57 bits is scaled exactly -/
theorem pex_small {d : Nat} {p : Int} (h0 : 1 ≤ d) (h57 : d < 144115188075855872) (hp : -345 ≤ p ∧ p ≤ 310) (hs : pfs d p < 64) : PEx d p := by
  obtain ⟨x1, x2, b1, b2⟩ := pfx_bounds h0 (by omega)
  obtain ⟨s1, s2⟩ := pfs_ge (p := p) h0 (by omega)
  have hb : Lib.bitLen d ≤ 57 := Lib.bitLen_le _ 57 (by decide) (by rw [show (2 : Nat) ^ 57 = 144115188075855872 by decide]; exact h57)
  have hi : pfi p < 696 := by unfold pfi; omega
  obtain ⟨r, hr⟩ : ∃ r, Go.Pinned.pow10Rows[pfi p]? = some r := ⟨_, List.getElem?_eq_getElem (by rw [rows_len]; exact hi)⟩
  have e1 : th p = r.1 := by unfold th; rw [show (p + 348).toNat = pfi p from rfl, hr]; rfl
  have e2 : tl p = r.2 := by unfold tl; rw [show (p + 348).toNat = pfi p from rfl, hr]; rfl
  unfold PEx pfu
  rw [e1, e2]
  refine uscale_parse hr ?_ ⟨x1, x2⟩ ?_
  · by_cases h : pfe d p < 1074
    · exact .inl (by have := s2 h; omega)
    · by_cases h8 : pfs d p = 8
      · exact .inl (by omega)
      · right
        refine ⟨?_, by omega, by omega⟩
        unfold pfi pfs pfe pfz plp at *
        omega
  · unfold pfx pfz
    have : 2 ^ (64 - Lib.bitLen d) = 128 * 2 ^ (57 - Lib.bitLen d) := by
      rw [show (128 : Nat) = 2 ^ 7 by decide, ← Nat.pow_add]; congr 1; omega
    rw [this, Nat.mul_left_comm, Nat.mul_mod_right]
/-- at the powers from 0 to 24 every even number is scaled exactly -/
theorem pex_whole {d : Nat} {p : Int} (h0 : 1 ≤ d) (h1 : d < 18446744073709551616) (he : d % 2 = 0) (hp : 0 ≤ p ∧ p ≤ 24) : PEx d p := by
  obtain ⟨x1, x2, b1, b2⟩ := pfx_bounds h0 h1
  have hi : pfi p < 696 := by unfold pfi; omega
  obtain ⟨r, hr⟩ : ∃ r, Go.Pinned.pow10Rows[pfi p]? = some r := ⟨_, List.getElem?_eq_getElem (by rw [rows_len]; exact hi)⟩
  have e1 : th p = r.1 := by unfold th; rw [show (p + 348).toNat = pfi p from rfl, hr]; rfl
  have e2 : tl p = r.2 := by unfold tl; rw [show (p + 348).toNat = pfi p from rfl, hr]; rfl
  unfold PEx pfu
  rw [e1, e2]
  have hk : pfi p = 348 + p.toNat := by unfold pfi; omega
  rw [hk] at hr ⊢
  refine uscale_zero hr (by omega) x2 ?_
  unfold pfx
  rw [Nat.mul_mod, he]; simp
end Go.Proofs.YthjfdhkahmlolaaGreatDoor.Usc

/- What the model's product and quotient of two floats round to reads back. Plain. -/
namespace Go.Proofs.YthjfdhkahmlolaaGreatDoor.Usc
open Pq.Flt
/-- X/Y over 2^d, rounded to t units of 2^(K-1074) -/
theorem near_core {K t d N D X Y : Nat} (hY : 0 < Y) (hD : 0 < D) (ht1 : 1 ≤ t) (ht2 : t ≤ 9007199254740992) (hK : 4503599627370496 ≤ t ∨ K = 0)
    (c1 : 2 * t * 2 ^ d * Y ≤ 2 * X + 2 ^ d * Y) (c2 : 2 * X ≤ 2 * t * 2 ^ d * Y + 2 ^ d * Y) (c3 : 2 * t * 2 ^ d * Y = 2 * X + 2 ^ d * Y → t % 2 = 0) (c4 : 2 * X = 2 * t * 2 ^ d * Y + 2 ^ d * Y → t % 2 = 0)
    (h5 : t = 4503599627370496 → 0 < K → 4503599627370496 * 2 ^ d * Y ≤ X) (hs : N * (2 ^ d * Y) = 2 * X * (2 ^ K * D)) : Near (K * 4503599627370496 + t) N D := by
  have hP := Nat.mul_pos (Nat.two_pow_pos d) hY
  have hQ := Nat.mul_pos (Nat.two_pow_pos K) hD
  have a1 : 2 * t * 2 ^ d * Y = 2 * t * (2 ^ d * Y) := Nat.mul_assoc ..
  have a2 : 4503599627370496 * 2 ^ d * Y = 4503599627370496 * (2 ^ d * Y) := Nat.mul_assoc ..
  rw [a1] at c1 c2 c3 c4
  rw [a2] at h5
  have cv : ∀ Z : Nat, Z * 2 ^ K * D * (2 ^ d * Y) = Z * (2 ^ d * Y) * (2 ^ K * D) := fun Z => by rw [Nat.mul_assoc Z, Nat.mul_right_comm]
  have e1 : ∀ Z : Nat, Z * (2 ^ d * Y) ≤ 2 * X → Z * 2 ^ K * D ≤ N := fun Z h => by
    have := Nat.mul_le_mul_right (2 ^ K * D) h
    rw [← cv, ← hs] at this
    exact Nat.le_of_mul_le_mul_right this hP
  have e2 : ∀ Z : Nat, 2 * X ≤ Z * (2 ^ d * Y) → N ≤ Z * 2 ^ K * D := fun Z h => by
    have := Nat.mul_le_mul_right (2 ^ K * D) h
    rw [← cv, ← hs] at this
    exact Nat.le_of_mul_le_mul_right this hP
  have e3 : ∀ Z : Nat, Z * 2 ^ K * D = N → Z * (2 ^ d * Y) = 2 * X := fun Z h => by
    have : Z * (2 ^ d * Y) * (2 ^ K * D) = 2 * X * (2 ^ K * D) := by rw [← cv, ← hs, h]
    exact Nat.eq_of_mul_eq_mul_right hQ this
  generalize 2 ^ d * Y = P at *
  have hx : 1 * P ≤ 2 * t * P := Nat.mul_le_mul_right _ (by omega)
  refine near_of_round ht1 ht2 hK (e1 _ ?_) (e2 _ ?_) (fun h => c3 ?_) (fun h => c4 ?_) (fun h hk => ?_)
  · rw [Nat.sub_mul]; omega
  · rw [Nat.add_mul]; omega
  · have := e3 _ h
    rw [Nat.sub_mul] at this
    omega
  · have := e3 _ h.symm
    rw [Nat.add_mul] at this
    omega
  · have h6 := e1 (2 * t) (by rw [h, Nat.mul_assoc]; exact Nat.mul_le_mul_left 2 (h5 h hk))
    have h7 : 2 ^ K = 2 * 2 ^ (K - 1) := by rw [Nat.mul_comm, ← Nat.pow_succ]; congr 1; omega
    rw [h7, ← Nat.mul_assoc, show 2 * t * 2 = 4 * t by omega] at h6
    exact Nat.le_trans (Nat.mul_le_mul_right _ (Nat.mul_le_mul_right _ (by omega))) h6
/-- M at the place q, where it is told of X/Y with a sticky last bit: rounded, it is the float that X/Y 2^q reads back as -/
theorem rung_is {b M X Y : Nat} {q : Int} (hb : 1 ≤ b) (hb2 : b < 9218868437227405312) (hM : 0 < M) (hY : 0 < Y)
    (hst : X = M * Y ∨ (18014398509481984 ≤ M ∧ M % 2 = 1 ∧ (M - 1) * Y < X ∧ X < (M + 1) * Y ∧ -1074 ≤ q + (M.log2 : Int) - 52))
    (hN : Near b (X * 2 ^ (q + 1075).toNat) (2 ^ (-(q + 1075)).toNat * Y)) : rung M q = b := by
  have h0 : M ≠ 0 := by omega
  have g1 := Nat.log2_self_le h0
  have g2 := @Nat.lt_log2_self M
  unfold rung
  rw [if_neg h0]
  simp only
  have hlr : max (q + (M.log2 : Int) - 52) (-1074) = q + (M.log2 : Int) - 52 ∨ (max (q + (M.log2 : Int) - 52) (-1074) = -1074) := by omega
  generalize hl : max (q + (M.log2 : Int) - 52) (-1074) = last at *
  obtain ⟨b1, b2, b3, b4, b5, b6⟩ := rne_bounds (M * 2 ^ (q - last).toNat) (last - q).toNat
  generalize ht : rne (M * 2 ^ (q - last).toNat) (last - q).toNat = t at *
  generalize hK : (last + 1074).toNat = K at *
  have hP := Nat.two_pow_pos (last - q).toNat
  have u1 : M * 2 ^ (q - last).toNat < 9007199254740992 * 2 ^ (last - q).toNat := by
    have : M * 2 ^ (q - last).toNat < 2 ^ (M.log2 + 1) * 2 ^ (q - last).toNat := Nat.mul_lt_mul_of_pos_right g2 (Nat.two_pow_pos _)
    rw [← Nat.pow_add] at this
    have h2 : 2 ^ (M.log2 + 1 + (q - last).toNat) ≤ 2 ^ (53 + (last - q).toNat) := Nat.pow_le_pow_right (by decide) (by omega)
    rw [Nat.pow_add 2 53, show (2 : Nat) ^ 53 = 9007199254740992 by decide] at h2
    omega
  have u2 : K = 0 ∨ 4503599627370496 * 2 ^ (last - q).toNat ≤ M * 2 ^ (q - last).toNat := by
    rcases Nat.eq_zero_or_pos K with e | e
    · exact .inl e
    · right
      have : 2 ^ M.log2 * 2 ^ (q - last).toNat ≤ M * 2 ^ (q - last).toNat := Nat.mul_le_mul_right _ g1
      rw [← Nat.pow_add] at this
      have h2 : 2 ^ (52 + (last - q).toNat) ≤ 2 ^ (M.log2 + (q - last).toNat) := Nat.pow_le_pow_right (by decide) (by omega)
      rw [Nat.pow_add, show (2 : Nat) ^ 52 = 4503599627370496 by decide] at h2
      omega
  have u3 : t ≤ 9007199254740992 := by
    have : M * 2 ^ (q - last).toNat / 2 ^ (last - q).toNat < 9007199254740992 := (Nat.div_lt_iff_lt_mul hP).2 u1
    omega
  have u4 : 4503599627370496 ≤ t ∨ K = 0 := by
    rcases u2 with e | e
    · exact .inr e
    · left
      have := (Nat.le_div_iff_mul_le hP).2 e
      omega
  have hs : X * 2 ^ (q + 1075).toNat * (2 ^ (last - q).toNat * Y) = 2 * (X * 2 ^ (q - last).toNat) * (2 ^ K * (2 ^ (-(q + 1075)).toNat * Y)) := by
    have hpow : 2 ^ (q + 1075).toNat * 2 ^ (last - q).toNat = 2 * (2 ^ (q - last).toNat * 2 ^ K * 2 ^ (-(q + 1075)).toNat) := by
      rw [← Nat.pow_add, ← Nat.pow_add, ← Nat.pow_add, Nat.mul_comm 2, ← Nat.pow_succ]
      congr 1
      omega
    generalize 2 ^ (q + 1075).toNat = A at *
    generalize 2 ^ (last - q).toNat = B at *
    generalize 2 ^ (q - last).toNat = C at *
    generalize 2 ^ K = E at *
    generalize 2 ^ (-(q + 1075)).toNat = F at *
    have : X * A * (B * Y) = X * Y * (A * B) := by grind
    rw [this, hpow]
    grind
  have hD : 0 < 2 ^ (-(q + 1075)).toNat * Y := Nat.mul_pos (Nat.two_pow_pos _) hY
  have hpos := hN.pos hb hD
  generalize X * 2 ^ (q + 1075).toNat = N at *
  generalize 2 ^ (-(q + 1075)).toNat * Y = D at *
  -- what is rounded, by X
  have key : 2 * t * 2 ^ (last - q).toNat * Y ≤ 2 * (X * 2 ^ (q - last).toNat) + 2 ^ (last - q).toNat * Y ∧ 2 * (X * 2 ^ (q - last).toNat) ≤ 2 * t * 2 ^ (last - q).toNat * Y + 2 ^ (last - q).toNat * Y ∧
      (2 * t * 2 ^ (last - q).toNat * Y = 2 * (X * 2 ^ (q - last).toNat) + 2 ^ (last - q).toNat * Y → t % 2 = 0) ∧ (2 * (X * 2 ^ (q - last).toNat) = 2 * t * 2 ^ (last - q).toNat * Y + 2 ^ (last - q).toNat * Y → t % 2 = 0) ∧
      (K = 0 ∨ 4503599627370496 * 2 ^ (last - q).toNat * Y ≤ X * 2 ^ (q - last).toNat) := by
    rcases hst with e | ⟨m1, m2, m3, m4, m5⟩
    · have hx : X * 2 ^ (q - last).toNat = M * 2 ^ (q - last).toNat * Y := by rw [e, Nat.mul_right_comm]
      rw [hx]
      generalize M * 2 ^ (q - last).toNat = n at *
      generalize 2 ^ (last - q).toNat = P at *
      have q1 := Nat.mul_le_mul_right Y b1
      have q2 := Nat.mul_le_mul_right Y b2
      rw [Nat.add_mul] at q1 q2
      have r1 : 2 * (n * Y) = 2 * n * Y := (Nat.mul_assoc ..).symm
      refine ⟨by omega, by omega, fun h => b3 ?_, fun h => b4 ?_, ?_⟩
      · rw [r1, ← Nat.add_mul] at h
        exact Nat.eq_of_mul_eq_mul_right hY h
      · rw [r1, ← Nat.add_mul] at h
        exact Nat.eq_of_mul_eq_mul_right hY h
      · rcases u2 with e | e
        · exact .inl e
        · exact .inr (Nat.mul_le_mul_right Y e)
    · have hlast : last = q + (M.log2 : Int) - 52 := by omega
      have hlog : 54 ≤ M.log2 := (Nat.le_log2 h0).2 (by rw [show (2 : Nat) ^ 54 = 18014398509481984 by decide]; exact m1)
      have z1 : (q - last).toNat = 0 := by omega
      have zz : M * 2 ^ (q - last).toNat = M := by rw [z1, Nat.pow_zero, Nat.mul_one]
      have zx : X * 2 ^ (q - last).toNat = X := by rw [z1, Nat.pow_zero, Nat.mul_one]
      rw [zz] at b1 b2 u2
      rw [zx]
      obtain ⟨p, hp⟩ : ∃ p, 2 ^ (last - q).toNat = 4 * p := ⟨2 ^ ((last - q).toNat - 2), by rw [show (4 : Nat) = 2 ^ 2 by decide, ← Nat.pow_add]; congr 1; omega⟩
      rw [hp] at b1 b2 u2
      rw [hp]
      obtain ⟨m, hm⟩ : ∃ m, M = 2 * m + 1 := ⟨M / 2, by omega⟩
      have f2 : 2 * t * (4 * p) = 8 * (t * p) := by rw [Nat.mul_mul_mul_comm]
      rw [f2] at b1 b2
      rw [f2]
      have g3 : 8 * (t * p) ≤ 4 * m + 4 * p := by omega
      have g4 : 4 * m + 4 ≤ 8 * (t * p) + 4 * p := by omega
      have y1 : 2 * (m * Y) < X := by
        rw [hm, Nat.add_sub_cancel, Nat.mul_assoc] at m3; exact m3
      have y2 : X < 2 * (m * Y) + 2 * Y := by
        rw [hm, Nat.add_assoc, Nat.add_mul, Nat.mul_assoc] at m4; exact m4
      have k1 := Nat.mul_le_mul_right Y g3
      have k2 := Nat.mul_le_mul_right Y g4
      rw [Nat.add_mul, Nat.mul_assoc 4 m] at k1
      rw [Nat.add_mul, Nat.add_mul, Nat.mul_assoc 4 m] at k2
      refine ⟨by omega, by omega, fun h => ?_, fun h => ?_, ?_⟩
      · omega
      · omega
      · rcases u2 with e | e
        · exact .inl e
        · right
          have h8 : 4503599627370496 * (4 * p) ≤ 2 * m := by omega
          have h9 := Nat.mul_le_mul_right Y h8
          rw [Nat.mul_assoc 2] at h9
          omega
  obtain ⟨k1, k2, k3, k4, k5⟩ := key
  have ht1 : 1 ≤ t := by
    rcases Nat.eq_zero_or_pos t with e | e
    · exfalso
      have hk : K = 0 := by omega
      have k2' : 2 * (X * 2 ^ (q - last).toNat) ≤ 2 ^ (last - q).toNat * Y := by
        rw [e] at k2; simpa using k2
      rw [hk, Nat.pow_zero, Nat.one_mul] at hs
      have h8 := Nat.mul_le_mul_right D k2'
      rw [← hs, Nat.mul_comm N] at h8
      have := Nat.le_of_mul_le_mul_left h8 (Nat.mul_pos hP hY)
      omega
    · exact e
  have hnear := near_core hY hD ht1 u3 u4 k1 k2 k3 k4 (fun _ hk => by rcases k5 with e | e; omega; exact e) hs
  have := hnear.uniq hD hN
  rw [this]
  exact Nat.min_eq_left (by omega)
end Go.Proofs.YthjfdhkahmlolaaGreatDoor.Usc

/- How floats stand: the program's order is that of the document's ranks; the walk of the document's Compare. -/
namespace Go.Proofs.YthjfdhkahmlolaaGreatDoor.Pq
open Go.RowKit Flt

theorem nat_mag (a : Nat) (_h : a < 18446744073709551616) : a &&& (18446744073709551615 - 9223372036854775808) = mag a := by
  have := Nat.and_two_pow_sub_one_eq_mod a 63
  simpa [mag] using this
theorem mag_bits (a : Nat) (h : a < 18446744073709551616) : bits BinOp.andNot IntKind.u64 (a : Int) 9223372036854775808 = ((mag a : Nat) : Int) := by
  have := u64_andNot_nat a 9223372036854775808 h (by omega)
  rw [nat_mag a h] at this
  exact this

theorem or_sign (P : Nat) (h : P < 9223372036854775808) : bits BinOp.or IntKind.u64 (P : Int) 9223372036854775808 = ((9223372036854775808 + P : Nat) : Int) := by
  have h2 := u64_or_nat P 9223372036854775808 (by omega) (by omega)
  have h3 := nat_join 63 9223372036854775808 P (by decide) (by rw [show (2 ^ 63 : Nat) = 9223372036854775808 from rfl]; exact h)
  rw [Nat.or_comm, h3] at h2
  exact h2
def sgn (a : Nat) : Nat := if neg a then 9223372036854775808 else 0
theorem and_sign (a : Nat) (h : a < 18446744073709551616) : bits BinOp.and IntKind.u64 (a : Int) 9223372036854775808 = ((sgn a : Nat) : Int) := by
  have h1 := u64_and_nat a 9223372036854775808 h (by omega)
  have h2 := nat_bit 63 a
  rw [show (2 ^ 63 : Nat) = 9223372036854775808 from rfl] at h2
  rw [h2] at h1
  have h3 : a / 9223372036854775808 % 2 * 9223372036854775808 = sgn a := by
    unfold sgn neg
    rcases (show a / 9223372036854775808 % 2 = 0 ∨ a / 9223372036854775808 % 2 = 1 by omega) with q | q <;> rw [q] <;> rfl
  rw [h3] at h1; exact h1

end Go.Proofs.YthjfdhkahmlolaaGreatDoor.Pq
namespace Go.Proofs.YthjfdhkahmlolaaGreatDoor
open Go.RowKit

def rk (x : Nat) : Nat := if Pq.Flt.nan x then 0 else if Pq.Flt.neg x then 18446744073709551615 - x else x + 9223372036854775808
def cmpR (a b : Nat) : Int := if a < b then -1 else if a > b then 1 else 0
theorem fnan_eq (x : Nat) : fnan x = Pq.Flt.nan x := by
  unfold fnan
  cases h : Pq.Flt.nan x
  · rw [show Ieee.double.order x x = some (compare (Pq.Flt.key x) (Pq.Flt.key x)) from Pq.Flt.order_eq x x h h]
    simp
  · rw [show Ieee.double.order x x = none from Pq.Flt.order_nan x x (.inl h)]
    rfl
theorem flt_eq (x y : Nat) : flt x y = (!Pq.Flt.nan x && !Pq.Flt.nan y && decide (Pq.Flt.key x < Pq.Flt.key y)) := by
  unfold flt
  cases hx : Pq.Flt.nan x
  · cases hy : Pq.Flt.nan y
    · rw [show Ieee.double.order x y = some (compare (Pq.Flt.key x) (Pq.Flt.key y)) from Pq.Flt.order_eq x y hx hy]
      simp only [compare, compareOfLessAndEq]
      by_cases h1 : Pq.Flt.key x < Pq.Flt.key y
      · rw [if_pos h1]; simp [h1]
      · rw [if_neg h1]
        by_cases h2 : Pq.Flt.key x = Pq.Flt.key y
        · rw [if_pos h2]; simp [h2]
        · rw [if_neg h2]; simp [h1]
    · rw [show Ieee.double.order x y = none from Pq.Flt.order_nan x y (.inr hy)]; rfl
  · rw [show Ieee.double.order x y = none from Pq.Flt.order_nan x y (.inl hx)]; rfl
theorem fgt_eq (x y : Nat) : fgt x y = (!Pq.Flt.nan x && !Pq.Flt.nan y && decide (Pq.Flt.key y < Pq.Flt.key x)) := by
  unfold fgt
  cases hx : Pq.Flt.nan x
  · cases hy : Pq.Flt.nan y
    · rw [show Ieee.double.order x y = some (compare (Pq.Flt.key x) (Pq.Flt.key y)) from Pq.Flt.order_eq x y hx hy]
      simp only [compare, compareOfLessAndEq]
      by_cases h1 : Pq.Flt.key x < Pq.Flt.key y
      · rw [if_pos h1]
        have : ¬ Pq.Flt.key y < Pq.Flt.key x := by omega
        simp [this]
      · rw [if_neg h1]
        by_cases h2 : Pq.Flt.key x = Pq.Flt.key y
        · rw [if_pos h2]; simp [h2]
        · rw [if_neg h2]
          have : Pq.Flt.key y < Pq.Flt.key x := by omega
          simp [this]
    · rw [show Ieee.double.order x y = none from Pq.Flt.order_nan x y (.inr hy)]; rfl
  · rw [show Ieee.double.order x y = none from Pq.Flt.order_nan x y (.inl hx)]; rfl
theorem fsg_eq (x : Nat) (hx : x < 18446744073709551616) : fsg x = Pq.Flt.neg x := by
  unfold fsg Pq.Flt.neg wrap64
  by_cases h : x < 9223372036854775808
  · rw [show (x / 9223372036854775808 % 2 == 1) = false by rw [beq_eq_false_iff_ne]; omega]
    rw [decide_eq_false_iff_not]; omega
  · rw [show (x / 9223372036854775808 % 2 == 1) = true by rw [beq_iff_eq]; omega]
    rw [decide_eq_true_eq]; omega
theorem rk_cases (x : Nat) (hx : x < 18446744073709551616) :
    (Pq.Flt.nan x = true ∧ rk x = 0) ∨ (Pq.Flt.nan x = false ∧ Pq.Flt.neg x = true ∧ (rk x : Int) = 9223372036854775807 + Pq.Flt.key x ∧ -9218868437227405312 ≤ Pq.Flt.key x ∧ Pq.Flt.key x ≤ 0) ∨
    (Pq.Flt.nan x = false ∧ Pq.Flt.neg x = false ∧ (rk x : Int) = 9223372036854775808 + Pq.Flt.key x ∧ 0 ≤ Pq.Flt.key x) := by
  unfold rk Pq.Flt.key
  cases hn : Pq.Flt.nan x
  · have hm : Pq.Flt.mag x ≤ 9218868437227405312 := by unfold Pq.Flt.nan at hn; simpa using hn
    cases hg : Pq.Flt.neg x
    · refine .inr (.inr ⟨rfl, rfl, ?_, ?_⟩)
      · unfold Pq.Flt.neg at hg
        rw [beq_eq_false_iff_ne] at hg
        simp only [Bool.false_eq_true, if_false]
        unfold Pq.Flt.mag; omega
      · simp
    · refine .inr (.inl ⟨rfl, rfl, ?_, ?_, ?_⟩)
      · unfold Pq.Flt.neg at hg
        rw [beq_iff_eq] at hg
        simp only [Bool.false_eq_true, if_false, if_true]
        unfold Pq.Flt.mag; omega
      · simp only [if_true]; omega
      · simp only [if_true]; omega
  · exact .inl ⟨rfl, rfl⟩
theorem fcmp_rk (x y : Nat) (hx : x < 18446744073709551616) (hy : y < 18446744073709551616) : fcmp x y = cmpR (rk x) (rk y) := by
  unfold fcmp cmpB cmpR
  rw [fnan_eq, fnan_eq, flt_eq, fgt_eq, fsg_eq x hx, fsg_eq y hy]
  rcases rk_cases x hx with ⟨a1, a2⟩ | ⟨a1, a2, a3, a4, a5⟩ | ⟨a1, a2, a3, a4⟩ <;> rcases rk_cases y hy with ⟨b1, b2⟩ | ⟨b1, b2, b3, b4, b5⟩ | ⟨b1, b2, b3, b4⟩
  all_goals
    simp only [a1, b1, a2, b2, Bool.and_self, Bool.true_or, Bool.or_true, Bool.false_or, Bool.or_false, Bool.and_false, Bool.false_and, Bool.and_true, Bool.true_and, Bool.not_false, Bool.not_true, Bool.false_eq_true, if_false, if_true, beq_self_eq_true, reduceCtorEq, decide_eq_true_eq, beq_iff_eq]
    try (repeat' split) <;> omega
end Go.Proofs.YthjfdhkahmlolaaGreatDoor
