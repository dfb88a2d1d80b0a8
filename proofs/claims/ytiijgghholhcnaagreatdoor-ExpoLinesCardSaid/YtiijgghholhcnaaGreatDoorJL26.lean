/- What the program scales of a float is exact: the row, the shift, the three numbers. Plain arithmetic; the closed cases by the kernel. -/
import Derived.Test.YtiijgghholhcnaaGreatDoorJL25
namespace Go.Proofs.YtiijgghholhcnaaGreatDoor.Re.Usc

theorem uscale_at {x s i : Nat} {r : Nat × Nat} (hr : Go.Pinned.pow10Rows[i]? = some r) (hc : (5 ≤ s ∧ s ≤ 8) ∨ (i = 672 ∧ 7 ≤ s ∧ s ≤ 58)) (hx : 9223372036854775808 ≤ x ∧ x < 18446744073709551616) (h10 : x % 1024 = 0) :
    uscaleN x r.1 r.2 s = unr (x * numOf i) (denOf i * (2 ^ s * 340282366920938463463374607431768211456)) := by
  obtain ⟨y, rfl⟩ : ∃ y, x = 1024 * y := ⟨x / 1024, by omega⟩
  have hy : 9007199254740992 ≤ y ∧ y < 18014398509481984 := by omega
  by_cases h58 : 5 ≤ s ∧ s ≤ 8
  · rcases Nat.lt_or_ge i 325 with a | a
    · exact uscale_print hr (by omega) h58 hy
    · rcases Nat.lt_or_ge 372 i with c | c
      · exact uscale_print hr (by omega) h58 hy
      · rcases Nat.lt_or_ge i 348 with d | d
        · exact uscale_neg hr (by omega) h58 (by omega)
        · obtain ⟨k, rfl⟩ : ∃ k, i = 348 + k := ⟨i - 348, by omega⟩
          exact uscale_zero hr (by omega) hx.2 (by omega)
  · obtain ⟨e, h1, h2⟩ : i = 672 ∧ 9 ≤ s ∧ s ≤ 58 := by omega
    subst e
    exact uscale_sub hr ⟨h1, h2⟩ hy

/-- one exponent: where its row lies, its shift, how wide a unit is -/
def chk (e : Int) : Bool :=
  let z := sfz e
  let p : Int := -((e + z) * 78913 / 262144)
  let s : Int := -(e + p * 108853 / 32768 + 3)
  let i := (p + 348).toNat
  let Q := denOf i * (2 ^ s.toNat * 340282366920938463463374607431768211456)
  let P := numOf i
  decide (-348 ≤ p) && decide (p ≤ 347) && decide (0 ≤ s) && decide (s < 64) && (decide (5 ≤ s) && decide (s ≤ 8) || decide (i = 672) && decide (7 ≤ s) && decide (s ≤ 58)) &&
    decide (18446744073709551616 * P ≤ 400000000000000000 * Q) && (decide (e = -11) || decide (4 * Q < 2 ^ z * P)) && decide (2 ^ z * P < 40 * Q)
theorem chk_all : (List.range 2098).all (fun j => chk ((j : Int) - 1137)) = true := by kernel_rfl
/-- one float: what is scaled is exact -/
def e3ok (b : Nat) : Bool :=
  let m := mB b; let e := eB b
  let p := sfp m e; let s := sfs m e
  let P := numOf (p + 348).toNat
  let Q := denOf (p + 348).toNat * (2 ^ s.toNat * 340282366920938463463374607431768211456)
  decide (-348 ≤ p) && decide (p ≤ 347) && decide (0 ≤ s) && decide (s < 64) && decide (sfmax m e * P < 400000000000000000 * Q) &&
    decide (sfu m e (sfmin m e) = unr (sfmin m e * P) Q) && decide (sfu m e m = unr (m * P) Q) && decide (sfu m e (sfmax m e) = unr (sfmax m e * P) Q)
/-- what the program tells lies between both ends -/
def midOk (b : Nat) : Bool :=
  let m := mB b; let e := eB b
  if sfdmax m e / 10 * 10 ≥ sfdmin m e then true
  else decide (sfdmin m e ≤ sfd m e) && decide (sfd m e ≤ sfdmax m e)
theorem pow_all : (List.range 2046).all (fun j => e3ok ((j + 1) * 4503599627370496)) = true := by kernel_rfl
theorem skew_all : (List.range 2046).all (fun j => midOk ((j + 1) * 4503599627370496)) = true := by kernel_rfl
theorem sub_all : (List.range 52).all (fun j => e3ok (2 ^ j)) = true := by kernel_rfl

structure Nrm (b : Nat) : Prop where
  p0 : -348 ≤ sfp (mB b) (eB b) ∧ sfp (mB b) (eB b) ≤ 347
  s0 : 0 ≤ sfs (mB b) (eB b) ∧ sfs (mB b) (eB b) < 64
  bound : sfmax (mB b) (eB b) * PB b < 400000000000000000 * QB b
  xmin : sfu (mB b) (eB b) (sfmin (mB b) (eB b)) = unr (sfmin (mB b) (eB b) * PB b) (QB b)
  xm : sfu (mB b) (eB b) (mB b) = unr (mB b * PB b) (QB b)
  xmax : sfu (mB b) (eB b) (sfmax (mB b) (eB b)) = unr (sfmax (mB b) (eB b) * PB b) (QB b)
theorem nrm_of {b : Nat} (h : e3ok b = true) : Nrm b := by
  unfold e3ok at h
  simp only [Bool.and_eq_true, decide_eq_true_eq] at h
  obtain ⟨⟨⟨⟨⟨⟨⟨a, c⟩, d⟩, f⟩, g⟩, x1⟩, x2⟩, x3⟩ := h
  exact ⟨⟨a, c⟩, ⟨d, f⟩, g, x1, x2, x3⟩
theorem eB_range {b : Nat} (H : Parts b) : -1137 ≤ eB b ∧ eB b ≤ 960 := by
  obtain ⟨_, _, z1, z2⟩ := mB_bounds H
  have h1 := H.e1; have h2 := H.e2; have h3 := H.l3
  rcases Nat.lt_or_ge b 4503599627370496 with h | h
  · obtain ⟨_, q2, q3⟩ := H.sub h
    unfold eB zB; omega
  · obtain ⟨_, q2⟩ := H.nrm h
    unfold eB zB; omega
/-- not below a power of two twice as near: what chk tells -/
structure Plain (b : Nat) : Prop where
  p0 : -348 ≤ sfp (mB b) (eB b) ∧ sfp (mB b) (eB b) ≤ 347
  s0 : 0 ≤ sfs (mB b) (eB b) ∧ sfs (mB b) (eB b) < 64
  sh : (5 ≤ sB b ∧ sB b ≤ 8) ∨ (iB b = 672 ∧ 7 ≤ sB b ∧ sB b ≤ 58)
  bound : 18446744073709551616 * PB b ≤ 400000000000000000 * QB b
  one : eB b = -11 ∨ 4 * QB b < 2 ^ zB b * PB b
  ten : 2 ^ zB b * PB b < 40 * QB b
theorem plain_of {b : Nat} (H : Parts b) (hs : sfskew (mB b) (eB b) = false) : Plain b := by
  obtain ⟨r1, r2⟩ := eB_range H
  have hp : sfp (mB b) (eB b) = -((eB b + sfz (eB b)) * 78913 / 262144) := by unfold sfp; rw [hs]; rfl
  have h := List.all_eq_true.1 chk_all (eB b + 1137).toNat (List.mem_range.2 (by omega))
  rw [show (((eB b + 1137).toNat : Nat) : Int) - 1137 = eB b by omega] at h
  unfold chk at h
  simp only [Bool.and_eq_true, Bool.or_eq_true, decide_eq_true_eq] at h
  rw [← hp] at h
  obtain ⟨⟨⟨⟨⟨⟨⟨a, c⟩, d⟩, f⟩, g⟩, x1⟩, x2⟩, x3⟩ := h
  rw [sfz_eB H] at x2 x3
  refine ⟨⟨a, c⟩, ⟨d, f⟩, ?_, x1, x2, x3⟩
  have es : ((sB b : Nat) : Int) = -(eB b + sfp (mB b) (eB b) * 108853 / 32768 + 3) := by
    unfold sB sfs; unfold sfs at *; omega
  rcases g with ⟨g1, g2⟩ | ⟨⟨g1, g2⟩, g3⟩
  · exact .inl (by omega)
  · exact .inr ⟨g1, by omega⟩
theorem row_ex {b : Nat} (p0 : -348 ≤ sfp (mB b) (eB b) ∧ sfp (mB b) (eB b) ≤ 347) : ∃ r, Go.Pinned.pow10Rows[iB b]? = some r ∧ th (sfp (mB b) (eB b)) = r.1 ∧ tl (sfp (mB b) (eB b)) = r.2 := by
  have hl : iB b < Go.Pinned.pow10Rows.length := by rw [rows_len]; unfold iB; omega
  refine ⟨Go.Pinned.pow10Rows[iB b], List.getElem?_eq_getElem hl, ?_, ?_⟩
  · unfold th; rw [show (sfp (mB b) (eB b) + 348).toNat = iB b from rfl, List.getElem?_eq_getElem hl]; rfl
  · unfold tl; rw [show (sfp (mB b) (eB b) + 348).toNat = iB b from rfl, List.getElem?_eq_getElem hl]; rfl
theorem mul_two_pow_mod (a z : Nat) (h : 11 ≤ z) : a * 2 ^ (z - 1) % 1024 = 0 := by
  have : 2 ^ (z - 1) = 1024 * 2 ^ (z - 11) := by
    rw [show (1024 : Nat) = 2 ^ 10 by decide, ← Nat.pow_add]; congr 1; omega
  rw [this, Nat.mul_left_comm, Nat.mul_mod_right]
theorem mod_two (m : Nat) (z : Nat) (h : 11 ≤ z) : m * 2 ^ z % 1024 = 0 := by
  have : 2 ^ z = 1024 * 2 ^ (z - 10) := by
    rw [show (1024 : Nat) = 2 ^ 10 by decide, ← Nat.pow_add]; congr 1; omega
  rw [this, Nat.mul_left_comm, Nat.mul_mod_right]
/-- a power of two: its bits -/
theorem pow2_cases {b : Nat} (H : Parts b) (h : mantB b = 2 ^ (Lib.bitLen (mantB b) - 1)) : (∃ j, j < 52 ∧ b = 2 ^ j) ∨ (∃ j, j < 2046 ∧ b = (j + 1) * 4503599627370496) := by
  have h1 := H.e1; have h2 := H.e2; have h3 := H.l3
  rcases Nat.lt_or_ge b 4503599627370496 with g | g
  · obtain ⟨q1, _, q3⟩ := H.sub g
    exact .inl ⟨Lib.bitLen (mantB b) - 1, by omega, by rw [← h, q1]⟩
  · obtain ⟨_, q2⟩ := H.nrm g
    rw [q2, show (2 : Nat) ^ (53 - 1) = 4503599627370496 by decide] at h
    have ee : mantB b = b % 4503599627370496 + 4503599627370496 := by unfold mantB; rw [if_neg (by omega)]
    have ex : exB b = b / 4503599627370496 := by unfold exB; rw [if_neg (by omega)]
    exact .inr ⟨b / 4503599627370496 - 1, by omega, by omega⟩
theorem nrm (b : Nat) (H : Parts b) : Nrm b := by
  by_cases hp : mantB b = 2 ^ (Lib.bitLen (mantB b) - 1)
  · rcases pow2_cases H hp with ⟨j, hj, e⟩ | ⟨j, hj, e⟩
    · rw [e]; exact nrm_of (List.all_eq_true.1 sub_all j (List.mem_range.2 hj))
    · rw [e]; exact nrm_of (List.all_eq_true.1 pow_all j (List.mem_range.2 hj))
  · have hs : sfskew (mB b) (eB b) = false := by
      rw [skew_eq H]
      refine decide_eq_false fun ⟨a, c⟩ => hp ?_
      obtain ⟨q1, q2⟩ := H.nrm (by omega)
      rw [q2, show (2 : Nat) ^ (53 - 1) = 4503599627370496 by decide]
      unfold mantB; rw [if_neg (by omega)]; omega
    have A := plain_of H hs
    obtain ⟨r, hr, e1, e2⟩ := row_ex A.p0
    obtain ⟨b1, b2, z1, z2⟩ := mB_bounds H
    have hz := half2 H
    have m1 := H.m1; have l1 := H.l1; have l3 := H.l3; have l4 := H.l4
    have hh : 0 < 2 ^ (zB b - 1) := Nat.two_pow_pos _
    have g1 : 9223372036854775808 ≤ sfmin (mB b) (eB b) := by
      rw [sfmin_eq H hs]
      have e63 : 2 * 2 ^ (Lib.bitLen (mantB b) - 1) * 2 ^ (zB b - 1) = 9223372036854775808 := by
        rw [Nat.mul_comm 2, ← Nat.pow_succ, ← Nat.pow_add]
        unfold zB; rw [show Lib.bitLen (mantB b) - 1 + 1 + (64 - Lib.bitLen (mantB b) - 1) = 63 by omega]
      rw [← e63]
      exact Nat.mul_le_mul_right _ (by omega)
    have g2 : sfmax (mB b) (eB b) < 18446744073709551616 := by
      rw [sfmax_eq H]
      have : (2 * mantB b + 1) * 2 ^ (zB b - 1) = mB b + 2 ^ (zB b - 1) := by
        unfold mB; rw [hz, Nat.add_mul, Nat.one_mul]; congr 1; rw [← Nat.mul_assoc, Nat.mul_comm (mantB b) 2]
      rw [this]; omega
    have g3 : sfmin (mB b) (eB b) ≤ mB b := by unfold sfmin; rw [hs]; exact Nat.sub_le _ _
    have g4 : mB b ≤ sfmax (mB b) (eB b) := Nat.le_add_right _ _
    have U : ∀ x, 9223372036854775808 ≤ x → x < 18446744073709551616 → x % 1024 = 0 → sfu (mB b) (eB b) x = unr (x * PB b) (QB b) := fun x h0 h1 h2 => by
      unfold sfu
      rw [e1, e2]
      exact uscale_at hr A.sh ⟨h0, h1⟩ h2
    have g5 : mB b < 18446744073709551616 := by omega
    have g6 : sfmin (mB b) (eB b) < 18446744073709551616 := by omega
    have g7 : 9223372036854775808 ≤ sfmax (mB b) (eB b) := by omega
    have g8 : sfmax (mB b) (eB b) * PB b < 400000000000000000 * QB b := Nat.lt_of_lt_of_le (Nat.mul_lt_mul_of_pos_right g2 (PB_pos b)) A.bound
    refine ⟨A.p0, A.s0, g8, ?_, ?_, ?_⟩
    · exact U _ g1 g6 (by rw [sfmin_eq H hs]; exact mul_two_pow_mod _ _ z1)
    · exact U _ b1 g5 (by unfold mB; exact mod_two _ _ z1)
    · exact U _ g7 g2 (by rw [sfmax_eq H]; exact mul_two_pow_mod _ _ z1)
end Go.Proofs.YtiijgghholhcnaaGreatDoor.Re.Usc
