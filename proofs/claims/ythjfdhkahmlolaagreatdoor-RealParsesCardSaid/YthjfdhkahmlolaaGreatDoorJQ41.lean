/- Plain: the reference's digits are those that are printed. -/
import Derived.Test.YthjfdhkahmlolaaGreatDoorJQ40
namespace Go.Proofs.YthjfdhkahmlolaaGreatDoor
open Usc
def qV (b : Nat) (s : Int) : Nat := xV b s / yV b s
def hV (b : Nat) (s : Int) : Int := cmp3 (xV b s % yV b s * 2) (yV b s)
theorem q_is (b : Nat) (s : Int) : qV b s = Zs b s / Gs s ∧ hV b s = cmp3 (Zs b s % Gs s * 2) (Gs s) := frac_eq (yV_pos b s) (Gs_pos s) (xy_zg b s)
theorem q_bounds (b : Nat) (s : Int) : qV b s * Gs s ≤ Zs b s ∧ Zs b s < (qV b s + 1) * Gs s := by
  rw [(q_is b s).1]
  have h := Nat.div_add_mod (Zs b s) (Gs s)
  have hl := Nat.mod_lt (Zs b s) (Gs_pos s)
  rw [Nat.mul_comm] at h
  rw [Nat.add_mul, Nat.one_mul]
  omega
theorem hit_iff {b : Nat} (H : Parts b) (hb : b < 9218868437227405312) (s : Int) : (∃ k, Rd b k s) ↔ Rd b (qV b s) s ∨ Rd b (qV b s + 1) s := by
  constructor
  · rintro ⟨k, hk⟩
    obtain ⟨q1, q2⟩ := q_bounds b s
    obtain ⟨v1, v2⟩ := v_mid H hb
    have hU : 0 < 10 ^ (-s).toNat := Nat.pow_pos (by decide)
    have z1 : mid (b - 1) * 10 ^ (-s).toNat < Zs b s := Nat.mul_lt_mul_of_pos_right v1 hU
    have z2 : Zs b s < mid b * 10 ^ (-s).toNat := Nat.mul_lt_mul_of_pos_right v2 hU
    rw [Rd_zg] at hk ⊢
    rw [Rd_zg]
    rcases Nat.lt_or_ge (qV b s) k with g | g
    · right
      have : (qV b s + 1) * Gs s ≤ k * Gs s := Nat.mul_le_mul_right _ g
      generalize (qV b s + 1) * Gs s = A at *
      generalize k * Gs s = K at *
      split at hk <;> simp_all <;> omega
    · left
      have : k * Gs s ≤ qV b s * Gs s := Nat.mul_le_mul_right _ g
      generalize qV b s * Gs s = A at *
      generalize k * Gs s = K at *
      split at hk <;> simp_all <;> omega
  · rintro (h | h)
    · exact ⟨_, h⟩
    · exact ⟨_, h⟩
/-- what is picked of both -/
def pkV (b : Nat) (s : Int) : Nat := if ¬ Rd b (qV b s) s ∨ (Rd b (qV b s + 1) s ∧ (0 < hV b s ∨ (hV b s = 0 ∧ qV b s % 2 = 1))) then qV b s + 1 else qV b s
theorem pk_rd {b : Nat} (H : Parts b) (hb : b < 9218868437227405312) {s : Int} (h : ∃ k, Rd b k s) : Rd b (pkV b s) s := by
  have h' := (hit_iff H hb s).1 h
  unfold pkV
  by_cases c : Rd b (qV b s) s
  · split
    · next g =>
      rcases g with g | ⟨g, _⟩
      · exact absurd c g
      · exact g
    · exact c
  · rw [if_pos (.inl c)]
    exact h'.resolve_left c
theorem hit_downs {b k : Nat} {s : Int} (j : Nat) (h : Rd b k (s + j)) : Rd b (10 ^ j * k) s := (Rd.tens b j k s).2 h
/-- the row's scale -/
def tB (b : Nat) : Int := -sfp (mB b) (eB b)
theorem zg_row {b : Nat} (H : Parts b) : ∃ p q : Nat, 0 < p ∧ 0 < q ∧ (∀ k, 4 * k * QB b * p = k * Gs (tB b) * q) ∧ mB b * PB b * p = Zs b (tB b) * q := by
  have E := nrm b H
  have hp : powOf (iB b) = sfp (mB b) (eB b) := by have := E.p0; unfold powOf iB; omega
  have hl : lpOf (iB b) = sfp (mB b) (eB b) * 108853 / 32768 := by
    unfold lpOf; rw [hp]; exact Int.shiftRight_eq_div_pow _ _
  have he : -eB b = sB b + lpOf (iB b) + 3 := by
    rw [hl]
    have := E.s0.1
    have es : ((sB b : Nat) : Int) = sfs (mB b) (eB b) := by unfold sB; omega
    rw [es]; unfold sfs; omega
  have hH : mB b * 2 ^ (eB b + 1075).toNat = vv b * 2 ^ (-(eB b + 1075)).toNat := by
    unfold mB vv
    rw [Nat.mul_assoc, Nat.mul_assoc, ← Nat.pow_add, ← Nat.pow_add]
    congr 2
    have := H.e1
    unfold eB; omega
  have hQ : QB b = denOf (iB b) * (2 ^ sB b * 340282366920938463463374607431768211456) := rfl
  have hP : PB b = numOf (iB b) := rfl
  refine ⟨2 ^ (eB b + 1075).toNat, 2 ^ ((127 - lpOf (iB b)).toNat + (-(eB b + 1075)).toNat), Nat.two_pow_pos _, Nat.two_pow_pos _, ?_, ?_⟩
  · intro k
    rw [hQ]
    unfold Gs tB
    rw [← hp]
    unfold denOf big
    have e128 : (340282366920938463463374607431768211456 : Nat) = 2 ^ 128 := by decide
    rw [e128]
    have : 4 * k * (10 ^ (-powOf (iB b)).toNat * 2 ^ (-(127 - lpOf (iB b))).toNat * (2 ^ sB b * 2 ^ 128)) * 2 ^ (eB b + 1075).toNat = k * 10 ^ (-powOf (iB b)).toNat * (2 ^ 2 * 2 ^ (-(127 - lpOf (iB b))).toNat * 2 ^ sB b * 2 ^ 128 * 2 ^ (eB b + 1075).toNat) := by
      generalize 10 ^ (-powOf (iB b)).toNat = T
      generalize 2 ^ (-(127 - lpOf (iB b))).toNat = a
      generalize 2 ^ (eB b + 1075).toNat = c
      generalize 2 ^ sB b = d
      generalize 2 ^ 128 = f
      grind
    rw [this, ← Nat.mul_assoc k]
    rw [Nat.mul_assoc (k * _), ← Nat.pow_add, ← Nat.pow_add, ← Nat.pow_add, ← Nat.pow_add, ← Nat.pow_add]
    have hk : kbig = 1075 := rfl
    congr 2
    omega
  · rw [hP]
    unfold numOf Zs tB
    rw [Int.neg_neg, ← hp]
    have : mB b * (10 ^ (powOf (iB b)).toNat * 2 ^ (127 - lpOf (iB b)).toNat) * 2 ^ (eB b + 1075).toNat = (mB b * 2 ^ (eB b + 1075).toNat) * 10 ^ (powOf (iB b)).toNat * 2 ^ (127 - lpOf (iB b)).toNat := by
      generalize 10 ^ (powOf (iB b)).toNat = T
      generalize 2 ^ (127 - lpOf (iB b)).toNat = a
      generalize 2 ^ (eB b + 1075).toNat = c
      grind
    rw [this, hH, Nat.pow_add]
    generalize 10 ^ (powOf (iB b)).toNat = T
    generalize 2 ^ (127 - lpOf (iB b)).toNat = a
    generalize 2 ^ (-(eB b + 1075)).toNat = c
    grind
/-- a bound of the float by whole units of the row -/
theorem zg_ge {b : Nat} (H : Parts b) (k : Nat) : 4 * k * QB b ≤ mB b * PB b ↔ k * Gs (tB b) ≤ Zs b (tB b) := by
  obtain ⟨p, q, hp, hq, h1, h2⟩ := zg_row H
  exact scale_le hp hq (h1 k) h2
theorem zg_mid {b : Nat} (H : Parts b) (k : Nat) : (4 * k * QB b ≤ mB b * PB b + 2 * QB b ↔ 2 * (k * Gs (tB b)) ≤ 2 * Zs b (tB b) + Gs (tB b)) ∧
    (mB b * PB b ≤ 4 * k * QB b + 2 * QB b ↔ 2 * Zs b (tB b) ≤ 2 * (k * Gs (tB b)) + Gs (tB b)) := by
  obtain ⟨p, q, hp, hq, h1, h2⟩ := zg_row H
  have h3 := h1 1
  have h4 := h1 k
  rw [Nat.mul_one, Nat.one_mul] at h3
  generalize Gs (tB b) = G at *
  generalize Zs b (tB b) = Z at *
  generalize mB b * PB b = N at *
  generalize QB b = Q at *
  have A : 4 * k * Q * (2 * p) = 2 * (k * G) * q := by
    calc 4 * k * Q * (2 * p) = 2 * (4 * k * Q * p) := by grind
      _ = 2 * (k * G * q) := by rw [h4]
      _ = 2 * (k * G) * q := by grind
  have C : (N + 2 * Q) * (2 * p) = (2 * Z + G) * q := by
    calc (N + 2 * Q) * (2 * p) = 2 * (N * p) + 4 * Q * p := by grind
      _ = 2 * (Z * q) + G * q := by rw [h2, h3]
      _ = (2 * Z + G) * q := by grind
  have A' : N * (2 * p) = 2 * Z * q := by
    calc N * (2 * p) = 2 * (N * p) := by grind
      _ = 2 * (Z * q) := by rw [h2]
      _ = 2 * Z * q := by grind
  have C' : (4 * k * Q + 2 * Q) * (2 * p) = (2 * (k * G) + G) * q := by
    calc (4 * k * Q + 2 * Q) * (2 * p) = 2 * (4 * k * Q * p) + 4 * Q * p := by grind
      _ = 2 * (k * G * q) + G * q := by rw [h4, h3]
      _ = (2 * (k * G) + G) * q := by grind
  exact ⟨scale_le (by omega) hq A C, scale_le (by omega) hq A' C'⟩
def skOk (b : Nat) : Bool := decide (40 * QB b ≤ mB b * PB b) && decide (sfmax (mB b) (eB b) * PB b < sfmin (mB b) (eB b) * PB b + 40 * QB b)
theorem sk_all : (List.range 2046).all (fun j => skOk ((j + 1) * 4503599627370496)) = true := by kernel_rfl
theorem few_all : (List.range 10).all (fun b => b = 0 || decide (4 * QB b ≤ mB b * PB b) && (b ≤ 2 || decide (40 * QB b ≤ mB b * PB b))) = true := by kernel_rfl
structure Wid (b : Nat) : Prop where
  one : 4 * QB b ≤ mB b * PB b
  ten : 2 < b → 40 * QB b ≤ mB b * PB b
  wid : sfmax (mB b) (eB b) * PB b < sfmin (mB b) (eB b) * PB b + 40 * QB b
theorem eleven {b : Nat} (H : Parts b) (hs : sfskew (mB b) (eB b) = false) (he : eB b = -11) : 4 * QB b = 2 ^ zB b * PB b := by
  have hz : zB b = 11 := by
    have := H.e1; obtain ⟨_, _, z1, z2⟩ := mB_bounds H
    rcases Nat.lt_or_ge b 4503599627370496 with h | h
    · obtain ⟨_, q2, q3⟩ := H.sub h
      unfold eB at he; omega
    · obtain ⟨_, q2⟩ := H.nrm h
      unfold zB; omega
  have hsz : sfz (eB b) = 11 := by rw [sfz_eB H, hz]
  have hp : sfp (mB b) (eB b) = 0 := by unfold sfp; rw [hs, hsz, he]; rfl
  have hi : iB b = 348 := by unfold iB; rw [hp]; rfl
  have hss : sB b = 8 := by unfold sB sfs; rw [hp, he]; rfl
  have hP : PB b = 170141183460469231731687303715884105728 := by unfold PB; rw [hi]; decide +kernel
  have hQ : QB b = 87112285931760246646623899502532662132736 := by unfold QB; rw [hi, hss]; decide +kernel
  rw [hP, hQ, hz]
theorem wid_of {b : Nat} (H : Parts b) (hb : b < 9218868437227405312) : Wid b := by
  cases hs : sfskew (mB b) (eB b) with
  | true =>
    rw [skew_eq H] at hs
    have hs' := of_decide_eq_true hs
    have h := List.all_eq_true.1 sk_all (b / 4503599627370496 - 1) (List.mem_range.2 (by omega))
    rw [show (b / 4503599627370496 - 1 + 1) * 4503599627370496 = b by omega, skOk, Bool.and_eq_true, decide_eq_true_eq, decide_eq_true_eq] at h
    obtain ⟨h1, h2⟩ := h
    have := QB_pos b
    exact ⟨by omega, fun _ => h1, h2⟩
  | false =>
    have A := plain_of H hs
    have hw : sfmax (mB b) (eB b) * PB b < sfmin (mB b) (eB b) * PB b + 40 * QB b := by
      have h1 := max_is H; have h2 := min_is H hs; have h3 := half2 H; have h4 := A.ten
      have e1 : sfmax (mB b) (eB b) = sfmin (mB b) (eB b) + 2 ^ zB b := by omega
      rw [e1, Nat.add_mul]; omega
    have h4 : 4 * QB b ≤ 2 ^ zB b * PB b := by
      rcases A.one with e | e
      · exact Nat.le_of_eq (eleven H hs e)
      · exact Nat.le_of_lt e
    have hm : mantB b * (4 * QB b) ≤ mB b * PB b := by
      unfold mB; rw [Nat.mul_assoc]; exact Nat.mul_le_mul_left _ h4
    have h1 := Nat.mul_le_mul_right (4 * QB b) H.m1
    rw [Nat.one_mul] at h1
    refine ⟨Nat.le_trans h1 hm, fun h2 => ?_, hw⟩
    rcases Nat.lt_or_ge b 10 with g | g
    · have h := List.all_eq_true.1 few_all b (List.mem_range.2 g)
      simp only [Bool.or_eq_true, Bool.and_eq_true, decide_eq_true_eq] at h
      omega
    · have hm10 : 10 ≤ mantB b := by
        unfold mantB; split <;> omega
      have := Nat.mul_le_mul_right (4 * QB b) hm10
      omega
theorem ends {b : Nat} (H : Parts b) (hb : b < 9218868437227405312) : sfdmax (mB b) (eB b) < sfdmin (mB b) (eB b) + 10 := by
  have W := (wid_of H hb).wid
  have h1 := (dmin_iff H (sfdmin (mB b) (eB b))).1 (Nat.le_refl _)
  have h2 := (dmax_iff H (sfdmax (mB b) (eB b))).1 (Nat.le_refl _)
  have hQ := QB_pos b
  generalize sfmax (mB b) (eB b) * PB b = X at *
  generalize sfmin (mB b) (eB b) * PB b = N at *
  generalize sfdmax (mB b) (eB b) = dx at *
  generalize sfdmin (mB b) (eB b) = dm at *
  generalize QB b = Q at *
  have h3 : N ≤ 4 * dm * Q := by split at h1 <;> omega
  have h4 : 4 * dx * Q ≤ X := by split at h2 <;> omega
  have h5 : 4 * dx * Q < (4 * dm + 40) * Q := by rw [Nat.add_mul]; omega
  have := Nat.lt_of_mul_lt_mul_right h5
  omega
/-- the float between two powers of ten -/
def TopE (b : Nat) (e : Int) : Prop := Gs e ≤ Zs b e ∧ Zs b (e + 1) < Gs (e + 1)
theorem top_le {b : Nat} {e s : Int} (h : TopE b e) (k : Nat) (hs : 10 ^ k * Gs s ≤ Zs b s) : s + k ≤ e := by
  rcases Int.lt_or_le e (s + k) with g | g
  · exfalso
    have h1 := (zg_le b s k 0).2 (by rw [Nat.zero_add]; exact hs)
    rw [Nat.pow_zero, Nat.one_mul] at h1
    obtain ⟨j, hj⟩ : ∃ j : Nat, s + k = e + 1 + j := ⟨(s + k - (e + 1)).toNat, by omega⟩
    rw [hj] at h1
    have h2 := (zg_le b (e + 1) j 0).1 (by rw [Nat.pow_zero, Nat.one_mul]; exact h1)
    rw [Nat.zero_add] at h2
    have h3 := h.2
    have h4 : Gs (e + 1) ≤ 10 ^ j * Gs (e + 1) := Nat.le_mul_of_pos_left _ (Nat.pow_pos (by decide))
    omega
  · exact g
theorem le_top {b : Nat} {e s : Int} (h : TopE b e) (k : Nat) (hs : Zs b s < 10 ^ k * Gs s) : e < s + k := by
  rcases Int.lt_or_le e (s + k) with g | g
  · exact g
  · exfalso
    obtain ⟨j, hj⟩ : ∃ j : Nat, e = s + (k + j : Nat) := ⟨(e - (s + k)).toNat, by omega⟩
    have h1 := h.1
    rw [hj] at h1
    have h2 := (zg_le b s (k + j) 0).1 (by rw [Nat.pow_zero, Nat.one_mul]; exact h1)
    rw [Nat.zero_add, Nat.pow_add, Nat.mul_assoc, Nat.mul_left_comm] at h2
    have h4 : 10 ^ k * Gs s ≤ 10 ^ j * (10 ^ k * Gs s) := Nat.le_mul_of_pos_left _ (Nat.pow_pos (by decide))
    omega
theorem top_range {b : Nat} (H : Parts b) (hb : b < 9218868437227405312) {e : Int} (h : TopE b e) : tB b ≤ e ∧ e ≤ tB b + 16 ∧ (2 < b → tB b + 1 ≤ e) := by
  have W := wid_of H hb
  have B := (nrm b H).bound
  refine ⟨?_, ?_, fun h2 => ?_⟩
  · have h1 := (zg_ge H 1).1 (by rw [Nat.mul_one]; exact W.one)
    have := top_le h 0 (by rw [Nat.pow_zero]; exact h1)
    omega
  · have hle : mB b ≤ sfmax (mB b) (eB b) := Nat.le_add_right _ _
    have h1 : ¬ 4 * 10 ^ 17 * QB b ≤ mB b * PB b := by
      have := Nat.mul_le_mul_right (PB b) hle
      omega
    rw [zg_ge H] at h1
    have := le_top h 17 (Nat.lt_of_not_le h1)
    omega
  · have h1 := (zg_ge H 10).1 (W.ten h2)
    exact top_le h 1 (by rw [Nat.pow_one]; exact h1)
theorem two_val : pkV 2 (tB 2) = 10 ∧ tB 2 = -324 ∧ Sh 2 1 (-323) := by
  refine ⟨by decide +kernel, by decide +kernel, 0, by decide +kernel, by decide +kernel, by decide⟩
theorem pick_core {Z G q r d dm dx : Nat} {h : Int} (hG : 0 < G) (hq : q = Z / G) (hr : r = Z % G) (hh : h = cmp3 (r * 2) G)
    (m1 : 2 * (d * G) ≤ 2 * Z + G) (m2 : 2 * Z ≤ 2 * (d * G) + G) (t1 : 2 * (d * G) = 2 * Z + G → d % 2 = 0) (t2 : 2 * Z = 2 * (d * G) + G → d % 2 = 0)
    (hd : dm < dx → dm ≤ d ∧ d ≤ dx) (hx : dm ≤ dx) (hit : (dm ≤ q ∧ q ≤ dx) ∨ (dm ≤ q + 1 ∧ q + 1 ≤ dx)) :
    (if ¬ (dm ≤ q ∧ q ≤ dx) ∨ ((dm ≤ q + 1 ∧ q + 1 ≤ dx) ∧ (0 < h ∨ (h = 0 ∧ q % 2 = 1))) then q + 1 else q) = if dm < dx then d else dm := by
  have e := Nat.div_add_mod Z G
  have el := Nat.mod_lt Z hG
  rw [← hq, ← hr, Nat.mul_comm] at e
  rw [← hr] at el
  clear hq hr
  have hc : (h < 0 ∧ 2 * r < G) ∨ (h = 0 ∧ 2 * r = G) ∨ (0 < h ∧ G < 2 * r) := by
    rw [hh, cmp3_neg, cmp3_zero, cmp3_pos]; omega
  clear hh
  have hdq : d = q ∨ d = q + 1 := by
    rcases Nat.lt_or_ge d q with g | g
    · have := Nat.mul_le_mul_right G g
      rw [Nat.succ_mul] at this
      omega
    · rcases Nat.lt_or_ge (q + 1) d with g' | g'
      · have := Nat.mul_le_mul_right G g'
        rw [Nat.succ_mul, Nat.add_mul, Nat.one_mul] at this
        omega
      · omega
  by_cases hlt : dm < dx
  · rw [if_pos hlt]
    have hd := hd hlt
    rcases hdq with g | g
    · subst g
      rw [if_neg]
      rintro (c | ⟨_, c | ⟨c, c'⟩⟩)
      · exact c hd
      · omega
      · have := t2 (by omega); omega
    · subst g
      rw [Nat.add_mul, Nat.one_mul] at *
      rw [if_pos]
      right
      refine ⟨hd, ?_⟩
      rcases hc with c | c | c
      · omega
      · right
        refine ⟨c.1, ?_⟩
        have := t1 (by omega)
        omega
      · exact .inl c.1
  · rw [if_neg hlt]
    split
    · next c =>
      rcases c with c | ⟨c, _⟩ <;> omega
    · next c => omega
/-- the first scale at which there is one: what is picked there is what is printed -/
theorem pick_sh {b : Nat} (H : Parts b) (hb : b < 9218868437227405312) {e s : Int} (ht : TopE b e) (hit : ∃ k, Rd b k s) (hf : s = e ∨ ¬ ∃ k, Rd b k (s + 1))
    {i c : Nat} (hc : 10 ^ i * c = pkV b s) (h10 : c % 10 ≠ 0) : Sh b c (s + i) := by
  obtain ⟨r1, r2, r3⟩ := top_range H hb ht
  have hpk := pk_rd H hb hit
  have rd := rd_iff H
  have hen := ends H hb
  rw [show -sfp (mB b) (eB b) = tB b from rfl] at rd
  have below : ∀ k, Rd b k (tB b) → s < tB b → False := fun k hk hlt => by
    rcases hf with h | h
    · omega
    · refine h ?_
      obtain ⟨j, hj⟩ : ∃ j : Nat, tB b = s + 1 + j := ⟨(tB b - (s + 1)).toNat, by omega⟩
      rw [hj] at hk
      exact ⟨_, hit_downs j hk⟩
  by_cases hn : sfdmax (mB b) (eB b) / 10 * 10 ≥ sfdmin (mB b) (eB b)
  · have hd : sfd (mB b) (eB b) = sfdmax (mB b) (eB b) / 10 := by rw [sfd_is, if_pos hn]
    have hq : sfq (mB b) (eB b) = tB b + 1 := by rw [sfq_is, if_pos hn]; unfold tB; omega
    have k1 : Rd b (10 * (sfdmax (mB b) (eB b) / 10)) (tB b) := (rd _).2 (by omega)
    have hs : tB b ≤ s := by
      rcases Int.lt_or_le s (tB b) with g | g
      · exact (below _ k1 g).elim
      · exact g
    by_cases he : s = tB b
    · have h2 : b = 2 ∨ b = 1 ∨ 2 < b := by
        have := H.m1
        rcases Nat.eq_zero_or_pos b with z | z
        · subst z; exact absurd this (by decide)
        · omega
      rcases h2 with h2 | h2 | h2
      · subst h2
        obtain ⟨v1, v2, v3⟩ := two_val
        rw [he, v1] at hc
        have : i = 1 ∧ c = 1 := by
          have := pow10_split (k := i) (k' := 1) (c := c) (c' := 1) (by rw [hc]) h10 (by decide)
          exact this
        obtain ⟨rfl, rfl⟩ := this
        rw [he, v2]; exact v3
      · subst h2
        exact absurd hn (by decide +kernel)
      · exfalso
        rcases hf with h | h
        · have := r3 h2; omega
        · exact h ⟨_, by rw [he]; exact (Rd.ten _ _ _).1 k1⟩
    · obtain ⟨j, hj⟩ : ∃ j : Nat, s = tB b + 1 + j := ⟨(s - (tB b + 1)).toNat, by omega⟩
      have k2 : Rd b (10 * (10 ^ j * pkV b s)) (tB b) := by
        rw [Rd.ten]
        refine hit_downs j ?_
        rw [← hj]; exact hpk
      have a1 := (rd _).1 k1
      have a2 := (rd _).1 k2
      refine ⟨j + i, ?_, ?_, h10⟩
      · rw [Nat.pow_add, Nat.mul_assoc, hc, hd]
        generalize 10 ^ j * pkV b s = x at *
        omega
      · rw [hq]; omega
  · have hb' := between H hn
    have hq : sfq (mB b) (eB b) = tB b := by rw [sfq_is, if_neg hn]; rfl
    have hdx : sfdmin (mB b) (eB b) ≤ sfdmax (mB b) (eB b) := Nat.le_trans hb'.1 hb'.2
    have no10 : ∀ k, ¬ (sfdmin (mB b) (eB b) ≤ 10 * k ∧ 10 * k ≤ sfdmax (mB b) (eB b)) := fun k hk => by omega
    have hs : s = tB b := by
      rcases Int.lt_trichotomy s (tB b) with g | g | g
      · exact (below _ ((rd _).2 ⟨Nat.le_refl _, hdx⟩) g).elim
      · exact g
      · exfalso
        obtain ⟨j, hj⟩ : ∃ j : Nat, s = tB b + 1 + j := ⟨(s - (tB b + 1)).toNat, by omega⟩
        obtain ⟨k, hk⟩ := hit
        rw [hj] at hk
        exact no10 _ ((rd _).1 ((Rd.ten _ _ _).2 (hit_downs j hk)))
    subst hs
    have hit' := (hit_iff H hb _).1 hit
    have hpr := (rd _).1 hpk
    have e1 : pkV b (tB b) = sfd (mB b) (eB b) := by
      have QI := q_is b (tB b)
      obtain ⟨n1, n2⟩ := mdl_near b
      obtain ⟨_, _, n3, n4⟩ := round0 (mB b * PB b) (QB b) (QB_pos b) (mdl b) rfl
      have z := zg_mid H (mdl b)
      have z1 := z.1; have z2 := z.2
      have y1 : 2 * (mdl b * Gs (tB b)) = 2 * Zs b (tB b) + Gs (tB b) → mdl b % 2 = 0 := fun h => n3 (by
        obtain ⟨p, q, hp, hq, f1, f2⟩ := zg_row H
        have g1 := f1 (mdl b); have g2 := f1 1
        rw [Nat.mul_one, Nat.one_mul] at g2
        refine Nat.eq_of_mul_eq_mul_right (Nat.mul_pos (by decide : 0 < 2) hp) ?_
        generalize mB b * PB b = N at *
        generalize QB b = Q at *
        generalize Gs (tB b) = G at *
        generalize Zs b (tB b) = Z at *
        generalize mdl b = d at *
        calc 4 * d * Q * (2 * p) = 2 * (4 * d * Q * p) := by grind
          _ = 2 * (d * G) * q := by rw [g1]; grind
          _ = (2 * Z + G) * q := by rw [h]
          _ = 2 * (Z * q) + G * q := by grind
          _ = 2 * (N * p) + 4 * Q * p := by rw [f2, g2]
          _ = (N + 2 * Q) * (2 * p) := by grind)
      have y2 : 2 * Zs b (tB b) = 2 * (mdl b * Gs (tB b)) + Gs (tB b) → mdl b % 2 = 0 := fun h => n4 (by
        obtain ⟨p, q, hp, hq, f1, f2⟩ := zg_row H
        have g1 := f1 (mdl b); have g2 := f1 1
        rw [Nat.mul_one, Nat.one_mul] at g2
        refine Nat.eq_of_mul_eq_mul_right (Nat.mul_pos (by decide : 0 < 2) hp) ?_
        generalize mB b * PB b = N at *
        generalize QB b = Q at *
        generalize Gs (tB b) = G at *
        generalize Zs b (tB b) = Z at *
        generalize mdl b = d at *
        calc N * (2 * p) = 2 * (N * p) := by grind
          _ = 2 * Z * q := by rw [f2]; grind
          _ = (2 * (d * G) + G) * q := by rw [h]
          _ = 2 * (d * G * q) + G * q := by grind
          _ = 2 * (4 * d * Q * p) + 4 * Q * p := by rw [g1, g2]
          _ = (4 * d * Q + 2 * Q) * (2 * p) := by grind)
      have hsd := sfd_mdl H
      rw [if_neg hn] at hsd
      rw [rd, rd] at hit'
      have hd2 : sfdmin (mB b) (eB b) < sfdmax (mB b) (eB b) → sfdmin (mB b) (eB b) ≤ mdl b ∧ mdl b ≤ sfdmax (mB b) (eB b) := fun h => by
        rw [if_pos h] at hsd; rw [← hsd]; exact hb'
      rw [hsd]
      unfold pkV
      simp only [rd]
      exact pick_core (Gs_pos _) QI.1 rfl QI.2 (z1.1 n1) (z2.1 n2) y1 y2 hd2 hdx hit'
    refine ⟨i, by rw [hc, e1], by rw [hq], h10⟩
/-- at the row's scale there is one -/
theorem hit_row {b : Nat} (H : Parts b) {s : Int} (hs : s ≤ tB b) : ∃ k, Rd b k s := by
  have h : ∃ k, Rd b k (tB b) := by
    have rd := rd_iff H
    rw [show -sfp (mB b) (eB b) = tB b from rfl] at rd
    by_cases hn : sfdmax (mB b) (eB b) / 10 * 10 ≥ sfdmin (mB b) (eB b)
    · exact ⟨10 * (sfdmax (mB b) (eB b) / 10), (rd _).2 (by omega)⟩
    · exact ⟨_, (rd _).2 (between H hn)⟩
  obtain ⟨k, hk⟩ := h
  obtain ⟨j, hj⟩ : ∃ j : Nat, tB b = s + j := ⟨(tB b - s).toNat, by omega⟩
  rw [hj] at hk
  exact ⟨_, hit_downs j hk⟩
theorem q_small {b : Nat} {e : Int} (h : TopE b e) (n : Nat) (hn : n ≤ 17) : qV b (e - n + 1) < 100000000000000000 ∧ xV b (e - n + 1) < 2 ^ 63 * yV b (e - n + 1) := by
  have h1 := h.2
  have h2 : Zs b (e - n + 1) < 10 ^ n * Gs (e - n + 1) := by
    rcases Nat.lt_or_ge (Zs b (e - n + 1)) (10 ^ n * Gs (e - n + 1)) with g | g
    · exact g
    · exfalso
      have := (zg_le b (e - n + 1) n 0).2 (by rw [Nat.zero_add]; exact g)
      rw [show e - (n : Int) + 1 + n = e + 1 by omega, Nat.pow_zero, Nat.one_mul] at this
      omega
  have h3 : (10 : Nat) ^ n ≤ 10 ^ 17 := Nat.pow_le_pow_right (by decide) hn
  rw [show (10 : Nat) ^ 17 = 100000000000000000 by decide] at h3
  have h4 := Nat.mul_le_mul_right (Gs (e - n + 1)) h3
  have hq : qV b (e - n + 1) < 100000000000000000 := by
    rw [(q_is b _).1, Nat.div_lt_iff_lt_mul (Gs_pos _)]; omega
  refine ⟨hq, ?_⟩
  unfold qV at hq
  rw [Nat.div_lt_iff_lt_mul (yV_pos b _)] at hq
  refine Nat.lt_of_lt_of_le hq (Nat.mul_le_mul_right _ (by decide))
end Go.Proofs.YthjfdhkahmlolaaGreatDoor

/- The reference's top: the exponent of a float above 0. -/
namespace Go.Proofs.YthjfdhkahmlolaaGreatDoor
open Go.RowKit Usc
set_option maxRecDepth 100000
/-- where the search begins -/
def tpE (u : Int) : Int := (u * 30103).tdiv 100000 + 2
def tpOk (u : Nat) : Bool := decide (2 ^ (u + 1) * 10 ^ (-(tpE ((u : Int) - 1075) + 1)).toNat ≤ 10 ^ (tpE ((u : Int) - 1075) + 1).toNat * big) && decide (-330 ≤ tpE ((u : Int) - 1075)) && decide (tpE ((u : Int) - 1075) ≤ 400)
theorem tp_all : (List.range 2100).all tpOk = true := by kernel_rfl
theorem tp_ok {u : Nat} (h : u < 2100) : 2 ^ (u + 1) * 10 ^ (-(tpE ((u : Int) - 1075) + 1)).toNat ≤ 10 ^ (tpE ((u : Int) - 1075) + 1).toNat * big ∧ -330 ≤ tpE ((u : Int) - 1075) ∧ tpE ((u : Int) - 1075) ≤ 400 := by
  have := List.all_eq_true.1 tp_all u (List.mem_range.2 h)
  unfold tpOk at this
  rw [Bool.and_eq_true, Bool.and_eq_true, decide_eq_true_eq, decide_eq_true_eq, decide_eq_true_eq] at this
  exact ⟨this.1.1, this.1.2, this.2⟩
theorem ag_top (b : Nat) (s : Int) : 0 < agV 1 (mantB b) s ((exB b : Int) - 1075) ↔ Zs b s < Gs s := by
  have e : agV 1 (mantB b) s ((exB b : Int) - 1075) = cmp3 (yV b s) (xV b s) := by
    unfold agV yV xV
    rw [show -((exB b : Int) - 1075) = 1075 - (exB b : Int) by omega, Nat.one_mul, Nat.mul_comm (10 ^ s.toNat), Nat.mul_right_comm (mantB b)]
  rw [e, cmp3_pos]
  have h := scale_le (A := yV b s) (B := xV b s) (A' := Gs s) (B' := Zs b s) (p := Gs s) (q := yV b s) (Gs_pos s) (yV_pos b s) (Nat.mul_comm _ _) (xy_zg b s)
  omega
theorem top_high {b t : Nat} (H : Parts b) (h1 : mantB b < 2 ^ (t + 1)) (ht : t ≤ 52) : Zs b (tpE ((exB b : Int) - 1075 + t) + 1) < Gs (tpE ((exB b : Int) - 1075 + t) + 1) := by
  have e2 := H.e2
  have k := (tp_ok (u := t + exB b) (by omega)).1
  rw [show ((t + exB b : Nat) : Int) - 1075 = (exB b : Int) - 1075 + t by omega] at k
  generalize tpE ((exB b : Int) - 1075 + t) + 1 = s at *
  unfold Zs Gs vv
  refine Nat.lt_of_lt_of_le ?_ k
  have e : 2 ^ (t + exB b + 1) = 2 ^ (t + 1) * 2 ^ exB b := by rw [← Nat.pow_add]; congr 1; omega
  rw [e]
  exact Nat.mul_lt_mul_of_pos_right (Nat.mul_lt_mul_of_pos_right h1 (Nat.two_pow_pos _)) (Nat.pow_pos (by decide))
theorem low_324 : 10 ^ 0 * Gs (-324) ≤ 2 * 10 ^ (-(-324 : Int)).toNat := by decide +kernel
theorem top_low {b : Nat} (H : Parts b) {s : Int} (h : Zs b s < Gs s) : -324 < s := by
  rcases Int.lt_or_le (-324) s with g | g
  · exact g
  · exfalso
    obtain ⟨j, hj⟩ : ∃ j : Nat, -324 = s + j := ⟨(-324 - s).toNat, by omega⟩
    have h1 : 2 ≤ vv b := by
      unfold vv
      have h2 : 2 ^ 1 ≤ 2 ^ exB b := Nat.pow_le_pow_right (by decide) H.e1
      have := Nat.mul_le_mul H.m1 h2
      omega
    have h2 : 10 ^ 0 * Gs (-324) ≤ Zs b (-324) := Nat.le_trans low_324 (Nat.mul_le_mul_right _ h1)
    rw [hj] at h2
    have h3 := (zg_le b s j 0).1 h2
    have h4 : Gs s ≤ 10 ^ (0 + j) * Gs s := Nat.le_mul_of_pos_left _ (Nat.pow_pos (by decide))
    omega
def Tp1 (w0 : World) (m : Nat) (k : Int) (v4 v5 : Value) (w : World) : Prop :=
  ∃ x t : Nat, v5 = .int .u64 (x : Int) ∧ v4 = .int .i64 (k + t) ∧ 1 ≤ x ∧ x < 9007199254740992 ∧ x * 2 ^ t ≤ m ∧ m < (x + 1) * 2 ^ t ∧ t ≤ 52 ∧ w = w0
def Tp2 (w0 : World) (b : Nat) (v6 : Value) (w : World) : Prop :=
  ∃ e : Int, v6 = .int .i64 e ∧ Zs b (e + 1) < Gs (e + 1) ∧ -331 ≤ e ∧ e ≤ 400 ∧ Only (fun _ => False) w0 w
theorem tp_half {m x t : Nat} (h1 : x * 2 ^ t ≤ m) (h2 : m < (x + 1) * 2 ^ t) (hm : m < 9007199254740992) (hx : 1 < x) : x / 2 * 2 ^ (t + 1) ≤ m ∧ m < (x / 2 + 1) * 2 ^ (t + 1) ∧ t + 1 ≤ 52 := by
  have e : 2 ^ (t + 1) = 2 * 2 ^ t := by rw [Nat.pow_succ, Nat.mul_comm]
  have a1 : x / 2 * 2 * 2 ^ t ≤ x * 2 ^ t := Nat.mul_le_mul_right _ (by omega)
  have a2 : (x + 1) * 2 ^ t ≤ (x / 2 + 1) * 2 * 2 ^ t := Nat.mul_le_mul_right _ (by omega)
  refine ⟨by rw [e, ← Nat.mul_assoc]; omega, by rw [e, ← Nat.mul_assoc]; omega, ?_⟩
  rcases Nat.lt_or_ge t 52 with g | g
  · exact g
  · exfalso
    have h3 : 2 ^ 52 ≤ 2 ^ t := Nat.pow_le_pow_right (by decide) g
    have h4 : 2 * 2 ^ 52 ≤ x * 2 ^ t := Nat.mul_le_mul hx h3
    rw [show 2 * (2 : Nat) ^ 52 = 9007199254740992 by decide] at h4
    omega
set_option maxHeartbeats 4000000 in
theorem top_calls (b : Nat) (w : World) (h0 : 1 ≤ b) (hb : b < 9218868437227405312) :
    Calls Tryz.prog 58 #[.int .u64 (b : Int)] w fun en w' => ∃ e : Int, en = .returned (.int .i64 e) ∧ TopE b e ∧ -324 ≤ e ∧ e ≤ 400 ∧ Only (fun _ => False) w w' := by
  have H := parts b h0 hb
  have hm1 := H.m1; have hm2 := H.m2; have he1 := H.e1; have he2 := H.e2
  have hP := Lib.hid (fun w => parts_calls b w hb)
  have HI := Lib.hid (fun t h1 ht => top_high (t := t) H h1 ht)
  have LO := Lib.hid (fun s => top_low (s := s) H)
  have AG := Lib.hid (fun s w hs => ag_calls 1 (mantB b) s ((exB b : Int) - 1075) w (by decide) (by omega) hs (by omega))
  have AT := Lib.hid (fun s => ag_top b s)
  have TK := Lib.hid (fun (t : Nat) (ht : t ≤ 52) => (tp_ok (u := t + exB b) (by omega)).2)
  obtain ⟨k, hk⟩ : ∃ k, k = (exB b : Int) - 1075 := ⟨_, rfl⟩
  have hk1 : -1074 ≤ k ∧ k ≤ 971 := by omega
  have TK' := Lib.hid (fun (t : Nat) (ht : t ≤ 52) => (show -330 ≤ tpE (k + t) ∧ tpE (k + t) ≤ 400 by
    have := TK.out t ht
    rw [show ((t + exB b : Nat) : Int) - 1075 = k + t by omega] at this
    exact this))
  clear TK
  rw [← hk] at hP HI AG AT
  clear hk he1 he2 H
  generalize mantB b = m at *
  go_enter Tryz.func58, Tryz.ntmps58
  go_wp2_with fail
  refine (hP.out _).mono ?_; rintro en w1 ⟨rfl, hw⟩; rw [hw]; clear hw w1 hP
  go_wp2_with fail
  go_loopw [5, 6] (fun v4 v5 wr => Tp1 w m k v4 v5 wr) (fun _ v5 _ => (intOf v5).toNat)
  case atStart => exact ⟨m, 0, rfl, by simp, hm1, hm2, by simp, by simp, by omega, rfl⟩
  case round =>
    obtain ⟨x, t, rfl, rfl, hx, hx2, i1, i2, ht, hw⟩ := hrel
    rw [hw]; clear hw
    by_cases h1 : 1 < x
    · have hh := tp_half i1 i2 hm2 h1
      have HH := Lib.hid hh; have I1 := Lib.hid i1; clear hh i1 i2
      have tx : decide ((1 : Int) < (x : Int)) = true := decide_eq_true (by omega)
      go_wp2_with fail
      exact ⟨⟨x / 2, t + 1, congrArg (Value.int .u64) (by omega), congrArg (Value.int .i64) (by omega), by omega, by omega, HH.out.1, HH.out.2.1, HH.out.2.2, rfl⟩, by simp only [intOf]; omega⟩
    · have i3 : m < 2 ^ (t + 1) := by
        rw [show x = 1 by omega] at i2
        rw [Nat.pow_succ, Nat.mul_comm]; exact i2
      have tx : decide ((1 : Int) < (x : Int)) = false := decide_eq_false (by omega)
      have HS := Lib.hid (HI.out t i3 ht)
      have TT := TK'.out t ht
      have e5 : ((k + (t : Int)) * 30103).tdiv 100000 + 2 = tpE (k + t) := rfl
      clear i1 i2 HI TK'
      have tb : -400 ≤ ((k + (t : Int)) * 30103).tdiv 100000 ∧ ((k + (t : Int)) * 30103).tdiv 100000 ≤ 400 := by omega
      go_wp2_with fail
      go_loopw [7] (fun v6 wr => Tp2 w b v6 wr) (fun v6 _ => (intOf v6 + 400).toNat)
      case atStart =>
        refine ⟨tpE (k + t), ?_, HS.out, by omega, by omega, Only.refl _ _⟩
        first
          | rfl
          | (congr 1; rw [IntWalk.wrap64_in (by omega) (by omega)]; rfl)
      case round =>
        obtain ⟨e, rfl, hz, g1, g2, hO⟩ := hrel
        have HO := Lib.hid hO; have HZ := Lib.hid hz; clear hO hz
        go_wp2_with fail
        refine (AG.out e _ (by omega)).mono ?_
        rintro en w5 ⟨rfl, ho⟩
        have HO5 := Lib.hid (HO.out.trans ho); clear ho
        have AE := AT.out e
        generalize agV 1 m e k = C at *
        by_cases hc : Zs b e < Gs e
        · have tC : decide (0 < C) = true := decide_eq_true (AE.2 hc)
          have hl := LO.out e hc
          have HCC := Lib.hid hc; clear hc AE
          go_wp2_with fail
          refine ⟨⟨e - 1, rfl, by rw [Int.sub_add_cancel]; exact HCC.out, by omega, by omega, HO5.out⟩, by simp only [intOf]; omega⟩
        · have tC : decide (0 < C) = false := decide_eq_false (fun h => hc (AE.1 h))
          have HCC := Lib.hid hc; clear hc AE
          go_wp2_with fail
          go_ret
          refine ⟨e, rfl, ⟨Nat.le_of_not_lt HCC.out, HZ.out⟩, ?_, g2, HO5.out⟩
          have := LO.out (e + 1) HZ.out
          omega
end Go.Proofs.YthjfdhkahmlolaaGreatDoor
