/- What the model's product and quotient of two floats round to reads back. Plain. -/
import Derived.Test.YthjfdhkahmlolaaGreatDoorJR43
import Derived.Test.YthjfdhkahmlolaaGreatDoorJR11
namespace Go.Proofs.YthjfdhkahmlolaaGreatDoor.Usc
open Pq.Flt
/-- X/Y over 2^d, rounded to t units of 2^(K-1074) -/
theorem near_core {K t d N D X Y : Nat} (hY : 0 < Y) (hD : 0 < D) (ht1 : 1 ≤ t) (ht2 : t ≤ 9007199254740992) (hK : 4503599627370496 ≤ t ∨ K = 0)
    (c1 : 2 * t * 2 ^ d * Y ≤ 2 * X + 2 ^ d * Y) (c2 : 2 * X ≤ 2 * t * 2 ^ d * Y + 2 ^ d * Y) (c3 : 2 * t * 2 ^ d * Y = 2 * X + 2 ^ d * Y → t % 2 = 0) (c4 : 2 * X = 2 * t * 2 ^ d * Y + 2 ^ d * Y → t % 2 = 0)
    (h5 : t = 4503599627370496 → 0 < K → 4503599627370496 * 2 ^ d * Y ≤ X) (hs : N * (2 ^ d * Y) = 2 * X * (2 ^ K * D)) : Near (K * 4503599627370496 + t) N D := by
  have hP := Nat.mul_pos (Nat.two_pow_pos d) hY
  have hQ := Nat.mul_pos (Nat.two_pow_pos K) hD
  have a1 : 2 * t * 2 ^ d * Y = 2 * t * (2 ^ d * Y) := Nat.mul_assoc ..
  have a2 : 4503599627370496 * 2 ^ d * Y = 4503599627370496 * (2 ^ d * Y) := Nat.mul_assoc ..
  rw [a1] at c1 c2 c3 c4
  rw [a2] at h5
  have cv : ∀ Z : Nat, Z * 2 ^ K * D * (2 ^ d * Y) = Z * (2 ^ d * Y) * (2 ^ K * D) := fun Z => by rw [Nat.mul_assoc Z, Nat.mul_right_comm]
  have e1 : ∀ Z : Nat, Z * (2 ^ d * Y) ≤ 2 * X → Z * 2 ^ K * D ≤ N := fun Z h => by
    have := Nat.mul_le_mul_right (2 ^ K * D) h
    rw [← cv, ← hs] at this
    exact Nat.le_of_mul_le_mul_right this hP
  have e2 : ∀ Z : Nat, 2 * X ≤ Z * (2 ^ d * Y) → N ≤ Z * 2 ^ K * D := fun Z h => by
    have := Nat.mul_le_mul_right (2 ^ K * D) h
    rw [← cv, ← hs] at this
    exact Nat.le_of_mul_le_mul_right this hP
  have e3 : ∀ Z : Nat, Z * 2 ^ K * D = N → Z * (2 ^ d * Y) = 2 * X := fun Z h => by
    have : Z * (2 ^ d * Y) * (2 ^ K * D) = 2 * X * (2 ^ K * D) := by rw [← cv, ← hs, h]
    exact Nat.eq_of_mul_eq_mul_right hQ this
  generalize 2 ^ d * Y = P at *
  have hx : 1 * P ≤ 2 * t * P := Nat.mul_le_mul_right _ (by omega)
  refine near_of_round ht1 ht2 hK (e1 _ ?_) (e2 _ ?_) (fun h => c3 ?_) (fun h => c4 ?_) (fun h hk => ?_)
  · rw [Nat.sub_mul]; omega
  · rw [Nat.add_mul]; omega
  · have := e3 _ h
    rw [Nat.sub_mul] at this
    omega
  · have := e3 _ h.symm
    rw [Nat.add_mul] at this
    omega
  · have h6 := e1 (2 * t) (by rw [h, Nat.mul_assoc]; exact Nat.mul_le_mul_left 2 (h5 h hk))
    have h7 : 2 ^ K = 2 * 2 ^ (K - 1) := by rw [Nat.mul_comm, ← Nat.pow_succ]; congr 1; omega
    rw [h7, ← Nat.mul_assoc, show 2 * t * 2 = 4 * t by omega] at h6
    exact Nat.le_trans (Nat.mul_le_mul_right _ (Nat.mul_le_mul_right _ (by omega))) h6
/-- M at the place q, where it is told of X/Y with a sticky last bit: rounded, it is the float that X/Y 2^q reads back as -/
theorem rung_is {b M X Y : Nat} {q : Int} (hb : 1 ≤ b) (hb2 : b < 9218868437227405312) (hM : 0 < M) (hY : 0 < Y)
    (hst : X = M * Y ∨ (18014398509481984 ≤ M ∧ M % 2 = 1 ∧ (M - 1) * Y < X ∧ X < (M + 1) * Y ∧ -1074 ≤ q + (M.log2 : Int) - 52))
    (hN : Near b (X * 2 ^ (q + 1075).toNat) (2 ^ (-(q + 1075)).toNat * Y)) : rung M q = b := by
  have h0 : M ≠ 0 := by omega
  have g1 := Nat.log2_self_le h0
  have g2 := @Nat.lt_log2_self M
  unfold rung
  rw [if_neg h0]
  simp only
  have hlr : max (q + (M.log2 : Int) - 52) (-1074) = q + (M.log2 : Int) - 52 ∨ (max (q + (M.log2 : Int) - 52) (-1074) = -1074) := by omega
  generalize hl : max (q + (M.log2 : Int) - 52) (-1074) = last at *
  obtain ⟨b1, b2, b3, b4, b5, b6⟩ := rne_bounds (M * 2 ^ (q - last).toNat) (last - q).toNat
  generalize ht : rne (M * 2 ^ (q - last).toNat) (last - q).toNat = t at *
  generalize hK : (last + 1074).toNat = K at *
  have hP := Nat.two_pow_pos (last - q).toNat
  have u1 : M * 2 ^ (q - last).toNat < 9007199254740992 * 2 ^ (last - q).toNat := by
    have : M * 2 ^ (q - last).toNat < 2 ^ (M.log2 + 1) * 2 ^ (q - last).toNat := Nat.mul_lt_mul_of_pos_right g2 (Nat.two_pow_pos _)
    rw [← Nat.pow_add] at this
    have h2 : 2 ^ (M.log2 + 1 + (q - last).toNat) ≤ 2 ^ (53 + (last - q).toNat) := Nat.pow_le_pow_right (by decide) (by omega)
    rw [Nat.pow_add 2 53, show (2 : Nat) ^ 53 = 9007199254740992 by decide] at h2
    omega
  have u2 : K = 0 ∨ 4503599627370496 * 2 ^ (last - q).toNat ≤ M * 2 ^ (q - last).toNat := by
    rcases Nat.eq_zero_or_pos K with e | e
    · exact .inl e
    · right
      have : 2 ^ M.log2 * 2 ^ (q - last).toNat ≤ M * 2 ^ (q - last).toNat := Nat.mul_le_mul_right _ g1
      rw [← Nat.pow_add] at this
      have h2 : 2 ^ (52 + (last - q).toNat) ≤ 2 ^ (M.log2 + (q - last).toNat) := Nat.pow_le_pow_right (by decide) (by omega)
      rw [Nat.pow_add, show (2 : Nat) ^ 52 = 4503599627370496 by decide] at h2
      omega
  have u3 : t ≤ 9007199254740992 := by
    have : M * 2 ^ (q - last).toNat / 2 ^ (last - q).toNat < 9007199254740992 := (Nat.div_lt_iff_lt_mul hP).2 u1
    omega
  have u4 : 4503599627370496 ≤ t ∨ K = 0 := by
    rcases u2 with e | e
    · exact .inr e
    · left
      have := (Nat.le_div_iff_mul_le hP).2 e
      omega
  have hs : X * 2 ^ (q + 1075).toNat * (2 ^ (last - q).toNat * Y) = 2 * (X * 2 ^ (q - last).toNat) * (2 ^ K * (2 ^ (-(q + 1075)).toNat * Y)) := by
    have hpow : 2 ^ (q + 1075).toNat * 2 ^ (last - q).toNat = 2 * (2 ^ (q - last).toNat * 2 ^ K * 2 ^ (-(q + 1075)).toNat) := by
      rw [← Nat.pow_add, ← Nat.pow_add, ← Nat.pow_add, Nat.mul_comm 2, ← Nat.pow_succ]
      congr 1
      omega
    generalize 2 ^ (q + 1075).toNat = A at *
    generalize 2 ^ (last - q).toNat = B at *
    generalize 2 ^ (q - last).toNat = C at *
    generalize 2 ^ K = E at *
    generalize 2 ^ (-(q + 1075)).toNat = F at *
    have : X * A * (B * Y) = X * Y * (A * B) := by grind
    rw [this, hpow]
    grind
  have hD : 0 < 2 ^ (-(q + 1075)).toNat * Y := Nat.mul_pos (Nat.two_pow_pos _) hY
  have hpos := hN.pos hb hD
  generalize X * 2 ^ (q + 1075).toNat = N at *
  generalize 2 ^ (-(q + 1075)).toNat * Y = D at *
  -- what is rounded, by X
  have key : 2 * t * 2 ^ (last - q).toNat * Y ≤ 2 * (X * 2 ^ (q - last).toNat) + 2 ^ (last - q).toNat * Y ∧ 2 * (X * 2 ^ (q - last).toNat) ≤ 2 * t * 2 ^ (last - q).toNat * Y + 2 ^ (last - q).toNat * Y ∧
      (2 * t * 2 ^ (last - q).toNat * Y = 2 * (X * 2 ^ (q - last).toNat) + 2 ^ (last - q).toNat * Y → t % 2 = 0) ∧ (2 * (X * 2 ^ (q - last).toNat) = 2 * t * 2 ^ (last - q).toNat * Y + 2 ^ (last - q).toNat * Y → t % 2 = 0) ∧
      (K = 0 ∨ 4503599627370496 * 2 ^ (last - q).toNat * Y ≤ X * 2 ^ (q - last).toNat) := by
    rcases hst with e | ⟨m1, m2, m3, m4, m5⟩
    · have hx : X * 2 ^ (q - last).toNat = M * 2 ^ (q - last).toNat * Y := by rw [e, Nat.mul_right_comm]
      rw [hx]
      generalize M * 2 ^ (q - last).toNat = n at *
      generalize 2 ^ (last - q).toNat = P at *
      have q1 := Nat.mul_le_mul_right Y b1
      have q2 := Nat.mul_le_mul_right Y b2
      rw [Nat.add_mul] at q1 q2
      have r1 : 2 * (n * Y) = 2 * n * Y := (Nat.mul_assoc ..).symm
      refine ⟨by omega, by omega, fun h => b3 ?_, fun h => b4 ?_, ?_⟩
      · rw [r1, ← Nat.add_mul] at h
        exact Nat.eq_of_mul_eq_mul_right hY h
      · rw [r1, ← Nat.add_mul] at h
        exact Nat.eq_of_mul_eq_mul_right hY h
      · rcases u2 with e | e
        · exact .inl e
        · exact .inr (Nat.mul_le_mul_right Y e)
    · have hlast : last = q + (M.log2 : Int) - 52 := by omega
      have hlog : 54 ≤ M.log2 := (Nat.le_log2 h0).2 (by rw [show (2 : Nat) ^ 54 = 18014398509481984 by decide]; exact m1)
      have z1 : (q - last).toNat = 0 := by omega
      have zz : M * 2 ^ (q - last).toNat = M := by rw [z1, Nat.pow_zero, Nat.mul_one]
      have zx : X * 2 ^ (q - last).toNat = X := by rw [z1, Nat.pow_zero, Nat.mul_one]
      rw [zz] at b1 b2 u2
      rw [zx]
      obtain ⟨p, hp⟩ : ∃ p, 2 ^ (last - q).toNat = 4 * p := ⟨2 ^ ((last - q).toNat - 2), by rw [show (4 : Nat) = 2 ^ 2 by decide, ← Nat.pow_add]; congr 1; omega⟩
      rw [hp] at b1 b2 u2
      rw [hp]
      obtain ⟨m, hm⟩ : ∃ m, M = 2 * m + 1 := ⟨M / 2, by omega⟩
      have f2 : 2 * t * (4 * p) = 8 * (t * p) := by rw [Nat.mul_mul_mul_comm]
      rw [f2] at b1 b2
      rw [f2]
      have g3 : 8 * (t * p) ≤ 4 * m + 4 * p := by omega
      have g4 : 4 * m + 4 ≤ 8 * (t * p) + 4 * p := by omega
      have y1 : 2 * (m * Y) < X := by
        rw [hm, Nat.add_sub_cancel, Nat.mul_assoc] at m3; exact m3
      have y2 : X < 2 * (m * Y) + 2 * Y := by
        rw [hm, Nat.add_assoc, Nat.add_mul, Nat.mul_assoc] at m4; exact m4
      have k1 := Nat.mul_le_mul_right Y g3
      have k2 := Nat.mul_le_mul_right Y g4
      rw [Nat.add_mul, Nat.mul_assoc 4 m] at k1
      rw [Nat.add_mul, Nat.add_mul, Nat.mul_assoc 4 m] at k2
      refine ⟨by omega, by omega, fun h => ?_, fun h => ?_, ?_⟩
      · omega
      · omega
      · rcases u2 with e | e
        · exact .inl e
        · right
          have h8 : 4503599627370496 * (4 * p) ≤ 2 * m := by omega
          have h9 := Nat.mul_le_mul_right Y h8
          rw [Nat.mul_assoc 2] at h9
          omega
  obtain ⟨k1, k2, k3, k4, k5⟩ := key
  have ht1 : 1 ≤ t := by
    rcases Nat.eq_zero_or_pos t with e | e
    · exfalso
      have hk : K = 0 := by omega
      have k2' : 2 * (X * 2 ^ (q - last).toNat) ≤ 2 ^ (last - q).toNat * Y := by
        rw [e] at k2; simpa using k2
      rw [hk, Nat.pow_zero, Nat.one_mul] at hs
      have h8 := Nat.mul_le_mul_right D k2'
      rw [← hs, Nat.mul_comm N] at h8
      have := Nat.le_of_mul_le_mul_left h8 (Nat.mul_pos hP hY)
      omega
    · exact e
  have hnear := near_core hY hD ht1 u3 u4 k1 k2 k3 k4 (fun _ hk => by rcases k5 with e | e; omega; exact e) hs
  have := hnear.uniq hD hN
  rw [this]
  exact Nat.min_eq_left (by omega)
end Go.Proofs.YthjfdhkahmlolaaGreatDoor.Usc

/- What the laid table float64pow10 gives: all 23 powers. -/
namespace Go.Proofs.YthjfdhkahmlolaaGreatDoor
open Go.RowKit
set_option maxRecDepth 100000
def P10 : List Nat := [4607182418800017408, 4621819117588971520, 4636737291354636288, 4652007308841189376, 4666723172467343360, 4681608360884174848, 4696837146684686336, 4711630319722168320, 4726483295884279808, 4741671816366391296, 4756540486875873280, 4771362005757984768, 4786511204640096256, 4801453603149578240, 4816244402031689728, 4831355200913801216, 4846369599423283200, 4861130398305394688, 4876203697187506176, 4891288408196988160, 4906019910204099648, 4921056587992461136, 4936209963552724370]
theorem P10_len : P10.length = 23 := rfl
def p10 (k : Nat) : Nat := (P10[k]?).getD 0
theorem laid_p10 : (Rows.laid_internal_strconv_float64pow10 : DataW Unit) = .slice (P10.map fun n => .lit (.float .f64 n)) [] := rfl
theorem powall_of {W : World} {l : List (String × DataW Unit)} {ps : List MemPlace} (h : DataW.LaidVars Tryz.prog W l ps) (hm : ("internal/strconv.float64pow10", Rows.laid_internal_strconv_float64pow10) ∈ l) :
    ∃ (b o : Nat), W.cell? ⟨12, 0, none⟩ = some (.slice (some ⟨b, o, none⟩) 23 23) ∧ ∀ k, k < 23 → W.cell? ⟨b, o + k, none⟩ = some (.float .f64 (p10 k)) := by
  obtain ⟨g, t, cs, fuel, p, hg, ht, hv, hd⟩ := laid_at h _ _ hm
  obtain rfl := Option.some.inj (gl12.symm.trans hg)
  obtain rfl := Option.some.inj (t12.symm.trans ht)
  have c25 : Tryz.prog.cellsOf 25 = 1 := by kernel_rfl
  have v0 := World.var?_cell hg hv 0
  rcases DataW.trod_slice Tryz.underlying191 hd with ⟨_, hx⟩ | ⟨a, len, cap, elems, rest, m, rfl, hc, hx, _, hlc, _, hlen, hel, hsp, _⟩
  · simp [Rows.laid_internal_strconv_float64pow10] at hx
  · have hl : len = 23 := by
      have := congrArg Prod.fst hx
      simp only [Rows.laid_internal_strconv_float64pow10, DataW.slice.injEq] at this
      have h2 := congrArg List.length this.1
      simp only [List.length_map] at h2
      rw [← hlen, ← h2]; rfl
    have hr : rest = [] := by
      have := congrArg Prod.fst hx
      simp only [Rows.laid_internal_strconv_float64pow10, DataW.slice.injEq] at this
      simpa using this.2.symm
    have hcap : cap = 23 := by
      have := (hsp rfl).1
      rw [hr] at this
      simp at this
      omega
    subst hl hcap
    have one : ∀ (x : Addr) (v : Value), W.cells? 0 x 1 = some [v] → W.cell? x = some v := fun x v hx => by
      have e0 : x.add 0 = x := by unfold Addr.add; simp
      unfold World.cells? at hx
      rw [if_pos (Nat.zero_le _)] at hx
      simp only [List.range_succ, List.range_zero, List.nil_append, List.mapM_cons, List.mapM_nil, e0] at hx
      cases hu : W.cell? x with
      | none => rw [hu] at hx; cases hx
      | some u => rw [hu] at hx; injection hx with hx; injection hx with hx; rw [hx]
    have hcell : ∀ k, k < 23 → W.cell? (a.add k) = some (.float .f64 (p10 k)) := fun k hk => by
      have e1 := hel k hk
      have hx1 : (elems.map (·.1))[k]? = some (DataW.lit (.float .f64 (p10 k))) := by
        have := congrArg Prod.fst hx
        simp only [DataW.slice.injEq, laid_p10] at this
        rw [← this.1, List.getElem?_map]
        have hp : P10[k]? = some (p10 k) := by
          unfold p10
          rw [List.getElem?_eq_getElem (by rw [P10_len]; exact hk)]; rfl
        rw [hp]; rfl
      rw [c25, Nat.mul_one] at e1
      simp only [List.getElem?_map, Option.map_eq_some_iff] at hx1
      obtain ⟨y, hy, hy1⟩ := hx1
      rw [hy, Option.bind_eq_some_iff] at e1
      obtain ⟨vs, hcells, htr⟩ := e1
      obtain ⟨n, rfl, hyy⟩ := trod_flt Tryz.underlying25 htr
      have hn : n = p10 k := by rw [hyy] at hy1; simpa using hy1
      subst hn
      exact one _ _ hcells
    have hs' : a.spot = none := by
      have z0 := hel 0 (by decide)
      rw [c25, List.getElem?_eq_getElem (by omega), Option.bind_eq_some_iff] at z0
      obtain ⟨us, hu, hv⟩ := z0
      obtain ⟨n, rfl, _⟩ := trod_flt Tryz.underlying25 hv
      have := one _ _ hu
      exact spot_none (x := a) (by have e0 : a.add (0 * 1) = a := by { unfold Addr.add; simp }; rw [e0] at this; exact this)
    obtain ⟨b, o, s⟩ := a
    simp only at hs'
    subst hs'
    refine ⟨b, o, ?_, ?_⟩
    · obtain ⟨l1⟩ := cs
      simp only at hc
      subst hc
      simpa using v0
    · intro k hk
      have h := hcell k hk
      have ha : (⟨b, o, none⟩ : Addr).add k = ⟨b, o + k, none⟩ := by unfold Addr.add; split <;> simp_all
      rw [ha] at h; exact h
end Go.Proofs.YthjfdhkahmlolaaGreatDoor
