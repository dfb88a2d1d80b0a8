/- Unlike floats have unlike texts; how many digits count; how long a text is. Plain. -/
import Derived.Test.YthjfdhkahmlolaaGreatDoorJP47
namespace Go.Proofs.YthjfdhkahmlolaaGreatDoor
open Go.RowKit Usc
theorem laid_head (c : Nat) (e : Int) : ∃ d l, laidB c e = d :: l ∧ isD d = true := by
  obtain ⟨x, l, hd⟩ := dec_cons c
  have hx : isD x = true := dec_isD c x (by rw [hd]; exact List.mem_cons_self)
  unfold laidB
  rw [hd]
  split
  · split
    · exact ⟨x, _, rfl, hx⟩
    · next he h =>
      have hn := Lib.nDigits_pos c
      obtain ⟨k, hk⟩ : ∃ k, (e + 1).toNat = k + 1 := ⟨(e + 1).toNat - 1, by omega⟩
      rw [hk]
      exact ⟨x, _, rfl, hx⟩
  · split
    · exact ⟨48, _, rfl, rfl⟩
    · unfold pointB
      rw [hd]
      exact ⟨x, _, rfl, hx⟩
/-- a sign, then a text that begins with a digit -/
theorem sign_inj {p q : Prop} [Decidable p] [Decidable q] {d d' : UInt8} {l l' : List UInt8} (hd : isD d = true) (hd' : isD d' = true)
    (h : (if p then [] else [(45 : UInt8)]) ++ d :: l = (if q then [] else [45]) ++ d' :: l') : (p ↔ q) ∧ d :: l = d' :: l' := by
  by_cases hp : p
  · by_cases hq : q
    · rw [if_pos hp, if_pos hq] at h; exact ⟨⟨fun _ => hq, fun _ => hp⟩, h⟩
    · rw [if_pos hp, if_neg hq] at h
      simp at h
      exact absurd h.1 (isD_not hd).2.2.1
  · by_cases hq : q
    · rw [if_neg hp, if_pos hq] at h
      simp at h
      exact absurd h.1.symm (isD_not hd').2.2.1
    · rw [if_neg hp, if_neg hq] at h
      exact ⟨⟨fun a => absurd a hp, fun a => absurd a hq⟩, by simpa using h⟩
/-- a finite float's text: a sign, then the digits or a nought -/
def Body (a : Nat) (u : List UInt8) : Prop := (a = 0 ∧ u = [48]) ∨ (1 ≤ a ∧ ∃ c s, Sh a c s ∧ u = laidB c (exp10 c s))
theorem pr_body {X : Nat} {t : List UInt8} (hf : X % 9223372036854775808 < 9218868437227405312) (h : Pr X t) :
    ∃ u, t = (if X < 9223372036854775808 then [] else [45]) ++ u ∧ Body (X % 9223372036854775808) u := by
  by_cases h0 : X % 9223372036854775808 = 0
  · have := (pr_zero h0 t).1 h
    exact ⟨[48], by rw [this]; split <;> rfl, .inl ⟨h0, rfl⟩⟩
  · obtain ⟨c, s, hS, ht⟩ := (pr_fin (by omega) hf t).1 h
    exact ⟨_, ht, .inr ⟨by omega, c, s, hS, rfl⟩⟩
theorem body_head {a : Nat} {u : List UInt8} (h : Body a u) : ∃ d l, u = d :: l ∧ isD d = true := by
  rcases h with ⟨_, rfl⟩ | ⟨_, c, s, _, rfl⟩
  · exact ⟨48, [], rfl, rfl⟩
  · exact laid_head _ _
theorem sh_last {b c : Nat} {s : Int} (h : Sh b c s) : c % 10 ≠ 0 := by
  obtain ⟨k, _, _, e⟩ := h
  exact e
theorem body_inj {a a' : Nat} {u : List UInt8} (ha : a < 9218868437227405312) (ha' : a' < 9218868437227405312) (h : Body a u) (h' : Body a' u) : a = a' := by
  have q : ∀ {c s}, Shb c s → -999 ≤ exp10 c s ∧ exp10 c s ≤ 999 := fun H => by
    have := H.n0; have := H.n1; have := H.s0; have := H.s1; unfold exp10; omega
  have nz : ∀ {b c s}, 1 ≤ b → b < 9218868437227405312 → Sh b c s → laidB c (exp10 c s) ≠ [48] := fun h0 h1 hS e => by
    have hb := hS.bounds (parts _ h0 h1)
    obtain ⟨j, j1, _⟩ := laid_val _ _ (q hb)
    rw [e] at j1
    have hv : valN [48] = 0 := by decide
    rw [hv] at j1
    have := Nat.mul_pos (Nat.pow_pos (n := j) (show 0 < 10 by decide)) hb.c0
    omega
  rcases h with ⟨e, hu⟩ | ⟨h1, c, s, hS, hu⟩
  · rcases h' with ⟨e', _⟩ | ⟨h1', c', s', hS', hu'⟩
    · omega
    · exact absurd (hu'.symm.trans hu) (nz h1' ha' hS')
  · rcases h' with ⟨e', hu'⟩ | ⟨h1', c', s', hS', hu'⟩
    · exact absurd (hu.symm.trans hu') (nz h1 ha hS)
    · have P := parts a h1 ha
      have P' := parts a' h1' ha'
      obtain ⟨rfl, rfl⟩ := laid_inj (hS.bounds P) (hS'.bounds P') (sh_last hS) (sh_last hS') (hu.symm.trans hu')
      exact (hS.rd P).uniq (hS'.rd P')
/-- a finite float's text is no other's -/
theorem pr_inj {X Y : Nat} {t : List UInt8} (hX : X < 18446744073709551616) (hY : Y < 18446744073709551616) (hf : X % 9223372036854775808 < 9218868437227405312) (h : Pr X t) (h' : Pr Y t) : X = Y := by
  obtain ⟨u, ht, hb⟩ := pr_body hf h
  obtain ⟨d, l, rfl, hd⟩ := body_head hb
  by_cases h1 : 9218868437227405312 < Y % 9223372036854775808
  · exfalso
    have := (pr_nan h1 t).1 h'
    rw [this] at ht
    split at ht
    · simp at ht; exact (isD_not hd).2.2.2.2.1 ht.1.symm
    · simp at ht
  by_cases h2 : Y % 9223372036854775808 = 9218868437227405312
  · exfalso
    have := (pr_inf h2 t).1 h'
    rw [this] at ht
    split at ht <;> split at ht
    · simp at ht; exact (isD_not hd).2.2.2.1 ht.1.symm
    · simp at ht
    · simp at ht; exact (isD_not hd).2.2.1 ht.1.symm
    · simp at ht; exact (isD_not hd).2.2.2.2.2 ht.1.symm
  obtain ⟨u', ht', hb'⟩ := pr_body (by omega) h'
  obtain ⟨d', l', rfl, hd'⟩ := body_head hb'
  obtain ⟨hs, hu⟩ := sign_inj hd hd' (ht.symm.trans ht')
  rw [← hu] at hb'
  have := body_inj hf (by omega) hb hb'
  omega
/-- the place of the first digit that is no nought, of the last one, how many digits -/
def dstep (st : Int × Int × Int) (b : UInt8) : Int × Int × Int :=
  if isD b then (if b = 48 then (st.1, st.2.1, st.2.2 + 1) else ((if st.1 < 0 then st.2.2 else st.1), st.2.2, st.2.2 + 1)) else st
def dfold (l : List UInt8) : Int × Int × Int := l.foldl dstep (-1, -1, 0)
def dres (st : Int × Int × Int) : Int := if st.1 < 0 then 0 else st.2.1 - st.1 + 1
theorem fold_filter (l : List UInt8) (st : Int × Int × Int) : l.foldl dstep st = (l.filter isD).foldl dstep st := by
  induction l generalizing st with
  | nil => rfl
  | cons b l ih =>
    rw [List.foldl_cons, ih]
    by_cases h : isD b = true
    · rw [List.filter_cons, if_pos h]; rfl
    · rw [List.filter_cons, if_neg h]
      congr 1
      unfold dstep; rw [if_neg h]
theorem fold_zeros (j : Nat) (f l n : Int) : (List.replicate j (48 : UInt8)).foldl dstep (f, l, n) = (f, l, n + j) := by
  induction j generalizing n with
  | zero => simp
  | succ j ih =>
    rw [List.replicate_succ, List.foldl_cons]
    have : dstep (f, l, n) 48 = (f, l, n + 1) := rfl
    rw [this, ih]
    congr 2; omega
theorem fold_inv (D : List UInt8) (n0 : Int) (_h0 : 0 ≤ n0) (hD : ∀ d ∈ D, isD d = true) : ∀ f l n : Int, (f < 0 ∨ n0 ≤ f) → l < n → n0 ≤ n →
    ∃ f' l', D.foldl dstep (f, l, n) = (f', l', n + D.length) ∧ (f' < 0 ∨ n0 ≤ f') ∧ l' < n + D.length := by
  induction D with
  | nil => intro f l n h1 h2 h3; exact ⟨f, l, by simp, h1, by simpa using h2⟩
  | cons b D ih =>
    intro f l n h1 h2 h3
    rw [List.foldl_cons]
    have hb : isD b = true := hD b List.mem_cons_self
    have hr : ∀ d ∈ D, isD d = true := fun d hd => hD d (List.mem_cons_of_mem _ hd)
    have e1 : ((b :: D).length : Int) = 1 + D.length := by simp; omega
    rw [e1]
    have hst : dstep (f, l, n) b = if b = 48 then (f, l, n + 1) else ((if f < 0 then n else f), n, n + 1) := by unfold dstep; rw [if_pos hb]
    rw [hst]
    split
    · obtain ⟨f', l', a, b', c⟩ := ih hr f l (n + 1) h1 (by omega) (by omega)
      exact ⟨f', l', by rw [a]; congr 2; omega, b', by omega⟩
    · obtain ⟨f', l', a, b', c⟩ := ih hr (if f < 0 then n else f) n (n + 1) (by split <;> omega) (by omega) (by omega)
      exact ⟨f', l', by rw [a]; congr 2; omega, b', by omega⟩
/-- noughts, digits, noughts: no more digits count than those in the middle -/
theorem dres_le {t D : List UInt8} {a b : Nat} (h : (headT t).filter isD = List.replicate a 48 ++ D ++ List.replicate b 48) (hD : ∀ d ∈ D, isD d = true) : dres (dfold (headT t)) ≤ D.length := by
  unfold dfold
  rw [fold_filter, h, List.foldl_append, List.foldl_append, fold_zeros a (-1) (-1) 0]
  obtain ⟨f', l', e, h1, h2⟩ := fold_inv D (0 + a) (by omega) hD (-1) (-1) (0 + a) (.inl (by decide)) (by omega) (by omega)
  rw [e, fold_zeros]
  unfold dres
  simp only
  split <;> omega
theorem laid_filter (c : Nat) (e : Int) : ∃ a b, (headT (laidB c e)).filter isD = List.replicate a 48 ++ Lib.decDigits c ++ List.replicate b 48 := by
  have hD := dec_isD c
  unfold laidB
  split
  · split
    · have hP : ∀ d ∈ Lib.decDigits c ++ List.replicate (e + 1 - (Lib.nDigits c : Int)).toNat 48, isD d = true := fun d hd => by
        rcases List.mem_append.1 hd with m | m
        · exact hD d m
        · exact zeros_isD _ d m
      have := cut101 (R := []) (no101 hP) (.inl rfl)
      rw [List.append_nil] at this
      rw [this.1, filt hP]
      exact ⟨0, _, rfl⟩
    · have hP : ∀ d ∈ (Lib.decDigits c).take (e + 1).toNat, isD d = true := fun d hd => hD d (List.mem_of_mem_take hd)
      have hq : ∀ d ∈ (Lib.decDigits c).drop (e + 1).toNat, isD d = true := fun d hd => hD d (List.mem_of_mem_drop hd)
      refine ⟨0, 0, ?_⟩
      have h1 : (101 : UInt8) ∉ (Lib.decDigits c).take (e + 1).toNat ++ 46 :: (Lib.decDigits c).drop (e + 1).toNat := by
        intro m
        rcases List.mem_append.1 m with m | m
        · exact no101 hP m
        · rcases List.mem_cons.1 m with m | m
          · exact absurd m (by decide)
          · exact no101 hq m
      have := cut101 (R := []) h1 (.inl rfl)
      rw [List.append_nil] at this
      rw [this.1, List.filter_append, filt46, filt hP, filt hq, List.take_append_drop]
      simp
  · split
    · have hq : ∀ d ∈ List.replicate (-e - 1).toNat 48 ++ Lib.decDigits c, isD d = true := fun d hd => by
        rcases List.mem_append.1 hd with m | m
        · exact zeros_isD _ d m
        · exact hD d m
      have h1 : (101 : UInt8) ∉ 48 :: 46 :: (List.replicate (-e - 1).toNat 48 ++ Lib.decDigits c) := by
        intro m
        rcases List.mem_cons.1 m with m | m
        · exact absurd m (by decide)
        · rcases List.mem_cons.1 m with m | m
          · exact absurd m (by decide)
          · exact no101 hq m
      have := cut101 (R := []) h1 (.inl rfl)
      rw [List.append_nil] at this
      have e1 : [48, 46] ++ List.replicate (-e - 1).toNat 48 ++ Lib.decDigits c = 48 :: 46 :: (List.replicate (-e - 1).toNat 48 ++ Lib.decDigits c) := by simp
      rw [e1, this.1]
      refine ⟨(-e - 1).toNat + 1, 0, ?_⟩
      rw [List.filter_cons, if_pos (by rfl), filt46, filt hq]
      simp [List.replicate_succ]
    · have := cut101 (A := pointB c) (R := 101 :: Lib.itoa e) (pointB_not c) (.inr ⟨_, rfl⟩)
      rw [this.1]
      refine ⟨0, 0, ?_⟩
      by_cases h1 : Lib.nDigits c = 1
      · rw [pointB_one h1, filt hD]; simp
      · obtain ⟨x, l, d1, d2, d3⟩ := pointB_many h1
        rw [d2]
        rw [d1] at hD ⊢
        have hx : isD x = true := hD x List.mem_cons_self
        have hq : ∀ d ∈ l, isD d = true := fun d hd => hD d (List.mem_cons_of_mem _ hd)
        rw [List.filter_cons, if_pos hx, filt46, filt hq]
        simp
theorem itoa_len4 : ∀ n : Fin 1000, (Lib.decDigits n.val).length ≤ 3 := by decide +kernel
theorem laid_len24 {c : Nat} {s : Int} (H : Shb c s) : (laidB c (exp10 c s)).length ≤ 24 := by
  have hl := Lib.decDigits_length c
  have hp := pointB_len c
  have n0 := H.n0; have n1 := H.n1; have s0 := H.s0; have s1 := H.s1
  have hi : (Lib.itoa (exp10 c s)).length ≤ 4 := by
    have h1 := itoa_len4 ⟨(exp10 c s).natAbs, by unfold exp10; omega⟩
    simp only at h1
    unfold Lib.itoa
    split
    · simp only [List.length_cons]; omega
    · rw [show (exp10 c s).toNat = (exp10 c s).natAbs by omega]; omega
  unfold laidB
  split
  · split
    · simp; omega
    · simp; omega
  · split
    · simp; omega
    · simp; omega
/-- of a finite float: at most 25 bytes, at most 17 digits that count -/
theorem pr_short {X : Nat} {t : List UInt8} (hf : X % 9223372036854775808 < 9218868437227405312) (h : Pr X t) : t.length ≤ 25 ∧ dres (dfold (headT t)) ≤ 17 := by
  obtain ⟨u, rfl, hb⟩ := pr_body hf h
  have hs : ∀ u : List UInt8, dfold (headT ((if X < 9223372036854775808 then [] else [45]) ++ u)) = dfold (headT u) := fun u => by
    split
    · rfl
    · unfold dfold
      rw [show headT ([45] ++ u) = 45 :: headT u from rfl, List.foldl_cons]
      rfl
  rw [hs]
  rcases hb with ⟨_, rfl⟩ | ⟨h1, c, s, hS, rfl⟩
  · exact ⟨by split <;> decide, by decide⟩
  · have H := hS.bounds (parts _ h1 hf)
    have hl := laid_len24 H
    obtain ⟨a, b, e⟩ := laid_filter c (exp10 c s)
    have hd := dres_le e (dec_isD c)
    have hn := H.n1
    have hn2 := Lib.decDigits_length c
    refine ⟨?_, by omega⟩
    rw [List.length_append]
    split <;> simp <;> omega
end Go.Proofs.YthjfdhkahmlolaaGreatDoor
