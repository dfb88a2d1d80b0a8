/- Unlike floats have unlike texts; how many digits count; how long a text is. Plain. -/
import Derived.Test.YthjfdhkahmlolaaGreatDoorJQ29
import Derived.Test.YthjfdhkahmlolaaGreatDoorJQ06
import Derived.Test.YthjfdhkahmlolaaGreatDoorJQ18
namespace Go.Proofs.YthjfdhkahmlolaaGreatDoor
open Go.RowKit Usc
theorem laid_head (c : Nat) (e : Int) : ∃ d l, laidB c e = d :: l ∧ isD d = true := by
  obtain ⟨x, l, hd⟩ := dec_cons c
  have hx : isD x = true := dec_isD c x (by rw [hd]; exact List.mem_cons_self)
  unfold laidB
  rw [hd]
  split
  · split
    · exact ⟨x, _, rfl, hx⟩
    · next he h =>
      have hn := Lib.nDigits_pos c
      obtain ⟨k, hk⟩ : ∃ k, (e + 1).toNat = k + 1 := ⟨(e + 1).toNat - 1, by omega⟩
      rw [hk]
      exact ⟨x, _, rfl, hx⟩
  · split
    · exact ⟨48, _, rfl, rfl⟩
    · unfold pointB
      rw [hd]
      exact ⟨x, _, rfl, hx⟩
/-- a sign, then a text that begins with a digit -/
theorem sign_inj {p q : Prop} [Decidable p] [Decidable q] {d d' : UInt8} {l l' : List UInt8} (hd : isD d = true) (hd' : isD d' = true)
    (h : (if p then [] else [(45 : UInt8)]) ++ d :: l = (if q then [] else [45]) ++ d' :: l') : (p ↔ q) ∧ d :: l = d' :: l' := by
  by_cases hp : p
  · by_cases hq : q
    · rw [if_pos hp, if_pos hq] at h; exact ⟨⟨fun _ => hq, fun _ => hp⟩, h⟩
    · rw [if_pos hp, if_neg hq] at h
      simp at h
      exact absurd h.1 (isD_not hd).2.2.1
  · by_cases hq : q
    · rw [if_neg hp, if_pos hq] at h
      simp at h
      exact absurd h.1.symm (isD_not hd').2.2.1
    · rw [if_neg hp, if_neg hq] at h
      exact ⟨⟨fun a => absurd a hp, fun a => absurd a hq⟩, by simpa using h⟩
/-- a finite float's text: a sign, then the digits or a nought -/
def Body (a : Nat) (u : List UInt8) : Prop := (a = 0 ∧ u = [48]) ∨ (1 ≤ a ∧ ∃ c s, Sh a c s ∧ u = laidB c (exp10 c s))
theorem pr_body {X : Nat} {t : List UInt8} (hf : X % 9223372036854775808 < 9218868437227405312) (h : Pr X t) :
    ∃ u, t = (if X < 9223372036854775808 then [] else [45]) ++ u ∧ Body (X % 9223372036854775808) u := by
  by_cases h0 : X % 9223372036854775808 = 0
  · have := (pr_zero h0 t).1 h
    exact ⟨[48], by rw [this]; split <;> rfl, .inl ⟨h0, rfl⟩⟩
  · obtain ⟨c, s, hS, ht⟩ := (pr_fin (by omega) hf t).1 h
    exact ⟨_, ht, .inr ⟨by omega, c, s, hS, rfl⟩⟩
theorem body_head {a : Nat} {u : List UInt8} (h : Body a u) : ∃ d l, u = d :: l ∧ isD d = true := by
  rcases h with ⟨_, rfl⟩ | ⟨_, c, s, _, rfl⟩
  · exact ⟨48, [], rfl, rfl⟩
  · exact laid_head _ _
theorem sh_last {b c : Nat} {s : Int} (h : Sh b c s) : c % 10 ≠ 0 := by
  obtain ⟨k, _, _, e⟩ := h
  exact e
theorem body_inj {a a' : Nat} {u : List UInt8} (ha : a < 9218868437227405312) (ha' : a' < 9218868437227405312) (h : Body a u) (h' : Body a' u) : a = a' := by
  have q : ∀ {c s}, Shb c s → -999 ≤ exp10 c s ∧ exp10 c s ≤ 999 := fun H => by
    have := H.n0; have := H.n1; have := H.s0; have := H.s1; unfold exp10; omega
  have nz : ∀ {b c s}, 1 ≤ b → b < 9218868437227405312 → Sh b c s → laidB c (exp10 c s) ≠ [48] := fun h0 h1 hS e => by
    have hb := hS.bounds (parts _ h0 h1)
    obtain ⟨j, j1, _⟩ := laid_val _ _ (q hb)
    rw [e] at j1
    have hv : valN [48] = 0 := by decide
    rw [hv] at j1
    have := Nat.mul_pos (Nat.pow_pos (n := j) (show 0 < 10 by decide)) hb.c0
    omega
  rcases h with ⟨e, hu⟩ | ⟨h1, c, s, hS, hu⟩
  · rcases h' with ⟨e', _⟩ | ⟨h1', c', s', hS', hu'⟩
    · omega
    · exact absurd (hu'.symm.trans hu) (nz h1' ha' hS')
  · rcases h' with ⟨e', hu'⟩ | ⟨h1', c', s', hS', hu'⟩
    · exact absurd (hu.symm.trans hu') (nz h1 ha hS)
    · have P := parts a h1 ha
      have P' := parts a' h1' ha'
      obtain ⟨rfl, rfl⟩ := laid_inj (hS.bounds P) (hS'.bounds P') (sh_last hS) (sh_last hS') (hu.symm.trans hu')
      exact (hS.rd P).uniq (hS'.rd P')
/-- a finite float's text is no other's -/
theorem pr_inj {X Y : Nat} {t : List UInt8} (hX : X < 18446744073709551616) (hY : Y < 18446744073709551616) (hf : X % 9223372036854775808 < 9218868437227405312) (h : Pr X t) (h' : Pr Y t) : X = Y := by
  obtain ⟨u, ht, hb⟩ := pr_body hf h
  obtain ⟨d, l, rfl, hd⟩ := body_head hb
  by_cases h1 : 9218868437227405312 < Y % 9223372036854775808
  · exfalso
    have := (pr_nan h1 t).1 h'
    rw [this] at ht
    split at ht
    · simp at ht; exact (isD_not hd).2.2.2.2.1 ht.1.symm
    · simp at ht
  by_cases h2 : Y % 9223372036854775808 = 9218868437227405312
  · exfalso
    have := (pr_inf h2 t).1 h'
    rw [this] at ht
    split at ht <;> split at ht
    · simp at ht; exact (isD_not hd).2.2.2.1 ht.1.symm
    · simp at ht
    · simp at ht; exact (isD_not hd).2.2.1 ht.1.symm
    · simp at ht; exact (isD_not hd).2.2.2.2.2 ht.1.symm
  obtain ⟨u', ht', hb'⟩ := pr_body (by omega) h'
  obtain ⟨d', l', rfl, hd'⟩ := body_head hb'
  obtain ⟨hs, hu⟩ := sign_inj hd hd' (ht.symm.trans ht')
  rw [← hu] at hb'
  have := body_inj hf (by omega) hb hb'
  omega
/-- the place of the first digit that is no nought, of the last one, how many digits -/
def dstep (st : Int × Int × Int) (b : UInt8) : Int × Int × Int :=
  if isD b then (if b = 48 then (st.1, st.2.1, st.2.2 + 1) else ((if st.1 < 0 then st.2.2 else st.1), st.2.2, st.2.2 + 1)) else st
def dfold (l : List UInt8) : Int × Int × Int := l.foldl dstep (-1, -1, 0)
def dres (st : Int × Int × Int) : Int := if st.1 < 0 then 0 else st.2.1 - st.1 + 1
theorem fold_filter (l : List UInt8) (st : Int × Int × Int) : l.foldl dstep st = (l.filter isD).foldl dstep st := by
  induction l generalizing st with
  | nil => rfl
  | cons b l ih =>
    rw [List.foldl_cons, ih]
    by_cases h : isD b = true
    · rw [List.filter_cons, if_pos h]; rfl
    · rw [List.filter_cons, if_neg h]
      congr 1
      unfold dstep; rw [if_neg h]
theorem fold_zeros (j : Nat) (f l n : Int) : (List.replicate j (48 : UInt8)).foldl dstep (f, l, n) = (f, l, n + j) := by
  induction j generalizing n with
  | zero => simp
  | succ j ih =>
    rw [List.replicate_succ, List.foldl_cons]
    have : dstep (f, l, n) 48 = (f, l, n + 1) := rfl
    rw [this, ih]
    congr 2; omega
theorem fold_inv (D : List UInt8) (n0 : Int) (_h0 : 0 ≤ n0) (hD : ∀ d ∈ D, isD d = true) : ∀ f l n : Int, (f < 0 ∨ n0 ≤ f) → l < n → n0 ≤ n →
    ∃ f' l', D.foldl dstep (f, l, n) = (f', l', n + D.length) ∧ (f' < 0 ∨ n0 ≤ f') ∧ l' < n + D.length := by
  induction D with
  | nil => intro f l n h1 h2 h3; exact ⟨f, l, by simp, h1, by simpa using h2⟩
  | cons b D ih =>
    intro f l n h1 h2 h3
    rw [List.foldl_cons]
    have hb : isD b = true := hD b List.mem_cons_self
    have hr : ∀ d ∈ D, isD d = true := fun d hd => hD d (List.mem_cons_of_mem _ hd)
    have e1 : ((b :: D).length : Int) = 1 + D.length := by simp; omega
    rw [e1]
    have hst : dstep (f, l, n) b = if b = 48 then (f, l, n + 1) else ((if f < 0 then n else f), n, n + 1) := by unfold dstep; rw [if_pos hb]
    rw [hst]
    split
    · obtain ⟨f', l', a, b', c⟩ := ih hr f l (n + 1) h1 (by omega) (by omega)
      exact ⟨f', l', by rw [a]; congr 2; omega, b', by omega⟩
    · obtain ⟨f', l', a, b', c⟩ := ih hr (if f < 0 then n else f) n (n + 1) (by split <;> omega) (by omega) (by omega)
      exact ⟨f', l', by rw [a]; congr 2; omega, b', by omega⟩
/-- noughts, digits, noughts: no more digits count than those in the middle -/
theorem dres_le {t D : List UInt8} {a b : Nat} (h : (headT t).filter isD = List.replicate a 48 ++ D ++ List.replicate b 48) (hD : ∀ d ∈ D, isD d = true) : dres (dfold (headT t)) ≤ D.length := by
  unfold dfold
  rw [fold_filter, h, List.foldl_append, List.foldl_append, fold_zeros a (-1) (-1) 0]
  obtain ⟨f', l', e, h1, h2⟩ := fold_inv D (0 + a) (by omega) hD (-1) (-1) (0 + a) (.inl (by decide)) (by omega) (by omega)
  rw [e, fold_zeros]
  unfold dres
  simp only
  split <;> omega
theorem laid_filter (c : Nat) (e : Int) : ∃ a b, (headT (laidB c e)).filter isD = List.replicate a 48 ++ Lib.decDigits c ++ List.replicate b 48 := by
  have hD := dec_isD c
  unfold laidB
  split
  · split
    · have hP : ∀ d ∈ Lib.decDigits c ++ List.replicate (e + 1 - (Lib.nDigits c : Int)).toNat 48, isD d = true := fun d hd => by
        rcases List.mem_append.1 hd with m | m
        · exact hD d m
        · exact zeros_isD _ d m
      have := cut101 (R := []) (no101 hP) (.inl rfl)
      rw [List.append_nil] at this
      rw [this.1, filt hP]
      exact ⟨0, _, rfl⟩
    · have hP : ∀ d ∈ (Lib.decDigits c).take (e + 1).toNat, isD d = true := fun d hd => hD d (List.mem_of_mem_take hd)
      have hq : ∀ d ∈ (Lib.decDigits c).drop (e + 1).toNat, isD d = true := fun d hd => hD d (List.mem_of_mem_drop hd)
      refine ⟨0, 0, ?_⟩
      have h1 : (101 : UInt8) ∉ (Lib.decDigits c).take (e + 1).toNat ++ 46 :: (Lib.decDigits c).drop (e + 1).toNat := by
        intro m
        rcases List.mem_append.1 m with m | m
        · exact no101 hP m
        · rcases List.mem_cons.1 m with m | m
          · exact absurd m (by decide)
          · exact no101 hq m
      have := cut101 (R := []) h1 (.inl rfl)
      rw [List.append_nil] at this
      rw [this.1, List.filter_append, filt46, filt hP, filt hq, List.take_append_drop]
      simp
  · split
    · have hq : ∀ d ∈ List.replicate (-e - 1).toNat 48 ++ Lib.decDigits c, isD d = true := fun d hd => by
        rcases List.mem_append.1 hd with m | m
        · exact zeros_isD _ d m
        · exact hD d m
      have h1 : (101 : UInt8) ∉ 48 :: 46 :: (List.replicate (-e - 1).toNat 48 ++ Lib.decDigits c) := by
        intro m
        rcases List.mem_cons.1 m with m | m
        · exact absurd m (by decide)
        · rcases List.mem_cons.1 m with m | m
          · exact absurd m (by decide)
          · exact no101 hq m
      have := cut101 (R := []) h1 (.inl rfl)
      rw [List.append_nil] at this
      have e1 : [48, 46] ++ List.replicate (-e - 1).toNat 48 ++ Lib.decDigits c = 48 :: 46 :: (List.replicate (-e - 1).toNat 48 ++ Lib.decDigits c) := by simp
      rw [e1, this.1]
      refine ⟨(-e - 1).toNat + 1, 0, ?_⟩
      rw [List.filter_cons, if_pos (by rfl), filt46, filt hq]
      simp [List.replicate_succ]
    · have := cut101 (A := pointB c) (R := 101 :: Lib.itoa e) (pointB_not c) (.inr ⟨_, rfl⟩)
      rw [this.1]
      refine ⟨0, 0, ?_⟩
      by_cases h1 : Lib.nDigits c = 1
      · rw [pointB_one h1, filt hD]; simp
      · obtain ⟨x, l, d1, d2, d3⟩ := pointB_many h1
        rw [d2]
        rw [d1] at hD ⊢
        have hx : isD x = true := hD x List.mem_cons_self
        have hq : ∀ d ∈ l, isD d = true := fun d hd => hD d (List.mem_cons_of_mem _ hd)
        rw [List.filter_cons, if_pos hx, filt46, filt hq]
        simp
theorem itoa_len4 : ∀ n : Fin 1000, (Lib.decDigits n.val).length ≤ 3 := by decide +kernel
theorem laid_len24 {c : Nat} {s : Int} (H : Shb c s) : (laidB c (exp10 c s)).length ≤ 24 := by
  have hl := Lib.decDigits_length c
  have hp := pointB_len c
  have n0 := H.n0; have n1 := H.n1; have s0 := H.s0; have s1 := H.s1
  have hi : (Lib.itoa (exp10 c s)).length ≤ 4 := by
    have h1 := itoa_len4 ⟨(exp10 c s).natAbs, by unfold exp10; omega⟩
    simp only at h1
    unfold Lib.itoa
    split
    · simp only [List.length_cons]; omega
    · rw [show (exp10 c s).toNat = (exp10 c s).natAbs by omega]; omega
  unfold laidB
  split
  · split
    · simp; omega
    · simp; omega
  · split
    · simp; omega
    · simp; omega
/-- of a finite float: at most 25 bytes, at most 17 digits that count -/
theorem pr_short {X : Nat} {t : List UInt8} (hf : X % 9223372036854775808 < 9218868437227405312) (h : Pr X t) : t.length ≤ 25 ∧ dres (dfold (headT t)) ≤ 17 := by
  obtain ⟨u, rfl, hb⟩ := pr_body hf h
  have hs : ∀ u : List UInt8, dfold (headT ((if X < 9223372036854775808 then [] else [45]) ++ u)) = dfold (headT u) := fun u => by
    split
    · rfl
    · unfold dfold
      rw [show headT ([45] ++ u) = 45 :: headT u from rfl, List.foldl_cons]
      rfl
  rw [hs]
  rcases hb with ⟨_, rfl⟩ | ⟨h1, c, s, hS, rfl⟩
  · exact ⟨by split <;> decide, by decide⟩
  · have H := hS.bounds (parts _ h1 hf)
    have hl := laid_len24 H
    obtain ⟨a, b, e⟩ := laid_filter c (exp10 c s)
    have hd := dres_le e (dec_isD c)
    have hn := H.n1
    have hn2 := Lib.decDigits_length c
    refine ⟨?_, by omega⟩
    rw [List.length_append]
    split <;> simp <;> omega
end Go.Proofs.YthjfdhkahmlolaaGreatDoor

/- The walk of digits. -/
namespace Go.Proofs.YthjfdhkahmlolaaGreatDoor
open Go.RowKit Usc
def DRel (L : List UInt8) (f l n i : Value) : Prop := ∃ (k : Nat) (st : Int × Int × Int), k ≤ L.length ∧ (101 : UInt8) ∉ L.take k ∧ dfold (L.take k) = st ∧ f = .int .i64 st.1 ∧ l = .int .i64 st.2.1 ∧ n = .int .i64 st.2.2 ∧ i = .int .i64 (k : Int)
theorem dfold_bounds (l : List UInt8) : -1 ≤ (dfold l).1 ∧ (dfold l).1 ≤ l.length ∧ -1 ≤ (dfold l).2.1 ∧ (dfold l).2.1 ≤ l.length ∧ 0 ≤ (dfold l).2.2 ∧ (dfold l).2.2 ≤ l.length := by
  unfold dfold
  have key : ∀ (l : List UInt8) (f a n : Int) (m : Nat), -1 ≤ f → f ≤ m → -1 ≤ a → a ≤ m → 0 ≤ n → n ≤ m →
      -1 ≤ (l.foldl dstep (f, a, n)).1 ∧ (l.foldl dstep (f, a, n)).1 ≤ (m + l.length : Nat) ∧ -1 ≤ (l.foldl dstep (f, a, n)).2.1 ∧ (l.foldl dstep (f, a, n)).2.1 ≤ (m + l.length : Nat) ∧ 0 ≤ (l.foldl dstep (f, a, n)).2.2 ∧ (l.foldl dstep (f, a, n)).2.2 ≤ (m + l.length : Nat) := by
    intro l
    induction l with
    | nil => intro f a n m; simp; omega
    | cons b l ih =>
      intro f a n m h1 h2 h3 h4 h5 h6
      rw [List.foldl_cons]
      obtain ⟨f', a', n', e, g1, g2, g3, g4, g5, g6⟩ : ∃ f' a' n', dstep (f, a, n) b = (f', a', n') ∧ -1 ≤ f' ∧ f' ≤ (m + 1 : Nat) ∧ -1 ≤ a' ∧ a' ≤ (m + 1 : Nat) ∧ 0 ≤ n' ∧ n' ≤ (m + 1 : Nat) := by
        unfold dstep
        split
        · split
          · exact ⟨f, a, n + 1, rfl, by omega, by omega, by omega, by omega, by omega, by omega⟩
          · exact ⟨if f < 0 then n else f, n, n + 1, rfl, by split <;> omega, by split <;> omega, by omega, by omega, by omega, by omega⟩
        · exact ⟨f, a, n, rfl, by omega, by omega, by omega, by omega, by omega, by omega⟩
      rw [e]
      have := ih f' a' n' (m + 1) g1 g2 g3 g4 g5 g6
      rw [show m + (b :: l).length = m + 1 + l.length by simp; omega]
      exact this
  have := key l (-1) (-1) 0 0 (by decide) (by decide) (by decide) (by decide) (by decide) (by decide)
  simpa using this
theorem drel_next {L : List UInt8} {k : Nat} {st : Int × Int × Int} {f l n : Int} {x : UInt8} (hx : L[k]? = some x) (h : (101 : UInt8) ∉ L.take k) (hst : dfold (L.take k) = st) (hne : x ≠ 101) (hd : dstep st x = (f, l, n)) :
    DRel L (.int .i64 f) (.int .i64 l) (.int .i64 n) (.int .i64 ((k : Int) + 1)) := by
  have hk : k < L.length := (List.getElem?_eq_some_iff.1 hx).1
  have ht : L.take (k + 1) = L.take k ++ [x] := by rw [List.take_add_one, hx]; rfl
  refine ⟨k + 1, (f, l, n), hk, ?_, ?_, rfl, rfl, rfl, by simp⟩
  · rw [ht]; intro m
    rcases List.mem_append.1 m with m | m
    · exact h m
    · exact hne (List.mem_singleton.1 m).symm
  · rw [ht]; unfold dfold; rw [List.foldl_append]
    show dstep (dfold (L.take k)) x = _
    rw [hst, hd]
theorem dstep_not {st : Int × Int × Int} {x : UInt8} (h : x.toNat < 48 ∨ 57 < x.toNat) : dstep st x = (st.1, st.2.1, st.2.2) := by
  unfold dstep isD
  rw [if_neg (by simp; omega)]
theorem dstep_zero {st : Int × Int × Int} {x : UInt8} (h : x = 48) : dstep st x = (st.1, st.2.1, st.2.2 + 1) := by
  subst h; rfl
theorem dstep_first {st : Int × Int × Int} {x : UInt8} (h : 48 ≤ x.toNat ∧ x.toNat ≤ 57) (h0 : x ≠ 48) (hf : st.1 < 0) : dstep st x = (st.2.2, st.2.2, st.2.2 + 1) := by
  unfold dstep isD
  rw [if_pos (by simp; omega), if_neg h0, if_pos hf]
theorem dstep_later {st : Int × Int × Int} {x : UInt8} (h : 48 ≤ x.toNat ∧ x.toNat ≤ 57) (h0 : x ≠ 48) (hf : ¬ st.1 < 0) : dstep st x = (st.1, st.2.2, st.2.2 + 1) := by
  unfold dstep isD
  rw [if_pos (by simp; omega), if_neg h0, if_neg hf]
theorem ne_of_bne {x : UInt8} {n : Nat} (h : (((x.toNat : Nat) : Int) != (n : Int)) = true) (y : UInt8) (hy : y.toNat = n) : x ≠ y := by
  rintro rfl
  rw [hy] at h
  simp at h
theorem eq_of_bne {x : UInt8} {n : Nat} (h : (((x.toNat : Nat) : Int) != (n : Int)) = false) (y : UInt8) (hy : y.toNat = n) : x = y := by
  apply UInt8.toNat_inj.mp
  rw [hy]
  have := bne_eq_false_iff_eq.1 h
  omega
theorem headT_all {L : List UInt8} (h : (101 : UInt8) ∉ L) : headT L = L := by
  have := (cut101 (R := []) h (.inl rfl)).1
  rwa [List.append_nil] at this
theorem headT_at {L : List UInt8} {k : Nat} (h : (101 : UInt8) ∉ L.take k) (hx : L[k]? = some 101) : headT L = L.take k := by
  have hk : k < L.length := (List.getElem?_eq_some_iff.1 hx).1
  have : L = L.take k ++ 101 :: L.drop (k + 1) := by
    have h1 : L.drop k = 101 :: L.drop (k + 1) := by
      rw [List.drop_eq_getElem_cons hk]
      congr 1
      exact (List.getElem?_eq_some_iff.1 hx).2
    rw [← h1, List.take_append_drop]
  have h2 := (cut101 (R := 101 :: L.drop (k + 1)) h (.inr ⟨_, rfl⟩)).1
  rw [← this] at h2
  exact h2
set_option maxRecDepth 100000
set_option maxHeartbeats 4000000 in
theorem digits20 (S : ByteArray) (w : World) (hS : S.size ≤ 1000) : Calls Tryz.prog 20 #[.string S] w fun e w' => e = .returned (.int .i64 (dres (dfold (headT S.data.toList)))) ∧ w' = w := by
  obtain ⟨L, hL⟩ : ∃ L, L = S.data.toList := ⟨_, rfl⟩
  have hz : S.size = L.length := by rw [hL, Array.length_toList]; rfl
  rw [← hL]
  have HL := Lib.hid hL
  clear hL
  go_enter Tryz.func20, Tryz.ntmps20
  go_wp2_with fail
  go_loop [3, 4, 5, 6] (fun f l n i => DRel L f l n i) (fun _ _ _ i => L.length - (intOf i).toNat)
  case atStart => exact ⟨0, (-1, -1, 0), Nat.zero_le _, by rw [List.take_zero]; exact List.not_mem_nil, rfl, rfl, rfl, rfl, rfl⟩
  case round =>
    obtain ⟨k, st, hk, h101, hst, rfl, rfl, rfl, rfl⟩ := hrel
    have hb := dfold_bounds (L.take k)
    rw [hst, List.length_take] at hb
    have hb1 : -1 ≤ st.1 ∧ st.1 ≤ 1000 := by omega
    have hb2 : -1 ≤ st.2.1 ∧ st.2.1 ≤ 1000 := by omega
    have hb3 : 0 ≤ st.2.2 ∧ st.2.2 ≤ 1000 := by omega
    have HST := Lib.hid hst; have H1 := Lib.hid h101
    clear hb hst h101
    have HX := Lib.hid (show ∀ h : k < S.size, L[k]? = some S[k] from fun h => by rw [HL.out]; exact List.getElem?_eq_some_iff.2 ⟨by rw [← HL.out, ← hz]; exact h, rfl⟩)
    go_wp2_with fail
    · exact ⟨drel_next (HX.out (by omega)) H1.out HST.out (ne_of_bne (n := 101) (by assumption) 101 rfl) (dstep_not (by omega)), by simp only [intOf]; omega⟩
    · exact ⟨drel_next (HX.out (by omega)) H1.out HST.out (ne_of_bne (n := 101) (by assumption) 101 rfl) (dstep_first (by omega) (ne_of_bne (n := 48) (by assumption) 48 rfl) (by assumption)), by simp only [intOf]; omega⟩
    · exact ⟨drel_next (HX.out (by omega)) H1.out HST.out (ne_of_bne (n := 101) (by assumption) 101 rfl) (dstep_later (by omega) (ne_of_bne (n := 48) (by assumption) 48 rfl) (by omega)), by simp only [intOf]; omega⟩
    · exact ⟨drel_next (HX.out (by omega)) H1.out HST.out (ne_of_bne (n := 101) (by assumption) 101 rfl) (dstep_zero (eq_of_bne (n := 48) (by assumption) 48 rfl)), by simp only [intOf]; omega⟩
    · exact ⟨drel_next (HX.out (by omega)) H1.out HST.out (ne_of_bne (n := 101) (by assumption) 101 rfl) (dstep_not (by omega)), by simp only [intOf]; omega⟩
    · go_ret
      exact ⟨ret_eq (congrArg (Value.int IntKind.i64) (by rw [headT_at H1.out ((HX.out (by omega)).trans (congrArg some (eq_of_bne (n := 101) (by assumption) 101 rfl))), HST.out]; unfold dres; rw [if_pos (by assumption)])), rfl⟩
    · go_ret
      exact ⟨ret_eq (congrArg (Value.int IntKind.i64) (by rw [headT_at H1.out ((HX.out (by omega)).trans (congrArg some (eq_of_bne (n := 101) (by assumption) 101 rfl))), HST.out]; unfold dres; rw [if_neg (by omega)])), rfl⟩
    · go_ret
      have hkl : k = L.length := by omega
      have h1 := H1.out; have h2 := HST.out
      rw [hkl, List.take_length] at h1 h2
      exact ⟨ret_eq (congrArg (Value.int IntKind.i64) (by rw [headT_all h1, h2]; unfold dres; rw [if_pos (by assumption)])), rfl⟩
    · go_ret
      have hkl : k = L.length := by omega
      have h1 := H1.out; have h2 := HST.out
      rw [hkl, List.take_length] at h1 h2
      exact ⟨ret_eq (congrArg (Value.int IntKind.i64) (by rw [headT_all h1, h2]; unfold dres; rw [if_neg (by omega)])), rfl⟩
end Go.Proofs.YthjfdhkahmlolaaGreatDoor

/- The law RealShort. -/
namespace Go.Proofs.YthjfdhkahmlolaaGreatDoor
open Go.RowKit Usc
theorem run_frb (x : Nat) (w : World) : Sem.run Tryz.prog (callFunc 10 #[.int .u64 (x : Nat)]) w = .ok (.value (.float .f64 x)) w := by kernel_rfl
theorem ba_ne {s t : List UInt8} (h : s ≠ t) : (⟨s.toArray⟩ : ByteArray) ≠ ⟨t.toArray⟩ := fun e => h (by
  have := congrArg (fun b : ByteArray => b.data.toList) e
  simpa using this)
theorem ba_list_ne {a b : ByteArray} (h : a ≠ b) : (a.toList == b.toList) = false := by
  rw [ByteArray.toList_eq, ByteArray.toList_eq, beq_eq_false_iff_ne]
  intro e
  exact h (by
    apply ByteArray.ext
    have := congrArg List.toArray e
    simpa using this)
set_option maxRecDepth 100000
set_option maxHeartbeats 4000000 in
theorem short_nan (a : Nat) (w : World) (hE : Env w) (hE2 : Env2 w) (h : 9218868437227405312 < a % 9223372036854775808) : Calls Tryz.prog 8 #[.int .u64 a] w fun en w' => en = .returned (.bool true) ∧ Only (fun _ => False) w w' := by
  have K := Lib.hid (awake_calls w hE hE2); clear hE hE2
  have k1 := run_frb a
  have k2 : (FloatKind.f64.format.order a a != some Ordering.eq) = true := by
    have := fnan_of a
    rw [decide_eq_true h] at this; exact this
  clear h
  go_enter Tryz.func8, Tryz.ntmps8
  go_wp2_with fail
  refine K.out.mono ?_
  rintro en w1 ⟨rfl, hO⟩
  have O1 := Lib.hid hO; clear hO K
  go_wp2_with fail
  go_ret
  exact ⟨rfl, O1.out⟩
set_option maxHeartbeats 4000000 in
theorem short_inf (a : Nat) (ha : a < 18446744073709551616) (w : World) (hE : Env w) (hE2 : Env2 w) (h : a % 9223372036854775808 = 9218868437227405312) : Calls Tryz.prog 8 #[.int .u64 a] w fun en w' => en = .returned (.bool true) ∧ Only (fun _ => False) w w' := by
  have K := Lib.hid (awake_calls w hE hE2); clear hE hE2
  have k1 := run_frb a
  have k2 : (FloatKind.f64.format.order a a != some Ordering.eq) = false := by
    have := fnan_of a
    rw [decide_eq_false (by omega)] at this; exact this
  have KI := Lib.hid (run_fsub_inf a ha h)
  clear h
  go_enter Tryz.func8, Tryz.ntmps8
  go_wp2_with fail
  refine K.out.mono ?_
  rintro en w1 ⟨rfl, hO⟩
  have O1 := Lib.hid hO; clear hO K
  obtain ⟨v, hv, k3⟩ := KI.out w1
  have k4 : (FloatKind.f64.format.order v 0 != some Ordering.eq) = true := by
    rw [show FloatKind.f64.format.order v 0 = none from Pq.Flt.order_nan v 0 (.inl hv)]; rfl
  have k5 : (FloatKind.f64.format.order v 0 == some Ordering.eq) = false := by
    rw [show FloatKind.f64.format.order v 0 = none from Pq.Flt.order_nan v 0 (.inl hv)]; rfl
  clear hv
  go_wp2_with fail
  go_ret
  exact ⟨rfl, O1.out.drew⟩
set_option maxHeartbeats 4000000 in
theorem short_fin (a : Nat) (ha : a < 18446744073709551616) (w : World) (hE : Env w) (hE2 : Env2 w) (h : a % 9223372036854775808 < 9218868437227405312) : Calls Tryz.prog 8 #[.int .u64 a] w fun en w' => en = .returned (.bool true) ∧ Only (fun _ => False) w w' := by
  have K := Lib.hid (awake_calls w hE hE2)
  have HE := Lib.hid hE
  clear hE hE2
  have k1 := run_frb
  have k2 : (FloatKind.f64.format.order a a != some Ordering.eq) = false := by
    have := fnan_of a
    rw [decide_eq_false (by omega)] at this; exact this
  have k3 := run_fsub_fin a ha h
  have k4 : (FloatKind.f64.format.order 0 0 != some Ordering.eq) = false := by decide +kernel
  obtain ⟨t, ht⟩ := pr_ex a
  obtain ⟨Y1, e1, y1, n1⟩ : ∃ Y : Nat, IntKind.u64.wrap ((a : Int) + 1) = (Y : Int) ∧ Y < 18446744073709551616 ∧ a ≠ Y := by
    by_cases hm : a = 18446744073709551615
    · exact ⟨0, by rw [hm]; decide, by decide, by omega⟩
    · exact ⟨a + 1, by rw [wrap_u64 (by omega) (by omega)]; rfl, by omega, by omega⟩
  obtain ⟨Y2, e2, y2, n2⟩ : ∃ Y : Nat, IntKind.u64.wrap ((a : Int) - 1) = (Y : Int) ∧ Y < 18446744073709551616 ∧ a ≠ Y := by
    by_cases hm : a = 0
    · exact ⟨18446744073709551615, by rw [hm]; decide, by decide, by omega⟩
    · exact ⟨a - 1, by rw [wrap_u64 (by omega) (by omega)]; omega, by omega, by omega⟩
  obtain ⟨t1, ht1⟩ := pr_ex Y1
  obtain ⟨t2, ht2⟩ := pr_ex Y2
  have d1 : t ≠ t1 := fun e => n1 (pr_inj ha y1 h ht (e ▸ ht1))
  have d2 : t ≠ t2 := fun e => n2 (pr_inj ha y2 h ht (e ▸ ht2))
  obtain ⟨l1, l2⟩ := pr_short h ht
  have P0 := Lib.hid (fun w hE => print_calls a t w ha ht hE)
  have P1 := Lib.hid (fun w hE => print_calls Y1 t1 w y1 ht1 hE)
  have P2 := Lib.hid (fun w hE => print_calls Y2 t2 w y2 ht2 hE)
  obtain ⟨S, hS⟩ : ∃ S : ByteArray, S = ⟨t.toArray⟩ := ⟨_, rfl⟩
  obtain ⟨U, hU⟩ : ∃ S : ByteArray, S = ⟨t1.toArray⟩ := ⟨_, rfl⟩
  obtain ⟨V, hV⟩ : ∃ S : ByteArray, S = ⟨t2.toArray⟩ := ⟨_, rfl⟩
  have c1 : (S.toList == U.toList) = false := ba_list_ne (by rw [hS, hU]; exact ba_ne d1)
  have c2 : (S.toList == V.toList) = false := ba_list_ne (by rw [hS, hV]; exact ba_ne d2)
  have hz : S.size ≤ 25 := by rw [hS, ba_size]; exact l1
  have hd : S.data.toList = t := by rw [hS]
  have DG := Lib.hid (fun w => digits20 S w (by omega))
  rw [hd] at DG
  rw [← hS] at P0; rw [← hU] at P1; rw [← hV] at P2
  generalize dres (dfold (headT t)) = q at *
  clear hS hU hV d1 d2 ht ht1 ht2 n1 n2 hd l1 h
  go_enter Tryz.func8, Tryz.ntmps8
  go_wp2_with fail
  refine K.out.mono ?_
  rintro en w1 ⟨rfl, hO⟩
  have O1 := Lib.hid hO; clear hO K
  go_wp2_with fail
  refine (P0.out w1 (HE.out.still O1.out (fun _ _ h => h))).mono ?_
  rintro en w2 ⟨rfl, hO⟩
  have O2 := Lib.hid (O1.out.trans hO); clear hO P0
  go_wp2_with fail
  refine (P1.out w2 (HE.out.still O2.out (fun _ _ h => h))).mono ?_
  rintro en w3 ⟨rfl, hO⟩
  have O3 := Lib.hid (O2.out.trans hO); clear hO P1
  go_wp2_with fail
  refine (P2.out w3 (HE.out.still O3.out (fun _ _ h => h))).mono ?_
  rintro en w4 ⟨rfl, hO⟩
  have O4 := Lib.hid (O3.out.trans hO); clear hO P2
  go_wp2_with fail
  refine (DG.out _).mono ?_
  rintro en w5 ⟨rfl, hw⟩; rw [hw]; clear hw w5 DG
  go_wp2_with fail
  go_ret
  exact ⟨ret_eq (congrArg Value.bool (decide_eq_true (by omega))), O4.out⟩
/-- the law -/
theorem rshort_calls (a : Nat) (w : World) (ha : a < 18446744073709551616) (hE : Env w) (hE2 : Env2 w) : Calls Tryz.prog 8 #[.int .u64 a] w fun en w' => en = .returned (.bool true) ∧ Only (fun _ => False) w w' := by
  by_cases h1 : 9218868437227405312 < a % 9223372036854775808
  · exact short_nan a w hE hE2 h1
  · by_cases h2 : a % 9223372036854775808 = 9218868437227405312
    · exact short_inf a ha w hE hE2 h2
    · exact short_fin a ha w hE hE2 (by omega)
end Go.Proofs.YthjfdhkahmlolaaGreatDoor

/- ParseFloat and Parse, at any text; the law RealOneForm. -/
namespace Go.Proofs.YthjfdhkahmlolaaGreatDoor
open Go.RowKit Usc
set_option maxRecDepth 100000
/-- the public package's two errors -/
structure Errs (w : World) : Prop where
  s : ∃ v, w.cell? ⟨1, 0, none⟩ = some v ∧ (v = .nilIface ∨ ∃ te pe, v = .iface te pe)
  r : ∃ v, w.cell? ⟨2, 0, none⟩ = some v ∧ (v = .nilIface ∨ ∃ te pe, v = .iface te pe)
theorem Errs.still {w w' : World} (h : Errs w) (O : Only (fun _ => False) w w') : Errs w' := by
  obtain ⟨⟨v, hv, h1⟩, ⟨u, hu, h2⟩⟩ := h
  exact ⟨⟨v, cell_only hv O id, h1⟩, ⟨u, cell_only hu O id, h2⟩⟩
def PfAny (w0 : World) (e : Ending) (w : World) : Prop := (∃ (f : Nat) (v : Value), f < 18446744073709551616 ∧ ErrT v ∧ e = .returned (.tuple #[.float .f64 f, v])) ∧ Only (fun _ => False) w0 w
set_option maxHeartbeats 1000000 in
theorem pp_any (s : ByteArray) (w : World) (hs : s.size ≤ 140737488355328) (hE : EnvZ w) : Calls Tryz.prog 60 #[.string s, .int .i64 64] w (AtAny w) := by
  have HC := Lib.hid (at_any s w hs hE)
  clear hE
  go_enter Tryz.func60, Tryz.ntmps60
  go_wp2_with fail
  refine HC.out.mono ?_
  rintro en w1 ⟨⟨f, n, v, hf, hv, rfl⟩, hO⟩
  have HF := Lib.hid hf; have HV := Lib.hid hv; have HO := Lib.hid hO; clear hf hv hO HC
  go_wp2_with fail
  go_ret3
  exact ⟨⟨f, n, v, HF.out, HV.out, rfl⟩, HO.out⟩
set_option maxHeartbeats 1000000 in
theorem pf42_any (s : ByteArray) (w : World) (hs : s.size ≤ 140737488355328) (hE : EnvZ w) : Calls Tryz.prog 42 #[.string s, .int .i64 64] w (PfAny w) := by
  have HC := Lib.hid (pp_any s w hs hE)
  clear hE
  go_enter Tryz.func42, Tryz.ntmps42
  go_wp2_with fail
  refine HC.out.mono ?_
  rintro en w1 ⟨⟨f, n, v, hf, hv, rfl⟩, hO⟩
  have HF := Lib.hid hf; have HV := Lib.hid hv; have HO := Lib.hid hO; clear hf hv hO HC
  by_cases hn : n = s.size
  · subst hn
    go_wp2_with fail
    go_ret2
    exact ⟨⟨f, v, HF.out, HV.out, rfl⟩, HO.out⟩
  · have t0 : ((n : Int) != (s.size : Int)) = true := by rw [bne_iff_ne]; omega
    go_wp2_with fail
    go_ret2
    exact ⟨⟨0, _, by decide, .inr (.inr rfl), rfl⟩, HO.out⟩
/-- a float, or an error -/
def PsAny (w0 : World) (e : Ending) (w : World) : Prop := (∃ (f : Nat) (v : Value), f < 18446744073709551616 ∧ (v = .nilIface ∨ ∃ a, v = .iface 84 a) ∧ e = .returned (.tuple #[.float .f64 f, v])) ∧ Only (fun _ => False) w0 w
set_option maxHeartbeats 1000000 in
theorem pf29_any (s : ByteArray) (w : World) (hs : s.size ≤ 140737488355328) (hE : EnvZ w) (hR : Errs w) : Calls Tryz.prog 29 #[.string s, .int .i64 64] w (PsAny w) := by
  have HC := Lib.hid (pf42_any s w hs hE)
  have HR := Lib.hid hR
  clear hE hR
  have n1 : ∀ w, Sem.run Tryz.prog (binOp .neq 49 (.iface 83 (.int .i64 1)) .nilIface) w = .ok (.bool true) w := fun w => by kernel_rfl
  have n2 : ∀ w, Sem.run Tryz.prog (binOp .neq 49 (.iface 83 (.int .i64 2)) .nilIface) w = .ok (.bool true) w := fun w => by kernel_rfl
  go_enter Tryz.func29, Tryz.ntmps29
  go_wp2_with fail
  refine HC.out.mono ?_
  rintro en w1 ⟨⟨f, v, hf, hv, rfl⟩, hO⟩
  have HF := Lib.hid hf; have HO := Lib.hid hO
  have hR1 := HR.out.still hO
  clear hf hO HC
  rcases hv with rfl | rfl | rfl
  · clear hR1
    go_wp2_with fail
    go_ret2
    exact ⟨⟨f, _, HF.out, .inl rfl, rfl⟩, HO.out⟩
  · obtain ⟨v, hv, h1⟩ := hR1.r
    have TE := Lib.hid (Tryz.strconv_toError_range ⟨#[80, 97, 114, 115, 101, 70, 108, 111, 97, 116]⟩ s 0 64 v w1 (by omega) hv h1)
    clear hv h1 hR1
    go_wp2_with fail
    refine TE.out.mono ?_
    rintro en w2 ⟨N, rfl, _, _, hB⟩
    have HB := Lib.hid (HO.out.trans (Only.ofB hB)); clear hB TE
    go_wp2_with fail
    go_ret2
    exact ⟨⟨f, _, HF.out, .inr ⟨_, rfl⟩, rfl⟩, HB.out⟩
  · obtain ⟨v, hv, h1⟩ := hR1.s
    have TE := Lib.hid (Tryz.strconv_toError_syntax ⟨#[80, 97, 114, 115, 101, 70, 108, 111, 97, 116]⟩ s 0 64 v w1 (by omega) hv h1)
    clear hv h1 hR1
    go_wp2_with fail
    refine TE.out.mono ?_
    rintro en w2 ⟨N, rfl, _, _, hB⟩
    have HB := Lib.hid (HO.out.trans (Only.ofB hB)); clear hB TE
    go_wp2_with fail
    go_ret2
    exact ⟨⟨f, _, HF.out, .inr ⟨_, rfl⟩, rfl⟩, HB.out⟩
/-- Parse: an error and nought, or the float whose text it is -/
def PaAny (s : ByteArray) (w0 : World) (e : Ending) (w : World) : Prop :=
  (e = .returned (.tuple #[.float .f64 0, .int .i64 5]) ∨ ∃ (f : Nat) (t : List UInt8), f < 18446744073709551616 ∧ Pr f t ∧ s = ⟨t.toArray⟩ ∧ e = .returned (.tuple #[.float .f64 f, .int .i64 0])) ∧ Only (fun _ => False) w0 w
set_option maxHeartbeats 1000000 in
theorem parse_any (s : ByteArray) (w : World) (hs : s.size ≤ 140737488355328) (hE : EnvZ w) (hR : Errs w) : Calls Tryz.prog 15 #[.string s] w (PaAny s w) := by
  have HC := Lib.hid (pf29_any s w hs hE hR)
  have HE := Lib.hid hE
  clear hE hR
  go_enter Tryz.func15, Tryz.ntmps15
  go_wp2_with fail
  refine HC.out.mono ?_
  rintro en w1 ⟨⟨f, v, hf, hv, rfl⟩, hO⟩
  obtain ⟨t, ht⟩ := pr_ex f
  have HP := Lib.hid (print_calls f t w1 hf ht (HE.out.still hO).e)
  have HF := Lib.hid hf; have HO := Lib.hid hO; have HT := Lib.hid ht
  clear hf hO HC ht
  rcases hv with rfl | ⟨a, rfl⟩
  · go_wp2_with fail
    refine HP.out.mono ?_
    rintro en w2 ⟨rfl, hO2⟩
    have HO2 := Lib.hid (HO.out.trans hO2); clear hO2 HP
    by_cases hst : t = s.data.toList
    · have hs2 : s = ⟨t.toArray⟩ := by rw [hst]
      have HS2 := Lib.hid hs2
      rw [← hs2]
      clear hs2 hst
      go_wp2_with fail
      go_ret2
      exact ⟨.inr ⟨f, t, HF.out, HT.out, HS2.out, rfl⟩, HO2.out⟩
    · have hne : (t == s.toList) = false := by
        rw [beq_eq_false_iff_ne, ByteArray.toList_eq]
        exact hst
      go_wp2_with fail
      go_ret2
      exact ⟨.inl rfl, HO2.out⟩
  · have n3 : ∀ w, Sem.run Tryz.prog (binOp .neq 49 (.iface 84 a) .nilIface) w = .ok (.bool true) w := fun w => by kernel_rfl
    clear HP
    go_wp2_with fail
    go_ret2
    exact ⟨.inl rfl, HO.out⟩
set_option maxHeartbeats 4000000 in
/-- the law RealOneForm -/
theorem one_calls (s : ByteArray) (w : World) (hs : s.size ≤ 140737488355328) (hE : EnvZ w) (hE2 : Env2 w) (hR : Errs w) : Calls Tryz.prog 7 #[.string s] w fun en w' => en = .returned (.bool true) ∧ Only (fun _ => False) w w' := by
  have K := Lib.hid (awake_calls w hE.e hE2)
  have HE := Lib.hid hE; have HR := Lib.hid hR
  clear hE hE2 hR
  have r0 := run_tobits 0
  go_enter Tryz.func7, Tryz.ntmps7
  go_wp2_with fail
  refine K.out.mono ?_
  rintro en w1 ⟨rfl, hO⟩
  have O1 := Lib.hid hO; clear hO K
  go_wp2_with fail
  refine (parse_any s w1 hs (HE.out.still O1.out) (HR.out.still O1.out)).mono ?_
  rintro en w2 ⟨h, hO⟩
  have O2 := Lib.hid (O1.out.trans hO); clear hO
  rcases h with rfl | ⟨f, t, hf, ht, rfl, rfl⟩
  · go_wp2_with fail
    go_ret
    exact ⟨rfl, O2.out⟩
  · have HP := Lib.hid (print_calls f t w2 hf ht (HE.out.still O2.out).e)
    clear hf ht
    go_wp2_with fail
    refine HP.out.mono ?_
    rintro en w3 ⟨rfl, hO⟩
    have O3 := Lib.hid (O2.out.trans hO); clear hO HP
    go_wp2_with fail
    go_ret
    exact ⟨rfl, O3.out⟩
end Go.Proofs.YthjfdhkahmlolaaGreatDoor
