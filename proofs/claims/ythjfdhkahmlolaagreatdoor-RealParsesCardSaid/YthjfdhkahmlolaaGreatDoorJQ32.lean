/- The reference's decimal as a function of the text's bytes; what it makes of a printed text. Plain. -/
import Derived.Test.YthjfdhkahmlolaaGreatDoorJQ31
import Derived.Test.YthjfdhkahmlolaaGreatDoorJQ18
namespace Go.Proofs.YthjfdhkahmlolaaGreatDoor
open Usc
/-- where decimal stands -/
structure Dst where
  c : Nat
  s : Int
  p : Int
  d : Nat
  i : Nat
/-- a nought behind eighteen digits -/
def zrl (c b : Nat) : Prop := b = 48 ∧ 100000000000000000 ≤ c
instance (c b : Nat) : Decidable (zrl c b) := by unfold zrl; infer_instance
def dcs (st : Dst) (b : Nat) : Option Dst :=
  if b = 46 ∧ st.p < 0 then some ⟨st.c, st.s, (st.i : Int), st.d, st.i + 1⟩
  else if b < 48 ∨ 57 < b then none
  else if 999999999999999999 < (if zrl st.c b then st.c else decStep st.c b) then none
  else some ⟨if zrl st.c b then st.c else decStep st.c b, (if zrl st.c b then st.s + 1 else st.s) - (if 0 ≤ st.p then 1 else 0), st.p, st.d + 1, st.i + 1⟩
def dc1 : List Nat → Dst → Option (Dst × List Nat)
  | [], st => some (st, [])
  | b :: r, st => if b = 101 then some (st, b :: r) else match dcs st b with
    | none => none
    | some st' => dc1 r st'
def dc2 : List Nat → Nat → Option Nat
  | [], e => some e
  | b :: r, e => if b < 48 ∨ 57 < b then none else dc2 r (decStep e b)
/-- the exponent, behind its e -/
def dcE (r : List Nat) : Option Int :=
  if r.head? = some 45 then (if r.tail = [] ∨ 3 < r.tail.length then none else (dc2 r.tail 0).map fun e => -(e : Int))
  else if r = [] ∨ 3 < r.length then none else (dc2 r 0).map fun e => (e : Int)
def dcO (o : Option (Dst × List Nat)) : Option (Nat × Int) :=
  match o with
  | none => none
  | some (st, rest) => if st.d = 0 ∨ st.c = 0 then none else match rest with
    | [] => some (st.c, st.s)
    | _ :: r => (dcE r).map fun e => (st.c, st.s + e)
def st0 : Dst := ⟨0, 0, -1, 0, 0⟩
def decF (u : List Nat) : Option (Nat × Int) := dcO (dc1 u st0)
theorem dcs_dot {st : Dst} (h : st.p < 0) : dcs st 46 = some ⟨st.c, st.s, (st.i : Int), st.d, st.i + 1⟩ := by unfold dcs; rw [if_pos ⟨rfl, h⟩]
theorem dcs_bad {st : Dst} {b : Nat} (h : b < 48 ∨ 57 < b) (h2 : b ≠ 46 ∨ 0 ≤ st.p) : dcs st b = none := by
  unfold dcs
  rw [if_neg (by omega), if_pos h]
theorem dcs_zero {st : Dst} (h : 100000000000000000 ≤ st.c) (hc : st.c ≤ 999999999999999999) : dcs st 48 = some ⟨st.c, st.s + 1 - (if 0 ≤ st.p then 1 else 0), st.p, st.d + 1, st.i + 1⟩ := by
  unfold dcs
  have hz : zrl st.c 48 := ⟨rfl, h⟩
  rw [if_neg (by omega), if_neg (by omega), if_pos hz, if_pos hz, if_neg (by omega)]
theorem dcs_put {st : Dst} {b : Nat} (h : 48 ≤ b ∧ b ≤ 57) (hz : ¬ zrl st.c b) (hc : decStep st.c b ≤ 999999999999999999) : dcs st b = some ⟨decStep st.c b, st.s - (if 0 ≤ st.p then 1 else 0), st.p, st.d + 1, st.i + 1⟩ := by
  unfold dcs
  rw [if_neg (by omega), if_neg (by omega), if_neg hz, if_neg hz, if_neg (by omega)]
theorem dcs_big {st : Dst} {b : Nat} (h : 48 ≤ b ∧ b ≤ 57) (hz : ¬ zrl st.c b) (hc : 999999999999999999 < decStep st.c b) : dcs st b = none := by
  unfold dcs
  rw [if_neg (by omega), if_neg (by omega), if_neg hz, if_pos (by omega)]
theorem dc1_e (st : Dst) (r : List Nat) : dc1 (101 :: r) st = some (st, 101 :: r) := by rw [dc1, if_pos rfl]
theorem dc1_some {st st' : Dst} {b : Nat} {r : List Nat} (h : b ≠ 101) (e : dcs st b = some st') : dc1 (b :: r) st = dc1 r st' := by rw [dc1, if_neg h, e]
theorem dc1_none {st : Dst} {b : Nat} {r : List Nat} (h : b ≠ 101) (e : dcs st b = none) : dc1 (b :: r) st = none := by rw [dc1, if_neg h, e]
/-- digits with no more than eighteen in all -/
theorem dc1_digs : ∀ (ds r : List Nat) (st : Dst), (∀ d ∈ ds, 48 ≤ d ∧ d ≤ 57) → dv st.c ds < 1000000000000000000 →
    dc1 (ds ++ r) st = dc1 r ⟨dv st.c ds, st.s - (if 0 ≤ st.p then (ds.length : Int) else 0), st.p, st.d + ds.length, st.i + ds.length⟩
  | [], r, st, _, _ => by
    simp only [List.nil_append, dv_nil, List.length_nil]
    congr 1
    cases st; simp
  | d :: ds, r, st, ha, hb => by
    have hd := ha d (List.mem_cons_self ..)
    rw [dv_cons] at hb
    have h1 := dv_ge ds (st.c * 10 + (d - 48))
    have hz : ¬ zrl st.c d := by unfold zrl; omega
    have hs : decStep st.c d = st.c * 10 + (d - 48) := rfl
    rw [List.cons_append, dc1_some (by omega) (dcs_put hd hz (by omega)), dc1_digs ds r _ (fun x hx => ha x (List.mem_cons_of_mem _ hx)) (by rw [hs]; exact hb), dv_cons, hs]
    simp only [List.length_cons]
    congr 2
    · split <;> omega
    · omega
    · omega
/-- noughts behind, ahead of a point -/
theorem dc1_zeros : ∀ (k : Nat) (r : List Nat) (st : Dst), st.p < 0 → st.c ≤ 999999999999999999 →
    ∃ c z : Nat, c * 10 ^ z = st.c * 10 ^ k ∧ z ≤ k ∧ c ≤ 999999999999999999 ∧ dc1 (List.replicate k 48 ++ r) st = dc1 r ⟨c, st.s + z, st.p, st.d + k, st.i + k⟩
  | 0, r, st, _, hc => ⟨st.c, 0, rfl, Nat.le_refl _, hc, by simp⟩
  | k + 1, r, st, hp, hc => by
    rw [List.replicate_succ, List.cons_append]
    by_cases h : 100000000000000000 ≤ st.c
    · obtain ⟨c, z, e1, e2, e3, e4⟩ := dc1_zeros k r ⟨st.c, st.s + 1 - (if 0 ≤ st.p then 1 else 0), st.p, st.d + 1, st.i + 1⟩ hp hc
      refine ⟨c, z + 1, ?_, by omega, e3, ?_⟩
      · rw [Nat.pow_succ, ← Nat.mul_assoc, e1, Nat.pow_succ, ← Nat.mul_assoc]
      · rw [dc1_some (by omega) (dcs_zero h hc), e4]
        congr 2
        · rw [if_neg (show ¬ 0 ≤ st.p by omega)]; push_cast; omega
        · show st.d + 1 + k = st.d + (k + 1); omega
        · show st.i + 1 + k = st.i + (k + 1); omega
    · have hz : ¬ zrl st.c 48 := by unfold zrl; omega
      have hs : decStep st.c 48 = st.c * 10 := by unfold decStep; omega
      obtain ⟨c, z, e1, e2, e3, e4⟩ := dc1_zeros k r ⟨decStep st.c 48, st.s - (if 0 ≤ st.p then 1 else 0), st.p, st.d + 1, st.i + 1⟩ hp (by rw [hs]; show st.c * 10 ≤ 999999999999999999; omega)
      refine ⟨c, z, ?_, by omega, e3, ?_⟩
      · rw [e1, hs, Nat.pow_succ, Nat.mul_assoc, Nat.mul_comm 10]
      · rw [dc1_some (by omega) (dcs_put (by omega) hz (by rw [hs]; omega)), e4]
        congr 2
        · show st.s - (if 0 ≤ st.p then 1 else 0) + (z : Int) = st.s + z
          rw [if_neg (show ¬ 0 ≤ st.p by omega)]; omega
        · show st.d + 1 + k = st.d + (k + 1); omega
        · show st.i + 1 + k = st.i + (k + 1); omega
theorem dc2_digs : ∀ (ds : List Nat) (e : Nat), (∀ d ∈ ds, 48 ≤ d ∧ d ≤ 57) → dc2 ds e = some (dv e ds)
  | [], e, _ => rfl
  | d :: ds, e, ha => by
    have hd := ha d (List.mem_cons_self ..)
    rw [dc2, if_neg (by omega), dc2_digs ds _ (fun x hx => ha x (List.mem_cons_of_mem _ hx)), dv_cons]; rfl
theorem dcE_itoa {e : Int} (hx : -999 ≤ e ∧ e ≤ 999) : dcE (nl (Lib.itoa e)) = some e := by
  have h3 := itoa_len_fin ⟨e.natAbs, by omega⟩
  simp only at h3
  have hl := digs_len e.natAbs
  have hl0 := Lib.nDigits_pos e.natAbs
  rw [Lib.decDigits_length] at h3
  have hne : nl (Lib.decDigits e.natAbs) ≠ [] := by intro h; rw [h] at hl; simp at hl; omega
  have hd := dc2_digs (nl (Lib.decDigits e.natAbs)) 0 (digs_all _)
  rw [dv_digits] at hd
  unfold Lib.itoa
  by_cases h : e < 0
  · rw [if_pos h]
    have ec : nl (45 :: Lib.decDigits e.natAbs) = 45 :: nl (Lib.decDigits e.natAbs) := rfl
    rw [ec]
    unfold dcE
    rw [List.head?_cons, if_pos rfl, List.tail_cons, if_neg (by rintro (g | g); exact hne g; omega), hd]
    simp; omega
  · rw [if_neg h, show e.toNat = e.natAbs by omega]
    unfold dcE
    rw [if_neg, if_neg (by rintro (g | g); exact hne g; omega), hd]
    · simp; omega
    · intro g
      have hm : 45 ∈ nl (Lib.decDigits e.natAbs) := List.mem_of_head? g
      have := digs_all _ _ hm
      omega
/-- what decimal makes of a printed text is that decimal -/
def DcOk (c : Nat) (s : Int) (o : Option (Nat × Int)) : Prop := ∃ (c' : Nat) (s' : Int), o = some (c', s') ∧ ∀ b, Rd b c' s' ↔ Rd b c s
theorem dcO_end {st : Dst} (h1 : 1 ≤ st.d) (h2 : 1 ≤ st.c) : dcO (some (st, [])) = some (st.c, st.s) := by
  unfold dcO
  simp only
  rw [if_neg (by omega)]
theorem dcO_exp {st : Dst} {r : List Nat} {e : Int} (h1 : 1 ≤ st.d) (h2 : 1 ≤ st.c) (h : dcE r = some e) : dcO (some (st, 101 :: r)) = some (st.c, st.s + e) := by
  unfold dcO
  simp only
  rw [if_neg (by omega), h]; rfl
theorem dv_digits' {c : Nat} : dv 0 (nl (Lib.decDigits c)) = c := dv_digits c
theorem dv_split {c k : Nat} : dv (dv 0 ((nl (Lib.decDigits c)).take k)) ((nl (Lib.decDigits c)).drop k) = c := by
  rw [← dv_app, List.take_append_drop, dv_digits]
theorem dec_printed {c : Nat} {s : Int} (H : Shb c s) : DcOk c s (decF (nl (laidB c (exp10 c s)))) := by
  have c0 := H.c0; have c1 := H.c1; have n0 := H.n0; have n1 := H.n1; have s0 := H.s0; have s1 := H.s1
  have hl := digs_len c
  have ha := digs_all c
  have hx : exp10 c s = (Lib.nDigits c : Int) + s - 1 := rfl
  have hv := dv_digits c
  generalize exp10 c s = e at *
  unfold decF laidB
  by_cases h1 : 0 ≤ e ∧ e ≤ 20
  · rw [if_pos h1]
    by_cases h2 : (Lib.nDigits c : Int) ≤ e + 1
    · rw [if_pos h2, nl_app, nl_zeros]
      rw [dc1_digs _ _ st0 ha (by show dv 0 _ < _; rw [hv]; omega)]
      obtain ⟨c', z, e1, e2, e3, e4⟩ := dc1_zeros (e + 1 - Lib.nDigits c).toNat [] ⟨dv st0.c (nl (Lib.decDigits c)), st0.s - (if 0 ≤ st0.p then ((nl (Lib.decDigits c)).length : Int) else 0), st0.p, st0.d + (nl (Lib.decDigits c)).length, st0.i + (nl (Lib.decDigits c)).length⟩ (show (-1 : Int) < 0 by decide) (by show dv 0 _ ≤ _; rw [hv]; omega)
      rw [List.append_nil] at e4
      have e1' : c' * 10 ^ z = c * 10 ^ (e + 1 - Lib.nDigits c).toNat := by
        rw [e1]
        show dv 0 _ * _ = _
        rw [hv]
      have hc' : 1 ≤ c' := by
        rcases Nat.eq_zero_or_pos c' with q | q
        · exfalso
          rw [q, Nat.zero_mul] at e1'
          have := Nat.mul_pos c0 (show 0 < 10 ^ (e + 1 - Lib.nDigits c).toNat from Nat.pow_pos (by decide))
          omega
        · exact q
      rw [e4, dc1, dcO_end (by show 1 ≤ 0 + (nl (Lib.decDigits c)).length + _; omega) hc']
      refine ⟨_, _, rfl, fun b => ?_⟩
      have r1 := Rd.tens b z c' 0
      have r2 := Rd.tens b (e + 1 - Lib.nDigits c).toNat c 0
      rw [Nat.mul_comm] at r1 r2
      rw [e1', r2] at r1
      rw [show ((0 : Int) + ((e + 1 - (Lib.nDigits c : Int)).toNat : Int)) = s by omega] at r1
      rw [r1]
      show Rd b c' (st0.s - (if 0 ≤ st0.p then ((nl (Lib.decDigits c)).length : Int) else 0) + (z : Int)) ↔ _
      rw [if_neg (by decide), show st0.s - 0 + (z : Int) = 0 + (z : Int) from rfl]
    · rw [if_neg h2]
      have hk : (e + 1).toNat ≤ Lib.nDigits c := by omega
      have ec : nl ((Lib.decDigits c).take (e + 1).toNat ++ 46 :: (Lib.decDigits c).drop (e + 1).toNat) = (nl (Lib.decDigits c)).take (e + 1).toNat ++ 46 :: (nl (Lib.decDigits c)).drop (e + 1).toNat := by
        unfold nl; rw [List.map_append, List.map_cons, List.map_take, List.map_drop]; rfl
      rw [ec]
      have hsp := dv_split (c := c) (k := (e + 1).toNat)
      have g1 := dv_ge ((nl (Lib.decDigits c)).drop (e + 1).toNat) (dv 0 ((nl (Lib.decDigits c)).take (e + 1).toNat))
      rw [dc1_digs _ _ st0 (fun d hd => ha d (List.mem_of_mem_take hd)) (by show dv 0 _ < _; omega)]
      rw [dc1_some (by omega) (dcs_dot (show (-1 : Int) < 0 by decide))]
      have := dc1_digs ((nl (Lib.decDigits c)).drop (e + 1).toNat) [] ⟨dv st0.c ((nl (Lib.decDigits c)).take (e + 1).toNat), st0.s - (if 0 ≤ st0.p then (((nl (Lib.decDigits c)).take (e + 1).toNat).length : Int) else 0), ((st0.i + ((nl (Lib.decDigits c)).take (e + 1).toNat).length : Nat) : Int), st0.d + ((nl (Lib.decDigits c)).take (e + 1).toNat).length, st0.i + ((nl (Lib.decDigits c)).take (e + 1).toNat).length + 1⟩ (fun d hd => ha d (List.mem_of_mem_drop hd)) (by show dv (dv 0 _) _ < _; rw [hsp]; omega)
      rw [List.append_nil] at this
      rw [this, dc1, dcO_end (by show 1 ≤ 0 + _ + _; rw [List.length_take, List.length_drop]; omega) (by show 1 ≤ dv (dv 0 _) _; rw [hsp]; exact c0)]
      refine ⟨_, _, rfl, fun b => ?_⟩
      show Rd b (dv (dv 0 _) _) (0 - (if 0 ≤ (-1 : Int) then _ else 0) - (if (0 : Int) ≤ ((0 + ((nl (Lib.decDigits c)).take (e + 1).toNat).length : Nat) : Int) then (((nl (Lib.decDigits c)).drop (e + 1).toNat).length : Int) else 0)) ↔ _
      rw [hsp, if_neg (by decide), if_pos (by omega), List.length_drop, show (0 : Int) - 0 - (((nl (Lib.decDigits c)).length - (e + 1).toNat : Nat) : Int) = s by omega]
  · rw [if_neg h1]
    by_cases h2 : -6 ≤ e ∧ e < 0
    · rw [if_pos h2]
      have ec : nl ([48, 46] ++ List.replicate (-e - 1).toNat 48 ++ Lib.decDigits c) = [48] ++ 46 :: (List.replicate (-e - 1).toNat 48 ++ nl (Lib.decDigits c)) := by
        rw [nl_app, nl_app, nl_zeros]; rfl
      have hz : dv 0 (List.replicate (-e - 1).toNat 48 ++ nl (Lib.decDigits c)) = c := by rw [dv_app, dv_zeros, Nat.zero_mul, hv]
      rw [ec, dc1_digs _ _ st0 (by intro d hd; rw [List.mem_singleton.1 hd]; decide) (by decide)]
      rw [dc1_some (by omega) (dcs_dot (show (-1 : Int) < 0 by decide))]
      have := dc1_digs (List.replicate (-e - 1).toNat 48 ++ nl (Lib.decDigits c)) [] ⟨dv st0.c [48], st0.s - (if 0 ≤ st0.p then (([48] : List Nat).length : Int) else 0), ((st0.i + ([48] : List Nat).length : Nat) : Int), st0.d + ([48] : List Nat).length, st0.i + ([48] : List Nat).length + 1⟩ (fun d hd => by
        rcases List.mem_append.1 hd with q | q
        · rw [(List.mem_replicate.1 q).2]; decide
        · exact ha d q) (by show dv 0 _ < _; rw [hz]; omega)
      rw [List.append_nil] at this
      rw [this, dc1, dcO_end (by show 1 ≤ 0 + 1 + _; omega) (by show 1 ≤ dv 0 _; rw [hz]; exact c0)]
      refine ⟨_, _, rfl, fun b => ?_⟩
      show Rd b (dv 0 _) (0 - (if 0 ≤ (-1 : Int) then _ else 0) - (if (0 : Int) ≤ 1 then ((List.replicate (-e - 1).toNat 48 ++ nl (Lib.decDigits c)).length : Int) else 0)) ↔ _
      rw [hz, if_neg (by decide), if_pos (by decide), List.length_append, List.length_replicate, show (0 : Int) - 0 - (((-e - 1).toNat + (nl (Lib.decDigits c)).length : Nat) : Int) = s by omega]
    · rw [if_neg h2]
      have hE := dcE_itoa (e := e) (by omega)
      unfold pointB
      by_cases h3 : Lib.nDigits c = 1
      · rw [if_pos h3, List.append_nil]
        have ec : nl ((Lib.decDigits c).take 1 ++ 101 :: Lib.itoa e) = (nl (Lib.decDigits c)).take 1 ++ 101 :: nl (Lib.itoa e) := by
          unfold nl; rw [List.map_append, List.map_cons, List.map_take]; rfl
        have ht : (nl (Lib.decDigits c)).take 1 = nl (Lib.decDigits c) := List.take_of_length_le (by omega)
        rw [ec, ht, dc1_digs _ _ st0 ha (by show dv 0 _ < _; rw [hv]; omega), dc1_e, dcO_exp (by show 1 ≤ 0 + _; omega) (by show 1 ≤ dv 0 _; rw [hv]; exact c0) hE]
        refine ⟨_, _, rfl, fun b => ?_⟩
        show Rd b (dv 0 _) (0 - (if 0 ≤ (-1 : Int) then _ else 0) + e) ↔ _
        rw [hv, if_neg (by decide), show (0 : Int) - 0 + e = s by omega]
      · rw [if_neg h3]
        have ec : nl ((Lib.decDigits c).take 1 ++ 46 :: (Lib.decDigits c).drop 1 ++ 101 :: Lib.itoa e) = (nl (Lib.decDigits c)).take 1 ++ 46 :: ((nl (Lib.decDigits c)).drop 1 ++ 101 :: nl (Lib.itoa e)) := by
          unfold nl; simp [List.map_take]
        have hsp := dv_split (c := c) (k := 1)
        have g1 := dv_ge ((nl (Lib.decDigits c)).drop 1) (dv 0 ((nl (Lib.decDigits c)).take 1))
        rw [ec, dc1_digs _ _ st0 (fun d hd => ha d (List.mem_of_mem_take hd)) (by show dv 0 _ < _; omega)]
        rw [dc1_some (by omega) (dcs_dot (show (-1 : Int) < 0 by decide))]
        rw [dc1_digs _ _ _ (fun d hd => ha d (List.mem_of_mem_drop hd)) (by show dv (dv 0 _) _ < _; rw [hsp]; omega)]
        rw [dc1_e, dcO_exp (by show 1 ≤ 0 + _ + _; rw [List.length_take, List.length_drop]; omega) (by show 1 ≤ dv (dv 0 _) _; rw [hsp]; exact c0) hE]
        refine ⟨_, _, rfl, fun b => ?_⟩
        show Rd b (dv (dv 0 _) _) (0 - (if 0 ≤ (-1 : Int) then _ else 0) - (if (0 : Int) ≤ ((0 + ((nl (Lib.decDigits c)).take 1).length : Nat) : Int) then (((nl (Lib.decDigits c)).drop 1).length : Int) else 0) + e) ↔ _
        rw [hsp, if_neg (by decide), if_pos (by omega), List.length_drop, show (0 : Int) - 0 - (((nl (Lib.decDigits c)).length - 1 : Nat) : Int) + e = s by omega]
end Go.Proofs.YthjfdhkahmlolaaGreatDoor
