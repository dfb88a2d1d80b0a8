/- What readFloat makes of a printed text. Plain. -/
import Derived.Test.YthjfdhkahmlolaaGreatDoorJR11
import Derived.Test.YthjfdhkahmlolaaGreatDoorJR25
namespace Go.Proofs.YthjfdhkahmlolaaGreatDoor
set_option linter.unusedVariables false
def nl (l : List UInt8) : List Nat := l.map UInt8.toNat
theorem nl_app (a b : List UInt8) : nl (a ++ b) = nl a ++ nl b := List.map_append ..
theorem nl_len (a : List UInt8) : (nl a).length = a.length := List.length_map ..
theorem bl_of (l : List UInt8) : bl ⟨l.toArray⟩ = nl l := rfl
theorem dv_app (a b : List Nat) : ∀ e : Nat, dv e (a ++ b) = dv (dv e a) b := by
  induction a with
  | nil => intro e; rfl
  | cons x a ih => intro e; rw [List.cons_append, dv_cons, dv_cons, ih]
theorem dv_zeros (k : Nat) : ∀ e : Nat, dv e (List.replicate k 48) = e * 10 ^ k := by
  induction k with
  | zero => intro e; rw [Nat.pow_zero, Nat.mul_one]; rfl
  | succ k ih =>
    intro e
    rw [List.replicate_succ, dv_cons, ih, Nat.pow_succ, Nat.sub_self, Nat.add_zero, Nat.mul_assoc, Nat.mul_comm 10]
theorem ch_nat {n : Nat} (h : n < 10) : (UInt8.ofNat (48 + n)).toNat = 48 + n := by
  rw [UInt8.toNat_ofNat']; omega
theorem nl_one (x : UInt8) : nl [x] = [x.toNat] := rfl
theorem dv_one (e d : Nat) : dv e [d] = e * 10 + (d - 48) := by rw [dv_cons, dv_nil]
theorem dv_digits (c : Nat) : dv 0 (nl (Lib.decDigits c)) = c := by
  induction c using Nat.strongRecOn with
  | _ c ih =>
    rw [Lib.decDigits]
    split
    · rename_i h
      rw [nl_one, dv_one, ch_nat h]; omega
    · rename_i h
      rw [nl_app, dv_app, ih (c / 10) (by omega)]
      rw [nl_one, dv_one, ch_nat (Nat.mod_lt _ (by decide))]
      omega
theorem digs_head (c : Nat) (h0 : 1 ≤ c) : ∃ d l, nl (Lib.decDigits c) = d :: l ∧ 49 ≤ d ∧ d ≤ 57 := by
  induction c using Nat.strongRecOn with
  | _ c ih =>
    rw [Lib.decDigits]
    split
    · rename_i h
      exact ⟨48 + c, [], by rw [nl_one, ch_nat h], by omega, by omega⟩
    · rename_i h
      obtain ⟨d, l, e, h1, h2⟩ := ih (c / 10) (by omega) (by omega)
      exact ⟨d, l ++ nl [UInt8.ofNat (48 + c % 10)], by rw [nl_app, e]; rfl, h1, h2⟩
theorem digs_all (c : Nat) : ∀ d ∈ nl (Lib.decDigits c), 48 ≤ d ∧ d ≤ 57 := by
  intro d hd
  obtain ⟨x, hx, rfl⟩ := List.mem_map.1 hd
  exact dec_byte c x hx
theorem scan_more : ∀ (ds r : List Nat) (st : St), st.dig = true → 1 ≤ st.nd → st.nM = st.nd → st.nd + ds.length ≤ 19 → (∀ d ∈ ds, 48 ≤ d ∧ d ≤ 57) →
    scan st (ds ++ r) = scan { st with m := dv st.m ds, nd := st.nd + ds.length, nM := st.nd + ds.length } r
  | [], r, st, hd, h1, hM, hn, ha => by
    have : st = { st with m := dv st.m [], nd := st.nd + ([] : List Nat).length, nM := st.nd + ([] : List Nat).length } := by
      cases st; simp only [dv_nil, List.length_nil, Nat.add_zero] at *; simp only [hM]
    rw [← this]; rfl
  | x :: ds, r, st, hd, h1, hM, hn, ha => by
    have hx := ha x (by simp)
    simp only [List.length_cons] at hn
    have hp : st.put x = some { st with dig := true, nd := st.nd + 1, m := st.m * 10 + (x - 48), nM := st.nM + 1 } := by
      unfold St.put
      rw [if_neg (by omega), if_neg (by omega), if_pos hx, if_neg (by omega), if_pos (by omega)]
    have h9 : scan st (x :: ds ++ r) = scan { st with dig := true, nd := st.nd + 1, m := st.m * 10 + (x - 48), nM := st.nM + 1 } (ds ++ r) := by rw [List.cons_append, scan, hp]
    rw [h9, scan_more ds r _ rfl (by simp only; omega) (by simp only; omega) (by simp only; omega) (fun d h => ha d (by simp [h]))]
    simp only [dv_cons, List.length_cons, hd]
    congr 2 <;> omega
theorem scan_over : ∀ (k : Nat) (r : List Nat) (st : St), st.dig = true → 1 ≤ st.nd → 19 ≤ st.nM →
    scan st (List.replicate k 48 ++ r) = scan { st with nd := st.nd + k } r
  | 0, r, st, hd, h1, hM => by simp
  | k + 1, r, st, hd, h1, hM => by
    have hp : st.put 48 = some { st with dig := true, nd := st.nd + 1, tr := st.tr || 48 != 48 } := by
      unfold St.put
      rw [if_neg (by omega), if_neg (by omega), if_pos (by omega), if_neg (by omega), if_neg (by omega)]
    have h9 : scan st (List.replicate (k + 1) 48 ++ r) = scan { st with dig := true, nd := st.nd + 1, tr := st.tr || 48 != 48 } (List.replicate k 48 ++ r) := by rw [List.replicate_succ, List.cons_append, scan, hp]
    rw [h9, scan_over k r _ rfl (by simp only; omega) (by simp only; omega)]
    simp only [hd, bne_self_eq_false, Bool.or_false]
    congr 2; omega
theorem scan_lead : ∀ (k : Nat) (r : List Nat) (st : St), st.dig = true → st.nd = 0 →
    scan st (List.replicate k 48 ++ r) = scan { st with dp := st.dp - k } r
  | 0, r, st, hd, h1 => by simp
  | k + 1, r, st, hd, h1 => by
    have hp : st.put 48 = some { st with dig := true, dp := st.dp - 1 } := by
      unfold St.put
      rw [if_neg (by omega), if_neg (by omega), if_pos (by omega), if_pos ⟨rfl, h1⟩]
    have h9 : scan st (List.replicate (k + 1) 48 ++ r) = scan { st with dig := true, dp := st.dp - 1 } (List.replicate k 48 ++ r) := by rw [List.replicate_succ, List.cons_append, scan, hp]
    rw [h9, scan_lead k r _ rfl (by simp only; exact h1)]
    simp only [hd]
    congr 2; omega
/-- the first digit, where it is no nought, and the digits behind it -/
theorem scan_digs (ds r : List Nat) (st : St) (d : Nat) (l : List Nat) (he : ds = d :: l) (hd : 49 ≤ d ∧ d ≤ 57) (h0 : st.m = 0) (h1 : st.nd = 0) (hM : st.nM = 0) (hn : ds.length ≤ 19) (ha : ∀ d ∈ ds, 48 ≤ d ∧ d ≤ 57) :
    scan st (ds ++ r) = scan { st with m := dv 0 ds, nd := ds.length, nM := ds.length, dig := true } r := by
  subst he
  simp only [List.length_cons] at hn
  have hp : st.put d = some { st with dig := true, nd := st.nd + 1, m := st.m * 10 + (d - 48), nM := st.nM + 1 } := by
    unfold St.put
    rw [if_neg (by omega), if_neg (by omega), if_pos (by omega), if_neg (by omega), if_pos (by omega)]
  have h9 : scan st (d :: l ++ r) = scan { st with dig := true, nd := st.nd + 1, m := st.m * 10 + (d - 48), nM := st.nM + 1 } (l ++ r) := by rw [List.cons_append, scan, hp]
  rw [h9, scan_more l r _ rfl (by simp only; omega) (by simp only; omega) (by simp only; omega) (fun d h => ha d (by simp [h]))]
  simp only [dv_cons, List.length_cons, h0, h1]
  congr 2 <;> omega
theorem scan_dot (r : List Nat) (st : St) (h : st.dot = false) : scan st (46 :: r) = scan { st with dot := true, dp := st.nd } r := by
  have hp : st.put 46 = some { st with dot := true, dp := st.nd } := by
    unfold St.put
    rw [if_neg (by omega), if_pos rfl, h, if_neg (by decide)]
  rw [scan, hp]
theorem scan_e (r : List Nat) (st : St) : scan st (101 :: r) = (st, 101 :: r) := by
  have hp : st.put 101 = none := by
    unfold St.put
    rw [if_neg (by omega), if_neg (by omega), if_neg (by omega)]
  rw [scan, hp]
end Go.Proofs.YthjfdhkahmlolaaGreatDoor

/- readFloat's state behind each layout of a printed number. Plain. -/
namespace Go.Proofs.YthjfdhkahmlolaaGreatDoor
theorem nl_zeros (k : Nat) : nl (List.replicate k 48) = List.replicate k 48 := by unfold nl; rw [List.map_replicate]; rfl
theorem digs_len (c : Nat) : (nl (Lib.decDigits c)).length = Lib.nDigits c := by rw [nl_len, Lib.decDigits_length]
theorem scan_end (st : St) : scan st [] = (st, []) := by rw [scan]
/-- what is read of a text: the state, and that it is whole -/
structure Rdn (c n : Nat) (s : Int) (j : Nat) (st : St) : Prop where
  dig : st.dig = true
  und : st.und = false
  tr : st.tr = false
  m : st.m = c * 10 ^ j
  at_ : (if st.dot then st.dp else (st.nd : Int)) - st.nM = s - j
theorem scan_A {c : Nat} {e : Int} (h0 : 1 ≤ c) (hn : Lib.nDigits c ≤ 17) (he : 0 ≤ e ∧ e ≤ 20) (hl : (Lib.nDigits c : Int) ≤ e + 1) :
    ∃ st j, scan St.zero (nl (Lib.decDigits c ++ List.replicate (e + 1 - Lib.nDigits c).toNat 48)) = (st, []) ∧ Rdn c (Lib.nDigits c) (e + 1 - Lib.nDigits c) j st ∧ (j = 0 ∨ 0 ≤ e + 1 - Lib.nDigits c - (j : Int)) ∧ Lib.nDigits c + j ≤ 19 := by
  obtain ⟨d, l, hd, d1, d2⟩ := digs_head c h0
  have hlen := digs_len c
  generalize hz : (e + 1 - Lib.nDigits c).toNat = z
  have hz2 : (z : Int) = e + 1 - Lib.nDigits c := by omega
  obtain ⟨j, hj⟩ : ∃ j, j = min z (19 - Lib.nDigits c) := ⟨_, rfl⟩
  have hsp : List.replicate z (48 : Nat) = List.replicate j 48 ++ List.replicate (z - j) 48 := by rw [List.replicate_append_replicate]; congr 1; omega
  rw [nl_app, nl_zeros, hsp, ← List.append_assoc]
  have h1 := scan_digs (nl (Lib.decDigits c) ++ List.replicate j 48) (List.replicate (z - j) 48) St.zero d (l ++ List.replicate j 48) (by rw [hd]; rfl) ⟨d1, d2⟩ rfl rfl rfl
    (by rw [List.length_append, hlen, List.length_replicate]; omega)
    (fun x hx => by
      rcases List.mem_append.1 hx with h | h
      · exact digs_all c x h
      · rw [List.eq_of_mem_replicate h]; omega)
  rw [h1, dv_app, dv_digits, dv_zeros, List.length_append, hlen, List.length_replicate]
  by_cases hzj : z - j = 0
  · rw [hzj, List.replicate_zero, scan_end]
    exact ⟨_, j, rfl, ⟨rfl, rfl, rfl, rfl, by simp only [St.zero]; simp; omega⟩, by omega, by omega⟩
  · rw [← List.append_nil (List.replicate (z - j) 48), scan_over _ _ _ rfl (by simp only; have := Lib.nDigits_pos c; omega) (by simp only; omega), scan_end]
    exact ⟨_, j, rfl, ⟨rfl, rfl, rfl, rfl, by simp only [St.zero]; simp; omega⟩, by omega, by omega⟩
theorem scan_B {c k : Nat} (h0 : 1 ≤ c) (hn : Lib.nDigits c ≤ 17) (hk : 1 ≤ k) (hkn : k < Lib.nDigits c) (r : List Nat) :
    scan St.zero (nl ((Lib.decDigits c).take k) ++ 46 :: (nl ((Lib.decDigits c).drop k) ++ r)) = scan ⟨c, Lib.nDigits c, Lib.nDigits c, k, true, true, false, false⟩ r := by
  obtain ⟨d, l, hd, d1, d2⟩ := digs_head c h0
  have hlen := digs_len c
  have e1 : nl ((Lib.decDigits c).take k) = (nl (Lib.decDigits c)).take k := by unfold nl; rw [List.map_take]
  have e2 : nl ((Lib.decDigits c).drop k) = (nl (Lib.decDigits c)).drop k := by unfold nl; rw [List.map_drop]
  have hal := digs_all c
  have hdv := dv_digits c
  rw [e1, e2]
  generalize nl (Lib.decDigits c) = D at *
  have l1 : (D.take k).length = k := by rw [List.length_take]; omega
  have l2 : (D.drop k).length = Lib.nDigits c - k := by rw [List.length_drop]; omega
  obtain ⟨k', rfl⟩ : ∃ k', k = k' + 1 := ⟨k - 1, by omega⟩
  rw [scan_digs (D.take (k' + 1)) _ St.zero d (l.take k') (by rw [hd]; rfl) ⟨d1, d2⟩ rfl rfl rfl (by rw [l1]; omega) (fun x hx => hal x (List.mem_of_mem_take hx))]
  rw [l1, scan_dot _ _ rfl, scan_more (D.drop (k' + 1)) r _ rfl (by simp only; omega) rfl (by simp only; rw [l2]; omega) (fun x hx => hal x (List.mem_of_mem_drop hx))]
  simp only [l2, ← dv_app, List.take_append_drop, hdv]
  congr 2 <;> omega
theorem scan_C {c k : Nat} (h0 : 1 ≤ c) (hn : Lib.nDigits c ≤ 17) : scan St.zero (48 :: 46 :: (List.replicate k 48 ++ nl (Lib.decDigits c))) = (⟨c, Lib.nDigits c, Lib.nDigits c, -(k : Int), true, true, false, false⟩, []) := by
  obtain ⟨d, l, hd, d1, d2⟩ := digs_head c h0
  have hlen := digs_len c
  have hp : St.zero.put 48 = some { St.zero with dig := true, dp := -1 } := by
    unfold St.put
    rw [if_neg (by omega), if_neg (by omega), if_pos (by omega), if_pos ⟨rfl, rfl⟩]
    rfl
  have h9 : ∀ r, scan St.zero (48 :: r) = scan { St.zero with dig := true, dp := -1 } r := fun r => by rw [scan, hp]
  rw [h9, scan_dot _ _ rfl, scan_lead _ _ _ rfl rfl, ← List.append_nil (nl (Lib.decDigits c)), scan_digs _ _ _ d l hd ⟨d1, d2⟩ rfl rfl rfl (by rw [hlen]; omega) (digs_all c), scan_end, hlen, dv_digits]
  congr 2
  simp [St.zero]
/-- the point behind the first digit -/
theorem scan_D {c : Nat} (h0 : 1 ≤ c) (hn : Lib.nDigits c ≤ 17) (r : List Nat) : ∃ st, scan St.zero (nl (pointB c) ++ 101 :: r) = (st, 101 :: r) ∧ Rdn c (Lib.nDigits c) (1 - Lib.nDigits c) 0 st := by
  have hlen := digs_len c
  unfold pointB
  by_cases h1 : Lib.nDigits c = 1
  · rw [if_pos h1, List.append_nil, List.take_of_length_le (by rw [Lib.decDigits_length]; omega)]
    obtain ⟨d, l, hd, d1, d2⟩ := digs_head c h0
    rw [scan_digs _ _ _ d l hd ⟨d1, d2⟩ rfl rfl rfl (by rw [hlen]; omega) (digs_all c), scan_e, hlen, dv_digits]
    exact ⟨_, rfl, ⟨rfl, rfl, rfl, by simp, by simp only [St.zero]; simp [h1]⟩⟩
  · have hp := Lib.nDigits_pos c
    rw [if_neg h1, nl_app, List.append_assoc]
    have e1 : nl (46 :: (Lib.decDigits c).drop 1) ++ 101 :: r = 46 :: (nl ((Lib.decDigits c).drop 1) ++ 101 :: r) := rfl
    rw [e1, scan_B h0 hn (by omega) (by omega), scan_e]
    exact ⟨_, rfl, ⟨rfl, rfl, rfl, by simp, by simp⟩⟩
end Go.Proofs.YthjfdhkahmlolaaGreatDoor
