/- What parsing scales is unrounded scaling by the true power of ten: numbers of 57 bits. Plain; the certificates by the kernel. -/
import Derived.Test.YthjfdhkahmlolaaGreatDoorJQ09
namespace Go.Proofs.YthjfdhkahmlolaaGreatDoor.Usc
def parseOk (x : Nat × Nat) (s : Nat) : Bool :=
  let a := x.1 * 18446744073709551616 - x.2
  let M := 2 ^ (s + 121)
  let n := nb 144115188075855872 a M 80 0 1 1 0
  farOk 72057594037927936 a M n.1 n.2.1 n.2.2.1 n.2.2.2
def rowsParse : Nat → List (Nat × Nat) → Bool
  | _, [] => true
  | i, x :: l => (decide (324 ≤ i) && decide (i ≤ 371) || parseOk x 8) && rowsParse (i + 1) l
theorem rowsParse_at : ∀ (l : List (Nat × Nat)) (i k : Nat) (x : Nat × Nat), rowsParse i l = true → l[k]? = some x → ¬ (324 ≤ i + k ∧ i + k ≤ 371) → parseOk x 8 = true
  | [], _, _, _, _, h, _ => by simp at h
  | y :: l, i, 0, x, h, e, n => by
    simp at e; subst e
    unfold rowsParse at h
    rw [Bool.and_eq_true, Bool.or_eq_true] at h
    rcases h.1 with q | q
    · simp only [Bool.and_eq_true, decide_eq_true_eq] at q; exact absurd q n
    · exact q
  | y :: l, i, k + 1, x, h, e, n => by
    unfold rowsParse at h; rw [Bool.and_eq_true] at h
    exact rowsParse_at l (i + 1) k x h.2 (by simpa using e) (by omega)
theorem parse_ok : rowsParse 0 Go.Pinned.pow10Rows = true := by kernel_rfl
theorem parse_sub : (Go.Pinned.pow10Rows.take 61).all (fun x => (List.range 55).all fun j => parseOk x (9 + j)) = true := by kernel_rfl
theorem pow_shift7 (s : Nat) : 2 ^ s * 340282366920938463463374607431768211456 = 128 * 2 ^ (s + 121) := by
  rw [Nat.pow_add]
  have : (340282366920938463463374607431768211456 : Nat) = 128 * 2 ^ 121 := by decide
  rw [this, Nat.mul_left_comm]
theorem uscale_far7 {x i s : Nat} {r : Nat × Nat} (hr : Go.Pinned.pow10Rows[i]? = some r) (hk : parseOk r s = true) (hx : 72057594037927936 ≤ x ∧ x < 144115188075855872) :
    uscaleN (128 * x) r.1 r.2 s = unr (128 * x * numOf i) (denOf i * (2 ^ s * 340282366920938463463374607431768211456)) := by
  obtain ⟨r1, r2, r3, r4, r5⟩ := row_true hr
  unfold parseOk at hk
  have hM : 0 < 2 ^ (s + 121) := Nat.pow_pos (by decide)
  obtain ⟨f1, f2⟩ := far_of hk (x := x) hx.1 (by omega) hM
  have hM1 : 0 < 128 * 2 ^ (s + 121) := by omega
  have em : 128 * x * (r.1 * 18446744073709551616 - r.2) % (128 * 2 ^ (s + 121)) = 128 * (x * (r.1 * 18446744073709551616 - r.2) % 2 ^ (s + 121)) := by
    rw [Nat.mul_assoc, Nat.mul_mod_mul_left]
  have hbig : 144115188075855872 ≤ 2 ^ (s + 121) := Nat.le_trans (by decide) (Nat.pow_le_pow_right (by decide) (by omega : 57 ≤ s + 121))
  have g1 := prog_far (128 * x) r.1 r.2 s (by omega) r1 r2 r3 (by rw [pow_shift7, em]; omega) (by rw [pow_shift7, em]; omega)
  have g2 := unr_far (x := 128 * x) (P := numOf i) (Q := denOf i) (M := 128 * 2 ^ (s + 121)) (pm := r.1 * 18446744073709551616 - r.2) (denOf_pos i) hM1 r4 r5 (by omega) (by omega) (by rw [em]; omega)
  rw [pow_shift7] at g1 ⊢
  rw [g1, g2]
def negOk7 (i s : Nat) : Bool := decide (36893488147419103232 * denOf i ≤ gOf i s) && decide (denOf i * (2 ^ s * 340282366920938463463374607431768211456) = 5 ^ (348 - i) * gOf i s) && decide (gOf i s * (128 * numOf i / gOf i s) = 128 * numOf i)
theorem neg_rows7 : (List.range 24).all (fun j => negOk7 (324 + j) 8) = true := by kernel_rfl
theorem neg_core7 {x H L s P Q M g c F pm : Nat} (hMM : 2 ^ s * 340282366920938463463374607431768211456 = M) (hpm : H * 18446744073709551616 - L = pm)
    (r1 : H < 18446744073709551616) (r2 : L < 18446744073709551616) (r3 : L ≤ H * 18446744073709551616) (r4 : P ≤ pm * Q) (r5 : pm * Q < P + Q) (hd : 0 < Q)
    (h1 : 36893488147419103232 * Q ≤ g) (h2 : Q * M = F * g) (h3 : g * c = 128 * P) (hx : 0 < x ∧ x < 144115188075855872) :
    uscaleN (128 * x) H L s = unr (128 * x * P) (Q * M) := by
  have hM : 0 < M := by rw [← hMM]; exact Nat.mul_pos (Nat.pow_pos (by decide)) (by decide)
  have hg : 0 < g := by omega
  have hF : 0 < F := by
    rcases Nat.eq_zero_or_pos F with e | e
    · subst e; rw [Nat.zero_mul] at h2
      have := Nat.mul_pos hd hM; omega
    · exact e
  -- N = g w
  have hN : 128 * x * P = g * (x * c) := by rw [Nat.mul_right_comm, ← h3, Nat.mul_assoc, Nat.mul_comm c x]
  generalize x * c = w at *
  have hw := Nat.div_add_mod w F
  have hwl := Nat.mod_lt w hF
  generalize w / F = y at *
  generalize w % F = u at *
  -- N = (Q M) y + g u
  have hN2 : 128 * x * P = y * (Q * M) + g * u := by rw [hN, ← hw, Nat.mul_add, h2, Nat.mul_comm y, Nat.mul_right_comm, Nat.mul_comm (F * y) g]
  have hgu : g * u + g ≤ Q * M := by rw [h2, Nat.mul_comm F g, ← Nat.mul_succ]; exact Nat.mul_le_mul_left _ hwl
  -- x pm Q = N + 128 x d
  have b1 : 128 * x * P ≤ 128 * x * pm * Q := by rw [Nat.mul_assoc _ pm Q]; exact Nat.mul_le_mul_left _ r4
  have b2 : 128 * x * pm * Q < 128 * x * P + 128 * x * Q := by rw [Nat.mul_assoc _ pm Q, ← Nat.mul_add]; exact Nat.mul_lt_mul_of_pos_left r5 (by omega)
  -- t
  have b3 : y * M ≤ 128 * x * pm := by
    have : y * M * Q ≤ 128 * x * pm * Q := by rw [Nat.mul_assoc, Nat.mul_comm M Q]; omega
    exact Nat.le_of_mul_le_mul_right this hd
  obtain ⟨t, ht⟩ : ∃ t, 128 * x * pm = y * M + t := ⟨_, (Nat.add_sub_cancel' b3).symm⟩
  have b4 : 128 * x * pm * Q = y * (Q * M) + t * Q := by rw [ht, Nat.add_mul, Nat.mul_assoc, Nat.mul_comm M Q]
  have b5 : g * u ≤ t * Q := by omega
  have b6 : t * Q < g * u + 128 * x * Q := by omega
  have b7 : 128 * x * Q ≤ 18446744073709551616 * Q := Nat.mul_le_mul_right _ (by omega)
  rcases Nat.eq_zero_or_pos u with e | e
  · subst e
    rw [Nat.mul_zero, Nat.add_zero] at hN2
    rw [Nat.mul_zero, Nat.zero_add] at b6
    have t1 : t < 128 * x := Nat.lt_of_mul_lt_mul_right b6
    rw [prog_whole (128 * x) H L s y t (by omega) r1 r2 r3 (by rw [hpm, hMM]; exact ht) (.inl t1)]
    unfold unr
    rw [hN2, Nat.mul_div_cancel _ (Nat.mul_pos hd hM), Nat.mul_mod_left, if_pos rfl]
    simp
  · have g1 : g ≤ g * u := Nat.le_mul_of_pos_right _ e
    have t1 : 36893488147419103232 ≤ t := Nat.le_of_mul_le_mul_right (by omega : 36893488147419103232 * Q ≤ t * Q) hd
    have t2 : (t + 18446744073709551616) * Q ≤ M * Q := by rw [Nat.add_mul, Nat.mul_comm M Q]; omega
    have t3 : t + 18446744073709551616 ≤ M := Nat.le_of_mul_le_mul_right t2 hd
    have em : 128 * x * pm % M = t := by rw [ht, Nat.mul_comm y M, Nat.mul_add_mod, Nat.mod_eq_of_lt (by omega)]
    have g2 := prog_far (128 * x) H L s (by omega) r1 r2 r3 (by rw [hpm, hMM, em]; exact t1) (by rw [hpm, hMM, em]; omega)
    have g3 := unr_far (x := 128 * x) (P := P) (Q := Q) (M := M) (pm := pm) hd hM r4 r5 (by omega) (by omega) (by rw [em]; exact t1)
    rw [hpm, hMM] at g2
    rw [g2, g3]
theorem uscale_neg7 {x i : Nat} {r : Nat × Nat} (hr : Go.Pinned.pow10Rows[i]? = some r) (hi : 324 ≤ i ∧ i ≤ 347) (hx : 0 < x ∧ x < 144115188075855872) :
    uscaleN (128 * x) r.1 r.2 8 = unr (128 * x * numOf i) (denOf i * (2 ^ 8 * 340282366920938463463374607431768211456)) := by
  obtain ⟨r1, r2, r3, r4, r5⟩ := row_true hr
  have h := List.all_eq_true.1 neg_rows7 (i - 324) (List.mem_range.2 (by omega))
  rw [show 324 + (i - 324) = i by omega] at h
  unfold negOk7 at h
  simp only [Bool.and_eq_true, decide_eq_true_eq] at h
  exact neg_core7 rfl rfl r1 r2 r3 r4 r5 (denOf_pos i) h.1.1 h.1.2 h.2 hx
theorem uscale_parse {x s i : Nat} {r : Nat × Nat} (hr : Go.Pinned.pow10Rows[i]? = some r) (hc : s = 8 ∨ (i ≤ 60 ∧ 9 ≤ s ∧ s ≤ 63)) (hx : 9223372036854775808 ≤ x ∧ x < 18446744073709551616) (h7 : x % 128 = 0) :
    uscaleN x r.1 r.2 s = unr (x * numOf i) (denOf i * (2 ^ s * 340282366920938463463374607431768211456)) := by
  obtain ⟨y, rfl⟩ : ∃ y, x = 128 * y := ⟨x / 128, by omega⟩
  have hy : 72057594037927936 ≤ y ∧ y < 144115188075855872 := by omega
  rcases hc with rfl | ⟨h60, h9, h63⟩
  · rcases Nat.lt_or_ge i 324 with a | a
    · exact uscale_far7 hr (rowsParse_at _ 0 i r parse_ok hr (by rw [Nat.zero_add]; omega)) hy
    · rcases Nat.lt_or_ge 371 i with c | c
      · exact uscale_far7 hr (rowsParse_at _ 0 i r parse_ok hr (by rw [Nat.zero_add]; omega)) hy
      · rcases Nat.lt_or_ge i 348 with d | d
        · exact uscale_neg7 hr (by omega) (by omega)
        · obtain ⟨k, rfl⟩ : ∃ k, i = 348 + k := ⟨i - 348, by omega⟩
          exact uscale_zero hr (by omega) hx.2 (by omega)
  · have hm : r ∈ Go.Pinned.pow10Rows.take 61 := by
      have : (Go.Pinned.pow10Rows.take 61)[i]? = some r := by rw [List.getElem?_take, if_pos (by omega)]; exact hr
      exact List.mem_of_getElem? this
    have h := List.all_eq_true.1 parse_sub r hm
    have h2 := List.all_eq_true.1 h (s - 9) (List.mem_range.2 (by omega))
    rw [show 9 + (s - 9) = s by omega] at h2
    exact uscale_far7 hr h2 hy
end Go.Proofs.YthjfdhkahmlolaaGreatDoor.Usc
