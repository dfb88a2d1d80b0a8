/- ftoa64 at any finite float above 0. -/
import Derived.Test.YthjfdhkahmlolaaGreatDoorJQ16
namespace Go.Proofs.YthjfdhkahmlolaaGreatDoor
open Go.RowKit Usc
/-- what ftoa64 tells of a float above 0 -/
def FtoaPost (b B : Nat) (d0 : Value) (w : World) (e : Ending) (w' : World) : Prop := ∃ v, e = .returned v ∧ ∃ c s, Sh b c s ∧ Ap w B d0 v (Lib.byteCells (efgB c s)) w'
theorem strip_of {b D N k bb : Nat} {Q : Int} {w : World} (H : Parts b) (hD : sfd (mB b) (eB b) = D) (hQ : sfq (mB b) (eB b) = Q) (hN : Lib.nDigits D = N) (hk : k < N) (h1 : 10 ^ k ∣ D) (h2 : D / 10 ^ k % 10 ≠ 0) (h3 : Bytes w bb N (fun t => Lib.dg D (N - 1 - t))) :
    ∃ c s, Sh b c s ∧ (((N - k : Nat) : Nat) : Int) = (Lib.nDigits c : Int) ∧ N - k = Lib.nDigits c ∧ (∀ t u, ((Lib.decDigits c).map ch8)[t]? = some u → w.cell? ⟨bb, t, none⟩ = some u) ∧ (N : Int) + Q = (Lib.nDigits c : Int) + s := by
  obtain ⟨c, rfl⟩ := h1
  have hp : 0 < 10 ^ k := Nat.pow_pos (by decide)
  rw [Nat.mul_div_cancel_left _ hp] at h2
  have hS : Sh b c (Q + k) := ⟨k, hD.symm, by rw [hQ], h2⟩
  have hb := hS.bounds H
  have hn := nDigits_pow k c hb.c0
  rw [hN] at hn
  refine ⟨c, Q + k, hS, by omega, by omega, fun t u hu => ?_, by omega⟩
  rw [List.getElem?_map] at hu
  have ht : t < Lib.nDigits c := by
    rcases Nat.lt_or_ge t (Lib.nDigits c) with g | g
    · exact g
    · rw [List.getElem?_eq_none (by rw [Lib.decDigits_length]; exact g)] at hu; cases hu
  rw [dg_at k c t hb.c0 ht, hN] at hu
  have hu' : ch8 (Lib.dg (10 ^ k * c) (N - 1 - t)) = u := by simpa using hu
  rw [(h3 t (by omega)).1, ← hu']
  rfl
theorem and_mask (k m : Nat) (h : m < 2 ^ 64) (hk : k ≤ 63) : bits BinOp.and IntKind.u64 (m : Int) ((2 ^ k - 1 : Nat) : Int) = ((m % 2 ^ k : Nat) : Int) := by
  have h1 : (2 : Nat) ^ k ≤ 2 ^ 63 := Nat.pow_le_pow_right (by decide) hk
  have := u64_and_nat m (2 ^ k - 1) h (by omega)
  rw [this, Nat.and_two_pow_sub_one_eq_mod]
theorem and_2047 (m : Nat) (h : m < 2048) : bits BinOp.and IntKind.i64 (m : Int) 2047 = (m : Int) := by
  have : ∀ n : Fin 2048, bits BinOp.and IntKind.i64 ((n.val : Nat) : Int) 2047 = ((n.val : Nat) : Int) := by decide +kernel
  exact this ⟨m, h⟩
theorem or_52 (m : Nat) (h : m < 4503599627370496) : bits BinOp.or IntKind.u64 (m : Int) 4503599627370496 = ((m + 4503599627370496 : Nat) : Int) := by
  have := u64_or_nat m 4503599627370496 (by omega) (by decide)
  rw [show ((4503599627370496 : Int)) = ((4503599627370496 : Nat) : Int) from rfl, this]
  congr 1
  have h2 := Nat.two_pow_add_eq_or_of_lt (i := 52) (b := m) (by rw [show (2 : Nat) ^ 52 = 4503599627370496 by decide]; exact h) 1
  rw [show (2 : Nat) ^ 52 * 1 = 4503599627370496 by decide] at h2
  rw [Nat.add_comm, h2, Nat.or_comm]
set_option maxRecDepth 100000
set_option maxHeartbeats 4000000 in
theorem ftoa_norm (b : Nat) (B : Nat) (d0 : Value) (w : World) (hT : Tab w) (hU : Tab2 w) (hB : B ≤ w.heap.size) (ho : w.ownsRow B 5 1 d0 0 []) (hb : 4503599627370496 ≤ b) (hb2 : b < 9218868437227405312) : Calls Tryz.prog 68 #[d0, .float .f64 b, .int .u8 101, .int .i64 (-1)] w fun e w' => FtoaPost b B d0 w e w' := by
  have HT := Lib.hid hT; have HU := Lib.hid hU; have HO := Lib.hid ho; have HB := Lib.hid hB
  clear hT hU ho hB
  have hf := run_fbits b
  have a0 : ((b : Int) / 9223372036854775808 != 0) = false := by rw [show (b : Int) / 9223372036854775808 = 0 by omega]; rfl
  obtain ⟨E, hE⟩ : ∃ E, E = b / 4503599627370496 := ⟨_, rfl⟩
  obtain ⟨F, hF⟩ : ∃ F, F = b % 4503599627370496 := ⟨_, rfl⟩
  have a1 : bits BinOp.and IntKind.i64 ((b : Int) / 4503599627370496) 2047 = E := by rw [show (b : Int) / 4503599627370496 = (E : Int) by omega]; exact and_2047 E (by omega)
  have a2 : bits BinOp.and IntKind.u64 (b : Int) 4503599627370495 = F := by rw [hF]; exact and_mask 52 b (by omega) (by decide)
  have a3 : bits BinOp.or IntKind.u64 (F : Int) 4503599627370496 = ((mantB b : Nat) : Int) := by
    rw [or_52 F (by omega)]; congr 1; unfold mantB; rw [if_neg (by omega), hF]
  have hE1 : 1 ≤ E ∧ E ≤ 2046 := by omega
  have e1 : ((E : Int) == 2047) = false := by rw [beq_eq_false_iff_ne]; omega
  have e2 : ((E : Int) == 0) = false := by rw [beq_eq_false_iff_ne]; omega
  have H := parts b (by omega) hb2
  have e3 : (((mantB b : Nat) : Int) == 0) = false := by rw [beq_eq_false_iff_ne]; have := H.m1; omega
  have hM := H.m2
  have hL := (H.nrm hb).2
  have hE2 : exB b = E := by unfold exB; rw [if_neg (by omega), hE]
  have hz := mB_bounds H
  have s1 : IntKind.u64.wrap (((mantB b : Nat) : Int) * 2 ^ zB b) = ((mB b : Nat) : Int) := by
    have h1 := Nat.two_pow_pos (zB b)
    have h2 := hz.2.1
    have h3 : (((mantB b : Nat) : Int) * 2 ^ zB b) = ((mB b : Nat) : Int) := by unfold mB; push_cast; rfl
    rw [h3]
    generalize mB b = q at *
    exact wrap_u64 (by omega) (by omega)
  have z1 : ∀ L : Nat, L = Lib.bitLen (mantB b) → (64 : Int) - (L : Int) = ((zB b : Nat) : Int) := fun L h => by
    have := H.l4; unfold zB; omega
  have ze : (E : Int) + -1023 - ((zB b : Nat) : Int) - 52 = eB b := by unfold eB; rw [hE2]; omega
  have zc : -1085 ≤ eB b ∨ (eB b = -1074 - ((zB b : Nat) : Int) ∧ 12 ≤ zB b ∧ zB b ≤ 63) := .inl (by unfold eB zB; rw [hE2, hL]; omega)
  have ZE := Lib.hid ze; have ZC := Lib.hid zc; clear ze zc
  have HS1 := Lib.hid s1; have HZ := Lib.hid hz; have Z1 := Lib.hid z1
  clear s1 hz z1
  have HH := Lib.hid H; have HL := Lib.hid hL; have HE2 := Lib.hid hE2; have HE := Lib.hid hE; have HF := Lib.hid hF
  clear H hL hE2 hE hF
  go_enter Tryz.func68, Tryz.ntmps68
  go_wp2_with fail
  go_quiet (fail)
  go_wp2_with fail
  refine (Tryz.bits_Len64 (mantB b) _ (by omega) (by omega)).mono ?_
  rintro en w1 ⟨rfl, hw⟩; rw [hw]; clear hw w1
  rw [Int.toNat_natCast]
  have hLl := HH.out.l4
  have z1 := Z1.out _ rfl
  have hzz := HZ.out.2.2
  have s1 := HS1.out
  generalize Lib.bitLen (mantB b) = L at *
  generalize zB b = z at *
  go_wp2_with fail
  rw [show (E : Int) + -1023 - (z : Int) - 52 = eB b from ZE.out]
  have OA : ∀ n, Only (fun _ => False) w ((w.drewN n).alloc (.cells zeros32 118)) := fun n => ((Only.refl _ w).drewN n).alloc _
  have BA : ∀ n, ((w.drewN n).alloc (.cells zeros32 118)).heap[w.heap.size]? = some (.cells zeros32 118 (0, 0)) := fun n => blk_new (w.drewN n) _
  have HOA := Lib.hid OA; have HBA := Lib.hid BA
  clear OA BA
  refine (sf_calls (mB b) z (eB b) _ (HT.out.still (HOA.out _) id) (sfok HH.out) ZC.out).mono ?_
  rintro en w2 ⟨rfl, O2⟩
  have O2' := (HOA.out _).trans O2
  have B2 := O2.blk (HBA.out _) id
  have HW2 := Lib.hid (blk_lt B2); have HO2 := Lib.hid O2'; have HB2 := Lib.hid B2
  clear O2 O2' B2 HOA HBA
  obtain ⟨g1, g2, _⟩ := short HH.out
  have g3 := sfq_bound HH.out
  have KD := Lib.hid (show sfd (mB b) (eB b) = sfd (mB b) (eB b) from rfl)
  have KQ := Lib.hid (show sfq (mB b) (eB b) = sfq (mB b) (eB b) from rfl)
  generalize hD : sfd (mB b) (eB b) = D at KD g1 g2 ⊢
  generalize hQ : sfq (mB b) (eB b) = Q at KQ g3 ⊢
  have hn0 := Lib.nDigits_pos D
  have hnl := Lib.lt_pow_nDigits D
  have hn17 : Lib.nDigits D ≤ 17 := nDig_le g1 g2
  have HD := Lib.hid hD; have HQ := Lib.hid hQ
  have ND := Lib.hid (fun n => Tryz.internal_strconv_numDigits D (by omega) (by omega) (w2.drewN n) (HU.out.still (HO2.out.drewN n) id))
  have DC := Lib.hid (fun n => digits_calls w.heap.size (Lib.nDigits D) D Q (fun _ => 0) (w2.drewN n) (fun t ht => ⟨(blk_cell (w := w2.drewN n) HB2.out t).trans (zeros32_at t ht), blk_free (w := w2.drewN n) HB2.out t⟩) (by omega) hnl (by omega) (by omega) (by omega))
  clear HB2 hD hQ KD KQ hnl z1 s1
  generalize hN : Lib.nDigits D = N at *
  have HN := Lib.hid hN
  clear hN
  go_wp2_with fail
  go_region_law (first
    | (go_simp; go_at_call 99; refine (ND.out 1).mono ?_; rintro en w3 ⟨rfl, hw⟩; rw [hw]; clear hw w3)
    | (go_simp; go_at_call 98; refine (DC.out 1).mono ?_; rintro en w4 ⟨⟨k, hk, rfl, hdv, hne⟩, O4, B4⟩; have HO4 := Lib.hid ((HO2.out.drewN 1).seq2 (S := fun _ => False) O4 (fun i hi => .inl (by rw [hi]; exact Nat.le_refl _))); have HW := Lib.hid (Nat.lt_of_lt_of_le HW2.out O4.size); have HB4 := Lib.hid B4; have HDV := Lib.hid hdv; have HNE := Lib.hid hne; clear hdv hne O4 B4 DC ND))
  go_wp2_with fail
  have h1 := HDV.out; have h2 := HNE.out; have h3 := HB4.out
  clear HDV HNE HB4
  obtain ⟨c, s, hc, hN1, hN2, hcells, hdp⟩ := strip_of (w := w4) (bb := w.heap.size) HH.out HD.out HQ.out HN.out hk h1 h2 h3
  rw [hN1, hdp, show max ((Lib.nDigits c : Int) - 1) 0 = (Lib.nDigits c : Int) - 1 by omega]
  refine (efg_cs B w.heap.size c s d0 w4 (Nat.le_trans HB.out HO4.out.size) (own_keepS HO.out HO4.out (fun _ _ h => h)) (hc.bounds HH.out) hcells HW.out (fun h => by have := (HO.out.lt _ h).2; omega)).mono ?_
  rintro en w5 ⟨v, rfl, hA⟩
  have hA' := Lib.hid (hA.out.after HO4.out (fun _ _ h => h))
  have HC := Lib.hid hc
  clear hc hN1 hN2 hcells hdp hA h1 h2 h3
  go_wp2_with fail
  go_ret
  exact ⟨_, rfl, _, _, HC.out, hA'.out⟩
set_option maxHeartbeats 4000000 in
theorem ftoa_subn (b : Nat) (B : Nat) (d0 : Value) (w : World) (hT : Tab w) (hU : Tab2 w) (hB : B ≤ w.heap.size) (ho : w.ownsRow B 5 1 d0 0 []) (hb : 1 ≤ b) (hb2 : b < 4503599627370496) : Calls Tryz.prog 68 #[d0, .float .f64 b, .int .u8 101, .int .i64 (-1)] w fun e w' => FtoaPost b B d0 w e w' := by
  have HT := Lib.hid hT; have HU := Lib.hid hU; have HO := Lib.hid ho; have HB := Lib.hid hB
  clear hT hU ho hB
  have hf := run_fbits b
  have a0 : ((b : Int) / 9223372036854775808 != 0) = false := by rw [show (b : Int) / 9223372036854775808 = 0 by omega]; rfl
  have a1 : bits BinOp.and IntKind.i64 ((b : Int) / 4503599627370496) 2047 = 0 := by rw [show (b : Int) / 4503599627370496 = 0 by omega]; exact and_2047 0 (by omega)
  have H := parts b hb (by omega)
  have a2 : bits BinOp.and IntKind.u64 (b : Int) 4503599627370495 = ((mantB b : Nat) : Int) := by rw [(H.sub hb2).1]; exact (and_mask 52 b (by omega) (by decide)).trans (by rw [Nat.mod_eq_of_lt (by exact hb2)])
  have e3 : (((mantB b : Nat) : Int) == 0) = false := by rw [beq_eq_false_iff_ne]; have := H.m1; omega
  have hM := H.m2
  have hL := (H.sub hb2).2.2
  have hE2 := (H.sub hb2).2.1
  have hz := mB_bounds H
  have s1 : IntKind.u64.wrap (((mantB b : Nat) : Int) * 2 ^ zB b) = ((mB b : Nat) : Int) := by
    have h1 := Nat.two_pow_pos (zB b)
    have h2 := hz.2.1
    have h3 : (((mantB b : Nat) : Int) * 2 ^ zB b) = ((mB b : Nat) : Int) := by unfold mB; push_cast; rfl
    rw [h3]
    generalize mB b = q at *
    exact wrap_u64 (by omega) (by omega)
  have z1 : ∀ L : Nat, L = Lib.bitLen (mantB b) → (64 : Int) - (L : Int) = ((zB b : Nat) : Int) := fun L h => by
    have := H.l4; unfold zB; omega
  have ze : -1022 - ((zB b : Nat) : Int) - 52 = eB b := by unfold eB; rw [hE2]; omega
  have zc : -1085 ≤ eB b ∨ (eB b = -1074 - ((zB b : Nat) : Int) ∧ 12 ≤ zB b ∧ zB b ≤ 63) := .inr ⟨by unfold eB; rw [hE2]; omega, by unfold zB; omega, by unfold zB; have := H.l3; omega⟩
  have ZE := Lib.hid ze; have ZC := Lib.hid zc; clear ze zc
  have HS1 := Lib.hid s1; have HZ := Lib.hid hz; have Z1 := Lib.hid z1
  clear s1 hz z1
  have HH := Lib.hid H; have HL := Lib.hid hL; have HE2 := Lib.hid hE2
  clear H hL hE2
  go_enter Tryz.func68, Tryz.ntmps68
  go_wp2_with fail
  go_quiet (fail)
  go_wp2_with fail
  refine (Tryz.bits_Len64 (mantB b) _ (by omega) (by omega)).mono ?_
  rintro en w1 ⟨rfl, hw⟩; rw [hw]; clear hw w1
  rw [Int.toNat_natCast]
  have hLl := HH.out.l4
  have z1 := Z1.out _ rfl
  have hzz := HZ.out.2.2
  have s1 := HS1.out
  generalize Lib.bitLen (mantB b) = L at *
  generalize zB b = z at *
  go_wp2_with fail
  rw [show -1022 - (z : Int) - 52 = eB b from ZE.out]
  have OA : ∀ n, Only (fun _ => False) w ((w.drewN n).alloc (.cells zeros32 118)) := fun n => ((Only.refl _ w).drewN n).alloc _
  have BA : ∀ n, ((w.drewN n).alloc (.cells zeros32 118)).heap[w.heap.size]? = some (.cells zeros32 118 (0, 0)) := fun n => blk_new (w.drewN n) _
  have HOA := Lib.hid OA; have HBA := Lib.hid BA
  clear OA BA
  refine (sf_calls (mB b) z (eB b) _ (HT.out.still (HOA.out _) id) (sfok HH.out) ZC.out).mono ?_
  rintro en w2 ⟨rfl, O2⟩
  have O2' := (HOA.out _).trans O2
  have B2 := O2.blk (HBA.out _) id
  have HW2 := Lib.hid (blk_lt B2); have HO2 := Lib.hid O2'; have HB2 := Lib.hid B2
  clear O2 O2' B2 HOA HBA
  obtain ⟨g1, g2, _⟩ := short HH.out
  have g3 := sfq_bound HH.out
  have KD := Lib.hid (show sfd (mB b) (eB b) = sfd (mB b) (eB b) from rfl)
  have KQ := Lib.hid (show sfq (mB b) (eB b) = sfq (mB b) (eB b) from rfl)
  generalize hD : sfd (mB b) (eB b) = D at KD g1 g2 ⊢
  generalize hQ : sfq (mB b) (eB b) = Q at KQ g3 ⊢
  have hn0 := Lib.nDigits_pos D
  have hnl := Lib.lt_pow_nDigits D
  have hn17 : Lib.nDigits D ≤ 17 := nDig_le g1 g2
  have HD := Lib.hid hD; have HQ := Lib.hid hQ
  have ND := Lib.hid (fun n => Tryz.internal_strconv_numDigits D (by omega) (by omega) (w2.drewN n) (HU.out.still (HO2.out.drewN n) id))
  have DC := Lib.hid (fun n => digits_calls w.heap.size (Lib.nDigits D) D Q (fun _ => 0) (w2.drewN n) (fun t ht => ⟨(blk_cell (w := w2.drewN n) HB2.out t).trans (zeros32_at t ht), blk_free (w := w2.drewN n) HB2.out t⟩) (by omega) hnl (by omega) (by omega) (by omega))
  clear HB2 hD hQ KD KQ hnl z1 s1
  generalize hN : Lib.nDigits D = N at *
  have HN := Lib.hid hN
  clear hN
  go_wp2_with fail
  go_region_law (first
    | (go_simp; go_at_call 99; refine (ND.out 1).mono ?_; rintro en w3 ⟨rfl, hw⟩; rw [hw]; clear hw w3)
    | (go_simp; go_at_call 98; refine (DC.out 1).mono ?_; rintro en w4 ⟨⟨k, hk, rfl, hdv, hne⟩, O4, B4⟩; have HO4 := Lib.hid ((HO2.out.drewN 1).seq2 (S := fun _ => False) O4 (fun i hi => .inl (by rw [hi]; exact Nat.le_refl _))); have HW := Lib.hid (Nat.lt_of_lt_of_le HW2.out O4.size); have HB4 := Lib.hid B4; have HDV := Lib.hid hdv; have HNE := Lib.hid hne; clear hdv hne O4 B4 DC ND))
  go_wp2_with fail
  have h1 := HDV.out; have h2 := HNE.out; have h3 := HB4.out
  clear HDV HNE HB4
  obtain ⟨c, s, hc, hN1, hN2, hcells, hdp⟩ := strip_of (w := w4) (bb := w.heap.size) HH.out HD.out HQ.out HN.out hk h1 h2 h3
  rw [hN1, hdp, show max ((Lib.nDigits c : Int) - 1) 0 = (Lib.nDigits c : Int) - 1 by omega]
  refine (efg_cs B w.heap.size c s d0 w4 (Nat.le_trans HB.out HO4.out.size) (own_keepS HO.out HO4.out (fun _ _ h => h)) (hc.bounds HH.out) hcells HW.out (fun h => by have := (HO.out.lt _ h).2; omega)).mono ?_
  rintro en w5 ⟨v, rfl, hA⟩
  have hA' := Lib.hid (hA.out.after HO4.out (fun _ _ h => h))
  have HC := Lib.hid hc
  clear hc hN1 hN2 hcells hdp hA h1 h2 h3
  go_wp2_with fail
  go_ret
  exact ⟨_, rfl, _, _, HC.out, hA'.out⟩
theorem ftoa_pos (b : Nat) (h0 : 1 ≤ b) (h1 : b < 9218868437227405312) (B : Nat) (d0 : Value) (w : World) (hT : Tab w) (hU : Tab2 w) (hB : B ≤ w.heap.size) (ho : w.ownsRow B 5 1 d0 0 []) : Calls Tryz.prog 68 #[d0, .float .f64 b, .int .u8 101, .int .i64 (-1)] w fun e w' => FtoaPost b B d0 w e w' := by
  rcases Nat.lt_or_ge b 4503599627370496 with h | h
  · exact ftoa_subn b B d0 w hT hU hB ho h0 h
  · exact ftoa_norm b B d0 w hT hU hB ho h h1
end Go.Proofs.YthjfdhkahmlolaaGreatDoor

/- decimal at any finite float above 0. -/
namespace Go.Proofs.YthjfdhkahmlolaaGreatDoor
open Go.RowKit Usc
theorem fto_pos {b c : Nat} {s : Int} (h0 : 1 ≤ b) (h1 : b < 9218868437227405312) (hS : Sh b c s) : Fto b (Lib.byteCells (efgB c s)) := by
  intro B d0 w hT hU hB ho
  refine (ftoa_pos b h0 h1 B d0 w hT hU hB ho).mono ?_
  rintro e w' ⟨v, he, c', s', hS', hA⟩
  obtain ⟨rfl, rfl⟩ := hS.unique hS'
  exact ⟨v, he, hA⟩
theorem efgB_ne (c : Nat) (s : Int) : efgB c s ≠ [] := by unfold efgB; simp
theorem sh_ex {b : Nat} (H : Parts b) : ∃ c s, Sh b c s := by
  have h1 := (short H).1
  generalize hD : sfd (mB b) (eB b) = D at *
  have key : ∀ D : Nat, 1 ≤ D → ∃ k c, 10 ^ k * c = D ∧ c % 10 ≠ 0 := by
    intro D
    induction D using Nat.strongRecOn with
    | _ D ih =>
      intro h
      by_cases h0 : D % 10 = 0
      · obtain ⟨k, c, e, hc⟩ := ih (D / 10) (by omega) (by omega)
        refine ⟨k + 1, c, ?_, hc⟩
        rw [Nat.pow_succ, Nat.mul_comm (10 ^ k) 10, Nat.mul_assoc, e]; omega
      · exact ⟨0, D, by simp, h0⟩
  obtain ⟨k, c, e, hc⟩ := key D h1
  exact ⟨c, _, k, by rw [hD]; exact e, rfl, hc⟩
theorem cut_after (A : List UInt8) (c : UInt8) (B : List UInt8) : ((A ++ c :: B).drop (A.length + 1)).take B.length = B := by
  rw [show A ++ c :: B = (A ++ [c]) ++ B by simp, List.drop_left' (by simp), List.take_length]
set_option maxRecDepth 100000
theorem rep_none (S : ByteArray) (w : World) (hS : (46 : UInt8) ∉ S.data.toList) : Calls Tryz.prog 36 #[.string S, .string ⟨#[46]⟩, .string ⟨#[]⟩, .int .i64 1] w fun en w' => en = .returned (.string S) ∧ w' = w := by
  have hc : Lib.countByte S.data.toList 46 = 0 := by unfold Lib.countByte; exact List.count_eq_zero_of_not_mem hS
  have C := Lib.hid (Tryz.strings_Count_one S 46 w)
  rw [hc] at C
  clear hS hc
  go_enter Tryz.func36, Tryz.ntmps36
  go_wp2_with fail
  refine C.out.mono ?_
  rintro en w1 ⟨rfl, hw⟩; rw [hw]; clear hw w1
  go_wp2_with fail
  go_ret
  exact ⟨rfl, rfl⟩
/-- the point is struck -/
theorem rep_calls (c : Nat) (S : ByteArray) (w : World) (hS : S = ⟨(pointB c).toArray⟩) (hn : Lib.nDigits c ≤ 17) : Calls Tryz.prog 36 #[.string S, .string ⟨#[46]⟩, .string ⟨#[]⟩, .int .i64 1] w fun en w' => en = .returned (.string ⟨(Lib.decDigits c).toArray⟩) ∧ Only (fun _ => False) w w' := by
  by_cases h : Lib.nDigits c = 1
  · rw [pointB_one h] at hS
    refine (rep_none S w (by rw [hS]; exact dec_not c 46 (by decide))).mono ?_
    rintro en w' ⟨rfl, rfl⟩
    exact ⟨by rw [hS], Only.refl _ _⟩
  · obtain ⟨x, l, h1, h2, h3⟩ := pointB_many h
    have hd := dec_not c 46 (by decide)
    rw [h1] at hd
    have hl := Lib.decDigits_length c
    rw [h1] at hl
    simp at hd hl
    rw [h1]
    exact rep_point x l S w (by rw [hS, h2]) (fun e => hd.1 e.symm) hd.2 h3 (by omega)
set_option maxHeartbeats 4000000 in
theorem dec_pos (b c : Nat) (s : Int) (w : World) (h0 : 1 ≤ b) (h1 : b < 9218868437227405312) (hS : Sh b c s) (hE : Env w) :
    Calls Tryz.prog 25 #[.float .f64 b] w fun en w' => en = .returned (.tuple #[.string ⟨(Lib.decDigits c).toArray⟩, .int .i64 (exp10 c s)]) ∧ Only (fun _ => False) w w' := by
  have HE := Lib.hid hE; clear hE
  have hb := hS.bounds (parts b h0 h1)
  have n0 := hb.n0; have n1 := hb.n1; have s0 := hb.s0; have s1 := hb.s1
  have hx : -999 ≤ exp10 c s ∧ exp10 c s ≤ 999 := by unfold exp10; omega
  have F := Lib.hid (fmt33 b (efgB c s) (efgB_ne c s) (fto_pos h0 h1 hS) w HE.out.1 HE.out.2)
  obtain ⟨T, hT⟩ : ∃ T : ByteArray, T = ⟨(efgB c s).toArray⟩ := ⟨_, rfl⟩
  rw [← hT] at F
  have hTd : T.data.toList = pointB c ++ 101 :: tailB (exp10 c s) := by rw [hT]; rfl
  obtain ⟨k, hk⟩ : ∃ k, k = (pointB c).length := ⟨_, rfl⟩
  obtain ⟨n, hn⟩ : ∃ n, n = T.size := ⟨_, rfl⟩
  have hpl := pointB_len c
  have htl := tailB_len (exp10 c s) hx
  have hnk : n = k + 1 + (tailB (exp10 c s)).length := by rw [hn, hT, ba_size]; unfold efgB; simp; omega
  have I := Lib.hid (fun w => Tryz.strings_IndexByte T 101 w)
  have hidx : Lib.indexByte T.data.toList (101 : Int).toNat.toUInt8 = (k : Int) := by rw [hTd, hk]; exact idx_at _ _ _ (pointB_not c)
  simp only [hidx] at I
  have x1 : T.extract (k + 1) n = ⟨(tailB (exp10 c s)).toArray⟩ := by
    rw [hT, ba_extract, hk, show n - ((pointB c).length + 1) = (tailB (exp10 c s)).length by rw [hnk, hk]; omega]; unfold efgB
    rw [cut_after]
  have x2 : T.extract 0 k = ⟨(pointB c).toArray⟩ := by
    rw [hT, ba_extract, hk]; unfold efgB
    simp
  have A := Lib.hid (fun w => Tryz.strconv_Atoi ⟨(tailB (exp10 c s)).toArray⟩ (exp10 c s) (by rw [ba_size]; omega) (atoi_tail _ hx) w)
  have R := Lib.hid (fun w => rep_calls c ⟨(pointB c).toArray⟩ w rfl n1)
  have hk2 : k ≤ 18 := by omega
  have hn2 : k + 1 ≤ n ∧ n ≤ 30 := by omega
  have HN := Lib.hid hn.symm
  have hsz : T.size = n := hn.symm
  clear hb hTd hk hn hpl htl hnk hidx hT hS
  generalize tailB (exp10 c s) = tl at *
  generalize exp10 c s = x at *
  go_enter Tryz.func25, Tryz.ntmps25
  go_wp2_with fail
  refine F.out.mono ?_
  rintro en w1 ⟨rfl, hO⟩
  have HO := Lib.hid hO; clear hO F
  go_wp2_with fail
  refine (I.out _).mono ?_
  rintro en w2 ⟨rfl, hw⟩; rw [hw]; clear hw w2 I
  go_wp2_with fail
  refine (A.out _).mono ?_
  rintro en w2 ⟨rfl, t, hw⟩
  have O2 : Only (fun _ => False) w w2 := by rw [hw]; exact bw_only HO.out t
  have HO2 := Lib.hid O2; clear O2 hw A
  go_wp2_with fail
  refine (R.out _).mono ?_
  rintro en w3 ⟨rfl, hO⟩
  have HO3 := Lib.hid (HO2.out.trans hO); clear hO
  go_wp2_with fail
  go_ret2
  first
    | exact ⟨rfl, HO3.out⟩
    | exact ⟨rfl, HO3.out.drewN _⟩
    | exact ⟨rfl, HO3.out.drew⟩
end Go.Proofs.YthjfdhkahmlolaaGreatDoor

/- laid: digits laid down by their exponent. -/
namespace Go.Proofs.YthjfdhkahmlolaaGreatDoor
open Go.RowKit Usc
/-- a decimal's text -/
def laidB (c : Nat) (e : Int) : List UInt8 :=
  if 0 ≤ e ∧ e ≤ 20 then (if (Lib.nDigits c : Int) ≤ e + 1 then Lib.decDigits c ++ List.replicate (e + 1 - Lib.nDigits c).toNat 48 else (Lib.decDigits c).take (e + 1).toNat ++ 46 :: (Lib.decDigits c).drop (e + 1).toNat)
  else if -6 ≤ e ∧ e < 0 then [48, 46] ++ List.replicate (-e - 1).toNat 48 ++ Lib.decDigits c
  else pointB c ++ 101 :: Lib.itoa e
theorem ba_append (a b : List UInt8) : (⟨a.toArray⟩ : ByteArray) ++ ⟨b.toArray⟩ = ⟨(a ++ b).toArray⟩ := by
  apply ByteArray.ext
  simp [ByteArray.data_append]
theorem rep_l (c : Nat) : Lib.repeatL [48] c = List.replicate c 48 := by
  induction c with
  | zero => rfl
  | succ c ih => simp_all [Lib.repeatL, List.replicate_succ]
theorem grow_only (w : World) (os : Array Obj) : Only (fun _ => False) w (Go.Sort.grow w os) :=
  ⟨rfl, rfl, rfl, by simp [Go.Sort.grow], fun k hk _ => by show (w.heap ++ os)[k]? = _; rw [Array.getElem?_append_left hk]⟩
theorem growN_only (w : World) (k : Nat) (os : Array Obj) : Only (fun _ => False) w (Go.Sort.grow (w.drewN k) os) := ((Only.refl _ w).drewN k).trans (grow_only _ os)
theorem itoa_len_fin : ∀ n : Fin 1000, (Lib.decDigits n.val).length ≤ 3 := by decide +kernel
theorem itoa_len (e : Int) (hx : -999 ≤ e ∧ e ≤ 999) : (Lib.itoa e).length ≤ 20 := by
  unfold Lib.itoa
  have h1 := itoa_len_fin ⟨e.natAbs, by omega⟩
  simp only at h1
  split
  · simp only [List.length_cons]; omega
  · rw [show e.toNat = e.natAbs by omega]; omega
set_option maxRecDepth 100000
theorem zeros_size (k : Nat) : (⟨(Lib.repeatL [48] k).toArray⟩ : ByteArray).size = k := by rw [ba_size, rep_l, List.length_replicate]
set_option maxHeartbeats 4000000 in
theorem laid_a (c : Nat) (e : Int) (w : World) (hn : Lib.nDigits c ≤ 17) (he : 0 ≤ e ∧ e ≤ 20) (h1 : (Lib.nDigits c : Int) ≤ e + 1) :
    Calls Tryz.prog 26 #[.string ⟨(Lib.decDigits c).toArray⟩, .int .i64 e] w fun en w' => en = .returned (.string ⟨(laidB c e).toArray⟩) ∧ Only (fun _ => False) w w' := by
  have hl := Lib.decDigits_length c
  have hr : laidB c e = Lib.decDigits c ++ List.replicate (e + 1 - Lib.nDigits c).toNat 48 := by unfold laidB; rw [if_pos he, if_pos h1]
  rw [hr]
  obtain ⟨S, hS⟩ : ∃ S : ByteArray, S = ⟨(Lib.decDigits c).toArray⟩ := ⟨_, rfl⟩
  have hz : S.size = Lib.nDigits c := by rw [hS, ba_size, hl]
  rw [← hS]
  obtain ⟨k, hk⟩ : ∃ k : Nat, (k : Int) = e + 1 - Lib.nDigits c := ⟨(e + 1 - Lib.nDigits c).toNat, by omega⟩
  obtain ⟨Z, hZ⟩ : ∃ Z : ByteArray, Z = ⟨(Lib.repeatL [48] k).toArray⟩ := ⟨_, rfl⟩
  have R := Lib.hid (Tryz.strings_Repeat ⟨#[48]⟩ k w (by omega) (by simp [ByteArray.size]; omega))
  rw [show (⟨#[48]⟩ : ByteArray).data.toList = [48] from rfl, ← hZ] at R
  have hz2 : Z.size = k := by rw [hZ, zeros_size]
  have hk2 : k ≤ 21 := by omega
  have hfin := Lib.hid (show S ++ Z = ⟨(Lib.decDigits c ++ List.replicate (e + 1 - Lib.nDigits c).toNat 48).toArray⟩ by
    rw [hS, hZ, ba_append, rep_l, show (e + 1 - (Lib.nDigits c : Int)).toNat = k by omega])
  have HK := Lib.hid hk
  clear hl hr hS hk hZ
  generalize Lib.nDigits c = n at *
  go_enter Tryz.func26, Tryz.ntmps26
  go_wp2_with fail
  rw [← HK.out]
  refine R.out.mono ?_
  rintro en w1 ⟨rfl, hO⟩
  have HO := Lib.hid hO; clear hO R
  go_wp2_with fail
  go_ret
  exact ⟨congrArg (fun z => Ending.returned (Value.string z)) hfin.out, Only.ofB HO.out⟩
set_option maxHeartbeats 4000000 in
theorem laid_b (c : Nat) (e : Int) (w : World) (hn : Lib.nDigits c ≤ 17) (he : 0 ≤ e ∧ e ≤ 20) (h1 : ¬ (Lib.nDigits c : Int) ≤ e + 1) :
    Calls Tryz.prog 26 #[.string ⟨(Lib.decDigits c).toArray⟩, .int .i64 e] w fun en w' => en = .returned (.string ⟨(laidB c e).toArray⟩) ∧ Only (fun _ => False) w w' := by
  have hl := Lib.decDigits_length c
  have hr : laidB c e = (Lib.decDigits c).take (e + 1).toNat ++ 46 :: (Lib.decDigits c).drop (e + 1).toNat := by unfold laidB; rw [if_pos he, if_neg h1]
  rw [hr]
  obtain ⟨S, hS⟩ : ∃ S : ByteArray, S = ⟨(Lib.decDigits c).toArray⟩ := ⟨_, rfl⟩
  have hz : S.size = Lib.nDigits c := by rw [hS, ba_size, hl]
  rw [← hS]
  obtain ⟨k, rfl⟩ : ∃ k : Nat, e = (k : Int) := ⟨e.toNat, by omega⟩
  have hfin := Lib.hid (show S.extract 0 (k + 1) ++ ⟨#[46]⟩ ++ S.extract (k + 1) (Lib.nDigits c) = ⟨((Lib.decDigits c).take ((k : Int) + 1).toNat ++ 46 :: (Lib.decDigits c).drop ((k : Int) + 1).toNat).toArray⟩ by
    rw [hS, ba_extract, ba_extract, show (⟨#[46]⟩ : ByteArray) = ⟨([46] : List UInt8).toArray⟩ from rfl, ba_append, ba_append, show ((k : Int) + 1).toNat = k + 1 by omega, ← hl]
    simp
    exact List.take_of_length_le (by simp))
  clear hl hr hS
  generalize Lib.nDigits c = n at *
  go_enter Tryz.func26, Tryz.ntmps26
  go_wp2_with fail
  go_quiet (fail)
  go_wp2_with fail
  go_ret
  first
    | exact ⟨congrArg (fun z => Ending.returned (Value.string z)) hfin.out, Only.refl _ _⟩
    | exact ⟨congrArg (fun z => Ending.returned (Value.string z)) hfin.out, (Only.refl _ _).drewN _⟩
set_option maxHeartbeats 4000000 in
theorem laid_c (c : Nat) (e : Int) (w : World) (hn : Lib.nDigits c ≤ 17) (he : -6 ≤ e ∧ e < 0) :
    Calls Tryz.prog 26 #[.string ⟨(Lib.decDigits c).toArray⟩, .int .i64 e] w fun en w' => en = .returned (.string ⟨(laidB c e).toArray⟩) ∧ Only (fun _ => False) w w' := by
  have hl := Lib.decDigits_length c
  have hr : laidB c e = [48, 46] ++ List.replicate (-e - 1).toNat 48 ++ Lib.decDigits c := by unfold laidB; rw [if_neg (by omega), if_pos he]
  rw [hr]
  obtain ⟨S, hS⟩ : ∃ S : ByteArray, S = ⟨(Lib.decDigits c).toArray⟩ := ⟨_, rfl⟩
  have hz : S.size = Lib.nDigits c := by rw [hS, ba_size, hl]
  rw [← hS]
  obtain ⟨k, hk⟩ : ∃ k : Nat, (k : Int) = -e - 1 := ⟨(-e - 1).toNat, by omega⟩
  obtain ⟨Z, hZ⟩ : ∃ Z : ByteArray, Z = ⟨(Lib.repeatL [48] k).toArray⟩ := ⟨_, rfl⟩
  have R := Lib.hid (Tryz.strings_Repeat ⟨#[48]⟩ k w (by omega) (by simp [ByteArray.size]; omega))
  rw [show (⟨#[48]⟩ : ByteArray).data.toList = [48] from rfl, ← hZ] at R
  have hz2 : Z.size = k := by rw [hZ, zeros_size]
  have hk2 : k ≤ 21 := by omega
  have hfin := Lib.hid (show (⟨#[48, 46]⟩ : ByteArray) ++ Z ++ S = ⟨([48, 46] ++ List.replicate (-e - 1).toNat 48 ++ Lib.decDigits c).toArray⟩ by
    rw [hS, hZ, show (⟨#[48, 46]⟩ : ByteArray) = ⟨([48, 46] : List UInt8).toArray⟩ from rfl, ba_append, ba_append, rep_l, show (-e - 1).toNat = k by omega])
  have HK := Lib.hid hk
  clear hl hr hS hk hZ
  generalize Lib.nDigits c = n at *
  go_enter Tryz.func26, Tryz.ntmps26
  go_wp2_with fail
  rw [← HK.out]
  refine R.out.mono ?_
  rintro en w1 ⟨rfl, hO⟩
  have HO := Lib.hid hO; clear hO R
  go_wp2_with fail
  go_ret
  exact ⟨congrArg (fun z => Ending.returned (Value.string z)) hfin.out, Only.ofB HO.out⟩
set_option maxHeartbeats 4000000 in
theorem laid_d (c : Nat) (e : Int) (w : World) (hU : Tab2 w) (hn : Lib.nDigits c ≤ 17) (he : ¬ (0 ≤ e ∧ e ≤ 20)) (he2 : ¬ (-6 ≤ e ∧ e < 0)) (hx : -999 ≤ e ∧ e ≤ 999) :
    Calls Tryz.prog 26 #[.string ⟨(Lib.decDigits c).toArray⟩, .int .i64 e] w fun en w' => en = .returned (.string ⟨(laidB c e).toArray⟩) ∧ Only (fun _ => False) w w' := by
  have hl := Lib.decDigits_length c
  have hn0 := Lib.nDigits_pos c
  have hpl := pointB_len c
  have hr : laidB c e = pointB c ++ 101 :: Lib.itoa e := by unfold laidB; rw [if_neg he, if_neg he2]
  rw [hr]
  obtain ⟨S, hS⟩ : ∃ S : ByteArray, S = ⟨(Lib.decDigits c).toArray⟩ := ⟨_, rfl⟩
  have hz : S.size = Lib.nDigits c := by rw [hS, ba_size, hl]
  rw [← hS]
  obtain ⟨Z, hZ⟩ : ∃ Z : ByteArray, Z = ⟨(Lib.itoa e).toArray⟩ := ⟨_, rfl⟩
  obtain ⟨Y, hY⟩ : ∃ Y : ByteArray, Y = ⟨(pointB c).toArray⟩ := ⟨_, rfl⟩
  have hy : Y.size ≤ 18 := by rw [hY, ba_size]; omega
  have hz2 : Z.size ≤ 20 := by rw [hZ, ba_size]; exact itoa_len e hx
  have hfin := Lib.hid (show Y ++ ⟨#[101]⟩ ++ Z = ⟨(pointB c ++ 101 :: Lib.itoa e).toArray⟩ by
    rw [hY, hZ, show (⟨#[101]⟩ : ByteArray) = ⟨([101] : List UInt8).toArray⟩ from rfl, ba_append, ba_append]; simp)
  have hmany : Lib.nDigits c ≠ 1 → S.extract 0 1 ++ ⟨#[46]⟩ ++ S.extract 1 (Lib.nDigits c) = Y := fun h => by
    obtain ⟨x, l, h1, h2, h3⟩ := pointB_many h
    rw [hS, hY, ba_extract, ba_extract, show (⟨#[46]⟩ : ByteArray) = ⟨([46] : List UInt8).toArray⟩ from rfl, ba_append, ba_append, h2, ← hl, h1]
    simp
  have hone : Lib.nDigits c = 1 → S = Y := fun h => by rw [hS, hY, pointB_one h]
  have HI := Lib.hid (fun w h => Tryz.strconv_Itoa e (by omega) (by omega) w h)
  rw [← hZ] at HI
  have HU := Lib.hid hU
  clear hl hpl hr hS hZ hY hU
  generalize Lib.nDigits c = n at *
  by_cases h1 : n = 1
  · have e1 := hone h1
    subst e1
    clear hmany hone
    subst h1
    rcases (by omega : e < -6 ∨ 20 < e) with hs | hs
    · clear he he2
      go_enter Tryz.func26, Tryz.ntmps26
      go_wp2_with fail
      refine (HI.out _ HU.out).mono ?_
      rintro en w1 ⟨rfl, k, os, hw⟩
      have HO := Lib.hid (show Only (fun _ => False) w w1 by rw [hw]; exact growN_only _ _ _)
      clear hw HI
      go_wp2_with fail
      go_ret
      exact ⟨congrArg (fun z => Ending.returned (Value.string z)) hfin.out, HO.out⟩
    · clear he he2
      go_enter Tryz.func26, Tryz.ntmps26
      go_wp2_with fail
      refine (HI.out _ HU.out).mono ?_
      rintro en w1 ⟨rfl, k, os, hw⟩
      have HO := Lib.hid (show Only (fun _ => False) w w1 by rw [hw]; exact growN_only _ _ _)
      clear hw HI
      go_wp2_with fail
      go_ret
      exact ⟨congrArg (fun z => Ending.returned (Value.string z)) hfin.out, HO.out⟩
  · have e1 := hmany h1
    clear hmany hone
    have hn2 : 2 ≤ n := by omega
    clear h1
    rcases (by omega : e < -6 ∨ 20 < e) with hs | hs
    · clear he he2
      go_enter Tryz.func26, Tryz.ntmps26
      go_wp2_with fail
      go_quiet (fail)
      go_wp2_with fail
      refine (HI.out _ (HU.out.still (S := fun _ => False) ((Only.refl _ w).drewN _) id)).mono ?_
      rintro en w1 ⟨rfl, k, os, hw⟩
      have HO := Lib.hid (show Only (fun _ => False) w w1 by rw [hw]; exact ((Only.refl _ w).drewN _).trans (growN_only _ _ _))
      clear hw HI
      go_wp2_with fail
      go_ret
      exact ⟨congrArg (fun z => Ending.returned (Value.string z)) hfin.out, HO.out⟩
    · clear he he2
      go_enter Tryz.func26, Tryz.ntmps26
      go_wp2_with fail
      go_quiet (fail)
      go_wp2_with fail
      refine (HI.out _ (HU.out.still (S := fun _ => False) ((Only.refl _ w).drewN _) id)).mono ?_
      rintro en w1 ⟨rfl, k, os, hw⟩
      have HO := Lib.hid (show Only (fun _ => False) w w1 by rw [hw]; exact ((Only.refl _ w).drewN _).trans (growN_only _ _ _))
      clear hw HI
      go_wp2_with fail
      go_ret
      exact ⟨congrArg (fun z => Ending.returned (Value.string z)) hfin.out, HO.out⟩
/-- laid, at every decimal -/
theorem laid_calls (c : Nat) (e : Int) (w : World) (hU : Tab2 w) (hn : Lib.nDigits c ≤ 17) (hx : -999 ≤ e ∧ e ≤ 999) :
    Calls Tryz.prog 26 #[.string ⟨(Lib.decDigits c).toArray⟩, .int .i64 e] w fun en w' => en = .returned (.string ⟨(laidB c e).toArray⟩) ∧ Only (fun _ => False) w w' := by
  by_cases he : 0 ≤ e ∧ e ≤ 20
  · by_cases h1 : (Lib.nDigits c : Int) ≤ e + 1
    · exact laid_a c e w hn he h1
    · exact laid_b c e w hn he h1
  · by_cases he2 : -6 ≤ e ∧ e < 0
    · exact laid_c c e w hn he2
    · exact laid_d c e w hU hn he he2 hx
end Go.Proofs.YthjfdhkahmlolaaGreatDoor
