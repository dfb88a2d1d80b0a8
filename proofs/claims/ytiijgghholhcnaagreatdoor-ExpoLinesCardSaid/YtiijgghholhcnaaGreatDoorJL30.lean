/- ftoa64 at any finite float above 0. -/
import Derived.Test.YtiijgghholhcnaaGreatDoorJL28
import Derived.Test.YtiijgghholhcnaaGreatDoorJL29
namespace Go.Proofs.YtiijgghholhcnaaGreatDoor.Re
open Go.RowKit Usc
/-- what ftoa64 tells of a float above 0 -/
def FtoaPost (b B : Nat) (d0 : Value) (w : World) (e : Ending) (w' : World) : Prop := ∃ v, e = .returned v ∧ ∃ c s, Sh b c s ∧ Ap w B d0 v (Lib.byteCells (efgB c s)) w'
theorem strip_of {b D N k bb : Nat} {Q : Int} {w : World} (H : Parts b) (hD : sfd (mB b) (eB b) = D) (hQ : sfq (mB b) (eB b) = Q) (hN : Lib.nDigits D = N) (hk : k < N) (h1 : 10 ^ k ∣ D) (h2 : D / 10 ^ k % 10 ≠ 0) (h3 : Bytes w bb N (fun t => Lib.dg D (N - 1 - t))) :
    ∃ c s, Sh b c s ∧ (((N - k : Nat) : Nat) : Int) = (Lib.nDigits c : Int) ∧ N - k = Lib.nDigits c ∧ (∀ t u, ((Lib.decDigits c).map ch8)[t]? = some u → w.cell? ⟨bb, t, none⟩ = some u) ∧ (N : Int) + Q = (Lib.nDigits c : Int) + s := by
  obtain ⟨c, rfl⟩ := h1
  have hp : 0 < 10 ^ k := Nat.pow_pos (by decide)
  rw [Nat.mul_div_cancel_left _ hp] at h2
  have hS : Sh b c (Q + k) := ⟨k, hD.symm, by rw [hQ], h2⟩
  have hb := hS.bounds H
  have hn := nDigits_pow k c hb.c0
  rw [hN] at hn
  refine ⟨c, Q + k, hS, by omega, by omega, fun t u hu => ?_, by omega⟩
  rw [List.getElem?_map] at hu
  have ht : t < Lib.nDigits c := by
    rcases Nat.lt_or_ge t (Lib.nDigits c) with g | g
    · exact g
    · rw [List.getElem?_eq_none (by rw [Lib.decDigits_length]; exact g)] at hu; cases hu
  rw [dg_at k c t hb.c0 ht, hN] at hu
  have hu' : ch8 (Lib.dg (10 ^ k * c) (N - 1 - t)) = u := by simpa using hu
  rw [(h3 t (by omega)).1, ← hu']
  rfl
theorem and_mask (k m : Nat) (h : m < 2 ^ 64) (hk : k ≤ 63) : bits BinOp.and IntKind.u64 (m : Int) ((2 ^ k - 1 : Nat) : Int) = ((m % 2 ^ k : Nat) : Int) := by
  have h1 : (2 : Nat) ^ k ≤ 2 ^ 63 := Nat.pow_le_pow_right (by decide) hk
  have := u64_and_nat m (2 ^ k - 1) h (by omega)
  rw [this, Nat.and_two_pow_sub_one_eq_mod]
theorem and_2047 (m : Nat) (h : m < 2048) : bits BinOp.and IntKind.i64 (m : Int) 2047 = (m : Int) := by
  have : ∀ n : Fin 2048, bits BinOp.and IntKind.i64 ((n.val : Nat) : Int) 2047 = ((n.val : Nat) : Int) := by decide +kernel
  exact this ⟨m, h⟩
theorem or_52 (m : Nat) (h : m < 4503599627370496) : bits BinOp.or IntKind.u64 (m : Int) 4503599627370496 = ((m + 4503599627370496 : Nat) : Int) := by
  have := u64_or_nat m 4503599627370496 (by omega) (by decide)
  rw [show ((4503599627370496 : Int)) = ((4503599627370496 : Nat) : Int) from rfl, this]
  congr 1
  have h2 := Nat.two_pow_add_eq_or_of_lt (i := 52) (b := m) (by rw [show (2 : Nat) ^ 52 = 4503599627370496 by decide]; exact h) 1
  rw [show (2 : Nat) ^ 52 * 1 = 4503599627370496 by decide] at h2
  rw [Nat.add_comm, h2, Nat.or_comm]
set_option maxRecDepth 100000
set_option maxHeartbeats 4000000 in
theorem ftoa_norm (b : Nat) (B : Nat) (d0 : Value) (w : World) (hT : Tab w) (hU : Tab2 w) (hB : B ≤ w.heap.size) (ho : w.ownsRow B 5 1 d0 0 []) (hb : 4503599627370496 ≤ b) (hb2 : b < 9218868437227405312) : Calls Tryz.prog 207 #[d0, .float .f64 b, .int .u8 101, .int .i64 (-1)] w fun e w' => FtoaPost b B d0 w e w' := by
  have HT := Lib.hid hT; have HU := Lib.hid hU; have HO := Lib.hid ho; have HB := Lib.hid hB
  clear hT hU ho hB
  have hf := run_fbits b
  have a0 : ((b : Int) / 9223372036854775808 != 0) = false := by rw [show (b : Int) / 9223372036854775808 = 0 by omega]; rfl
  obtain ⟨E, hE⟩ : ∃ E, E = b / 4503599627370496 := ⟨_, rfl⟩
  obtain ⟨F, hF⟩ : ∃ F, F = b % 4503599627370496 := ⟨_, rfl⟩
  have a1 : bits BinOp.and IntKind.i64 ((b : Int) / 4503599627370496) 2047 = E := by rw [show (b : Int) / 4503599627370496 = (E : Int) by omega]; exact and_2047 E (by omega)
  have a2 : bits BinOp.and IntKind.u64 (b : Int) 4503599627370495 = F := by rw [hF]; exact and_mask 52 b (by omega) (by decide)
  have a3 : bits BinOp.or IntKind.u64 (F : Int) 4503599627370496 = ((mantB b : Nat) : Int) := by
    rw [or_52 F (by omega)]; congr 1; unfold mantB; rw [if_neg (by omega), hF]
  have hE1 : 1 ≤ E ∧ E ≤ 2046 := by omega
  have e1 : ((E : Int) == 2047) = false := by rw [beq_eq_false_iff_ne]; omega
  have e2 : ((E : Int) == 0) = false := by rw [beq_eq_false_iff_ne]; omega
  have H := parts b (by omega) hb2
  have e3 : (((mantB b : Nat) : Int) == 0) = false := by rw [beq_eq_false_iff_ne]; have := H.m1; omega
  have hM := H.m2
  have hL := (H.nrm hb).2
  have hE2 : exB b = E := by unfold exB; rw [if_neg (by omega), hE]
  have hz := mB_bounds H
  have s1 : IntKind.u64.wrap (((mantB b : Nat) : Int) * 2 ^ zB b) = ((mB b : Nat) : Int) := by
    have h1 := Nat.two_pow_pos (zB b)
    have h2 := hz.2.1
    have h3 : (((mantB b : Nat) : Int) * 2 ^ zB b) = ((mB b : Nat) : Int) := by unfold mB; push_cast; rfl
    rw [h3]
    generalize mB b = q at *
    exact wrap_u64 (by omega) (by omega)
  have z1 : ∀ L : Nat, L = Lib.bitLen (mantB b) → (64 : Int) - (L : Int) = ((zB b : Nat) : Int) := fun L h => by
    have := H.l4; unfold zB; omega
  have ze : (E : Int) + -1023 - ((zB b : Nat) : Int) - 52 = eB b := by unfold eB; rw [hE2]; omega
  have zc : -1085 ≤ eB b ∨ (eB b = -1074 - ((zB b : Nat) : Int) ∧ 12 ≤ zB b ∧ zB b ≤ 63) := .inl (by unfold eB zB; rw [hE2, hL]; omega)
  have ZE := Lib.hid ze; have ZC := Lib.hid zc; clear ze zc
  have HS1 := Lib.hid s1; have HZ := Lib.hid hz; have Z1 := Lib.hid z1
  clear s1 hz z1
  have HH := Lib.hid H; have HL := Lib.hid hL; have HE2 := Lib.hid hE2; have HE := Lib.hid hE; have HF := Lib.hid hF
  clear H hL hE2 hE hF
  go_enter Tryz.func207, Tryz.ntmps207
  go_wp2_with fail
  go_quiet (fail)
  go_wp2_with fail
  refine (Tryz.bits_Len64 (mantB b) _ (by omega) (by omega)).mono ?_
  rintro en w1 ⟨rfl, hw⟩; rw [hw]; clear hw w1
  rw [Int.toNat_natCast]
  have hLl := HH.out.l4
  have z1 := Z1.out _ rfl
  have hzz := HZ.out.2.2
  have s1 := HS1.out
  generalize Lib.bitLen (mantB b) = L at *
  generalize zB b = z at *
  go_wp2_with fail
  rw [show (E : Int) + -1023 - (z : Int) - 52 = eB b from ZE.out]
  have OA : ∀ n, Only (fun _ => False) w ((w.drewN n).alloc (.cells zeros32 228)) := fun n => ((Only.refl _ w).drewN n).alloc _
  have BA : ∀ n, ((w.drewN n).alloc (.cells zeros32 228)).heap[w.heap.size]? = some (.cells zeros32 228 (0, 0)) := fun n => blk_new (w.drewN n) _
  have HOA := Lib.hid OA; have HBA := Lib.hid BA
  clear OA BA
  refine (sf_calls (mB b) z (eB b) _ (HT.out.still (HOA.out _) id) (sfok HH.out) ZC.out).mono ?_
  rintro en w2 ⟨rfl, O2⟩
  have O2' := (HOA.out _).trans O2
  have B2 := O2.blk (HBA.out _) id
  have HW2 := Lib.hid (blk_lt B2); have HO2 := Lib.hid O2'; have HB2 := Lib.hid B2
  clear O2 O2' B2 HOA HBA
  obtain ⟨g1, g2, _⟩ := short HH.out
  have g3 := sfq_bound HH.out
  have KD := Lib.hid (show sfd (mB b) (eB b) = sfd (mB b) (eB b) from rfl)
  have KQ := Lib.hid (show sfq (mB b) (eB b) = sfq (mB b) (eB b) from rfl)
  generalize hD : sfd (mB b) (eB b) = D at KD g1 g2 ⊢
  generalize hQ : sfq (mB b) (eB b) = Q at KQ g3 ⊢
  have hn0 := Lib.nDigits_pos D
  have hnl := Lib.lt_pow_nDigits D
  have hn17 : Lib.nDigits D ≤ 17 := nDig_le g1 g2
  have HD := Lib.hid hD; have HQ := Lib.hid hQ
  have ND := Lib.hid (fun n => Tryz.internal_strconv_numDigits D (by omega) (by omega) (w2.drewN n) (HU.out.still (HO2.out.drewN n) id))
  have DC := Lib.hid (fun n => digits_calls w.heap.size (Lib.nDigits D) D Q (fun _ => 0) (w2.drewN n) (fun t ht => ⟨(blk_cell (w := w2.drewN n) HB2.out t).trans (zeros32_at t ht), blk_free (w := w2.drewN n) HB2.out t⟩) (by omega) hnl (by omega) (by omega) (by omega))
  clear HB2 hD hQ KD KQ hnl z1 s1
  generalize hN : Lib.nDigits D = N at *
  have HN := Lib.hid hN
  clear hN
  go_wp2_with fail
  go_region_law (first
    | (go_simp; go_at_call 109; refine (ND.out 1).mono ?_; rintro en w3 ⟨rfl, hw⟩; rw [hw]; clear hw w3)
    | (go_simp; go_at_call 234; refine (DC.out 1).mono ?_; rintro en w4 ⟨⟨k, hk, rfl, hdv, hne⟩, O4, B4⟩; have HO4 := Lib.hid ((HO2.out.drewN 1).seq2 (S := fun _ => False) O4 (fun i hi => .inl (by rw [hi]; exact Nat.le_refl _))); have HW := Lib.hid (Nat.lt_of_lt_of_le HW2.out O4.size); have HB4 := Lib.hid B4; have HDV := Lib.hid hdv; have HNE := Lib.hid hne; clear hdv hne O4 B4 DC ND))
  go_wp2_with fail
  have h1 := HDV.out; have h2 := HNE.out; have h3 := HB4.out
  clear HDV HNE HB4
  obtain ⟨c, s, hc, hN1, hN2, hcells, hdp⟩ := strip_of (w := w4) (bb := w.heap.size) HH.out HD.out HQ.out HN.out hk h1 h2 h3
  rw [hN1, hdp, show max ((Lib.nDigits c : Int) - 1) 0 = (Lib.nDigits c : Int) - 1 by omega]
  refine (efg_cs B w.heap.size c s d0 w4 (Nat.le_trans HB.out HO4.out.size) (own_keepS HO.out HO4.out (fun _ _ h => h)) (hc.bounds HH.out) hcells HW.out (fun h => by have := (HO.out.lt _ h).2; omega)).mono ?_
  rintro en w5 ⟨v, rfl, hA⟩
  have hA' := Lib.hid (hA.out.after HO4.out (fun _ _ h => h))
  have HC := Lib.hid hc
  clear hc hN1 hN2 hcells hdp hA h1 h2 h3
  go_wp2_with fail
  go_ret
  exact ⟨_, rfl, _, _, HC.out, hA'.out⟩
set_option maxHeartbeats 4000000 in
theorem ftoa_subn (b : Nat) (B : Nat) (d0 : Value) (w : World) (hT : Tab w) (hU : Tab2 w) (hB : B ≤ w.heap.size) (ho : w.ownsRow B 5 1 d0 0 []) (hb : 1 ≤ b) (hb2 : b < 4503599627370496) : Calls Tryz.prog 207 #[d0, .float .f64 b, .int .u8 101, .int .i64 (-1)] w fun e w' => FtoaPost b B d0 w e w' := by
  have HT := Lib.hid hT; have HU := Lib.hid hU; have HO := Lib.hid ho; have HB := Lib.hid hB
  clear hT hU ho hB
  have hf := run_fbits b
  have a0 : ((b : Int) / 9223372036854775808 != 0) = false := by rw [show (b : Int) / 9223372036854775808 = 0 by omega]; rfl
  have a1 : bits BinOp.and IntKind.i64 ((b : Int) / 4503599627370496) 2047 = 0 := by rw [show (b : Int) / 4503599627370496 = 0 by omega]; exact and_2047 0 (by omega)
  have H := parts b hb (by omega)
  have a2 : bits BinOp.and IntKind.u64 (b : Int) 4503599627370495 = ((mantB b : Nat) : Int) := by rw [(H.sub hb2).1]; exact (and_mask 52 b (by omega) (by decide)).trans (by rw [Nat.mod_eq_of_lt (by exact hb2)])
  have e3 : (((mantB b : Nat) : Int) == 0) = false := by rw [beq_eq_false_iff_ne]; have := H.m1; omega
  have hM := H.m2
  have hL := (H.sub hb2).2.2
  have hE2 := (H.sub hb2).2.1
  have hz := mB_bounds H
  have s1 : IntKind.u64.wrap (((mantB b : Nat) : Int) * 2 ^ zB b) = ((mB b : Nat) : Int) := by
    have h1 := Nat.two_pow_pos (zB b)
    have h2 := hz.2.1
    have h3 : (((mantB b : Nat) : Int) * 2 ^ zB b) = ((mB b : Nat) : Int) := by unfold mB; push_cast; rfl
    rw [h3]
    generalize mB b = q at *
    exact wrap_u64 (by omega) (by omega)
  have z1 : ∀ L : Nat, L = Lib.bitLen (mantB b) → (64 : Int) - (L : Int) = ((zB b : Nat) : Int) := fun L h => by
    have := H.l4; unfold zB; omega
  have ze : -1022 - ((zB b : Nat) : Int) - 52 = eB b := by unfold eB; rw [hE2]; omega
  have zc : -1085 ≤ eB b ∨ (eB b = -1074 - ((zB b : Nat) : Int) ∧ 12 ≤ zB b ∧ zB b ≤ 63) := .inr ⟨by unfold eB; rw [hE2]; omega, by unfold zB; omega, by unfold zB; have := H.l3; omega⟩
  have ZE := Lib.hid ze; have ZC := Lib.hid zc; clear ze zc
  have HS1 := Lib.hid s1; have HZ := Lib.hid hz; have Z1 := Lib.hid z1
  clear s1 hz z1
  have HH := Lib.hid H; have HL := Lib.hid hL; have HE2 := Lib.hid hE2
  clear H hL hE2
  go_enter Tryz.func207, Tryz.ntmps207
  go_wp2_with fail
  go_quiet (fail)
  go_wp2_with fail
  refine (Tryz.bits_Len64 (mantB b) _ (by omega) (by omega)).mono ?_
  rintro en w1 ⟨rfl, hw⟩; rw [hw]; clear hw w1
  rw [Int.toNat_natCast]
  have hLl := HH.out.l4
  have z1 := Z1.out _ rfl
  have hzz := HZ.out.2.2
  have s1 := HS1.out
  generalize Lib.bitLen (mantB b) = L at *
  generalize zB b = z at *
  go_wp2_with fail
  rw [show -1022 - (z : Int) - 52 = eB b from ZE.out]
  have OA : ∀ n, Only (fun _ => False) w ((w.drewN n).alloc (.cells zeros32 228)) := fun n => ((Only.refl _ w).drewN n).alloc _
  have BA : ∀ n, ((w.drewN n).alloc (.cells zeros32 228)).heap[w.heap.size]? = some (.cells zeros32 228 (0, 0)) := fun n => blk_new (w.drewN n) _
  have HOA := Lib.hid OA; have HBA := Lib.hid BA
  clear OA BA
  refine (sf_calls (mB b) z (eB b) _ (HT.out.still (HOA.out _) id) (sfok HH.out) ZC.out).mono ?_
  rintro en w2 ⟨rfl, O2⟩
  have O2' := (HOA.out _).trans O2
  have B2 := O2.blk (HBA.out _) id
  have HW2 := Lib.hid (blk_lt B2); have HO2 := Lib.hid O2'; have HB2 := Lib.hid B2
  clear O2 O2' B2 HOA HBA
  obtain ⟨g1, g2, _⟩ := short HH.out
  have g3 := sfq_bound HH.out
  have KD := Lib.hid (show sfd (mB b) (eB b) = sfd (mB b) (eB b) from rfl)
  have KQ := Lib.hid (show sfq (mB b) (eB b) = sfq (mB b) (eB b) from rfl)
  generalize hD : sfd (mB b) (eB b) = D at KD g1 g2 ⊢
  generalize hQ : sfq (mB b) (eB b) = Q at KQ g3 ⊢
  have hn0 := Lib.nDigits_pos D
  have hnl := Lib.lt_pow_nDigits D
  have hn17 : Lib.nDigits D ≤ 17 := nDig_le g1 g2
  have HD := Lib.hid hD; have HQ := Lib.hid hQ
  have ND := Lib.hid (fun n => Tryz.internal_strconv_numDigits D (by omega) (by omega) (w2.drewN n) (HU.out.still (HO2.out.drewN n) id))
  have DC := Lib.hid (fun n => digits_calls w.heap.size (Lib.nDigits D) D Q (fun _ => 0) (w2.drewN n) (fun t ht => ⟨(blk_cell (w := w2.drewN n) HB2.out t).trans (zeros32_at t ht), blk_free (w := w2.drewN n) HB2.out t⟩) (by omega) hnl (by omega) (by omega) (by omega))
  clear HB2 hD hQ KD KQ hnl z1 s1
  generalize hN : Lib.nDigits D = N at *
  have HN := Lib.hid hN
  clear hN
  go_wp2_with fail
  go_region_law (first
    | (go_simp; go_at_call 109; refine (ND.out 1).mono ?_; rintro en w3 ⟨rfl, hw⟩; rw [hw]; clear hw w3)
    | (go_simp; go_at_call 234; refine (DC.out 1).mono ?_; rintro en w4 ⟨⟨k, hk, rfl, hdv, hne⟩, O4, B4⟩; have HO4 := Lib.hid ((HO2.out.drewN 1).seq2 (S := fun _ => False) O4 (fun i hi => .inl (by rw [hi]; exact Nat.le_refl _))); have HW := Lib.hid (Nat.lt_of_lt_of_le HW2.out O4.size); have HB4 := Lib.hid B4; have HDV := Lib.hid hdv; have HNE := Lib.hid hne; clear hdv hne O4 B4 DC ND))
  go_wp2_with fail
  have h1 := HDV.out; have h2 := HNE.out; have h3 := HB4.out
  clear HDV HNE HB4
  obtain ⟨c, s, hc, hN1, hN2, hcells, hdp⟩ := strip_of (w := w4) (bb := w.heap.size) HH.out HD.out HQ.out HN.out hk h1 h2 h3
  rw [hN1, hdp, show max ((Lib.nDigits c : Int) - 1) 0 = (Lib.nDigits c : Int) - 1 by omega]
  refine (efg_cs B w.heap.size c s d0 w4 (Nat.le_trans HB.out HO4.out.size) (own_keepS HO.out HO4.out (fun _ _ h => h)) (hc.bounds HH.out) hcells HW.out (fun h => by have := (HO.out.lt _ h).2; omega)).mono ?_
  rintro en w5 ⟨v, rfl, hA⟩
  have hA' := Lib.hid (hA.out.after HO4.out (fun _ _ h => h))
  have HC := Lib.hid hc
  clear hc hN1 hN2 hcells hdp hA h1 h2 h3
  go_wp2_with fail
  go_ret
  exact ⟨_, rfl, _, _, HC.out, hA'.out⟩
theorem ftoa_pos (b : Nat) (h0 : 1 ≤ b) (h1 : b < 9218868437227405312) (B : Nat) (d0 : Value) (w : World) (hT : Tab w) (hU : Tab2 w) (hB : B ≤ w.heap.size) (ho : w.ownsRow B 5 1 d0 0 []) : Calls Tryz.prog 207 #[d0, .float .f64 b, .int .u8 101, .int .i64 (-1)] w fun e w' => FtoaPost b B d0 w e w' := by
  rcases Nat.lt_or_ge b 4503599627370496 with h | h
  · exact ftoa_subn b B d0 w hT hU hB ho h0 h
  · exact ftoa_norm b B d0 w hT hU hB ho h h1
end Go.Proofs.YtiijgghholhcnaaGreatDoor.Re
