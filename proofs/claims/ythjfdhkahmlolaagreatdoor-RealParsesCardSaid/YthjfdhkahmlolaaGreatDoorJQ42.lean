/- The reference's Digits: what they are, where they begin. Printed by gen_ntk.py. -/
import Derived.Test.YthjfdhkahmlolaaGreatDoorJQ41
import Derived.Test.YthjfdhkahmlolaaGreatDoorJQ35
namespace Go.Proofs.YthjfdhkahmlolaaGreatDoor
open Go.RowKit Usc
set_option maxRecDepth 100000
def DgR (w0 : World) (b : Nat) (e : Int) (v4 : Value) (w : World) : Prop :=
  ∃ n : Nat, v4 = .int .i64 (n : Int) ∧ 1 ≤ n ∧ n ≤ 18 ∧ (n = 1 ∨ ¬ ∃ k, Rd b k (e - n + 2)) ∧ Only (fun _ => False) w0 w
def DzR (w0 : World) (c0 : Nat) (s0 : Int) (v5 v10 : Value) (w : World) : Prop :=
  ∃ i c : Nat, v10 = .int .u64 (c : Int) ∧ v5 = .int .i64 (s0 + i) ∧ 10 ^ i * c = c0 ∧ 1 ≤ c ∧ c ≤ c0 ∧ i ≤ 20 ∧ w = w0
theorem side_calls' {b c : Nat} {s cv : Int} (w : World) (e : cv = (c : Int)) (h0 : 1 ≤ b) (hb : b < 9218868437227405312) (hc : c < 18446744073709551616) (hs : -5000 ≤ s ∧ s ≤ 5000) :
    Calls Tryz.prog 44 #[.int .u64 (b : Int), .int .u64 cv, .int .i64 s] w fun en w' => en = .returned (.int .i64 (sideV b c s)) ∧ Only (fun _ => False) w w' := by
  subst e; exact side_calls b c s w h0 hb hc hs
theorem rd_pos {b : Nat} {c : Nat} {s : Int} (h : Rd b c s) : 1 ≤ c := by
  rcases Nat.eq_zero_or_pos c with e | e
  · exfalso
    subst e
    have h1 := h.le.1
    have h2 : 0 < mid (b - 1) := Nat.mul_pos (by omega) (Nat.two_pow_pos _)
    have h3 : 0 < mid (b - 1) * 10 ^ (-s).toNat := Nat.mul_pos h2 (Nat.pow_pos (by decide))
    simp at h1
    omega
  · exact e
theorem dz_step {i c c0 : Nat} (h : 10 ^ i * c = c0) (hm : c % 10 = 0) (h1 : 1 ≤ c) (hc : c0 ≤ 100000000000000000) : 10 ^ (i + 1) * (c / 10) = c0 ∧ 1 ≤ c / 10 ∧ c / 10 ≤ c0 ∧ i + 1 ≤ 20 := by
  have e : c = 10 * (c / 10) := by omega
  have h2 : 10 ^ (i + 1) * (c / 10) = c0 := by rw [Nat.pow_succ, Nat.mul_assoc, ← e]; exact h
  have h3 : 1 ≤ c / 10 := by omega
  refine ⟨h2, h3, ?_, ?_⟩
  · rw [← h2]; exact Nat.le_mul_of_pos_left _ (Nat.pow_pos (by decide))
  · rcases Nat.lt_or_ge 20 (i + 1) with g | g
    · exfalso
      have h4 : 10 ^ 20 ≤ 10 ^ (i + 1) := Nat.pow_le_pow_right (by decide) (by omega)
      have h5 : 10 ^ 20 * 1 ≤ 10 ^ (i + 1) * (c / 10) := Nat.mul_le_mul h4 h3
      rw [show (10 : Nat) ^ 20 * 1 = 100000000000000000000 by decide] at h5
      omega
    · exact g
set_option maxHeartbeats 16000000 in
theorem digitsR_calls (b : Nat) (w : World) (h0 : 1 ≤ b) (hb : b < 9218868437227405312) :
    Calls Tryz.prog 39 #[.int .u64 (b : Int)] w fun en w' => ∃ (c : Nat) (s : Int), Sh b c s ∧ en = .returned (.tuple #[.int .u64 (c : Int), .int .i64 (exp10 c s)]) ∧ Only (fun _ => False) w w' := by
  have H := parts b h0 hb
  have HS := Lib.hid H
  have TC := Lib.hid (top_calls b w h0 hb)
  have RC := Lib.hid (fun s w hs hX => ratio_calls b s w h0 hb hs hX)
  have SC := Lib.hid (fun c s cv w e hc hs => side_calls' (b := b) (c := c) (s := s) (cv := cv) w e h0 hb hc hs)
  have SI := Lib.hid (fun c s => (side_iff H hb c s).1)
  have HT := Lib.hid (fun s => hit_iff H hb s)
  have PR := Lib.hid (fun s (h : ∃ k, Rd b k s) => rd_pos (pk_rd H hb h))
  have SH := Lib.hid (fun e s ht hit hf i c hc h10 => pick_sh H hb (e := e) (s := s) ht hit hf (i := i) (c := c) hc h10)
  have NX := Lib.hid (fun s hs => hit_row H (s := s) hs)
  have TR := Lib.hid (fun e h => top_range H hb (e := e) h)
  have QS := Lib.hid (fun e h n hn => q_small (b := b) (e := e) h n hn)
  clear H
  go_enter Tryz.func39, Tryz.ntmps39
  go_wp2_with fail
  refine TC.out.mono ?_; rintro en w1 ⟨e, rfl, ht, e1, e2, hO⟩; have HTE := Lib.hid ht; have HO1 := Lib.hid hO; clear ht hO TC
  go_wp2_with fail
  go_loopw [5] (fun v4 wr => DgR w b e v4 wr) (fun v4 _ => 19 - (intOf v4).toNat)
  case atStart => exact ⟨1, rfl, Nat.le_refl _, by decide, .inl rfl, HO1.out⟩
  case round =>
    obtain ⟨n, rfl, n1, n2, hf, hO⟩ := hrel
    have HF := Lib.hid hf; have HO := Lib.hid hO; clear hf hO
    by_cases hn : n = 18
    · exfalso
      subst hn
      rcases HF.out with h | h
      · omega
      · exact h (NX.out _ (by have := (TR.out e HTE.out).2.1; omega))
    · have t1 : decide ((n : Int) ≤ 17) = true := decide_eq_true (by omega)
      obtain ⟨s, hs⟩ : ∃ s : Int, s = e - n + 1 := ⟨_, rfl⟩
      have hsb : -5000 ≤ s ∧ s ≤ 5000 := by omega
      have q := QS.out e HTE.out n (by omega)
      rw [← hs] at q
      have hqb := q.1
      have HQX := Lib.hid q.2
      have hf2 : s = e ∨ ¬ ∃ k, Rd b k (s + 1) := by
        rcases HF.out with h | h
        · exact .inl (by omega)
        · exact .inr (by rw [show s + 1 = e - n + 2 by omega]; exact h)
      have HF2 := Lib.hid hf2
      have PK := Lib.hid (show pkV b s = if ¬ Rd b (qV b s) s ∨ (Rd b (qV b s + 1) s ∧ (0 < hV b s ∨ (hV b s = 0 ∧ qV b s % 2 = 1))) then qV b s + 1 else qV b s from rfl)
      have RCC := Lib.hid (fun w => RC.out s w hsb HQX.out)
      rw [show xV b s / yV b s = qV b s from rfl, show cmp3 (xV b s % yV b s * 2) (yV b s) = hV b s from rfl] at RCC
      have HIT := Lib.hid (HT.out s)
      have S1 := Lib.hid (fun w => SC.out (qV b s) s _ w rfl (by omega) hsb)
      have S2 := Lib.hid (fun w => SC.out (qV b s + 1) s ((qV b s : Int) + 1) w (by omega) (by omega) hsb)
      have I1 := SI.out (qV b s) s
      have I2 := SI.out (qV b s + 1) s
      have PRs := Lib.hid (PR.out s)
      have SHs := Lib.hid (fun hit i c hc h10 => SH.out e s HTE.out hit HF2.out i c hc h10)
      clear q hf2 RC SC SI HT PR SH NX TR QS
      generalize qV b s = Q at *
      generalize hV b s = HH at *
      generalize sideV b Q s = A1 at *
      generalize sideV b (Q + 1) s = A2 at *
      subst hs
      go_wp2_with fail
      refine (RCC.out _).mono ?_; rintro en w2 ⟨rfl, hO⟩; have HO2 := Lib.hid (HO.out.trans hO); clear hO RCC HO
      go_wp2_with fail
      refine (S1.out _).mono ?_; rintro en w3 ⟨rfl, hO⟩; have HO3 := Lib.hid (HO2.out.trans hO); clear hO S1 HO2
      go_wp2_with fail
      refine (S2.out _).mono ?_; rintro en w4 ⟨rfl, hO⟩; have HO4 := Lib.hid (HO3.out.trans hO); clear hO S2 HO3
      have IA := Lib.hid I1; have IB := Lib.hid I2; clear I1 I2
      by_cases o : Rd b Q (e - n + 1)
      · have u1 : (A1 == 0) = true := by rw [beq_iff_eq]; exact IA.out.2 o
        have hitx := Lib.hid (HIT.out.2 (.inl o))
        by_cases t : Rd b (Q + 1) (e - n + 1)
        · have u2 : (A2 == 0) = true := by rw [beq_iff_eq]; exact IB.out.2 t
          by_cases hp : 0 < HH
          · have pk : pkV b (e - n + 1) = Q + 1 := by rw [PK.out, if_pos (.inr ⟨t, .inl hp⟩)]
            have u3 : decide (0 < HH) = true := decide_eq_true hp
            have PKK := Lib.hid pk; have C1 := PRs.out hitx.out; rw [pk] at C1; clear pk
            clear o t
            go_wp2_with fail
            go_loopw [6, 11] (fun v5 v10 wr => DzR w4 (Q + 1) (e - n + 1) v5 v10 wr) (fun _ v10 _ => (intOf v10).toNat)
            case atStart => exact ⟨0, Q + 1, congrArg (Value.int .u64) (by omega), congrArg (Value.int .i64) (by omega), by simp, C1, Nat.le_refl _, by decide, rfl⟩
            case round =>
              obtain ⟨i, c, rfl, rfl, hi, c1, c2, i2, hw⟩ := hrel
              rw [hw]; clear hw
              have HI := Lib.hid hi; clear hi
              by_cases hm : c % 10 = 0
              · have u9 : ((c : Int) % 10 == 0) = true := by rw [beq_iff_eq]; omega
                have dz := dz_step HI.out hm c1 (by omega)
                have DZ := Lib.hid dz
                clear hm dz
                go_wp2_with fail
                exact ⟨⟨i + 1, c / 10, congrArg (Value.int .u64) (by omega), congrArg (Value.int .i64) (by omega), DZ.out.1, DZ.out.2.1, DZ.out.2.2.1, DZ.out.2.2.2, rfl⟩, by simp only [intOf]; omega⟩
              · have u9 : ((c : Int) % 10 == 0) = false := by rw [beq_eq_false_iff_ne]; omega
                have HM := Lib.hid hm
                obtain ⟨S, hS⟩ : ∃ S : ByteArray, S = ⟨(Lib.decDigits c).toArray⟩ := ⟨_, rfl⟩
                have hz : S.size = Lib.nDigits c := by rw [hS, bsz, Lib.decDigits_length]
                have hnd : Lib.nDigits c ≤ 20 := by have := nd20 (N := c) (by omega); rwa [Lib.decDigits_length] at this
                have NC := Lib.hid (fun w => number_calls c w (by omega))
                rw [← hS] at NC
                have HX := Lib.hid (show exp10 c (e - n + 1 + i) = (Lib.nDigits c : Int) + (e - n + 1 + i) - 1 from rfl)
                clear hm hS
                generalize Lib.nDigits c = d at *
                go_wp2_with fail
                refine (NC.out _).mono ?_; rintro en w5 ⟨rfl, hO⟩; have HO5 := Lib.hid (HO4.out.trans hO); clear hO NC
                go_wp2_with fail
                go_ret2
                refine ⟨c, e - n + 1 + i, SHs.out hitx.out i c (by rw [PKK.out]; exact HI.out) HM.out, ?_, HO5.out⟩
                rw [HX.out]
                rw [show ((d : Int) + (e - n + 1 + i) - 1) = e - n + 1 + i + d - 1 by omega]
                rfl
          · have u3 : decide (0 < HH) = false := decide_eq_false hp
            by_cases hz : HH = 0
            · have u4 : (HH == 0) = true := by rw [beq_iff_eq]; exact hz
              by_cases hq : Q % 2 = 1
              · have pk : pkV b (e - n + 1) = Q + 1 := by rw [PK.out, if_pos (.inr ⟨t, .inr ⟨hz, hq⟩⟩)]
                have u5 : ((Q : Int) % 2 == 1) = true := by rw [beq_iff_eq]; omega
                have PKK := Lib.hid pk; have C1 := PRs.out hitx.out; rw [pk] at C1; clear pk
                clear o t
                go_wp2_with fail
                go_loopw [6, 11] (fun v5 v10 wr => DzR w4 (Q + 1) (e - n + 1) v5 v10 wr) (fun _ v10 _ => (intOf v10).toNat)
                case atStart => exact ⟨0, Q + 1, congrArg (Value.int .u64) (by omega), congrArg (Value.int .i64) (by omega), by simp, C1, Nat.le_refl _, by decide, rfl⟩
                case round =>
                  obtain ⟨i, c, rfl, rfl, hi, c1, c2, i2, hw⟩ := hrel
                  rw [hw]; clear hw
                  have HI := Lib.hid hi; clear hi
                  by_cases hm : c % 10 = 0
                  · have u9 : ((c : Int) % 10 == 0) = true := by rw [beq_iff_eq]; omega
                    have dz := dz_step HI.out hm c1 (by omega)
                    have DZ := Lib.hid dz
                    clear hm dz
                    go_wp2_with fail
                    exact ⟨⟨i + 1, c / 10, congrArg (Value.int .u64) (by omega), congrArg (Value.int .i64) (by omega), DZ.out.1, DZ.out.2.1, DZ.out.2.2.1, DZ.out.2.2.2, rfl⟩, by simp only [intOf]; omega⟩
                  · have u9 : ((c : Int) % 10 == 0) = false := by rw [beq_eq_false_iff_ne]; omega
                    have HM := Lib.hid hm
                    obtain ⟨S, hS⟩ : ∃ S : ByteArray, S = ⟨(Lib.decDigits c).toArray⟩ := ⟨_, rfl⟩
                    have hz : S.size = Lib.nDigits c := by rw [hS, bsz, Lib.decDigits_length]
                    have hnd : Lib.nDigits c ≤ 20 := by have := nd20 (N := c) (by omega); rwa [Lib.decDigits_length] at this
                    have NC := Lib.hid (fun w => number_calls c w (by omega))
                    rw [← hS] at NC
                    have HX := Lib.hid (show exp10 c (e - n + 1 + i) = (Lib.nDigits c : Int) + (e - n + 1 + i) - 1 from rfl)
                    clear hm hS
                    generalize Lib.nDigits c = d at *
                    go_wp2_with fail
                    refine (NC.out _).mono ?_; rintro en w5 ⟨rfl, hO⟩; have HO5 := Lib.hid (HO4.out.trans hO); clear hO NC
                    go_wp2_with fail
                    go_ret2
                    refine ⟨c, e - n + 1 + i, SHs.out hitx.out i c (by rw [PKK.out]; exact HI.out) HM.out, ?_, HO5.out⟩
                    rw [HX.out]
                    rw [show ((d : Int) + (e - n + 1 + i) - 1) = e - n + 1 + i + d - 1 by omega]
                    rfl
              · have pk : pkV b (e - n + 1) = Q := by rw [PK.out, if_neg (by rintro (h | ⟨_, h | ⟨_, h⟩⟩); exact h o; exact hp h; exact hq h)]
                have u5 : ((Q : Int) % 2 == 1) = false := by rw [beq_eq_false_iff_ne]; omega
                have PKK := Lib.hid pk; have C1 := PRs.out hitx.out; rw [pk] at C1; clear pk
                clear o t
                go_wp2_with fail
                go_loopw [6, 11] (fun v5 v10 wr => DzR w4 (Q) (e - n + 1) v5 v10 wr) (fun _ v10 _ => (intOf v10).toNat)
                case atStart => exact ⟨0, Q, congrArg (Value.int .u64) (by omega), congrArg (Value.int .i64) (by omega), by simp, C1, Nat.le_refl _, by decide, rfl⟩
                case round =>
                  obtain ⟨i, c, rfl, rfl, hi, c1, c2, i2, hw⟩ := hrel
                  rw [hw]; clear hw
                  have HI := Lib.hid hi; clear hi
                  by_cases hm : c % 10 = 0
                  · have u9 : ((c : Int) % 10 == 0) = true := by rw [beq_iff_eq]; omega
                    have dz := dz_step HI.out hm c1 (by omega)
                    have DZ := Lib.hid dz
                    clear hm dz
                    go_wp2_with fail
                    exact ⟨⟨i + 1, c / 10, congrArg (Value.int .u64) (by omega), congrArg (Value.int .i64) (by omega), DZ.out.1, DZ.out.2.1, DZ.out.2.2.1, DZ.out.2.2.2, rfl⟩, by simp only [intOf]; omega⟩
                  · have u9 : ((c : Int) % 10 == 0) = false := by rw [beq_eq_false_iff_ne]; omega
                    have HM := Lib.hid hm
                    obtain ⟨S, hS⟩ : ∃ S : ByteArray, S = ⟨(Lib.decDigits c).toArray⟩ := ⟨_, rfl⟩
                    have hz : S.size = Lib.nDigits c := by rw [hS, bsz, Lib.decDigits_length]
                    have hnd : Lib.nDigits c ≤ 20 := by have := nd20 (N := c) (by omega); rwa [Lib.decDigits_length] at this
                    have NC := Lib.hid (fun w => number_calls c w (by omega))
                    rw [← hS] at NC
                    have HX := Lib.hid (show exp10 c (e - n + 1 + i) = (Lib.nDigits c : Int) + (e - n + 1 + i) - 1 from rfl)
                    clear hm hS
                    generalize Lib.nDigits c = d at *
                    go_wp2_with fail
                    refine (NC.out _).mono ?_; rintro en w5 ⟨rfl, hO⟩; have HO5 := Lib.hid (HO4.out.trans hO); clear hO NC
                    go_wp2_with fail
                    go_ret2
                    refine ⟨c, e - n + 1 + i, SHs.out hitx.out i c (by rw [PKK.out]; exact HI.out) HM.out, ?_, HO5.out⟩
                    rw [HX.out]
                    rw [show ((d : Int) + (e - n + 1 + i) - 1) = e - n + 1 + i + d - 1 by omega]
                    rfl
            · have u4 : (HH == 0) = false := by rw [beq_eq_false_iff_ne]; exact hz
              have pk : pkV b (e - n + 1) = Q := by rw [PK.out, if_neg (by rintro (h | ⟨_, h | ⟨h, _⟩⟩); exact h o; exact hp h; exact hz h)]
              have PKK := Lib.hid pk; have C1 := PRs.out hitx.out; rw [pk] at C1; clear pk
              clear o t
              go_wp2_with fail
              go_loopw [6, 11] (fun v5 v10 wr => DzR w4 (Q) (e - n + 1) v5 v10 wr) (fun _ v10 _ => (intOf v10).toNat)
              case atStart => exact ⟨0, Q, congrArg (Value.int .u64) (by omega), congrArg (Value.int .i64) (by omega), by simp, C1, Nat.le_refl _, by decide, rfl⟩
              case round =>
                obtain ⟨i, c, rfl, rfl, hi, c1, c2, i2, hw⟩ := hrel
                rw [hw]; clear hw
                have HI := Lib.hid hi; clear hi
                by_cases hm : c % 10 = 0
                · have u9 : ((c : Int) % 10 == 0) = true := by rw [beq_iff_eq]; omega
                  have dz := dz_step HI.out hm c1 (by omega)
                  have DZ := Lib.hid dz
                  clear hm dz
                  go_wp2_with fail
                  exact ⟨⟨i + 1, c / 10, congrArg (Value.int .u64) (by omega), congrArg (Value.int .i64) (by omega), DZ.out.1, DZ.out.2.1, DZ.out.2.2.1, DZ.out.2.2.2, rfl⟩, by simp only [intOf]; omega⟩
                · have u9 : ((c : Int) % 10 == 0) = false := by rw [beq_eq_false_iff_ne]; omega
                  have HM := Lib.hid hm
                  obtain ⟨S, hS⟩ : ∃ S : ByteArray, S = ⟨(Lib.decDigits c).toArray⟩ := ⟨_, rfl⟩
                  have hz : S.size = Lib.nDigits c := by rw [hS, bsz, Lib.decDigits_length]
                  have hnd : Lib.nDigits c ≤ 20 := by have := nd20 (N := c) (by omega); rwa [Lib.decDigits_length] at this
                  have NC := Lib.hid (fun w => number_calls c w (by omega))
                  rw [← hS] at NC
                  have HX := Lib.hid (show exp10 c (e - n + 1 + i) = (Lib.nDigits c : Int) + (e - n + 1 + i) - 1 from rfl)
                  clear hm hS
                  generalize Lib.nDigits c = d at *
                  go_wp2_with fail
                  refine (NC.out _).mono ?_; rintro en w5 ⟨rfl, hO⟩; have HO5 := Lib.hid (HO4.out.trans hO); clear hO NC
                  go_wp2_with fail
                  go_ret2
                  refine ⟨c, e - n + 1 + i, SHs.out hitx.out i c (by rw [PKK.out]; exact HI.out) HM.out, ?_, HO5.out⟩
                  rw [HX.out]
                  rw [show ((d : Int) + (e - n + 1 + i) - 1) = e - n + 1 + i + d - 1 by omega]
                  rfl
        · have u2 : (A2 == 0) = false := by rw [beq_eq_false_iff_ne]; exact fun h => t (IB.out.1 h)
          have pk : pkV b (e - n + 1) = Q := by rw [PK.out, if_neg (by rintro (h | ⟨h, _⟩); exact h o; exact t h)]
          have PKK := Lib.hid pk; have C1 := PRs.out hitx.out; rw [pk] at C1; clear pk
          clear o t
          go_wp2_with fail
          go_loopw [6, 11] (fun v5 v10 wr => DzR w4 (Q) (e - n + 1) v5 v10 wr) (fun _ v10 _ => (intOf v10).toNat)
          case atStart => exact ⟨0, Q, congrArg (Value.int .u64) (by omega), congrArg (Value.int .i64) (by omega), by simp, C1, Nat.le_refl _, by decide, rfl⟩
          case round =>
            obtain ⟨i, c, rfl, rfl, hi, c1, c2, i2, hw⟩ := hrel
            rw [hw]; clear hw
            have HI := Lib.hid hi; clear hi
            by_cases hm : c % 10 = 0
            · have u9 : ((c : Int) % 10 == 0) = true := by rw [beq_iff_eq]; omega
              have dz := dz_step HI.out hm c1 (by omega)
              have DZ := Lib.hid dz
              clear hm dz
              go_wp2_with fail
              exact ⟨⟨i + 1, c / 10, congrArg (Value.int .u64) (by omega), congrArg (Value.int .i64) (by omega), DZ.out.1, DZ.out.2.1, DZ.out.2.2.1, DZ.out.2.2.2, rfl⟩, by simp only [intOf]; omega⟩
            · have u9 : ((c : Int) % 10 == 0) = false := by rw [beq_eq_false_iff_ne]; omega
              have HM := Lib.hid hm
              obtain ⟨S, hS⟩ : ∃ S : ByteArray, S = ⟨(Lib.decDigits c).toArray⟩ := ⟨_, rfl⟩
              have hz : S.size = Lib.nDigits c := by rw [hS, bsz, Lib.decDigits_length]
              have hnd : Lib.nDigits c ≤ 20 := by have := nd20 (N := c) (by omega); rwa [Lib.decDigits_length] at this
              have NC := Lib.hid (fun w => number_calls c w (by omega))
              rw [← hS] at NC
              have HX := Lib.hid (show exp10 c (e - n + 1 + i) = (Lib.nDigits c : Int) + (e - n + 1 + i) - 1 from rfl)
              clear hm hS
              generalize Lib.nDigits c = d at *
              go_wp2_with fail
              refine (NC.out _).mono ?_; rintro en w5 ⟨rfl, hO⟩; have HO5 := Lib.hid (HO4.out.trans hO); clear hO NC
              go_wp2_with fail
              go_ret2
              refine ⟨c, e - n + 1 + i, SHs.out hitx.out i c (by rw [PKK.out]; exact HI.out) HM.out, ?_, HO5.out⟩
              rw [HX.out]
              rw [show ((d : Int) + (e - n + 1 + i) - 1) = e - n + 1 + i + d - 1 by omega]
              rfl
      · have u1 : (A1 == 0) = false := by rw [beq_eq_false_iff_ne]; exact fun h => o (IA.out.1 h)
        by_cases t : Rd b (Q + 1) (e - n + 1)
        · have u2 : (A2 == 0) = true := by rw [beq_iff_eq]; exact IB.out.2 t
          have hitx := Lib.hid (HIT.out.2 (.inr t))
          have pk : pkV b (e - n + 1) = Q + 1 := by rw [PK.out, if_pos (.inl o)]
          have PKK := Lib.hid pk; have C1 := PRs.out hitx.out; rw [pk] at C1; clear pk
          clear o t
          go_wp2_with fail
          go_loopw [6, 11] (fun v5 v10 wr => DzR w4 (Q + 1) (e - n + 1) v5 v10 wr) (fun _ v10 _ => (intOf v10).toNat)
          case atStart => exact ⟨0, Q + 1, congrArg (Value.int .u64) (by omega), congrArg (Value.int .i64) (by omega), by simp, C1, Nat.le_refl _, by decide, rfl⟩
          case round =>
            obtain ⟨i, c, rfl, rfl, hi, c1, c2, i2, hw⟩ := hrel
            rw [hw]; clear hw
            have HI := Lib.hid hi; clear hi
            by_cases hm : c % 10 = 0
            · have u9 : ((c : Int) % 10 == 0) = true := by rw [beq_iff_eq]; omega
              have dz := dz_step HI.out hm c1 (by omega)
              have DZ := Lib.hid dz
              clear hm dz
              go_wp2_with fail
              exact ⟨⟨i + 1, c / 10, congrArg (Value.int .u64) (by omega), congrArg (Value.int .i64) (by omega), DZ.out.1, DZ.out.2.1, DZ.out.2.2.1, DZ.out.2.2.2, rfl⟩, by simp only [intOf]; omega⟩
            · have u9 : ((c : Int) % 10 == 0) = false := by rw [beq_eq_false_iff_ne]; omega
              have HM := Lib.hid hm
              obtain ⟨S, hS⟩ : ∃ S : ByteArray, S = ⟨(Lib.decDigits c).toArray⟩ := ⟨_, rfl⟩
              have hz : S.size = Lib.nDigits c := by rw [hS, bsz, Lib.decDigits_length]
              have hnd : Lib.nDigits c ≤ 20 := by have := nd20 (N := c) (by omega); rwa [Lib.decDigits_length] at this
              have NC := Lib.hid (fun w => number_calls c w (by omega))
              rw [← hS] at NC
              have HX := Lib.hid (show exp10 c (e - n + 1 + i) = (Lib.nDigits c : Int) + (e - n + 1 + i) - 1 from rfl)
              clear hm hS
              generalize Lib.nDigits c = d at *
              go_wp2_with fail
              refine (NC.out _).mono ?_; rintro en w5 ⟨rfl, hO⟩; have HO5 := Lib.hid (HO4.out.trans hO); clear hO NC
              go_wp2_with fail
              go_ret2
              refine ⟨c, e - n + 1 + i, SHs.out hitx.out i c (by rw [PKK.out]; exact HI.out) HM.out, ?_, HO5.out⟩
              rw [HX.out]
              rw [show ((d : Int) + (e - n + 1 + i) - 1) = e - n + 1 + i + d - 1 by omega]
              rfl
        · have u2 : (A2 == 0) = false := by rw [beq_eq_false_iff_ne]; exact fun h => t (IB.out.1 h)
          have NH := Lib.hid (show ¬ ∃ k, Rd b k (e - n + 1) from fun h => (HIT.out.1 h).elim o t)
          clear o t
          go_wp2_with fail
          exact ⟨⟨n + 1, congrArg (Value.int .i64) (by omega), by omega, by omega, .inr (by rw [show e - ((n + 1 : Nat) : Int) + 2 = e - n + 1 by omega]; exact NH.out), HO4.out⟩, by simp only [intOf]; omega⟩
end Go.Proofs.YthjfdhkahmlolaaGreatDoor
