/- The walk of the reference's Near. -/
import Derived.Test.YtgcjhdcplmfjbaaBgw4
import Derived.StillTailTactics
namespace Go.Proofs.Ytgcjhdcplmfjbaa.Bg
open Go.RowKit Flt

def apn (x y : Nat) : Nat := if x < y then y - x else x - y
theorem apn_lt {x y m : Nat} (hx : x < W m) (hy : y < W m) : apn x y < W m := by unfold apn; split <;> omega
theorem add_lt {x y m : Nat} (hx : x < W m) (hy : y < W m) : x + y < W (m + 1) := by rw [W_succ]; omega
theorem up_lt2 {x m k : Nat} (hx : x < W m) (hk : k ≤ 128) : x * 2 ^ k < W (m + 4) := by
  rw [W_add]
  have : 2 ^ k ≤ W 4 := by rw [W_two]; exact Nat.pow_le_pow_right (by omega) (by omega)
  exact Nat.mul_lt_mul_of_lt_of_le hx this (W_pos 4)
theorem mul64_lt {x n m : Nat} (hx : x < W m) (hn : n < 18446744073709551616) : x * n < W (m + 2) := by
  rw [W_add]
  have : n ≤ W 2 := by simp [W]; omega
  exact Nat.mul_lt_mul_of_lt_of_le hx this (W_pos 2)
theorem V_small' {g : Nat} (h : g < 9218868437227405312) (n : Nat) (hn : 70 ≤ n) : V g < W n := by
  obtain ⟨k, _, h2, h3⟩ := ex_le h
  unfold V
  rw [h3, W_two]
  have h4 := sig_lt g
  have h6 : sig g * 2 ^ k < 2 ^ 53 * 2 ^ k := Nat.mul_lt_mul_of_pos_right (by omega) (Nat.two_pow_pos k)
  have h7 : 2 ^ 53 * 2 ^ k ≤ 2 ^ (32 * n) := by rw [← Nat.pow_add]; exact Nat.pow_le_pow_right (by omega) (by omega)
  exact Nat.lt_of_lt_of_le h6 h7
theorem V_small {g : Nat} (h : g < 9218868437227405312) : V g < W 100 := V_small' h 100 (by omega)
/-- what Near tells -/
def nearB (X Y s k m : Nat) : Bool := !decide ((X + Y) * m * m * k + apn X Y * 2 ^ 53 < apn (addA (flip s) X) (addB (flip s) Y) * 2 ^ 106)
theorem exa_new {w : World} {b X Y : Nat} {va vb : Value} (h : Exa w b X Y va vb) : Exa (w.alloc (.cells #[va, vb] 51)) w.heap.size X Y va vb :=
  have O : Only (fun _ => False) w (w.alloc (.cells #[va, vb] 51)) := (Only.refl _ w).alloc _
  ⟨blk_new _ _, h.a.only O, h.b.only O⟩
set_option maxRecDepth 100000 in
set_option maxHeartbeats 40000000 in
theorem near_calls (s b X Y k m : Nat) (va vb : Value) (w : World) (h : Exa w b X Y va vb) (hs : s < 18446744073709551616) (fs : mag s < 9218868437227405312) (hk : k < 4294967296) (hm : m < 18446744073709551616) (bx : X < W 900) (by' : Y < W 900) :
    Calls Try.prog 26 #[.pointer (some ⟨b, 0, none⟩), .int .u64 (s : Nat), .int .u32 (k : Nat), .int .u64 (m : Nat)] w fun e w' => e = .returned (.bool (nearB X Y s k m)) ∧ Only (fun _ => False) w w' := by
  have H := Lib.hid h
  have hf : mag (flip s) < 9218868437227405312 := by rw [mag_flip _ hs]; exact fs
  have bV : V (mag (flip s)) < W 100 := V_small hf
  have HN := Lib.hid (negative_any s w.drew hs)
  have FL := Lib.hid (flip_lt s hs); have FM := Lib.hid hf; have BV := Lib.hid bV; have BX := Lib.hid bx; have BY := Lib.hid by'; have HK := Lib.hid hk; have HM := Lib.hid hm
  have hA := Lib.hid (show nearB X Y s k m = !decide ((X + Y) * m * m * k + apn X Y * 2 ^ 53 < apn (addA (flip s) X) (addB (flip s) Y) * 2 ^ 106) from rfl)
  generalize nearB X Y s k m = R at *
  obtain ⟨p1, n1, k1, rfl⟩ := h.a.sl
  obtain ⟨p2, n2, k2, rfl⟩ := h.b.sl
  obtain ⟨q0, q1, q2, q3⟩ := h.cells
  have h1 : Exa ((w.alloc (.cells #[.slice p1 n1 k1, .slice p2 n2 k2] 51)).drew) w.heap.size X Y (.slice p1 n1 k1) (.slice p2 n2 k2) := (exa_new h).only ((Only.refl (fun _ => False) _).drew) id (fun _ q => q.elim)
  have o0 := ((Only.refl (fun _ => False) w).alloc (.cells #[.slice p1 n1 k1, .slice p2 n2 k2] 51)).drew
  have H1 := Lib.hid h1
  have H0 := Lib.hid (h.only o0 id (fun _ q => q.elim))
  have O0 := Lib.hid o0
  clear h1 o0
  have L0 := Lib.hid (blk_lt h.blk)
  have BA := Lib.hid (add_lt bx (W_lt bV (show 100 ≤ 900 by omega)))
  have BB := Lib.hid (add_lt by' (W_lt bV (show 100 ≤ 900 by omega)))
  have HS := Lib.hid hs
  clear h hs fs hk hm bx by' hf bV
  go_enter Try.func26, Try.ntmps26
  go_wp2_with fail
  go_still_tail 9, (by kernel_rfl)
  change wpList _ _ _ _ _ (World.drew w)
  go_wp2_with fail
  generalize (w.alloc (.cells #[.slice p1 n1 k1, .slice p2 n2 k2] 51)).drew = w1 at *
  have L1 := Lib.hid (show w.heap.size ≤ w.heap.size from Nat.le_refl _)
  generalize hb1 : w.heap.size = b1 at *
  have HB1 := Lib.hid hb1
  clear hb1 q0 q1 q2 q3
  refine (negative_any s w1 HS.out).mono ?_
  rintro e w2 ⟨rfl, rfl⟩
  go_wp2_with fail
  refine (put_calls (flip s) b1 X Y _ _ w1 FL.out FM.out H1.out (W_lt BX.out (by omega)) (W_lt BY.out (by omega)) (W_lt BV.out (by omega))).mono ?_
  rintro e w2 ⟨va, vb, rfl, ha, O2⟩
  have O0' := Lib.hid (O0.out.seq2 O2 (by rintro i rfl; exact .inl (by rw [HB1.out]; omega)))
  have H0' := Lib.hid (H0.out.only O2 (fun e => by have := L0.out; omega) (fun q e => by subst e; exact ⟨_, _, _, _, H1.out⟩))
  have HA := Lib.hid ha
  clear O2 H0 O0 H1
  have AA := Lib.hid (show addA (flip s) X < W 901 by unfold addA; split; exact W_lt BX.out (by omega); exact BA.out)
  have AB := Lib.hid (show addB (flip s) Y < W 901 by unfold addB; split; exact BB.out; exact W_lt BY.out (by omega))
  clear BA BB BV FL FM
  generalize addA (flip s) X = AX at *
  generalize addB (flip s) Y = AY at *
  obtain ⟨p3, n3, k3, rfl⟩ := ha.a.sl
  obtain ⟨p4, n4, k4, rfl⟩ := ha.b.sl
  clear ha
  obtain ⟨q0, q1, q2, q3⟩ := HA.out.cells
  go_wp2_with fail
  go_still_tail 8, (by kernel_rfl)
  change wpList _ _ _ _ _ (World.drew w2)
  go_wp2_with fail
  have O2 := Lib.hid ((Only.refl (fun _ => False) w2).drew)
  refine (apart_calls _ _ _ AX AY (HA.out.a.only O2.out) (HA.out.b.only O2.out) (W_lt AA.out (by omega)) (W_lt AB.out (by omega))).mono ?_
  rintro e w3 ⟨v, rfl, hv, O3⟩
  have O3' := Lib.hid (O2.out.trans O3)
  have P3 := Lib.hid (O0'.out.trans O3'.out)
  have H3 := Lib.hid (H0'.out.only O3'.out id (fun _ q => q.elim))
  have V3 := Lib.hid hv
  clear O3 O2 O0' H0' O3' HA q0 q1 q2 q3
  obtain ⟨p5, n5, k5, d5, rfl, _⟩ := hv
  obtain ⟨q0, q1, q2, q3⟩ := H3.out.cells
  go_wp2_with fail
  go_still_tail 8, (by kernel_rfl)
  change wpList _ _ _ _ _ (World.drew w3)
  go_wp2_with fail
  have O2 := Lib.hid ((Only.refl (fun _ => False) w3).drew)
  refine (apart_calls _ _ _ X Y (H3.out.a.only O2.out) (H3.out.b.only O2.out) (W_lt BX.out (by omega)) (W_lt BY.out (by omega))).mono ?_
  rintro e w4 ⟨v, rfl, hv, O3⟩
  have O3' := Lib.hid (O2.out.trans O3)
  have P4 := Lib.hid (P3.out.trans O3'.out)
  have H4 := Lib.hid (H3.out.only O3'.out id (fun _ q => q.elim))
  have V3' := Lib.hid (V3.out.only O3'.out)
  have V4 := Lib.hid hv
  clear O3 O2 O3' P3 H3 V3 q0 q1 q2 q3
  obtain ⟨p6, n6, k6, d6, rfl, _⟩ := hv
  obtain ⟨q0, q1, q2, q3⟩ := H4.out.cells
  go_wp2_with fail
  go_still_tail 8, (by kernel_rfl)
  change wpList _ _ _ _ _ (World.drew w4)
  go_wp2_with fail
  have O2 := Lib.hid ((Only.refl (fun _ => False) w4).drew)
  refine (plus_calls _ _ _ X Y (H4.out.a.only O2.out) (H4.out.b.only O2.out) (W_lt BX.out (by omega)) (W_lt BY.out (by omega))).mono ?_
  rintro e w5 ⟨v, rfl, hv, O3⟩
  have O3' := Lib.hid (O2.out.trans O3)
  have P5 := Lib.hid (P4.out.trans O3'.out)
  have U3 := Lib.hid (V3'.out.only O3'.out)
  have U4 := Lib.hid (V4.out.only O3'.out)
  have U5 := Lib.hid hv
  have BXY := Lib.hid (add_lt BX.out BY.out)
  have BD := Lib.hid (apn_lt BX.out BY.out)
  have BE := Lib.hid (apn_lt AA.out AB.out)
  have hE : (if AX < AY then AY - AX else AX - AY) = apn AX AY := rfl
  have hD : (if X < Y then Y - X else X - Y) = apn X Y := rfl
  rw [hE] at U3
  rw [hD] at U4
  clear O3 O2 O3' P4 H4 V3' V4 q0 q1 q2 q3 hE hD BX BY AA AB
  generalize apn AX AY = E at *
  generalize apn X Y = D at *
  generalize X + Y = S at *
  obtain ⟨p7, n7, k7, d7, rfl, _⟩ := hv
  go_wp2_with fail
  refine (by_calls _ _ S m U5.out (W_lt BXY.out (by omega)) HM.out).mono ?_
  rintro e w6 ⟨v, rfl, hv, O3⟩
  have P6 := Lib.hid (P5.out.trans O3)
  have T3 := Lib.hid (U3.out.only O3)
  have T4 := Lib.hid (U4.out.only O3)
  have T5 := Lib.hid hv
  have B1 := Lib.hid (mul64_lt BXY.out HM.out)
  clear O3 P5 U3 U4 U5 BXY
  obtain ⟨p8, n8, k8, d8, rfl, _⟩ := hv
  go_wp2_with fail
  refine (by_calls _ _ (S * m) m T5.out (W_lt B1.out (by omega)) HM.out).mono ?_
  rintro e w7 ⟨v, rfl, hv, O3⟩
  have P7 := Lib.hid (P6.out.trans O3)
  have U3 := Lib.hid (T3.out.only O3)
  have U4 := Lib.hid (T4.out.only O3)
  have U5 := Lib.hid hv
  have B2 := Lib.hid (mul64_lt B1.out HM.out)
  clear O3 P6 T3 T4 T5 B1
  obtain ⟨p8, n8, k8, d8, rfl, _⟩ := hv
  go_wp2_with fail
  refine (times_calls _ _ (S * m * m) k U5.out (W_lt B2.out (by omega)) HK.out).mono ?_
  rintro e w8 ⟨v, rfl, hv, O3⟩
  have P8 := Lib.hid (P7.out.trans O3)
  have T3 := Lib.hid (U3.out.only O3)
  have T4 := Lib.hid (U4.out.only O3)
  have T5 := Lib.hid hv
  have B3 := Lib.hid (mul64_lt B2.out (show k < 18446744073709551616 by have := HK.out; omega))
  clear O3 P7 U3 U4 U5 B2
  obtain ⟨p8, n8, k8, d8, rfl, _⟩ := hv
  go_wp2_with fail
  refine (up_calls _ _ D 53 T4.out (W_lt BD.out (by omega)) (by omega)).mono ?_
  rintro e w9 ⟨v, rfl, hv, O3⟩
  have P9 := Lib.hid (P8.out.trans O3)
  have U3 := Lib.hid (T3.out.only O3)
  have U5 := Lib.hid (T5.out.only O3)
  have U4 := Lib.hid hv
  have B4 := Lib.hid (up_lt2 BD.out (show 53 ≤ 128 by omega))
  clear O3 P8 T3 T4 T5 BD
  obtain ⟨p9, n9, k9, d9, rfl, _⟩ := hv
  go_wp2_with fail
  refine (plus_calls _ _ _ (S * m * m * k) (D * 2 ^ 53) U5.out U4.out (W_lt B3.out (by omega)) (W_lt B4.out (by omega))).mono ?_
  rintro e w10 ⟨v, rfl, hv, O3⟩
  have P10 := Lib.hid (P9.out.trans O3)
  have T3 := Lib.hid (U3.out.only O3)
  have T5 := Lib.hid hv
  clear O3 P9 U3 U5 U4 B3 B4
  obtain ⟨p9, n9, k9, d9, rfl, _⟩ := hv
  go_wp2_with fail
  refine (up_calls _ _ E 106 T3.out (W_lt BE.out (by omega)) (by omega)).mono ?_
  rintro e w11 ⟨v, rfl, hv, O3⟩
  have P11 := Lib.hid (P10.out.trans O3)
  have U5 := Lib.hid (T5.out.only O3)
  have U3 := Lib.hid hv
  clear O3 P10 T3 T5 BE
  obtain ⟨p9, n9, k9, d9, rfl, _⟩ := hv
  go_wp2_with fail
  refine (greater_calls _ _ _ (E * 2 ^ 106) (S * m * m * k + D * 2 ^ 53) U3.out U5.out).mono ?_
  rintro e w12 ⟨rfl, O3⟩
  have P12 := Lib.hid (P11.out.trans O3)
  clear O3 P11 U3 U5
  generalize decide (S * m * m * k + D * 2 ^ 53 < E * 2 ^ 106) = Q at *
  go_wp2_with fail
  go_ret
  exact ⟨by rw [hA.out]; rfl, P12.out⟩
end Go.Proofs.Ytgcjhdcplmfjbaa.Bg
