/- The walk of shortFloat at subnormal floats, and at all (printed by gen_sub.py). -/
import Derived.Test.YtiijgghholhcnaaGreatDoorJL18
namespace Go.Proofs.YtiijgghholhcnaaGreatDoor.Re
open Go.RowKit

theorem shl_u64 (k : Nat) (h : k < 64) : IntKind.u64.wrap ((2 : Int) ^ k) = ((2 ^ k : Nat) : Int) := by
  have h1 : (2 : Nat) ^ k ≤ 2 ^ 63 := Nat.pow_le_pow_right (by decide) (by omega)
  have h2 : (2 : Nat) ^ 63 = 9223372036854775808 := by decide
  have h3 : ((2 : Int) ^ k) = ((2 ^ k : Nat) : Int) := by rw [Int.natCast_pow]; rfl
  rw [h3]
  rw [h2] at h1
  generalize (2 : Nat) ^ k = P at *
  exact wrap_u64 (by omega) (by omega)
set_option maxRecDepth 100000 in
set_option maxHeartbeats 4000000 in
theorem sf_sub (m z : Nat) (e : Int) (w : World) (hT : Tab w) (H : SfOk m e) (he : e = -1074 - (z : Int)) (hz : 12 ≤ z ∧ z ≤ 63) :
    Calls Tryz.prog 239 #[.int .u64 m, .int .i64 e] w fun en w' => en = .returned (.tuple #[.int .u64 (sfd m e), .int .i64 (sfq m e)]) ∧ Only (fun _ => False) w w' := by
  have hsz : sfz e = z := by unfold sfz; rw [if_neg (by omega)]; omega
  have hs : sfskew m e = false := by unfold sfskew; rw [decide_eq_false (p := e > -1085) (by omega)]; simp
  have hp : sfp m e = -((e + z) * 78913 / 262144) := by unfold sfp; rw [hs, hsz]; rfl
  have hmin : sfmin m e = m - 2 ^ (z - 1) := by unfold sfmin; rw [hs, hsz]; rfl
  have hmax : sfmax m e = m + 2 ^ (z - 1) := by unfold sfmax; rw [hsz]
  have hodd : sfodd m e = m / 2 ^ z % 2 := by unfold sfodd; rw [hsz]
  have hm1 := H.m1
  rw [hmax] at hm1
  have hm0 := H.m0
  have HT := Lib.hid hT; have HH := Lib.hid H; have HP := Lib.hid hp; have HMIN := Lib.hid hmin; have HMAX := Lib.hid hmax; have HODD := Lib.hid hodd
  have he0 := H.e0
  have t2 : decide (e ≥ -1085) = false := decide_eq_false (by omega)
  have t3 : decide (e > -1085) = false := decide_eq_false (by omega)
  have z1 : 11 + (-1085 - e) = z := by omega
  clear hT H hp hmin hmax hodd hs
  have HE := Lib.hid he
  clear he
  have P := Nat.pow_le_pow_right (show 0 < 2 by decide) (show z - 1 ≤ 62 by omega)
  rw [show (2 : Nat) ^ 62 = 4611686018427387904 by decide] at P
  have EM := Lib.hid (show IntKind.u64.wrap ((m : Int) - IntKind.u64.wrap (2 ^ (z - 1))) = ((sfmin m e : Nat) : Int) by
    rw [shl_u64 (z - 1) (by omega), HMIN.out]
    generalize 2 ^ (z - 1) = T at *
    rw [wrap_u64 (by omega) (by omega)]; omega)
  have EX := Lib.hid (show IntKind.u64.wrap ((m : Int) + IntKind.u64.wrap (2 ^ (z - 1))) = ((sfmax m e : Nat) : Int) by
    rw [shl_u64 (z - 1) (by omega), HMAX.out]
    generalize 2 ^ (z - 1) = T at *
    rw [wrap_u64 (by omega) (by omega)]; omega)
  have EO := Lib.hid (show bits BinOp.and IntKind.i64 (wrap64 ((m : Int) / 2 ^ z)) 1 = ((sfodd m e : Nat) : Int) by
    have h1 : m / 2 ^ z < 9223372036854775808 := by
      have h2 : (2 : Nat) ^ 1 ≤ 2 ^ z := Nat.pow_le_pow_right (by decide) (by omega)
      have h3 : m / 2 ^ z ≤ m / 2 ^ 1 := Nat.div_le_div_left h2 (by decide)
      have h4 : m < 18446744073709551616 := Nat.lt_of_le_of_lt (Nat.le_add_right _ _) hm1
      generalize m / 2 ^ z = T at *
      omega
    have h4 : ((m : Int) / 2 ^ z) = ((m / 2 ^ z : Nat) : Int) := by rw [Int.natCast_ediv, Int.natCast_pow]; rfl
    rw [h4, HODD.out]
    generalize m / 2 ^ z = T at *
    rw [show wrap64 (T : Int) = T from by unfold wrap64; omega]
    exact and_1i T h1)
  have HM1 := Lib.hid hm1
  clear P hm1
  obtain ⟨Q, hQ⟩ : ∃ Q, Q = (e + z) * 78913 / 262144 := ⟨_, rfl⟩
  have L1 := Lib.hid (fun w => l10_calls (e + z) w (by omega) (by omega))
  rw [← hQ] at L1
  have hPQ : sfp m e = -Q := by rw [HP.out, hQ]
  have hp0 := HH.out.p0
  rw [hPQ] at hp0
  have L2 := Lib.hid (fun w => l2_calls (-Q) w (by omega) (by omega))
  obtain ⟨LP, hLP⟩ : ∃ LP, LP = -Q * 108853 / 32768 := ⟨_, rfl⟩
  rw [← hLP] at L2
  have hLPb : -2000 ≤ LP ∧ LP ≤ 2000 := by omega
  have hs0 := HH.out.s0
  have hS : sfs m e = -(e + LP + 3) := by unfold sfs; rw [hPQ, hLP]
  rw [hS] at hs0
  have HPQ := Lib.hid hPQ; have HS := Lib.hid hS
  clear hQ hPQ hLP hS HP
  have hb : ((m : Int) == 9223372036854775808) = false ∨ ((m : Int) == 9223372036854775808) = true := by cases ((m : Int) == 9223372036854775808) <;> simp
  rcases hb with hb | hb
  · go_enter Tryz.func239, Tryz.ntmps239
    go_wp2_with fail
    refine (L1.out _).mono ?_
    rintro en w1 ⟨rfl, hw⟩; rw [hw]; clear hw w1 L1
    go_wp2_with fail
    refine (L2.out _).mono ?_
    rintro en w1 ⟨rfl, hw⟩; rw [hw]; clear hw w1 L2
    go_wp2_with fail
    have n13 : w.heap.size ≠ 12 := by
      obtain ⟨x, _, h2, _⟩ := HT.out.row 0 (by omega)
      have := World.block_lt_of_cell? w ⟨12, 0 * 2, none⟩ h2
      have h3 : 12 < w.heap.size := this
      omega
    refine (prescale_calls w.heap.size e (-Q) LP _ _ _ _ (HT.out.still ((Only.refl (fun _ => False) w).alloc _) id) hp0 (by omega) (by omega) (blk_new _ _) n13).mono ?_
    rintro en w1 ⟨rfl, B1, O1⟩
    obtain ⟨sN, hsN⟩ : ∃ sN : Nat, -(e + LP + 3) = sN := ⟨(-(e + LP + 3)).toNat, by omega⟩
    rw [hsN] at B1
    have hsl : sN < 64 := by omega
    have hU : ∀ x, uscaleN x (th (-Q)) (tl (-Q)) sN = sfu m e x := fun x => by unfold sfu; rw [HPQ.out, HS.out, hsN]; rfl
    have US := Lib.hid (fun (x : Nat) (hx : x < 18446744073709551616) (w2 : World) (hw : Still w1 w2) => uscale_calls x (th (-Q)) (tl (-Q)) sN w.heap.size w2 hx (th_lt _).1 (th_lt _).2 hsl (by rw [hw.heap]; exact B1))
    have OO := Lib.hid (show Only (fun _ => False) w w1 from ((Only.refl (fun _ => False) w).alloc (.cells #[.int .u64 0, .int .u64 0, .int .i64 0] 281)).seq2 O1 (by rintro i rfl; exact .inl (Nat.le_refl _)))
    simp only [hU] at US
    have hu0 := HH.out.u0
    have hu1 := HH.out.u1
    have hu2 := HH.out.u2
    have hod : sfodd m e ≤ 1 := by unfold sfodd; omega
    have em := EM.out
    have ex := EX.out
    have eo := EO.out
    rw [em, ex, eo]
    have hmin1 : sfmin m e < 18446744073709551616 := Nat.lt_of_le_of_lt (by rw [HMIN.out]; exact Nat.le_trans (Nat.sub_le _ _) (Nat.le_add_right _ (2 ^ (z - 1)))) HM1.out
    have hmax1 : sfmax m e < 18446744073709551616 := by rw [HMAX.out]; exact HM1.out
    have hres : sfd m e = (if sfdmax m e / 10 * 10 ≥ sfdmin m e then sfdmax m e / 10 else if sfdmin m e < sfdmax m e then (sfu m e m + 1 + sfu m e m / 4 % 2) / 4 else sfdmin m e) ∧ sfq m e = if sfdmax m e / 10 * 10 ≥ sfdmin m e then -(sfp m e - 1) else -(sfp m e) := ⟨rfl, rfl⟩
    have hdn : sfdmin m e = (sfu m e (sfmin m e) + sfodd m e + 3) / 4 := rfl
    have hdx : sfdmax m e = (sfu m e (sfmax m e) - sfodd m e) / 4 := rfl
    rw [HPQ.out] at hres
    have HRES := Lib.hid hres; have HDN := Lib.hid hdn; have HDX := Lib.hid hdx
    clear em ex eo EM EX EO hU hres hdn hdx B1 O1 hsN HMIN HMAX HODD HPQ HS
    have UA := Lib.hid (US.out (sfmin m e) hmin1); have UB := Lib.hid (US.out (sfmax m e) hmax1); have UM := Lib.hid (US.out m (Nat.lt_of_le_of_lt (Nat.le_add_right _ _) HM1.out))
    clear US
    generalize sfu m e (sfmin m e) = ua at *
    generalize sfu m e (sfmax m e) = ub at *
    generalize sfu m e m = um at *
    generalize sfodd m e = od at *
    generalize sfmin m e = mn at *
    generalize sfmax m e = mx at *
    go_wp2_with fail
    refine (UA.out w1 (Still.refl _)).mono ?_
    rintro en w2 ⟨rfl, S2⟩
    have HS2 := Lib.hid S2; clear S2
    go_wp2_with fail
    refine (nudge_up ua od _ hod hu0.1 (by omega)).mono ?_
    rintro en w3 ⟨rfl, hw⟩; rw [hw]; clear hw w3
    go_wp2_with fail
    refine (ceil_calls (ua + od) _ (by omega)).mono ?_
    rintro en w3 ⟨rfl, hw⟩; rw [hw]; clear hw w3
    rw [← HDN.out]
    go_wp2_with fail
    refine (UB.out w2 HS2.out).mono ?_
    rintro en w3 ⟨rfl, S3⟩
    have HS3 := Lib.hid S3; clear S3
    go_wp2_with fail
    refine (nudge_dn ub od _ hod hu1.1 (by omega)).mono ?_
    rintro en w4 ⟨rfl, hw⟩; rw [hw]; clear hw w4
    go_wp2_with fail
    refine (floor_calls (ub - od) _ (by omega)).mono ?_
    rintro en w4 ⟨rfl, hw⟩; rw [hw]; clear hw w4
    rw [← HDX.out]
    have hdx : sfdmax m e ≤ 4611686018427387900 := by rw [HDX.out]; omega
    have hdn : sfdmin m e ≤ 4611686018427387902 := by rw [HDN.out]; omega
    generalize sfdmax m e = dx at *
    generalize sfdmin m e = dn at *
    go_wp2_with fail
    · have h : (dn : Int) ≤ (dx : Int) / 10 * 10 := by assumption
      go_ret2
      refine ⟨?_, OO.out.trans ((HS2.out.trans HS3.out).only _)⟩
      rw [HRES.out.1, HRES.out.2, if_pos (by omega), if_pos (by omega)]
      exact tup2 (by omega) (by omega)
    · have h : (dx : Int) / 10 * 10 < (dn : Int) := by assumption
      have h' : dn < dx := by assumption
      refine (UM.out w3 (HS2.out.trans HS3.out)).mono ?_
      rintro en w4 ⟨rfl, S4⟩
      have HS4 := Lib.hid S4; clear S4
      have K := Lib.hid (And.intro h h')
      clear h h'
      go_wp2_with fail
      refine (round_calls um _ (by omega)).mono ?_
      rintro en w5 ⟨rfl, hw⟩; rw [hw]; clear hw w5
      go_wp2_with fail
      go_ret2
      have k1 := K.out.1; have k2 := K.out.2
      refine ⟨?_, OO.out.trans (((HS2.out.trans HS3.out).trans HS4.out).only _)⟩
      rw [HRES.out.1, HRES.out.2, if_neg (by omega), if_pos k2, if_neg (by omega)]
      exact tup2 rfl (by omega)
    · have h : (dx : Int) / 10 * 10 < (dn : Int) := by assumption
      have h' : ¬ dn < dx := by assumption
      go_ret2
      refine ⟨?_, OO.out.trans ((HS2.out.trans HS3.out).only _)⟩
      rw [HRES.out.1, HRES.out.2, if_neg (by omega), if_neg h', if_neg (by omega)]
      exact tup2 rfl (by omega)
  · go_enter Tryz.func239, Tryz.ntmps239
    go_wp2_with fail
    refine (L1.out _).mono ?_
    rintro en w1 ⟨rfl, hw⟩; rw [hw]; clear hw w1 L1
    go_wp2_with fail
    refine (L2.out _).mono ?_
    rintro en w1 ⟨rfl, hw⟩; rw [hw]; clear hw w1 L2
    go_wp2_with fail
    have n13 : w.heap.size ≠ 12 := by
      obtain ⟨x, _, h2, _⟩ := HT.out.row 0 (by omega)
      have := World.block_lt_of_cell? w ⟨12, 0 * 2, none⟩ h2
      have h3 : 12 < w.heap.size := this
      omega
    refine (prescale_calls w.heap.size e (-Q) LP _ _ _ _ (HT.out.still ((Only.refl (fun _ => False) w).alloc _) id) hp0 (by omega) (by omega) (blk_new _ _) n13).mono ?_
    rintro en w1 ⟨rfl, B1, O1⟩
    obtain ⟨sN, hsN⟩ : ∃ sN : Nat, -(e + LP + 3) = sN := ⟨(-(e + LP + 3)).toNat, by omega⟩
    rw [hsN] at B1
    have hsl : sN < 64 := by omega
    have hU : ∀ x, uscaleN x (th (-Q)) (tl (-Q)) sN = sfu m e x := fun x => by unfold sfu; rw [HPQ.out, HS.out, hsN]; rfl
    have US := Lib.hid (fun (x : Nat) (hx : x < 18446744073709551616) (w2 : World) (hw : Still w1 w2) => uscale_calls x (th (-Q)) (tl (-Q)) sN w.heap.size w2 hx (th_lt _).1 (th_lt _).2 hsl (by rw [hw.heap]; exact B1))
    have OO := Lib.hid (show Only (fun _ => False) w w1 from ((Only.refl (fun _ => False) w).alloc (.cells #[.int .u64 0, .int .u64 0, .int .i64 0] 281)).seq2 O1 (by rintro i rfl; exact .inl (Nat.le_refl _)))
    simp only [hU] at US
    have hu0 := HH.out.u0
    have hu1 := HH.out.u1
    have hu2 := HH.out.u2
    have hod : sfodd m e ≤ 1 := by unfold sfodd; omega
    have em := EM.out
    have ex := EX.out
    have eo := EO.out
    rw [em, ex, eo]
    have hmin1 : sfmin m e < 18446744073709551616 := Nat.lt_of_le_of_lt (by rw [HMIN.out]; exact Nat.le_trans (Nat.sub_le _ _) (Nat.le_add_right _ (2 ^ (z - 1)))) HM1.out
    have hmax1 : sfmax m e < 18446744073709551616 := by rw [HMAX.out]; exact HM1.out
    have hres : sfd m e = (if sfdmax m e / 10 * 10 ≥ sfdmin m e then sfdmax m e / 10 else if sfdmin m e < sfdmax m e then (sfu m e m + 1 + sfu m e m / 4 % 2) / 4 else sfdmin m e) ∧ sfq m e = if sfdmax m e / 10 * 10 ≥ sfdmin m e then -(sfp m e - 1) else -(sfp m e) := ⟨rfl, rfl⟩
    have hdn : sfdmin m e = (sfu m e (sfmin m e) + sfodd m e + 3) / 4 := rfl
    have hdx : sfdmax m e = (sfu m e (sfmax m e) - sfodd m e) / 4 := rfl
    rw [HPQ.out] at hres
    have HRES := Lib.hid hres; have HDN := Lib.hid hdn; have HDX := Lib.hid hdx
    clear em ex eo EM EX EO hU hres hdn hdx B1 O1 hsN HMIN HMAX HODD HPQ HS
    have UA := Lib.hid (US.out (sfmin m e) hmin1); have UB := Lib.hid (US.out (sfmax m e) hmax1); have UM := Lib.hid (US.out m (Nat.lt_of_le_of_lt (Nat.le_add_right _ _) HM1.out))
    clear US
    generalize sfu m e (sfmin m e) = ua at *
    generalize sfu m e (sfmax m e) = ub at *
    generalize sfu m e m = um at *
    generalize sfodd m e = od at *
    generalize sfmin m e = mn at *
    generalize sfmax m e = mx at *
    go_wp2_with fail
    refine (UA.out w1 (Still.refl _)).mono ?_
    rintro en w2 ⟨rfl, S2⟩
    have HS2 := Lib.hid S2; clear S2
    go_wp2_with fail
    refine (nudge_up ua od _ hod hu0.1 (by omega)).mono ?_
    rintro en w3 ⟨rfl, hw⟩; rw [hw]; clear hw w3
    go_wp2_with fail
    refine (ceil_calls (ua + od) _ (by omega)).mono ?_
    rintro en w3 ⟨rfl, hw⟩; rw [hw]; clear hw w3
    rw [← HDN.out]
    go_wp2_with fail
    refine (UB.out w2 HS2.out).mono ?_
    rintro en w3 ⟨rfl, S3⟩
    have HS3 := Lib.hid S3; clear S3
    go_wp2_with fail
    refine (nudge_dn ub od _ hod hu1.1 (by omega)).mono ?_
    rintro en w4 ⟨rfl, hw⟩; rw [hw]; clear hw w4
    go_wp2_with fail
    refine (floor_calls (ub - od) _ (by omega)).mono ?_
    rintro en w4 ⟨rfl, hw⟩; rw [hw]; clear hw w4
    rw [← HDX.out]
    have hdx : sfdmax m e ≤ 4611686018427387900 := by rw [HDX.out]; omega
    have hdn : sfdmin m e ≤ 4611686018427387902 := by rw [HDN.out]; omega
    generalize sfdmax m e = dx at *
    generalize sfdmin m e = dn at *
    go_wp2_with fail
    · have h : (dn : Int) ≤ (dx : Int) / 10 * 10 := by assumption
      go_ret2
      refine ⟨?_, OO.out.trans ((HS2.out.trans HS3.out).only _)⟩
      rw [HRES.out.1, HRES.out.2, if_pos (by omega), if_pos (by omega)]
      exact tup2 (by omega) (by omega)
    · have h : (dx : Int) / 10 * 10 < (dn : Int) := by assumption
      have h' : dn < dx := by assumption
      refine (UM.out w3 (HS2.out.trans HS3.out)).mono ?_
      rintro en w4 ⟨rfl, S4⟩
      have HS4 := Lib.hid S4; clear S4
      have K := Lib.hid (And.intro h h')
      clear h h'
      go_wp2_with fail
      refine (round_calls um _ (by omega)).mono ?_
      rintro en w5 ⟨rfl, hw⟩; rw [hw]; clear hw w5
      go_wp2_with fail
      go_ret2
      have k1 := K.out.1; have k2 := K.out.2
      refine ⟨?_, OO.out.trans (((HS2.out.trans HS3.out).trans HS4.out).only _)⟩
      rw [HRES.out.1, HRES.out.2, if_neg (by omega), if_pos k2, if_neg (by omega)]
      exact tup2 rfl (by omega)
    · have h : (dx : Int) / 10 * 10 < (dn : Int) := by assumption
      have h' : ¬ dn < dx := by assumption
      go_ret2
      refine ⟨?_, OO.out.trans ((HS2.out.trans HS3.out).only _)⟩
      rw [HRES.out.1, HRES.out.2, if_neg (by omega), if_neg h', if_neg (by omega)]
      exact tup2 rfl (by omega)
/-- shortFloat, at every float above 0 -/
theorem sf_calls (m z : Nat) (e : Int) (w : World) (hT : Tab w) (H : SfOk m e) (he : -1085 ≤ e ∨ (e = -1074 - (z : Int) ∧ 12 ≤ z ∧ z ≤ 63)) :
    Calls Tryz.prog 239 #[.int .u64 m, .int .i64 e] w fun en w' => en = .returned (.tuple #[.int .u64 (sfd m e), .int .i64 (sfq m e)]) ∧ Only (fun _ => False) w w' := by
  rcases he with h | ⟨h, h1⟩
  · exact sf_normal m e w hT H h
  · exact sf_sub m z e w hT H h h1
end Go.Proofs.YtiijgghholhcnaaGreatDoor.Re
