/- The walk of shortFloat at normal floats. -/
import Derived.Test.YtiijgghholhcnaaGreatDoorJL17
namespace Go.Proofs.YtiijgghholhcnaaGreatDoor.Re
open Go.RowKit

set_option maxRecDepth 100000 in
set_option maxHeartbeats 4000000 in
theorem sf_b1 (m : Nat) (e : Int) (w : World) (hT : Tab w) (H : SfOk m e) (hs : sfskew m e = false) (he : -1085 ≤ e) (h63 : m ≠ 9223372036854775808) :
    Calls Tryz.prog 239 #[.int .u64 m, .int .i64 e] w fun en w' => en = .returned (.tuple #[.int .u64 (sfd m e), .int .i64 (sfq m e)]) ∧ Only (fun _ => False) w w' := by
  have hz : sfz e = 11 := if_pos he
  have hp : sfp m e = -((e + 11) * 78913 / 262144) := by unfold sfp; rw [hs, hz]; rfl
  have hmin : sfmin m e = m - 1024 := by unfold sfmin; rw [hs, hz]; rfl
  have hmax : sfmax m e = m + 1024 := by unfold sfmax; rw [hz]
  have hodd : sfodd m e = m / 2048 % 2 := by unfold sfodd; rw [hz]
  have hm1 := H.m1
  rw [hmax] at hm1
  have hm0 := H.m0
  have HT := Lib.hid hT; have HH := Lib.hid H; have HP := Lib.hid hp; have HMIN := Lib.hid hmin; have HMAX := Lib.hid hmax; have HODD := Lib.hid hodd
  have he0 := H.e0
  have a1 := and_1i (m / 2048) (by omega)
  rw [show ((m / 2048 : Nat) : Int) = (m : Int) / 2048 by omega] at a1
  have t1 : (e ≥ -1085) := he
  have t2 : decide (e ≥ -1085) = true := decide_eq_true he
  clear hT H hz hp hmin hmax hodd hs
  have b1 : ((m : Int) == 9223372036854775808) = false := by rw [beq_eq_false_iff_ne]; omega
  clear h63
  obtain ⟨Q, hQ⟩ : ∃ Q, Q = (e + 11) * 78913 / 262144 := ⟨_, rfl⟩
  have L1 := Lib.hid (fun w => l10_calls (e + 11) w (by omega) (by omega))
  rw [← hQ] at L1
  have hPQ : sfp m e = -Q := by rw [HP.out, hQ]
  have hp0 := HH.out.p0
  rw [hPQ] at hp0
  have L2 := Lib.hid (fun w => l2_calls (-Q) w (by omega) (by omega))
  obtain ⟨LP, hLP⟩ : ∃ LP, LP = -Q * 108853 / 32768 := ⟨_, rfl⟩
  rw [← hLP] at L2
  have hLPb : -2000 ≤ LP ∧ LP ≤ 2000 := by omega
  have hs0 := HH.out.s0
  have hS : sfs m e = -(e + LP + 3) := by unfold sfs; rw [hPQ, hLP]
  rw [hS] at hs0
  have HPQ := Lib.hid hPQ; have HS := Lib.hid hS
  clear hQ hPQ hLP hS HP
  go_enter Tryz.func239, Tryz.ntmps239
  go_wp2_with fail
  refine (L1.out _).mono ?_
  rintro en w1 ⟨rfl, hw⟩; rw [hw]; clear hw w1 L1
  go_wp2_with fail
  refine (L2.out _).mono ?_
  rintro en w1 ⟨rfl, hw⟩; rw [hw]; clear hw w1 L2
  go_wp2_with fail
  have n13 : w.heap.size ≠ 12 := by
    obtain ⟨x, _, h2, _⟩ := HT.out.row 0 (by omega)
    have := World.block_lt_of_cell? w ⟨12, 0 * 2, none⟩ h2
    have h3 : 12 < w.heap.size := this
    omega
  refine (prescale_calls w.heap.size e (-Q) LP _ _ _ _ (HT.out.still ((Only.refl (fun _ => False) w).alloc _) id) hp0 (by omega) (by omega) (blk_new _ _) n13).mono ?_
  rintro en w1 ⟨rfl, B1, O1⟩
  obtain ⟨sN, hsN⟩ : ∃ sN : Nat, -(e + LP + 3) = sN := ⟨(-(e + LP + 3)).toNat, by omega⟩
  rw [hsN] at B1
  have hsl : sN < 64 := by omega
  have hU : ∀ x, uscaleN x (th (-Q)) (tl (-Q)) sN = sfu m e x := fun x => by unfold sfu; rw [HPQ.out, HS.out, hsN]; rfl
  have US := Lib.hid (fun (x : Nat) (hx : x < 18446744073709551616) (w2 : World) (hw : Still w1 w2) => uscale_calls x (th (-Q)) (tl (-Q)) sN w.heap.size w2 hx (th_lt _).1 (th_lt _).2 hsl (by rw [hw.heap]; exact B1))
  have OO := Lib.hid (show Only (fun _ => False) w w1 from ((Only.refl (fun _ => False) w).alloc (.cells #[.int .u64 0, .int .u64 0, .int .i64 0] 281)).seq2 O1 (by rintro i rfl; exact .inl (Nat.le_refl _)))
  simp only [hU] at US
  have hu0 := HH.out.u0
  have hu1 := HH.out.u1
  have hu2 := HH.out.u2
  have hod : sfodd m e ≤ 1 := by unfold sfodd; omega
  have em : ((m : Int) - 1024) = ((sfmin m e : Nat) : Int) := by rw [HMIN.out]; omega
  have ex : ((m : Int) + 1024) = ((sfmax m e : Nat) : Int) := by rw [HMAX.out]; omega
  have eo : ((m : Int) / 2048 % 2) = ((sfodd m e : Nat) : Int) := by rw [HODD.out]; omega
  rw [em, ex, eo]
  have hmin1 : sfmin m e < 18446744073709551616 := by omega
  have hmax1 : sfmax m e < 18446744073709551616 := by omega
  have hres : sfd m e = (if sfdmax m e / 10 * 10 ≥ sfdmin m e then sfdmax m e / 10 else if sfdmin m e < sfdmax m e then (sfu m e m + 1 + sfu m e m / 4 % 2) / 4 else sfdmin m e) ∧ sfq m e = if sfdmax m e / 10 * 10 ≥ sfdmin m e then -(sfp m e - 1) else -(sfp m e) := ⟨rfl, rfl⟩
  have hdn : sfdmin m e = (sfu m e (sfmin m e) + sfodd m e + 3) / 4 := rfl
  have hdx : sfdmax m e = (sfu m e (sfmax m e) - sfodd m e) / 4 := rfl
  rw [HPQ.out] at hres
  have HRES := Lib.hid hres; have HDN := Lib.hid hdn; have HDX := Lib.hid hdx
  clear a1 em ex eo hU hres hdn hdx B1 O1 hsN HMIN HMAX HODD HPQ HS b1 t1 t2
  have UA := Lib.hid (US.out (sfmin m e) hmin1); have UB := Lib.hid (US.out (sfmax m e) hmax1); have UM := Lib.hid (US.out m (by omega))
  clear US
  generalize sfu m e (sfmin m e) = ua at *
  generalize sfu m e (sfmax m e) = ub at *
  generalize sfu m e m = um at *
  generalize sfodd m e = od at *
  generalize sfmin m e = mn at *
  generalize sfmax m e = mx at *
  go_wp2_with fail
  refine (UA.out w1 (Still.refl _)).mono ?_
  rintro en w2 ⟨rfl, S2⟩
  have HS2 := Lib.hid S2; clear S2
  go_wp2_with fail
  refine (nudge_up ua od _ hod hu0.1 (by omega)).mono ?_
  rintro en w3 ⟨rfl, hw⟩; rw [hw]; clear hw w3
  go_wp2_with fail
  refine (ceil_calls (ua + od) _ (by omega)).mono ?_
  rintro en w3 ⟨rfl, hw⟩; rw [hw]; clear hw w3
  rw [← HDN.out]
  go_wp2_with fail
  refine (UB.out w2 HS2.out).mono ?_
  rintro en w3 ⟨rfl, S3⟩
  have HS3 := Lib.hid S3; clear S3
  go_wp2_with fail
  refine (nudge_dn ub od _ hod hu1.1 (by omega)).mono ?_
  rintro en w4 ⟨rfl, hw⟩; rw [hw]; clear hw w4
  go_wp2_with fail
  refine (floor_calls (ub - od) _ (by omega)).mono ?_
  rintro en w4 ⟨rfl, hw⟩; rw [hw]; clear hw w4
  rw [← HDX.out]
  have hdx : sfdmax m e ≤ 4611686018427387900 := by rw [HDX.out]; omega
  have hdn : sfdmin m e ≤ 4611686018427387902 := by rw [HDN.out]; omega
  generalize sfdmax m e = dx at *
  generalize sfdmin m e = dn at *
  go_wp2_with fail
  · have h : (dn : Int) ≤ (dx : Int) / 10 * 10 := by assumption
    go_ret2
    refine ⟨?_, OO.out.trans ((HS2.out.trans HS3.out).only _)⟩
    rw [HRES.out.1, HRES.out.2, if_pos (by omega), if_pos (by omega)]
    exact tup2 (by omega) (by omega)
  · have h : (dx : Int) / 10 * 10 < (dn : Int) := by assumption
    have h' : dn < dx := by assumption
    refine (UM.out w3 (HS2.out.trans HS3.out)).mono ?_
    rintro en w4 ⟨rfl, S4⟩
    have HS4 := Lib.hid S4; clear S4
    have K := Lib.hid (And.intro h h')
    clear h h'
    go_wp2_with fail
    refine (round_calls um _ (by omega)).mono ?_
    rintro en w5 ⟨rfl, hw⟩; rw [hw]; clear hw w5
    go_wp2_with fail
    go_ret2
    have k1 := K.out.1; have k2 := K.out.2
    refine ⟨?_, OO.out.trans (((HS2.out.trans HS3.out).trans HS4.out).only _)⟩
    rw [HRES.out.1, HRES.out.2, if_neg (by omega), if_pos k2, if_neg (by omega)]
    exact tup2 rfl (by omega)
  · have h : (dx : Int) / 10 * 10 < (dn : Int) := by assumption
    have h' : ¬ dn < dx := by assumption
    go_ret2
    refine ⟨?_, OO.out.trans ((HS2.out.trans HS3.out).only _)⟩
    rw [HRES.out.1, HRES.out.2, if_neg (by omega), if_neg h', if_neg (by omega)]
    exact tup2 rfl (by omega)
set_option maxRecDepth 100000 in
set_option maxHeartbeats 4000000 in
theorem sf_b2 (m : Nat) (e : Int) (w : World) (hT : Tab w) (H : SfOk m e) (hs : sfskew m e = false) (he : -1085 ≤ e) (h63 : m = 9223372036854775808) (he2 : ¬ e > -1085) :
    Calls Tryz.prog 239 #[.int .u64 m, .int .i64 e] w fun en w' => en = .returned (.tuple #[.int .u64 (sfd m e), .int .i64 (sfq m e)]) ∧ Only (fun _ => False) w w' := by
  have hz : sfz e = 11 := if_pos he
  have hp : sfp m e = -((e + 11) * 78913 / 262144) := by unfold sfp; rw [hs, hz]; rfl
  have hmin : sfmin m e = m - 1024 := by unfold sfmin; rw [hs, hz]; rfl
  have hmax : sfmax m e = m + 1024 := by unfold sfmax; rw [hz]
  have hodd : sfodd m e = m / 2048 % 2 := by unfold sfodd; rw [hz]
  have hm1 := H.m1
  rw [hmax] at hm1
  have hm0 := H.m0
  have HT := Lib.hid hT; have HH := Lib.hid H; have HP := Lib.hid hp; have HMIN := Lib.hid hmin; have HMAX := Lib.hid hmax; have HODD := Lib.hid hodd
  have he0 := H.e0
  have a1 := and_1i (m / 2048) (by omega)
  rw [show ((m / 2048 : Nat) : Int) = (m : Int) / 2048 by omega] at a1
  have t1 : (e ≥ -1085) := he
  have t2 : decide (e ≥ -1085) = true := decide_eq_true he
  clear hT H hz hp hmin hmax hodd hs
  have b1 : ((m : Int) == 9223372036854775808) = true := by rw [beq_iff_eq]; omega
  have b2 : decide (e > -1085) = false := decide_eq_false he2
  clear h63 he2
  obtain ⟨Q, hQ⟩ : ∃ Q, Q = (e + 11) * 78913 / 262144 := ⟨_, rfl⟩
  have L1 := Lib.hid (fun w => l10_calls (e + 11) w (by omega) (by omega))
  rw [← hQ] at L1
  have hPQ : sfp m e = -Q := by rw [HP.out, hQ]
  have hp0 := HH.out.p0
  rw [hPQ] at hp0
  have L2 := Lib.hid (fun w => l2_calls (-Q) w (by omega) (by omega))
  obtain ⟨LP, hLP⟩ : ∃ LP, LP = -Q * 108853 / 32768 := ⟨_, rfl⟩
  rw [← hLP] at L2
  have hLPb : -2000 ≤ LP ∧ LP ≤ 2000 := by omega
  have hs0 := HH.out.s0
  have hS : sfs m e = -(e + LP + 3) := by unfold sfs; rw [hPQ, hLP]
  rw [hS] at hs0
  have HPQ := Lib.hid hPQ; have HS := Lib.hid hS
  clear hQ hPQ hLP hS HP
  go_enter Tryz.func239, Tryz.ntmps239
  go_wp2_with fail
  refine (L1.out _).mono ?_
  rintro en w1 ⟨rfl, hw⟩; rw [hw]; clear hw w1 L1
  go_wp2_with fail
  refine (L2.out _).mono ?_
  rintro en w1 ⟨rfl, hw⟩; rw [hw]; clear hw w1 L2
  go_wp2_with fail
  have n13 : w.heap.size ≠ 12 := by
    obtain ⟨x, _, h2, _⟩ := HT.out.row 0 (by omega)
    have := World.block_lt_of_cell? w ⟨12, 0 * 2, none⟩ h2
    have h3 : 12 < w.heap.size := this
    omega
  refine (prescale_calls w.heap.size e (-Q) LP _ _ _ _ (HT.out.still ((Only.refl (fun _ => False) w).alloc _) id) hp0 (by omega) (by omega) (blk_new _ _) n13).mono ?_
  rintro en w1 ⟨rfl, B1, O1⟩
  obtain ⟨sN, hsN⟩ : ∃ sN : Nat, -(e + LP + 3) = sN := ⟨(-(e + LP + 3)).toNat, by omega⟩
  rw [hsN] at B1
  have hsl : sN < 64 := by omega
  have hU : ∀ x, uscaleN x (th (-Q)) (tl (-Q)) sN = sfu m e x := fun x => by unfold sfu; rw [HPQ.out, HS.out, hsN]; rfl
  have US := Lib.hid (fun (x : Nat) (hx : x < 18446744073709551616) (w2 : World) (hw : Still w1 w2) => uscale_calls x (th (-Q)) (tl (-Q)) sN w.heap.size w2 hx (th_lt _).1 (th_lt _).2 hsl (by rw [hw.heap]; exact B1))
  have OO := Lib.hid (show Only (fun _ => False) w w1 from ((Only.refl (fun _ => False) w).alloc (.cells #[.int .u64 0, .int .u64 0, .int .i64 0] 281)).seq2 O1 (by rintro i rfl; exact .inl (Nat.le_refl _)))
  simp only [hU] at US
  have hu0 := HH.out.u0
  have hu1 := HH.out.u1
  have hu2 := HH.out.u2
  have hod : sfodd m e ≤ 1 := by unfold sfodd; omega
  have em : ((m : Int) - 1024) = ((sfmin m e : Nat) : Int) := by rw [HMIN.out]; omega
  have ex : ((m : Int) + 1024) = ((sfmax m e : Nat) : Int) := by rw [HMAX.out]; omega
  have eo : ((m : Int) / 2048 % 2) = ((sfodd m e : Nat) : Int) := by rw [HODD.out]; omega
  rw [em, ex, eo]
  have hmin1 : sfmin m e < 18446744073709551616 := by omega
  have hmax1 : sfmax m e < 18446744073709551616 := by omega
  have hres : sfd m e = (if sfdmax m e / 10 * 10 ≥ sfdmin m e then sfdmax m e / 10 else if sfdmin m e < sfdmax m e then (sfu m e m + 1 + sfu m e m / 4 % 2) / 4 else sfdmin m e) ∧ sfq m e = if sfdmax m e / 10 * 10 ≥ sfdmin m e then -(sfp m e - 1) else -(sfp m e) := ⟨rfl, rfl⟩
  have hdn : sfdmin m e = (sfu m e (sfmin m e) + sfodd m e + 3) / 4 := rfl
  have hdx : sfdmax m e = (sfu m e (sfmax m e) - sfodd m e) / 4 := rfl
  rw [HPQ.out] at hres
  have HRES := Lib.hid hres; have HDN := Lib.hid hdn; have HDX := Lib.hid hdx
  clear a1 em ex eo hU hres hdn hdx B1 O1 hsN HMIN HMAX HODD HPQ HS b1 t1 t2
  have UA := Lib.hid (US.out (sfmin m e) hmin1); have UB := Lib.hid (US.out (sfmax m e) hmax1); have UM := Lib.hid (US.out m (by omega))
  clear US
  generalize sfu m e (sfmin m e) = ua at *
  generalize sfu m e (sfmax m e) = ub at *
  generalize sfu m e m = um at *
  generalize sfodd m e = od at *
  generalize sfmin m e = mn at *
  generalize sfmax m e = mx at *
  go_wp2_with fail
  refine (UA.out w1 (Still.refl _)).mono ?_
  rintro en w2 ⟨rfl, S2⟩
  have HS2 := Lib.hid S2; clear S2
  go_wp2_with fail
  refine (nudge_up ua od _ hod hu0.1 (by omega)).mono ?_
  rintro en w3 ⟨rfl, hw⟩; rw [hw]; clear hw w3
  go_wp2_with fail
  refine (ceil_calls (ua + od) _ (by omega)).mono ?_
  rintro en w3 ⟨rfl, hw⟩; rw [hw]; clear hw w3
  rw [← HDN.out]
  go_wp2_with fail
  refine (UB.out w2 HS2.out).mono ?_
  rintro en w3 ⟨rfl, S3⟩
  have HS3 := Lib.hid S3; clear S3
  go_wp2_with fail
  refine (nudge_dn ub od _ hod hu1.1 (by omega)).mono ?_
  rintro en w4 ⟨rfl, hw⟩; rw [hw]; clear hw w4
  go_wp2_with fail
  refine (floor_calls (ub - od) _ (by omega)).mono ?_
  rintro en w4 ⟨rfl, hw⟩; rw [hw]; clear hw w4
  rw [← HDX.out]
  have hdx : sfdmax m e ≤ 4611686018427387900 := by rw [HDX.out]; omega
  have hdn : sfdmin m e ≤ 4611686018427387902 := by rw [HDN.out]; omega
  generalize sfdmax m e = dx at *
  generalize sfdmin m e = dn at *
  go_wp2_with fail
  · have h : (dn : Int) ≤ (dx : Int) / 10 * 10 := by assumption
    go_ret2
    refine ⟨?_, OO.out.trans ((HS2.out.trans HS3.out).only _)⟩
    rw [HRES.out.1, HRES.out.2, if_pos (by omega), if_pos (by omega)]
    exact tup2 (by omega) (by omega)
  · have h : (dx : Int) / 10 * 10 < (dn : Int) := by assumption
    have h' : dn < dx := by assumption
    refine (UM.out w3 (HS2.out.trans HS3.out)).mono ?_
    rintro en w4 ⟨rfl, S4⟩
    have HS4 := Lib.hid S4; clear S4
    have K := Lib.hid (And.intro h h')
    clear h h'
    go_wp2_with fail
    refine (round_calls um _ (by omega)).mono ?_
    rintro en w5 ⟨rfl, hw⟩; rw [hw]; clear hw w5
    go_wp2_with fail
    go_ret2
    have k1 := K.out.1; have k2 := K.out.2
    refine ⟨?_, OO.out.trans (((HS2.out.trans HS3.out).trans HS4.out).only _)⟩
    rw [HRES.out.1, HRES.out.2, if_neg (by omega), if_pos k2, if_neg (by omega)]
    exact tup2 rfl (by omega)
  · have h : (dx : Int) / 10 * 10 < (dn : Int) := by assumption
    have h' : ¬ dn < dx := by assumption
    go_ret2
    refine ⟨?_, OO.out.trans ((HS2.out.trans HS3.out).only _)⟩
    rw [HRES.out.1, HRES.out.2, if_neg (by omega), if_neg h', if_neg (by omega)]
    exact tup2 rfl (by omega)
set_option maxRecDepth 100000 in
set_option maxHeartbeats 4000000 in
theorem sf_a (m : Nat) (e : Int) (w : World) (hT : Tab w) (H : SfOk m e) (hs : sfskew m e = true) (he : -1085 ≤ e) (h63 : m = 9223372036854775808) (he2 : e > -1085) :
    Calls Tryz.prog 239 #[.int .u64 m, .int .i64 e] w fun en w' => en = .returned (.tuple #[.int .u64 (sfd m e), .int .i64 (sfq m e)]) ∧ Only (fun _ => False) w w' := by
  have hz : sfz e = 11 := if_pos he
  have hp : sfp m e = -(((e + 11) * 631305 - 261663) / 2097152) := by unfold sfp; rw [hs]; rfl
  have hmin : sfmin m e = m - 512 := by unfold sfmin; rw [hs]; rfl
  have hmax : sfmax m e = m + 1024 := by unfold sfmax; rw [hz]
  have hodd : sfodd m e = m / 2048 % 2 := by unfold sfodd; rw [hz]
  have hm1 := H.m1
  rw [hmax] at hm1
  have hm0 := H.m0
  have HT := Lib.hid hT; have HH := Lib.hid H; have HP := Lib.hid hp; have HMIN := Lib.hid hmin; have HMAX := Lib.hid hmax; have HODD := Lib.hid hodd
  have he0 := H.e0
  have a1 := and_1i (m / 2048) (by omega)
  rw [show ((m / 2048 : Nat) : Int) = (m : Int) / 2048 by omega] at a1
  have t1 : (e ≥ -1085) := he
  have t2 : decide (e ≥ -1085) = true := decide_eq_true he
  clear hT H hz hp hmin hmax hodd hs
  have b1 : ((m : Int) == 9223372036854775808) = true := by rw [beq_iff_eq]; omega
  have b2 : decide (e > -1085) = true := decide_eq_true he2
  clear h63
  obtain ⟨Q, hQ⟩ : ∃ Q, Q = ((e + 11) * 631305 - 261663) / 2097152 := ⟨_, rfl⟩
  have L1 := Lib.hid (fun w => sk_calls (e + 11) w (by omega) (by omega))
  rw [← hQ] at L1
  have hPQ : sfp m e = -Q := by rw [HP.out, hQ]
  have hp0 := HH.out.p0
  rw [hPQ] at hp0
  have L2 := Lib.hid (fun w => l2_calls (-Q) w (by omega) (by omega))
  obtain ⟨LP, hLP⟩ : ∃ LP, LP = -Q * 108853 / 32768 := ⟨_, rfl⟩
  rw [← hLP] at L2
  have hLPb : -2000 ≤ LP ∧ LP ≤ 2000 := by omega
  have hs0 := HH.out.s0
  have hS : sfs m e = -(e + LP + 3) := by unfold sfs; rw [hPQ, hLP]
  rw [hS] at hs0
  have HPQ := Lib.hid hPQ; have HS := Lib.hid hS
  clear hQ hPQ hLP hS HP
  go_enter Tryz.func239, Tryz.ntmps239
  go_wp2_with fail
  refine (L1.out _).mono ?_
  rintro en w1 ⟨rfl, hw⟩; rw [hw]; clear hw w1 L1
  go_wp2_with fail
  refine (L2.out _).mono ?_
  rintro en w1 ⟨rfl, hw⟩; rw [hw]; clear hw w1 L2
  go_wp2_with fail
  have n13 : w.heap.size ≠ 12 := by
    obtain ⟨x, _, h2, _⟩ := HT.out.row 0 (by omega)
    have := World.block_lt_of_cell? w ⟨12, 0 * 2, none⟩ h2
    have h3 : 12 < w.heap.size := this
    omega
  refine (prescale_calls w.heap.size e (-Q) LP _ _ _ _ (HT.out.still ((Only.refl (fun _ => False) w).alloc _) id) hp0 (by omega) (by omega) (blk_new _ _) n13).mono ?_
  rintro en w1 ⟨rfl, B1, O1⟩
  obtain ⟨sN, hsN⟩ : ∃ sN : Nat, -(e + LP + 3) = sN := ⟨(-(e + LP + 3)).toNat, by omega⟩
  rw [hsN] at B1
  have hsl : sN < 64 := by omega
  have hU : ∀ x, uscaleN x (th (-Q)) (tl (-Q)) sN = sfu m e x := fun x => by unfold sfu; rw [HPQ.out, HS.out, hsN]; rfl
  have US := Lib.hid (fun (x : Nat) (hx : x < 18446744073709551616) (w2 : World) (hw : Still w1 w2) => uscale_calls x (th (-Q)) (tl (-Q)) sN w.heap.size w2 hx (th_lt _).1 (th_lt _).2 hsl (by rw [hw.heap]; exact B1))
  have OO := Lib.hid (show Only (fun _ => False) w w1 from ((Only.refl (fun _ => False) w).alloc (.cells #[.int .u64 0, .int .u64 0, .int .i64 0] 281)).seq2 O1 (by rintro i rfl; exact .inl (Nat.le_refl _)))
  simp only [hU] at US
  have hu0 := HH.out.u0
  have hu1 := HH.out.u1
  have hu2 := HH.out.u2
  have hod : sfodd m e ≤ 1 := by unfold sfodd; omega
  have em : ((m : Int) - 512) = ((sfmin m e : Nat) : Int) := by rw [HMIN.out]; omega
  have ex : ((m : Int) + 1024) = ((sfmax m e : Nat) : Int) := by rw [HMAX.out]; omega
  have eo : ((m : Int) / 2048 % 2) = ((sfodd m e : Nat) : Int) := by rw [HODD.out]; omega
  rw [em, ex, eo]
  have hmin1 : sfmin m e < 18446744073709551616 := by omega
  have hmax1 : sfmax m e < 18446744073709551616 := by omega
  have hres : sfd m e = (if sfdmax m e / 10 * 10 ≥ sfdmin m e then sfdmax m e / 10 else if sfdmin m e < sfdmax m e then (sfu m e m + 1 + sfu m e m / 4 % 2) / 4 else sfdmin m e) ∧ sfq m e = if sfdmax m e / 10 * 10 ≥ sfdmin m e then -(sfp m e - 1) else -(sfp m e) := ⟨rfl, rfl⟩
  have hdn : sfdmin m e = (sfu m e (sfmin m e) + sfodd m e + 3) / 4 := rfl
  have hdx : sfdmax m e = (sfu m e (sfmax m e) - sfodd m e) / 4 := rfl
  rw [HPQ.out] at hres
  have HRES := Lib.hid hres; have HDN := Lib.hid hdn; have HDX := Lib.hid hdx
  clear a1 em ex eo hU hres hdn hdx B1 O1 hsN HMIN HMAX HODD HPQ HS b1 t1 t2
  have UA := Lib.hid (US.out (sfmin m e) hmin1); have UB := Lib.hid (US.out (sfmax m e) hmax1); have UM := Lib.hid (US.out m (by omega))
  clear US
  generalize sfu m e (sfmin m e) = ua at *
  generalize sfu m e (sfmax m e) = ub at *
  generalize sfu m e m = um at *
  generalize sfodd m e = od at *
  generalize sfmin m e = mn at *
  generalize sfmax m e = mx at *
  go_wp2_with fail
  refine (UA.out w1 (Still.refl _)).mono ?_
  rintro en w2 ⟨rfl, S2⟩
  have HS2 := Lib.hid S2; clear S2
  go_wp2_with fail
  refine (nudge_up ua od _ hod hu0.1 (by omega)).mono ?_
  rintro en w3 ⟨rfl, hw⟩; rw [hw]; clear hw w3
  go_wp2_with fail
  refine (ceil_calls (ua + od) _ (by omega)).mono ?_
  rintro en w3 ⟨rfl, hw⟩; rw [hw]; clear hw w3
  rw [← HDN.out]
  go_wp2_with fail
  refine (UB.out w2 HS2.out).mono ?_
  rintro en w3 ⟨rfl, S3⟩
  have HS3 := Lib.hid S3; clear S3
  go_wp2_with fail
  refine (nudge_dn ub od _ hod hu1.1 (by omega)).mono ?_
  rintro en w4 ⟨rfl, hw⟩; rw [hw]; clear hw w4
  go_wp2_with fail
  refine (floor_calls (ub - od) _ (by omega)).mono ?_
  rintro en w4 ⟨rfl, hw⟩; rw [hw]; clear hw w4
  rw [← HDX.out]
  have hdx : sfdmax m e ≤ 4611686018427387900 := by rw [HDX.out]; omega
  have hdn : sfdmin m e ≤ 4611686018427387902 := by rw [HDN.out]; omega
  generalize sfdmax m e = dx at *
  generalize sfdmin m e = dn at *
  go_wp2_with fail
  · have h : (dn : Int) ≤ (dx : Int) / 10 * 10 := by assumption
    go_ret2
    refine ⟨?_, OO.out.trans ((HS2.out.trans HS3.out).only _)⟩
    rw [HRES.out.1, HRES.out.2, if_pos (by omega), if_pos (by omega)]
    exact tup2 (by omega) (by omega)
  · have h : (dx : Int) / 10 * 10 < (dn : Int) := by assumption
    have h' : dn < dx := by assumption
    refine (UM.out w3 (HS2.out.trans HS3.out)).mono ?_
    rintro en w4 ⟨rfl, S4⟩
    have HS4 := Lib.hid S4; clear S4
    have K := Lib.hid (And.intro h h')
    clear h h'
    go_wp2_with fail
    refine (round_calls um _ (by omega)).mono ?_
    rintro en w5 ⟨rfl, hw⟩; rw [hw]; clear hw w5
    go_wp2_with fail
    go_ret2
    have k1 := K.out.1; have k2 := K.out.2
    refine ⟨?_, OO.out.trans (((HS2.out.trans HS3.out).trans HS4.out).only _)⟩
    rw [HRES.out.1, HRES.out.2, if_neg (by omega), if_pos k2, if_neg (by omega)]
    exact tup2 rfl (by omega)
  · have h : (dx : Int) / 10 * 10 < (dn : Int) := by assumption
    have h' : ¬ dn < dx := by assumption
    go_ret2
    refine ⟨?_, OO.out.trans ((HS2.out.trans HS3.out).only _)⟩
    rw [HRES.out.1, HRES.out.2, if_neg (by omega), if_neg h', if_neg (by omega)]
    exact tup2 rfl (by omega)
/-- shortFloat, at a normal float -/
theorem sf_normal (m : Nat) (e : Int) (w : World) (hT : Tab w) (H : SfOk m e) (he : -1085 ≤ e) :
    Calls Tryz.prog 239 #[.int .u64 m, .int .i64 e] w fun en w' => en = .returned (.tuple #[.int .u64 (sfd m e), .int .i64 (sfq m e)]) ∧ Only (fun _ => False) w w' := by
  by_cases h63 : m = 9223372036854775808
  · by_cases he2 : e > -1085
    · exact sf_a m e w hT H (by unfold sfskew; rw [decide_eq_true h63, decide_eq_true he2]; rfl) he h63 he2
    · exact sf_b2 m e w hT H (by unfold sfskew; rw [decide_eq_false he2, Bool.and_false]) he h63 he2
  · exact sf_b1 m e w hT H (by unfold sfskew; rw [decide_eq_false h63]; rfl) he h63
end Go.Proofs.YtiijgghholhcnaaGreatDoor.Re
