/- math/bits.Div64 by 10^19. -/
import Derived.Test.YtiijgghholhcnaaGreatDoorJL15
import Derived.Laws.BitsAllLaws
import Derived.Deep.Cut
import Derived.Deep.CutBlock
import Derived.Deep.CutRange
import Derived.Deep.DeepCutAuto
namespace Go.Proofs.YtiijgghholhcnaaGreatDoor
open Go.RowKit
set_option maxRecDepth 1000000
theorem lz_calls (w : World) : Calls Tryz.prog 152 #[.int .u64 10000000000000000000] w fun e w' => e = .returned (.int .i64 0) ∧ w' = w := by
  have hb : ((Lib.bitLen (Int.toNat 10000000000000000000) : Nat) : Int) = 64 := by decide +kernel
  have K := Lib.hid (fun w => Tryz.bits_Len64 10000000000000000000 w (by decide) (by decide))
  rw [hb] at K
  clear hb
  go_enter Tryz.func152, Tryz.ntmps152
  go_wp2_with fail
  refine (K.out _).mono ?_
  rintro e w1 ⟨rfl, hw⟩; rw [hw]; clear hw w1
  go_wp2_with fail
  go_ret
  exact ⟨rfl, rfl⟩
/-- one half of the quotient, not yet exact -/
structure Kn (d u q r : Nat) : Prop where
  eq : d = q * 2328306436 + r
  le : (d * 4294967296 + u) / 10000000000000000000 ≤ q
  q2 : q ≤ 4294967296
  r2 : r < 4294967296
theorem Kn.start (d u : Nat) (hd : d < 10000000000000000000) (hu : u < 4294967296) : Kn d u (d / 2328306436) (d % 2328306436) := ⟨by omega, by omega, by omega, by omega⟩
theorem Kn.done {d u q r : Nat} (h : Kn d u q r) (_hu : u < 4294967296) (hq : q * 2313682944 ≤ 4294967296 * r + u) : q = (d * 4294967296 + u) / 10000000000000000000 := by
  have h1 := h.eq; have h2 := h.le; have h3 := h.q2; have h4 := h.r2
  omega
theorem Kn.less {d u q r : Nat} (h : Kn d u q r) (hd : d < 10000000000000000000) (hu : u < 4294967296) (hq : q = 4294967296 ∨ 4294967296 * r + u < q * 2313682944) : 1 ≤ q ∧ d = (q - 1) * 2328306436 + (r + 2328306436) ∧ (d * 4294967296 + u) / 10000000000000000000 ≤ q - 1 := by
  have h1 := h.eq; have h2 := h.le; have h3 := h.q2; have h4 := h.r2
  omega
theorem Kn.stop {d u q r : Nat} (hq : q ≤ 4294967296) (he : d = q * 2328306436 + r) (hl : (d * 4294967296 + u) / 10000000000000000000 ≤ q) (hr : 4294967296 ≤ r) : q = (d * 4294967296 + u) / 10000000000000000000 := by
  omega
def qOf (d u : Nat) : Nat := (d * 4294967296 + u) / 10000000000000000000
def divQ (h l : Nat) : Nat := (h * 18446744073709551616 + l) / 10000000000000000000
def divR (h l : Nat) : Nat := (h * 18446744073709551616 + l) % 10000000000000000000
def CutQ (d u : Nat) (w : World) (v15 : Value) (wx : World) : Prop := wx = w ∧ v15 = .int .u64 (qOf d u : Int)
def KR (d u : Nat) (v15 v16 : Value) : Prop := ∃ q r : Nat, v15 = .int .u64 (q : Int) ∧ v16 = .int .u64 (r : Int) ∧ Kn d u q r
theorem u64_nat (x : Nat) (h : x < 18446744073709551616) : IntKind.u64.wrap (x : Int) = (x : Int) := IntWalk.u64_in _ ⟨by omega, by omega⟩
theorem u64_wrp (x : Int) : IntKind.u64.wrap x = x % 18446744073709551616 := by
  first | rfl | simp [IntKind.wrap] | (unfold IntKind.wrap; rfl)
theorem or_0 (h : Nat) (hh : h < 18446744073709551616) : bits BinOp.or IntKind.u64 (h : Int) 0 = (h : Int) := by
  have := u64_or_nat h 0 hh (by decide)
  simpa using this
theorem and_32 (x : Nat) (hx : x < 18446744073709551616) : bits BinOp.and IntKind.u64 (x : Int) 4294967295 = ((x % 4294967296 : Nat) : Int) := by
  have h := u64_and_nat x 4294967295 hx (by decide)
  have e : x &&& 4294967295 = x % 4294967296 := Nat.and_two_pow_sub_one_eq_mod x 32
  rw [e] at h
  exact h
set_option maxHeartbeats 4000000 in
theorem div64_calls (h l : Nat) (w : World) (h0 : 0 < h) (hh : h < 9223372036854775808) (hl : l < 18446744073709551616) :
    Calls Tryz.prog 115 #[.int .u64 (h : Int), .int .u64 (l : Int), .int .u64 10000000000000000000] w fun e w' => e = .returned (.tuple #[.int .u64 (divQ h l : Int), .int .u64 (divR h l : Int)]) ∧ w' = w := by
  have K := Lib.hid (fun w => lz_calls w)
  have t1 : decide (10000000000000000000 ≤ (h : Int)) = false := decide_eq_false (by omega)
  have t2 : ((h : Int) == 0) = false := by simp; omega
  have k1 : bits BinOp.and IntKind.u64 10000000000000000000 4294967295 = 2313682944 := by decide +kernel
  have k2 : (l : Int) / 18446744073709551616 = 0 := by omega
  have k3 := or_0 h (by omega)
  have kh := u64_nat h (by omega)
  have kl := u64_nat l hl
  obtain ⟨u0, hu0⟩ : ∃ u, u = l % 4294967296 := ⟨_, rfl⟩
  obtain ⟨u1, hu1⟩ : ∃ u, u = l / 4294967296 := ⟨_, rfl⟩
  have k4 : bits BinOp.and IntKind.u64 (l : Int) 4294967295 = (u0 : Int) := by rw [hu0]; exact and_32 l hl
  have k5 : (l : Int) / 4294967296 = (u1 : Int) := by rw [hu1]; omega
  have HU : Hid (u0 < 4294967296 ∧ u1 < 4294967296 ∧ l = u1 * 4294967296 + u0) := Lib.hid ⟨by omega, by omega, by omega⟩
  clear hu0 hu1
  obtain ⟨q, hq⟩ : ∃ q, q = h / 2328306436 := ⟨_, rfl⟩
  obtain ⟨r, hr⟩ : ∃ r, r = h % 2328306436 := ⟨_, rfl⟩
  have k6 : (h : Int).tdiv 2328306436 = (q : Int) := by rw [hq]; rw [Int.tdiv_eq_ediv_of_nonneg (by omega)]; omega
  have k7 : IntKind.u64.wrap (q : Int) = (q : Int) := u64_nat q (by omega)
  obtain ⟨m, hm⟩ : ∃ m, m = q * 2328306436 := ⟨_, rfl⟩
  have k8 : IntKind.u64.wrap ((q : Int) * 2328306436) = (m : Int) := by
    have e : (q : Int) * 2328306436 = (m : Int) := by omega
    rw [e]; exact u64_nat m (by omega)
  have k9 : IntKind.u64.wrap ((h : Int) - (m : Int)) = (r : Int) := by
    have := u64_nat r (by omega)
    rw [← this]; congr 1; omega
  have HK := Lib.hid (by have := Kn.start h u1 (by omega) HU.out.2.1; rw [← hq, ← hr] at this; exact this : Kn h u1 q r)
  have HH := Lib.hid (And.intro h0 hh)
  clear hq hr hm h0 hh hl
  go_enter Tryz.func115, Tryz.ntmps115
  go_upto_region 8 with fail
  refine (K.out _).mono ?_
  rintro e w1 ⟨rfl, hw⟩; rw [hw]; clear hw w1 K
  go_upto_block 0 with fail
  clear kh kl t1 t2 k1 k2 k3 k4 k5 k6 k7 k8 k9
  go_cut [15, 16] from 67 to 85 (fun v15 _ wx => CutQ h u1 w v15 wx)
  case first =>
    go_wp2_with fail
    go_loopw [15, 16] (fun vq vr wr => wr = w ∧ KR h u1 vq vr) (fun vq _ _ => (intOf vq).toNat)
    case atStart => exact ⟨rfl, q, r, rfl, rfl, HK.out⟩
    case round =>
      obtain ⟨rfl, q, r, rfl, rfl, hK⟩ := hrel
      have HK2 := Lib.hid hK
      have e1 := hK.eq; have e3 := hK.q2; have e4 := hK.r2
      obtain ⟨a, ha⟩ : ∃ a, a = q * 2313682944 := ⟨_, rfl⟩
      obtain ⟨b, hb⟩ : ∃ b, b = 4294967296 * r := ⟨_, rfl⟩
      obtain ⟨c, hc⟩ : ∃ c, c = b + u1 := ⟨_, rfl⟩
      have w1 : IntKind.u64.wrap ((q : Int) * 2313682944) = (a : Int) := by
        have e : (q : Int) * 2313682944 = (a : Int) := by omega
        rw [e]; exact u64_nat a (by omega)
      have w2 : IntKind.u64.wrap (4294967296 * (r : Int)) = (b : Int) := by
        have e : 4294967296 * (r : Int) = (b : Int) := by omega
        rw [e]; exact u64_nat b (by omega)
      have w3 : IntKind.u64.wrap ((b : Int) + (u1 : Int)) = (c : Int) := by
        have e : (b : Int) + (u1 : Int) = (c : Int) := by omega
        rw [e]; exact u64_nat c (by have := HU.out; omega)
      have HABC := Lib.hid (And.intro ha (And.intro hb hc))
      by_cases hless : q = 4294967296 ∨ c < a
      · obtain ⟨g1, g2, g3⟩ := HK2.out.less (by have := HH.out; omega) (by have := HU.out; omega) (by have := HABC.out; omega)
        obtain ⟨q2, rfl⟩ : ∃ q2, q = q2 + 1 := ⟨q - 1, by omega⟩
        rw [Nat.add_sub_cancel] at g2 g3
        obtain ⟨r2, hr2⟩ : ∃ r2, r2 = r + 2328306436 := ⟨_, rfl⟩
        rw [← hr2] at g2
        have w4 : IntKind.u64.wrap ((r : Int) + 2328306436) = (r2 : Int) := by
          have e : (r : Int) + 2328306436 = (r2 : Int) := by omega
          rw [e]; exact u64_nat _ (by omega)
        have w5 : IntKind.u64.wrap (((q2 + 1 : Nat) : Int) - 1) = (q2 : Int) := by
          have e : ((q2 + 1 : Nat) : Int) - 1 = (q2 : Int) := by omega
          rw [e]; exact u64_nat _ (by omega)
        have HG := Lib.hid (And.intro g2 (And.intro g3 (show q2 ≤ 4294967295 by omega)))
        have HQ1 : Hid (q2 < q2 + 1) := Lib.hid (Nat.lt_succ_self _)
        generalize hqq : q2 + 1 = q at *
        have HQQ := Lib.hid hqq; clear hqq
        have tq : decide (4294967296 ≤ (q : Int)) = true ∨ (decide (4294967296 ≤ (q : Int)) = false ∧ c < a) := by
          rcases hless with e | e
          · exact .inl (decide_eq_true (by omega))
          · by_cases e5 : q = 4294967296
            · exact .inl (decide_eq_true (by omega))
            · exact .inr ⟨decide_eq_false (by omega), e⟩
        clear ha hb hc e1 e3 e4 hK g1 g2 g3 hr2 hless
        by_cases hs : 4294967296 ≤ r2
        · have t2 : decide (4294967296 ≤ (r2 : Int)) = true := decide_eq_true (by omega)
          have HZ := Lib.hid (Kn.stop (by have := HG.out; omega) HG.out.1 HG.out.2.1 hs)
          rcases tq with tq | ⟨tq, hl⟩
          all_goals
            go_wp2_with fail
            go_meet
            refine ⟨rfl, ?_⟩
            unfold qOf
            rw [← HZ.out]
        · have t2 : decide (4294967296 ≤ (r2 : Int)) = false := decide_eq_false (by omega)
          have HZ := Lib.hid (Nat.lt_of_not_le hs)
          rcases tq with tq | ⟨tq, hl⟩
          all_goals
            clear hs
            go_wp2_with fail
            go_roundw
            case rel => exact ⟨by first | rfl | trivial, q2, r2, rfl, rfl, HG.out.1, HG.out.2.1, by have := HG.out; omega, HZ.out⟩
            case measure => (simp only [intOf]; have := HQ1.out; omega)
      · have t1 : decide (4294967296 ≤ (q : Int)) = false := decide_eq_false (by omega)
        have hl : ¬ c < a := by omega
        clear ha hb hc e1 e3 e4 hK hless
        go_wp2_with fail
        go_meet
        refine ⟨rfl, ?_⟩
        have := HK2.out.done (by have := HU.out; omega) (by have := HABC.out; omega)
        unfold qOf; rw [← this]
  case rest =>
    obtain ⟨hwc, rfl⟩ := hcut
    subst wc
    obtain ⟨q1, hq1⟩ : ∃ q1, q1 = qOf h u1 := ⟨_, rfl⟩
    rw [← hq1]
    obtain ⟨d, hd⟩ : ∃ d, d = (h * 4294967296 + u1) % 10000000000000000000 := ⟨_, rfl⟩
    have hND : h * 4294967296 + u1 = q1 * 10000000000000000000 + d := by
      rw [hq1, hd]; unfold qOf; omega
    have hq1l : q1 < 4294967296 := by rw [hq1]; unfold qOf; have := HH.out; have := HU.out; omega
    have hdl : d < 10000000000000000000 := by rw [hd]; exact Nat.mod_lt _ (by decide)
    obtain ⟨m1, hm1⟩ : ∃ m, m = h * 4294967296 % 18446744073709551616 := ⟨_, rfl⟩
    obtain ⟨m2, hm2⟩ : ∃ m, m = (m1 + u1) % 18446744073709551616 := ⟨_, rfl⟩
    obtain ⟨m3, hm3⟩ : ∃ m, m = q1 * 10000000000000000000 % 18446744073709551616 := ⟨_, rfl⟩
    have z1 : IntKind.u64.wrap ((h : Int) * 4294967296) = (m1 : Int) := by rw [u64_wrp]; omega
    have z2 : IntKind.u64.wrap ((m1 : Int) + (u1 : Int)) = (m2 : Int) := by rw [u64_wrp]; omega
    have z3 : IntKind.u64.wrap ((q1 : Int) * 10000000000000000000) = (m3 : Int) := by rw [u64_wrp]; omega
    have z4 : IntKind.u64.wrap ((m2 : Int) - (m3 : Int)) = (d : Int) := by rw [u64_wrp]; have := HU.out; omega
    obtain ⟨q, hq⟩ : ∃ q, q = d / 2328306436 := ⟨_, rfl⟩
    obtain ⟨r, hr⟩ : ∃ r, r = d % 2328306436 := ⟨_, rfl⟩
    have k6 : (d : Int).tdiv 2328306436 = (q : Int) := by rw [hq]; rw [Int.tdiv_eq_ediv_of_nonneg (by omega)]; omega
    have k7 : IntKind.u64.wrap (q : Int) = (q : Int) := u64_nat q (by omega)
    obtain ⟨m, hm⟩ : ∃ m, m = q * 2328306436 := ⟨_, rfl⟩
    have k8 : IntKind.u64.wrap ((q : Int) * 2328306436) = (m : Int) := by
      have e : (q : Int) * 2328306436 = (m : Int) := by omega
      rw [e]; exact u64_nat m (by omega)
    have k9 : IntKind.u64.wrap ((d : Int) - (m : Int)) = (r : Int) := by
      have := u64_nat r (by omega)
      rw [← this]; congr 1; omega
    have HK3 := Lib.hid (by have := Kn.start d u0 hdl HU.out.1; rw [← hq, ← hr] at this; exact this : Kn d u0 q r)
    have HD := Lib.hid (And.intro hND (And.intro hq1l hdl))
    clear hq hr hm hND hq1l hdl hd hq1 hm1 hm2 hm3
    go_upto_block 2 with fail

    clear z1 z2 z3 z4 k6 k7 k8 k9
    go_cut [16, 18] from 102 to 120 (fun _ v18 wx => CutQ d u0 w v18 wx)
    case first =>
      go_wp2_with fail
      go_loopw [18, 16] (fun vq vr wr => wr = w ∧ KR d u0 vq vr) (fun vq _ _ => (intOf vq).toNat)
      case atStart => exact ⟨rfl, q, r, rfl, rfl, HK3.out⟩
      case round =>
        obtain ⟨rfl, q, r, rfl, rfl, hK⟩ := hrel
        have HK2 := Lib.hid hK
        have e1 := hK.eq; have e3 := hK.q2; have e4 := hK.r2
        obtain ⟨a, ha⟩ : ∃ a, a = q * 2313682944 := ⟨_, rfl⟩
        obtain ⟨b, hb⟩ : ∃ b, b = 4294967296 * r := ⟨_, rfl⟩
        obtain ⟨c, hc⟩ : ∃ c, c = b + u0 := ⟨_, rfl⟩
        have w1 : IntKind.u64.wrap ((q : Int) * 2313682944) = (a : Int) := by
          have e : (q : Int) * 2313682944 = (a : Int) := by omega
          rw [e]; exact u64_nat a (by omega)
        have w2 : IntKind.u64.wrap (4294967296 * (r : Int)) = (b : Int) := by
          have e : 4294967296 * (r : Int) = (b : Int) := by omega
          rw [e]; exact u64_nat b (by omega)
        have w3 : IntKind.u64.wrap ((b : Int) + (u0 : Int)) = (c : Int) := by
          have e : (b : Int) + (u0 : Int) = (c : Int) := by omega
          rw [e]; exact u64_nat c (by have := HU.out; omega)
        have HABC := Lib.hid (And.intro ha (And.intro hb hc))
        by_cases hless : q = 4294967296 ∨ c < a
        · obtain ⟨g1, g2, g3⟩ := HK2.out.less (by have := HD.out; omega) (by have := HU.out; omega) (by have := HABC.out; omega)
          obtain ⟨q2, rfl⟩ : ∃ q2, q = q2 + 1 := ⟨q - 1, by omega⟩
          rw [Nat.add_sub_cancel] at g2 g3
          obtain ⟨r2, hr2⟩ : ∃ r2, r2 = r + 2328306436 := ⟨_, rfl⟩
          rw [← hr2] at g2
          have w4 : IntKind.u64.wrap ((r : Int) + 2328306436) = (r2 : Int) := by
            have e : (r : Int) + 2328306436 = (r2 : Int) := by omega
            rw [e]; exact u64_nat _ (by omega)
          have w5 : IntKind.u64.wrap (((q2 + 1 : Nat) : Int) - 1) = (q2 : Int) := by
            have e : ((q2 + 1 : Nat) : Int) - 1 = (q2 : Int) := by omega
            rw [e]; exact u64_nat _ (by omega)
          have HG := Lib.hid (And.intro g2 (And.intro g3 (show q2 ≤ 4294967295 by omega)))
          have HQ1 : Hid (q2 < q2 + 1) := Lib.hid (Nat.lt_succ_self _)
          generalize hqq : q2 + 1 = q at *
          have HQQ := Lib.hid hqq; clear hqq
          have tq : decide (4294967296 ≤ (q : Int)) = true ∨ (decide (4294967296 ≤ (q : Int)) = false ∧ c < a) := by
            rcases hless with e | e
            · exact .inl (decide_eq_true (by omega))
            · by_cases e5 : q = 4294967296
              · exact .inl (decide_eq_true (by omega))
              · exact .inr ⟨decide_eq_false (by omega), e⟩
          clear ha hb hc e1 e3 e4 hK g1 g2 g3 hr2 hless
          by_cases hs : 4294967296 ≤ r2
          · have t2 : decide (4294967296 ≤ (r2 : Int)) = true := decide_eq_true (by omega)
            have HZ := Lib.hid (Kn.stop (by have := HG.out; omega) HG.out.1 HG.out.2.1 hs)
            rcases tq with tq | ⟨tq, hl⟩
            all_goals
              go_wp2_with fail
              go_meet
              refine ⟨rfl, ?_⟩
              unfold qOf
              rw [← HZ.out]
          · have t2 : decide (4294967296 ≤ (r2 : Int)) = false := decide_eq_false (by omega)
            have HZ := Lib.hid (Nat.lt_of_not_le hs)
            rcases tq with tq | ⟨tq, hl⟩
            all_goals
              clear hs
              go_wp2_with fail
              go_roundw
              case rel => exact ⟨by first | rfl | trivial, q2, r2, rfl, rfl, HG.out.1, HG.out.2.1, by have := HG.out; omega, HZ.out⟩
              case measure => (simp only [intOf]; have := HQ1.out; omega)
        · have t1 : decide (4294967296 ≤ (q : Int)) = false := decide_eq_false (by omega)
          have hl : ¬ c < a := by omega
          clear ha hb hc e1 e3 e4 hK hless
          go_wp2_with fail
          go_meet
          refine ⟨rfl, ?_⟩
          have := HK2.out.done (by have := HU.out; omega) (by have := HABC.out; omega)
          unfold qOf; rw [← this]

    case rest =>
      obtain ⟨hwc, rfl⟩ := hcut
      subst wc
      obtain ⟨q0, hq0⟩ : ∃ q0, q0 = qOf d u0 := ⟨_, rfl⟩
      rw [← hq0]
      obtain ⟨rm, hrm⟩ : ∃ x, x = (d * 4294967296 + u0) % 10000000000000000000 := ⟨_, rfl⟩
      have hND : d * 4294967296 + u0 = q0 * 10000000000000000000 + rm := by
        rw [hq0, hrm]; unfold qOf; omega
      have hq0l : q0 < 4294967296 := by rw [hq0]; unfold qOf; have := HD.out; have := HU.out; omega
      have hrl : rm < 10000000000000000000 := by rw [hrm]; exact Nat.mod_lt _ (by decide)
      have EQ : divQ h l = q1 * 4294967296 + q0 := by unfold divQ; have := HD.out; have := HU.out; omega
      have ER : divR h l = rm := by unfold divR; have := HD.out; have := HU.out; omega
      obtain ⟨m1, hm1⟩ : ∃ m, m = d * 4294967296 % 18446744073709551616 := ⟨_, rfl⟩
      obtain ⟨m2, hm2⟩ : ∃ m, m = (m1 + u0) % 18446744073709551616 := ⟨_, rfl⟩
      obtain ⟨m3, hm3⟩ : ∃ m, m = q0 * 10000000000000000000 % 18446744073709551616 := ⟨_, rfl⟩
      obtain ⟨m4, hm4⟩ : ∃ m, m = q1 * 4294967296 := ⟨_, rfl⟩
      rw [← hm4] at EQ
      have HEQ := Lib.hid EQ
      have HER := Lib.hid ER
      have z1 : IntKind.u64.wrap ((d : Int) * 4294967296) = (m1 : Int) := by rw [u64_wrp]; omega
      have z2 : IntKind.u64.wrap ((m1 : Int) + (u0 : Int)) = (m2 : Int) := by rw [u64_wrp]; omega
      have z3 : IntKind.u64.wrap ((q0 : Int) * 10000000000000000000) = (m3 : Int) := by rw [u64_wrp]; omega
      have z4 : IntKind.u64.wrap ((m2 : Int) - (m3 : Int)) = (rm : Int) := by rw [u64_wrp]; have := HU.out; omega
      have z5 : IntKind.u64.wrap ((q1 : Int) * 4294967296) = (m4 : Int) := by rw [u64_wrp]; have := HD.out; omega
      have z6 : IntKind.u64.wrap ((m4 : Int) + (q0 : Int)) = ((m4 + q0 : Nat) : Int) := by rw [u64_wrp]; have := HD.out; omega
      clear hND hq0l hrl EQ ER hm1 hm2 hm3 hm4 hrm hq0
      generalize m4 + q0 = qq at *
      go_wp2_with fail
      go_ret2
      refine ⟨?_, rfl⟩
      rw [HEQ.out, HER.out]
      rfl
end Go.Proofs.YtiijgghholhcnaaGreatDoor
