/- The reference's top: the exponent of a float above 0. -/
import Derived.Test.YthjfdhkahmlolaaGreatDoorJP39
namespace Go.Proofs.YthjfdhkahmlolaaGreatDoor
open Go.RowKit Usc
set_option maxRecDepth 100000
/-- where the search begins -/
def tpE (u : Int) : Int := (u * 30103).tdiv 100000 + 2
def tpOk (u : Nat) : Bool := decide (2 ^ (u + 1) * 10 ^ (-(tpE ((u : Int) - 1075) + 1)).toNat ≤ 10 ^ (tpE ((u : Int) - 1075) + 1).toNat * big) && decide (-330 ≤ tpE ((u : Int) - 1075)) && decide (tpE ((u : Int) - 1075) ≤ 400)
theorem tp_all : (List.range 2100).all tpOk = true := by kernel_rfl
theorem tp_ok {u : Nat} (h : u < 2100) : 2 ^ (u + 1) * 10 ^ (-(tpE ((u : Int) - 1075) + 1)).toNat ≤ 10 ^ (tpE ((u : Int) - 1075) + 1).toNat * big ∧ -330 ≤ tpE ((u : Int) - 1075) ∧ tpE ((u : Int) - 1075) ≤ 400 := by
  have := List.all_eq_true.1 tp_all u (List.mem_range.2 h)
  unfold tpOk at this
  rw [Bool.and_eq_true, Bool.and_eq_true, decide_eq_true_eq, decide_eq_true_eq, decide_eq_true_eq] at this
  exact ⟨this.1.1, this.1.2, this.2⟩
theorem ag_top (b : Nat) (s : Int) : 0 < agV 1 (mantB b) s ((exB b : Int) - 1075) ↔ Zs b s < Gs s := by
  have e : agV 1 (mantB b) s ((exB b : Int) - 1075) = cmp3 (yV b s) (xV b s) := by
    unfold agV yV xV
    rw [show -((exB b : Int) - 1075) = 1075 - (exB b : Int) by omega, Nat.one_mul, Nat.mul_comm (10 ^ s.toNat), Nat.mul_right_comm (mantB b)]
  rw [e, cmp3_pos]
  have h := scale_le (A := yV b s) (B := xV b s) (A' := Gs s) (B' := Zs b s) (p := Gs s) (q := yV b s) (Gs_pos s) (yV_pos b s) (Nat.mul_comm _ _) (xy_zg b s)
  omega
theorem top_high {b t : Nat} (H : Parts b) (h1 : mantB b < 2 ^ (t + 1)) (ht : t ≤ 52) : Zs b (tpE ((exB b : Int) - 1075 + t) + 1) < Gs (tpE ((exB b : Int) - 1075 + t) + 1) := by
  have e2 := H.e2
  have k := (tp_ok (u := t + exB b) (by omega)).1
  rw [show ((t + exB b : Nat) : Int) - 1075 = (exB b : Int) - 1075 + t by omega] at k
  generalize tpE ((exB b : Int) - 1075 + t) + 1 = s at *
  unfold Zs Gs vv
  refine Nat.lt_of_lt_of_le ?_ k
  have e : 2 ^ (t + exB b + 1) = 2 ^ (t + 1) * 2 ^ exB b := by rw [← Nat.pow_add]; congr 1; omega
  rw [e]
  exact Nat.mul_lt_mul_of_pos_right (Nat.mul_lt_mul_of_pos_right h1 (Nat.two_pow_pos _)) (Nat.pow_pos (by decide))
theorem low_324 : 10 ^ 0 * Gs (-324) ≤ 2 * 10 ^ (-(-324 : Int)).toNat := by decide +kernel
theorem top_low {b : Nat} (H : Parts b) {s : Int} (h : Zs b s < Gs s) : -324 < s := by
  rcases Int.lt_or_le (-324) s with g | g
  · exact g
  · exfalso
    obtain ⟨j, hj⟩ : ∃ j : Nat, -324 = s + j := ⟨(-324 - s).toNat, by omega⟩
    have h1 : 2 ≤ vv b := by
      unfold vv
      have h2 : 2 ^ 1 ≤ 2 ^ exB b := Nat.pow_le_pow_right (by decide) H.e1
      have := Nat.mul_le_mul H.m1 h2
      omega
    have h2 : 10 ^ 0 * Gs (-324) ≤ Zs b (-324) := Nat.le_trans low_324 (Nat.mul_le_mul_right _ h1)
    rw [hj] at h2
    have h3 := (zg_le b s j 0).1 h2
    have h4 : Gs s ≤ 10 ^ (0 + j) * Gs s := Nat.le_mul_of_pos_left _ (Nat.pow_pos (by decide))
    omega
def Tp1 (w0 : World) (m : Nat) (k : Int) (v4 v5 : Value) (w : World) : Prop :=
  ∃ x t : Nat, v5 = .int .u64 (x : Int) ∧ v4 = .int .i64 (k + t) ∧ 1 ≤ x ∧ x < 9007199254740992 ∧ x * 2 ^ t ≤ m ∧ m < (x + 1) * 2 ^ t ∧ t ≤ 52 ∧ w = w0
def Tp2 (w0 : World) (b : Nat) (v6 : Value) (w : World) : Prop :=
  ∃ e : Int, v6 = .int .i64 e ∧ Zs b (e + 1) < Gs (e + 1) ∧ -331 ≤ e ∧ e ≤ 400 ∧ Only (fun _ => False) w0 w
theorem tp_half {m x t : Nat} (h1 : x * 2 ^ t ≤ m) (h2 : m < (x + 1) * 2 ^ t) (hm : m < 9007199254740992) (hx : 1 < x) : x / 2 * 2 ^ (t + 1) ≤ m ∧ m < (x / 2 + 1) * 2 ^ (t + 1) ∧ t + 1 ≤ 52 := by
  have e : 2 ^ (t + 1) = 2 * 2 ^ t := by rw [Nat.pow_succ, Nat.mul_comm]
  have a1 : x / 2 * 2 * 2 ^ t ≤ x * 2 ^ t := Nat.mul_le_mul_right _ (by omega)
  have a2 : (x + 1) * 2 ^ t ≤ (x / 2 + 1) * 2 * 2 ^ t := Nat.mul_le_mul_right _ (by omega)
  refine ⟨by rw [e, ← Nat.mul_assoc]; omega, by rw [e, ← Nat.mul_assoc]; omega, ?_⟩
  rcases Nat.lt_or_ge t 52 with g | g
  · exact g
  · exfalso
    have h3 : 2 ^ 52 ≤ 2 ^ t := Nat.pow_le_pow_right (by decide) g
    have h4 : 2 * 2 ^ 52 ≤ x * 2 ^ t := Nat.mul_le_mul hx h3
    rw [show 2 * (2 : Nat) ^ 52 = 9007199254740992 by decide] at h4
    omega
set_option maxHeartbeats 4000000 in
theorem top_calls (b : Nat) (w : World) (h0 : 1 ≤ b) (hb : b < 9218868437227405312) :
    Calls Tryz.prog 58 #[.int .u64 (b : Int)] w fun en w' => ∃ e : Int, en = .returned (.int .i64 e) ∧ TopE b e ∧ -324 ≤ e ∧ e ≤ 400 ∧ Only (fun _ => False) w w' := by
  have H := parts b h0 hb
  have hm1 := H.m1; have hm2 := H.m2; have he1 := H.e1; have he2 := H.e2
  have hP := Lib.hid (fun w => parts_calls b w hb)
  have HI := Lib.hid (fun t h1 ht => top_high (t := t) H h1 ht)
  have LO := Lib.hid (fun s => top_low (s := s) H)
  have AG := Lib.hid (fun s w hs => ag_calls 1 (mantB b) s ((exB b : Int) - 1075) w (by decide) (by omega) hs (by omega))
  have AT := Lib.hid (fun s => ag_top b s)
  have TK := Lib.hid (fun (t : Nat) (ht : t ≤ 52) => (tp_ok (u := t + exB b) (by omega)).2)
  obtain ⟨k, hk⟩ : ∃ k, k = (exB b : Int) - 1075 := ⟨_, rfl⟩
  have hk1 : -1074 ≤ k ∧ k ≤ 971 := by omega
  have TK' := Lib.hid (fun (t : Nat) (ht : t ≤ 52) => (show -330 ≤ tpE (k + t) ∧ tpE (k + t) ≤ 400 by
    have := TK.out t ht
    rw [show ((t + exB b : Nat) : Int) - 1075 = k + t by omega] at this
    exact this))
  clear TK
  rw [← hk] at hP HI AG AT
  clear hk he1 he2 H
  generalize mantB b = m at *
  go_enter Tryz.func58, Tryz.ntmps58
  go_wp2_with fail
  refine (hP.out _).mono ?_; rintro en w1 ⟨rfl, hw⟩; rw [hw]; clear hw w1 hP
  go_wp2_with fail
  go_loopw [5, 6] (fun v4 v5 wr => Tp1 w m k v4 v5 wr) (fun _ v5 _ => (intOf v5).toNat)
  case atStart => exact ⟨m, 0, rfl, by simp, hm1, hm2, by simp, by simp, by omega, rfl⟩
  case round =>
    obtain ⟨x, t, rfl, rfl, hx, hx2, i1, i2, ht, hw⟩ := hrel
    rw [hw]; clear hw
    by_cases h1 : 1 < x
    · have hh := tp_half i1 i2 hm2 h1
      have HH := Lib.hid hh; have I1 := Lib.hid i1; clear hh i1 i2
      have tx : decide ((1 : Int) < (x : Int)) = true := decide_eq_true (by omega)
      go_wp2_with fail
      exact ⟨⟨x / 2, t + 1, congrArg (Value.int .u64) (by omega), congrArg (Value.int .i64) (by omega), by omega, by omega, HH.out.1, HH.out.2.1, HH.out.2.2, rfl⟩, by simp only [intOf]; omega⟩
    · have i3 : m < 2 ^ (t + 1) := by
        rw [show x = 1 by omega] at i2
        rw [Nat.pow_succ, Nat.mul_comm]; exact i2
      have tx : decide ((1 : Int) < (x : Int)) = false := decide_eq_false (by omega)
      have HS := Lib.hid (HI.out t i3 ht)
      have TT := TK'.out t ht
      have e5 : ((k + (t : Int)) * 30103).tdiv 100000 + 2 = tpE (k + t) := rfl
      clear i1 i2 HI TK'
      have tb : -400 ≤ ((k + (t : Int)) * 30103).tdiv 100000 ∧ ((k + (t : Int)) * 30103).tdiv 100000 ≤ 400 := by omega
      go_wp2_with fail
      go_loopw [7] (fun v6 wr => Tp2 w b v6 wr) (fun v6 _ => (intOf v6 + 400).toNat)
      case atStart =>
        refine ⟨tpE (k + t), ?_, HS.out, by omega, by omega, Only.refl _ _⟩
        first
          | rfl
          | (congr 1; rw [IntWalk.wrap64_in (by omega) (by omega)]; rfl)
      case round =>
        obtain ⟨e, rfl, hz, g1, g2, hO⟩ := hrel
        have HO := Lib.hid hO; have HZ := Lib.hid hz; clear hO hz
        go_wp2_with fail
        refine (AG.out e _ (by omega)).mono ?_
        rintro en w5 ⟨rfl, ho⟩
        have HO5 := Lib.hid (HO.out.trans ho); clear ho
        have AE := AT.out e
        generalize agV 1 m e k = C at *
        by_cases hc : Zs b e < Gs e
        · have tC : decide (0 < C) = true := decide_eq_true (AE.2 hc)
          have hl := LO.out e hc
          have HCC := Lib.hid hc; clear hc AE
          go_wp2_with fail
          refine ⟨⟨e - 1, rfl, by rw [Int.sub_add_cancel]; exact HCC.out, by omega, by omega, HO5.out⟩, by simp only [intOf]; omega⟩
        · have tC : decide (0 < C) = false := decide_eq_false (fun h => hc (AE.1 h))
          have HCC := Lib.hid hc; clear hc AE
          go_wp2_with fail
          go_ret
          refine ⟨e, rfl, ⟨Nat.le_of_not_lt HCC.out, HZ.out⟩, ?_, g2, HO5.out⟩
          have := LO.out (e + 1) HZ.out
          omega
end Go.Proofs.YthjfdhkahmlolaaGreatDoor
