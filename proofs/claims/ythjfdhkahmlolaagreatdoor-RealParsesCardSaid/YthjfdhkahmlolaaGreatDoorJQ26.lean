/- commonPrefixLenIgnoreCase and special, at any text. -/
import Derived.Test.YthjfdhkahmlolaaGreatDoorJQ25
import Derived.Deep.DeepCutAuto
namespace Go.Proofs.YthjfdhkahmlolaaGreatDoor
open Go.RowKit
set_option maxRecDepth 100000
def CpPost (w : World) (e : Ending) (w' : World) : Prop := (∃ n : Nat, n ≤ 100 ∧ e = .returned (.int .i64 (n : Int))) ∧ w' = w
def CpR (N : Nat) (w0 : World) (v : Value) (w : World) : Prop := ∃ k : Nat, v = .int .i64 (k : Int) ∧ k ≤ N ∧ w = w0
set_option maxHeartbeats 1000000 in
theorem cp_any (s p : ByteArray) (w : World) (hs : s.size < 4611686018427387904) (hp : p.size ≤ 100) : Calls Tryz.prog 153 #[.string s, .string p] w (CpPost w) := by
  obtain ⟨N, hN, n1, n2⟩ : ∃ N : Nat, min (p.size : Int) (s.size : Int) = (N : Int) ∧ N ≤ s.size ∧ N ≤ p.size := ⟨min p.size s.size, by omega, by omega, by omega⟩
  have HS := Lib.hid hs
  clear hs
  go_enter Tryz.func153, Tryz.ntmps153
  go_wp2_with fail
  go_loopw [6] (fun v wr => CpR N w v wr) (fun v _ => N - (intOf v).toNat)
  case atStart => exact ⟨0, rfl, Nat.zero_le _, rfl⟩
  case round =>
    obtain ⟨k, rfl, hk, hwr⟩ := hrel
    subst wr
    by_cases hkN : k < N
    · have hks : k < s.size := by omega
      have hkp : k < p.size := by omega
      obtain ⟨c, hc, hc2⟩ : ∃ c : Nat, (s[k]'hks).toNat = c ∧ c < 256 := ⟨_, rfl, (s[k]'hks).toNat_lt⟩
      obtain ⟨d, hd, hd2⟩ : ∃ c : Nat, (p[k]'hkp).toNat = c ∧ c < 256 := ⟨_, rfl, (p[k]'hkp).toNat_lt⟩
      have hs1 := HS.out
      by_cases hu : 65 ≤ c ∧ c ≤ 90
      · have t1 : decide (65 ≤ (c : Int)) = true := decide_eq_true (by omega)
        have t2 : decide ((c : Int) ≤ 90) = true := decide_eq_true (by omega)
        by_cases hcd : c + 32 = d
        · have t3 : ((c : Int) + 32 != (d : Int)) = false := by rw [bne_eq_false_iff_eq]; omega
          go_wp2_with fail
          exact ⟨⟨k + 1, by go_num, by omega, rfl⟩, by simp only [intOf]; omega⟩
        · have t3 : ((c : Int) + 32 != (d : Int)) = true := by rw [bne_iff_ne]; omega
          go_wp2_with fail
          go_ret
          exact ⟨⟨k, by omega, rfl⟩, rfl⟩
      · by_cases hcd : c = d
        · have t3 : ((c : Int) != (d : Int)) = false := by rw [bne_eq_false_iff_eq]; omega
          by_cases h65 : 65 ≤ c
          · have t1 : decide (65 ≤ (c : Int)) = true := decide_eq_true (by omega)
            have t2 : decide ((c : Int) ≤ 90) = false := decide_eq_false (by omega)
            go_wp2_with fail
            exact ⟨⟨k + 1, by go_num, by omega, rfl⟩, by simp only [intOf]; omega⟩
          · have t1 : decide (65 ≤ (c : Int)) = false := decide_eq_false (by omega)
            go_wp2_with fail
            exact ⟨⟨k + 1, by go_num, by omega, rfl⟩, by simp only [intOf]; omega⟩
        · have t3 : ((c : Int) != (d : Int)) = true := by rw [bne_iff_ne]; omega
          by_cases h65 : 65 ≤ c
          · have t1 : decide (65 ≤ (c : Int)) = true := decide_eq_true (by omega)
            have t2 : decide ((c : Int) ≤ 90) = false := decide_eq_false (by omega)
            go_wp2_with fail
            go_ret
            exact ⟨⟨k, by omega, rfl⟩, rfl⟩
          · have t1 : decide (65 ≤ (c : Int)) = false := decide_eq_false (by omega)
            go_wp2_with fail
            go_ret
            exact ⟨⟨k, by omega, rfl⟩, rfl⟩
    · obtain rfl : k = N := by omega
      go_wp2_with fail
      go_ret
      exact ⟨⟨k, by omega, rfl⟩, rfl⟩
def SpPost (w : World) (e : Ending) (w' : World) : Prop := (∃ (f n : Nat) (ok : Bool), f < 18446744073709551616 ∧ n ≤ 200 ∧ e = .returned (.tuple #[.float .f64 (f : Nat), .int .i64 (n : Int), .bool ok])) ∧ w' = w
set_option maxHeartbeats 4000000 in
theorem sp_any (s : ByteArray) (w : World) (hs : s.size < 4611686018427387904) : Calls Tryz.prog 116 #[.string s] w (SpPost w) := by
  by_cases h0 : s.size = 0
  · have t0 : ((s.size : Int) == 0) = true := by rw [beq_iff_eq]; omega
    go_enter Tryz.func116, Tryz.ntmps116
    go_wp2_with fail
    go_ret3
    exact ⟨⟨0, 0, false, by decide, by decide, rfl⟩, rfl⟩
  have hsz : 0 < s.size := by omega
  have hne : s ≠ ByteArray.empty := fun h => by rw [h] at hsz; exact absurd hsz (by decide)
  obtain ⟨c0, hc, hc2⟩ : ∃ c : Nat, (s[0]'hsz).toNat = c ∧ c < 256 := ⟨_, rfl, (s[0]'hsz).toNat_lt⟩
  clear h0
  by_cases h45 : c0 = 45
  · subst h45
    go_enter Tryz.func116, Tryz.ntmps116
    go_wp2_with fail
    refine (cp_any _ _ _ (by simp [ByteArray.size_extract]; omega) (by decide)).mono ?_
    rintro en w1 ⟨⟨n, hn, rfl⟩, hw⟩; rw [hw]; clear hw w1
    by_cases h3 : n = 3
    · subst h3
      go_wp2_with fail
      refine (inf_calls (-1) _ (.inr ⟨rfl, rfl⟩) _).mono ?_
      rintro en w1 ⟨rfl, hw⟩; rw [hw]; clear hw w1
      go_wp2_with fail
      go_ret3
      exact ⟨⟨_, 4, true, by decide, by decide, rfl⟩, rfl⟩
    by_cases h8 : n = 8
    · subst h8
      go_wp2_with fail
      refine (inf_calls (-1) _ (.inr ⟨rfl, rfl⟩) _).mono ?_
      rintro en w1 ⟨rfl, hw⟩; rw [hw]; clear hw w1
      go_wp2_with fail
      go_ret3
      exact ⟨⟨_, 9, true, by decide, by decide, rfl⟩, rfl⟩
    by_cases h38 : 3 < n ∧ n < 8
    · have t1 : decide (3 < (n : Int)) = true := decide_eq_true (by omega)
      have t2 : decide ((n : Int) < 8) = true := decide_eq_true (by omega)
      go_wp2_with fail
      refine (inf_calls (-1) _ (.inr ⟨rfl, rfl⟩) _).mono ?_
      rintro en w1 ⟨rfl, hw⟩; rw [hw]; clear hw w1
      go_wp2_with fail
      go_ret3
      exact ⟨⟨_, 4, true, by decide, by decide, rfl⟩, rfl⟩
    have t3 : ((n : Int) == 3) = false := by rw [beq_eq_false_iff_ne]; omega
    have t4 : ((n : Int) == 8) = false := by rw [beq_eq_false_iff_ne]; omega
    by_cases h39 : 3 < n
    · have t1 : decide (3 < (n : Int)) = true := decide_eq_true (by omega)
      have t2 : decide ((n : Int) < 8) = false := decide_eq_false (by omega)
      go_wp2_with fail
      go_ret3
      exact ⟨⟨0, 0, false, by decide, by decide, rfl⟩, rfl⟩
    · have t1 : decide (3 < (n : Int)) = false := decide_eq_false (by omega)
      go_wp2_with fail
      go_ret3
      exact ⟨⟨0, 0, false, by decide, by decide, rfl⟩, rfl⟩
  by_cases h43 : c0 = 43
  · subst h43
    go_enter Tryz.func116, Tryz.ntmps116
    go_wp2_with fail
    refine (cp_any _ _ _ (by simp [ByteArray.size_extract]; omega) (by decide)).mono ?_
    rintro en w1 ⟨⟨n, hn, rfl⟩, hw⟩; rw [hw]; clear hw w1
    by_cases h3 : n = 3
    · subst h3
      go_wp2_with fail
      refine (inf_calls (1) _ (.inl ⟨rfl, rfl⟩) _).mono ?_
      rintro en w1 ⟨rfl, hw⟩; rw [hw]; clear hw w1
      go_wp2_with fail
      go_ret3
      exact ⟨⟨_, 4, true, by decide, by decide, rfl⟩, rfl⟩
    by_cases h8 : n = 8
    · subst h8
      go_wp2_with fail
      refine (inf_calls (1) _ (.inl ⟨rfl, rfl⟩) _).mono ?_
      rintro en w1 ⟨rfl, hw⟩; rw [hw]; clear hw w1
      go_wp2_with fail
      go_ret3
      exact ⟨⟨_, 9, true, by decide, by decide, rfl⟩, rfl⟩
    by_cases h38 : 3 < n ∧ n < 8
    · have t1 : decide (3 < (n : Int)) = true := decide_eq_true (by omega)
      have t2 : decide ((n : Int) < 8) = true := decide_eq_true (by omega)
      go_wp2_with fail
      refine (inf_calls (1) _ (.inl ⟨rfl, rfl⟩) _).mono ?_
      rintro en w1 ⟨rfl, hw⟩; rw [hw]; clear hw w1
      go_wp2_with fail
      go_ret3
      exact ⟨⟨_, 4, true, by decide, by decide, rfl⟩, rfl⟩
    have t3 : ((n : Int) == 3) = false := by rw [beq_eq_false_iff_ne]; omega
    have t4 : ((n : Int) == 8) = false := by rw [beq_eq_false_iff_ne]; omega
    by_cases h39 : 3 < n
    · have t1 : decide (3 < (n : Int)) = true := decide_eq_true (by omega)
      have t2 : decide ((n : Int) < 8) = false := decide_eq_false (by omega)
      go_wp2_with fail
      go_ret3
      exact ⟨⟨0, 0, false, by decide, by decide, rfl⟩, rfl⟩
    · have t1 : decide (3 < (n : Int)) = false := decide_eq_false (by omega)
      go_wp2_with fail
      go_ret3
      exact ⟨⟨0, 0, false, by decide, by decide, rfl⟩, rfl⟩
  by_cases h105 : c0 = 105
  · subst h105
    go_enter Tryz.func116, Tryz.ntmps116
    go_wp2_with fail
    refine (cp_any _ _ _ (by exact hs) (by decide)).mono ?_
    rintro en w1 ⟨⟨n, hn, rfl⟩, hw⟩; rw [hw]; clear hw w1
    by_cases h3 : n = 3
    · subst h3
      go_wp2_with fail
      refine (inf_calls (1) _ (.inl ⟨rfl, rfl⟩) _).mono ?_
      rintro en w1 ⟨rfl, hw⟩; rw [hw]; clear hw w1
      go_wp2_with fail
      go_ret3
      exact ⟨⟨_, 3, true, by decide, by decide, rfl⟩, rfl⟩
    by_cases h8 : n = 8
    · subst h8
      go_wp2_with fail
      refine (inf_calls (1) _ (.inl ⟨rfl, rfl⟩) _).mono ?_
      rintro en w1 ⟨rfl, hw⟩; rw [hw]; clear hw w1
      go_wp2_with fail
      go_ret3
      exact ⟨⟨_, 8, true, by decide, by decide, rfl⟩, rfl⟩
    by_cases h38 : 3 < n ∧ n < 8
    · have t1 : decide (3 < (n : Int)) = true := decide_eq_true (by omega)
      have t2 : decide ((n : Int) < 8) = true := decide_eq_true (by omega)
      go_wp2_with fail
      refine (inf_calls (1) _ (.inl ⟨rfl, rfl⟩) _).mono ?_
      rintro en w1 ⟨rfl, hw⟩; rw [hw]; clear hw w1
      go_wp2_with fail
      go_ret3
      exact ⟨⟨_, 3, true, by decide, by decide, rfl⟩, rfl⟩
    have t3 : ((n : Int) == 3) = false := by rw [beq_eq_false_iff_ne]; omega
    have t4 : ((n : Int) == 8) = false := by rw [beq_eq_false_iff_ne]; omega
    by_cases h39 : 3 < n
    · have t1 : decide (3 < (n : Int)) = true := decide_eq_true (by omega)
      have t2 : decide ((n : Int) < 8) = false := decide_eq_false (by omega)
      go_wp2_with fail
      go_ret3
      exact ⟨⟨0, 0, false, by decide, by decide, rfl⟩, rfl⟩
    · have t1 : decide (3 < (n : Int)) = false := decide_eq_false (by omega)
      go_wp2_with fail
      go_ret3
      exact ⟨⟨0, 0, false, by decide, by decide, rfl⟩, rfl⟩
  by_cases h73 : c0 = 73
  · subst h73
    go_enter Tryz.func116, Tryz.ntmps116
    go_wp2_with fail
    refine (cp_any _ _ _ (by exact hs) (by decide)).mono ?_
    rintro en w1 ⟨⟨n, hn, rfl⟩, hw⟩; rw [hw]; clear hw w1
    by_cases h3 : n = 3
    · subst h3
      go_wp2_with fail
      refine (inf_calls (1) _ (.inl ⟨rfl, rfl⟩) _).mono ?_
      rintro en w1 ⟨rfl, hw⟩; rw [hw]; clear hw w1
      go_wp2_with fail
      go_ret3
      exact ⟨⟨_, 3, true, by decide, by decide, rfl⟩, rfl⟩
    by_cases h8 : n = 8
    · subst h8
      go_wp2_with fail
      refine (inf_calls (1) _ (.inl ⟨rfl, rfl⟩) _).mono ?_
      rintro en w1 ⟨rfl, hw⟩; rw [hw]; clear hw w1
      go_wp2_with fail
      go_ret3
      exact ⟨⟨_, 8, true, by decide, by decide, rfl⟩, rfl⟩
    by_cases h38 : 3 < n ∧ n < 8
    · have t1 : decide (3 < (n : Int)) = true := decide_eq_true (by omega)
      have t2 : decide ((n : Int) < 8) = true := decide_eq_true (by omega)
      go_wp2_with fail
      refine (inf_calls (1) _ (.inl ⟨rfl, rfl⟩) _).mono ?_
      rintro en w1 ⟨rfl, hw⟩; rw [hw]; clear hw w1
      go_wp2_with fail
      go_ret3
      exact ⟨⟨_, 3, true, by decide, by decide, rfl⟩, rfl⟩
    have t3 : ((n : Int) == 3) = false := by rw [beq_eq_false_iff_ne]; omega
    have t4 : ((n : Int) == 8) = false := by rw [beq_eq_false_iff_ne]; omega
    by_cases h39 : 3 < n
    · have t1 : decide (3 < (n : Int)) = true := decide_eq_true (by omega)
      have t2 : decide ((n : Int) < 8) = false := decide_eq_false (by omega)
      go_wp2_with fail
      go_ret3
      exact ⟨⟨0, 0, false, by decide, by decide, rfl⟩, rfl⟩
    · have t1 : decide (3 < (n : Int)) = false := decide_eq_false (by omega)
      go_wp2_with fail
      go_ret3
      exact ⟨⟨0, 0, false, by decide, by decide, rfl⟩, rfl⟩
  by_cases h110 : c0 = 110
  · subst h110
    go_enter Tryz.func116, Tryz.ntmps116
    go_wp2_with fail
    refine (cp_any _ _ _ (by exact hs) (by decide)).mono ?_
    rintro en w1 ⟨⟨n, hn, rfl⟩, hw⟩; rw [hw]; clear hw w1
    by_cases h3 : n = 3
    · subst h3
      go_wp2_with fail
      refine (nan_calls _).mono ?_
      rintro en w1 ⟨rfl, hw⟩; rw [hw]; clear hw w1
      go_wp2_with fail
      go_ret3
      exact ⟨⟨_, 3, true, by decide, by decide, rfl⟩, rfl⟩
    have t3 : ((n : Int) == 3) = false := by rw [beq_eq_false_iff_ne]; omega
    go_wp2_with fail
    go_ret3
    exact ⟨⟨0, 0, false, by decide, by decide, rfl⟩, rfl⟩
  by_cases h78 : c0 = 78
  · subst h78
    go_enter Tryz.func116, Tryz.ntmps116
    go_wp2_with fail
    refine (cp_any _ _ _ (by exact hs) (by decide)).mono ?_
    rintro en w1 ⟨⟨n, hn, rfl⟩, hw⟩; rw [hw]; clear hw w1
    by_cases h3 : n = 3
    · subst h3
      go_wp2_with fail
      refine (nan_calls _).mono ?_
      rintro en w1 ⟨rfl, hw⟩; rw [hw]; clear hw w1
      go_wp2_with fail
      go_ret3
      exact ⟨⟨_, 3, true, by decide, by decide, rfl⟩, rfl⟩
    have t3 : ((n : Int) == 3) = false := by rw [beq_eq_false_iff_ne]; omega
    go_wp2_with fail
    go_ret3
    exact ⟨⟨0, 0, false, by decide, by decide, rfl⟩, rfl⟩
  have q43 : ((c0 : Int) == 43) = false := by rw [beq_eq_false_iff_ne]; omega
  have q45 : ((c0 : Int) == 45) = false := by rw [beq_eq_false_iff_ne]; omega
  have q105 : ((c0 : Int) == 105) = false := by rw [beq_eq_false_iff_ne]; omega
  have q73 : ((c0 : Int) == 73) = false := by rw [beq_eq_false_iff_ne]; omega
  have q110 : ((c0 : Int) == 110) = false := by rw [beq_eq_false_iff_ne]; omega
  have q78 : ((c0 : Int) == 78) = false := by rw [beq_eq_false_iff_ne]; omega
  go_enter Tryz.func116, Tryz.ntmps116
  go_wp2_with fail
  go_ret3
  exact ⟨⟨0, 0, false, by decide, by decide, rfl⟩, rfl⟩
end Go.Proofs.YthjfdhkahmlolaaGreatDoor

/- underscoreOK, at any text. -/
namespace Go.Proofs.YthjfdhkahmlolaaGreatDoor
open Go.RowKit
set_option maxRecDepth 100000
def UoPost (w : World) (e : Ending) (w' : World) : Prop := (∃ r, e = .returned (.bool r)) ∧ w' = w
def UoB (n : Nat) (s : ByteArray) (w0 : World) (v : Value) (w : World) : Prop := ∃ b, v = .bool b ∧ (b = true → n ≤ s.size) ∧ w = w0
def UoS (s : ByteArray) (w0 : World) (v : Value) (w : World) : Prop := ∃ s' : ByteArray, v = .string s' ∧ s'.size ≤ s.size ∧ w = w0
def UoI (w0 : World) (v3 v4 v5 : Value) (w : World) : Prop := ∃ (z : Int) (k : Nat) (h : Bool), v3 = .int .i32 z ∧ v4 = .int .i64 (k : Int) ∧ k ≤ 2 ∧ v5 = .bool h ∧ w = w0
def UoR (s : ByteArray) (w0 : World) (sw v : Value) (w : World) : Prop := ∃ (k : Nat) (z : Int), v = .int .i64 (k : Int) ∧ sw = .int .i32 z ∧ k ≤ s.size + 2 ∧ w = w0
set_option maxHeartbeats 4000000 in
theorem uo_any (s : ByteArray) (w : World) (hs : s.size < 4611686018427387904) : Calls Tryz.prog 149 #[.string s] w (UoPost w) := by
  go_enter Tryz.func149, Tryz.ntmps149
  go_upto_region 3 with fail
  go_cut [18] (fun v wx => UoB 1 s w v wx)
  case first =>
    go_wp2_with fail
    all_goals go_meet
    all_goals exact ⟨_, rfl, fun h => by first | omega | exact absurd h (by decide), rfl⟩
  case rest =>
    obtain ⟨b1, rfl, hb1, hwc⟩ := hcut
    subst wc
    go_upto_if 18 with fail
    go_cut [0] (fun v wx => UoS s w v wx)
    case first =>
      cases b1
      · go_wp2_with fail
        go_meet
        exact ⟨s, rfl, Nat.le_refl _, rfl⟩
      · have h1 := hb1 rfl
        go_wp2_with fail
        go_meet
        exact ⟨_, rfl, by simp, rfl⟩
    case rest =>
      obtain ⟨s1, rfl, hs1, hwc⟩ := hcut
      subst wc
      go_upto_region 6 with fail
      go_cut [46] (fun v wx => UoB 2 s1 w v wx)
      case first =>
        go_wp2_with fail
        all_goals try (refine (Tryz.internal_strconv_lower _ _).mono ?_; rintro en w1 ⟨rfl, hw⟩; rw [hw]; clear hw w1; go_wp2_with fail)
        all_goals try (refine (Tryz.internal_strconv_lower _ _).mono ?_; rintro en w1 ⟨rfl, hw⟩; rw [hw]; clear hw w1; go_wp2_with fail)
        all_goals try (refine (Tryz.internal_strconv_lower _ _).mono ?_; rintro en w1 ⟨rfl, hw⟩; rw [hw]; clear hw w1; go_wp2_with fail)
        all_goals go_meet
        all_goals exact ⟨_, rfl, fun h => by first | omega | exact absurd h (by decide), rfl⟩
      case rest =>
        obtain ⟨b2, rfl, hb2, hwc⟩ := hcut
        subst wc
        go_upto_if 46 with fail
        go_cut [3, 4, 5] (fun v3 v4 v5 wx => UoI w v3 v4 v5 wx)
        case first =>
          cases b2
          · go_wp2_with fail
            go_meet
            exact ⟨_, 0, _, rfl, rfl, by omega, rfl, rfl⟩
          · have h2 := hb2 rfl
            go_wp2_with fail
            refine (Tryz.internal_strconv_lower _ _).mono ?_; rintro en w1 ⟨rfl, hw⟩; rw [hw]; clear hw w1; go_wp2_with fail
            go_meet
            exact ⟨_, 2, _, rfl, rfl, by omega, rfl, rfl⟩
        case rest =>
          obtain ⟨z0, k0, hx, rfl, rfl, hk0, rfl, hwc⟩ := hcut
          subst wc
          go_wp2_with fail
          go_loopw [3, 4] (fun v3 v4 wr => UoR s1 w v3 v4 wr) (fun _ v4 _ => s1.size + 2 - (intOf v4).toNat)
          case atStart => exact ⟨k0, z0, rfl, rfl, by omega, rfl⟩
          case round =>
            obtain ⟨k, z, rfl, rfl, hk, hwr⟩ := hrel
            subst wr
            clear hb1 hb2
            cases hx
            all_goals
              go_wp2_with fail
              all_goals try (refine (Tryz.internal_strconv_lower _ _).mono ?_; rintro en w1 ⟨rfl, hw⟩; rw [hw]; clear hw w1; go_wp2_with fail)
              all_goals try (refine (Tryz.internal_strconv_lower _ _).mono ?_; rintro en w1 ⟨rfl, hw⟩; rw [hw]; clear hw w1; go_wp2_with fail)
              all_goals first
                | exact ⟨⟨k + 1, _, by go_num, rfl, by omega, rfl⟩, by simp only [intOf]; omega⟩
                | (go_ret; exact ⟨⟨_, rfl⟩, rfl⟩)
end Go.Proofs.YthjfdhkahmlolaaGreatDoor
