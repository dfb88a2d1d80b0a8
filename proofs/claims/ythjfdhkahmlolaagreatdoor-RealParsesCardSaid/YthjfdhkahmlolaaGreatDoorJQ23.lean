/- Shift. -/
import Derived.Test.YthjfdhkahmlolaaGreatDoorJQ22
namespace Go.Proofs.YthjfdhkahmlolaaGreatDoor
open Go.RowKit
set_option maxRecDepth 100000
theorem sh_left {w : World} {b nd bb oo k : Nat} {g : Nat → Nat} {dp : Int} {ng : Bool} (hC : Cheats w bb oo) (h1 : 1 ≤ k) (h2 : k ≤ 60) (hD : Dok w b g nd dp ng) (hdp : -1000000000000 ≤ dp ∧ dp ≤ 1000000000000) :
    Calls Tryz.prog 103 #[.pointer (some ⟨b, 0, none⟩), .int .i64 (k : Nat)] w (LsPost b g dp ng k w) := by
  have L := Lib.hid (ls_calls hC h1 h2 hD hdp)
  have c0 : w.cell? ⟨b, 800, none⟩ = some (.int .i64 (nd : Int)) := by obtain ⟨tr, h⟩ := hD.blk; exact h.cnd
  have n1 := hD.one
  have n2 := hD.most
  have t0 : ((nd : Int) == 0) = false := by rw [beq_eq_false_iff_ne]; omega
  have t1 : decide ((k : Int) > 0) = true := decide_eq_true (by omega)
  have t2 : decide ((k : Int) > 60) = false := decide_eq_false (by omega)
  clear hC hD
  go_enter Tryz.func103, Tryz.ntmps103
  go_wp2_with fail
  refine wp_loop_rounds 1 ?_
  rw [rounds_succ]
  go_wp2_with fail
  refine L.out.mono ?_
  rintro e w1 ⟨rfl, hO, hP⟩
  have O1 := Lib.hid hO; have P1 := Lib.hid hP
  clear hO hP L
  go_wp2_with fail
  go_end0
  exact ⟨rfl, O1.out, P1.out⟩
theorem sh_right {w : World} {b nd k : Nat} {g : Nat → Nat} {dp : Int} {ng : Bool} (h1 : 1 ≤ k) (h2 : k ≤ 60) (hD : Dok w b g nd dp ng) (hdp : -1000000000000 ≤ dp ∧ dp ≤ 1000000000000) :
    Calls Tryz.prog 103 #[.pointer (some ⟨b, 0, none⟩), .int .i64 (-(k : Nat))] w (RsPost b g dp ng w) := by
  have L := Lib.hid (rs_calls h1 h2 hD hdp)
  have c0 : w.cell? ⟨b, 800, none⟩ = some (.int .i64 (nd : Int)) := by obtain ⟨tr, h⟩ := hD.blk; exact h.cnd
  have n1 := hD.one
  have n2 := hD.most
  have t0 : ((nd : Int) == 0) = false := by rw [beq_eq_false_iff_ne]; omega
  have t1 : decide (-(k : Int) > 0) = false := decide_eq_false (by omega)
  have t2 : decide (-(k : Int) < 0) = true := decide_eq_true (by omega)
  have t3 : decide (-(k : Int) < -60) = false := decide_eq_false (by omega)
  clear hD
  go_enter Tryz.func103, Tryz.ntmps103
  go_wp2_with fail
  refine wp_loop_rounds 1 ?_
  rw [rounds_succ]
  go_wp2_with fail
  refine L.out.mono ?_
  rintro e w1 ⟨rfl, hO, hP⟩
  have O1 := Lib.hid hO; have P1 := Lib.hid hP
  clear hO hP L
  go_wp2_with fail
  go_end0
  exact ⟨rfl, O1.out, P1.out⟩
/-- what a shift to the right by any number of bits leaves -/
def RlPost (b : Nat) (dp : Int) (ng : Bool) (k : Nat) (w : World) (e : Ending) (w' : World) : Prop :=
  e = .returned (.tuple #[]) ∧ Only (· = b) w w' ∧ ∃ (g' : Nat → Nat) (n' : Nat) (dp' : Int), Dok w' b g' n' dp' ng ∧ dp' ≤ dp ∧ dp - 820 * (k + 1) ≤ dp'
def RL (b k : Nat) (dp : Int) (ng : Bool) (w0 : World) (v : Value) (wr : World) : Prop :=
  ∃ (j c : Nat) (g' : Nat → Nat) (n' : Nat) (dp' : Int), v = .int .i64 (-(j : Int)) ∧ 1 ≤ j ∧ j + c * 60 = k ∧ Dok wr b g' n' dp' ng ∧ Only (· = b) w0 wr ∧ dp' ≤ dp ∧ dp - 820 * c ≤ dp'
theorem sh_long {w : World} {b nd k : Nat} {g : Nat → Nat} {dp : Int} {ng : Bool} (h1 : 1 ≤ k) (h2 : k ≤ 100000000) (hD : Dok w b g nd dp ng) (hdp : -100000000 ≤ dp ∧ dp ≤ 100000000) :
    Calls Tryz.prog 103 #[.pointer (some ⟨b, 0, none⟩), .int .i64 (-(k : Nat))] w (RlPost b dp ng k w) := by
  have c0 : w.cell? ⟨b, 800, none⟩ = some (.int .i64 (nd : Int)) := by obtain ⟨tr, h⟩ := hD.blk; exact h.cnd
  have n1 := hD.one
  have n2 := hD.most
  have t0 : ((nd : Int) == 0) = false := by rw [beq_eq_false_iff_ne]; omega
  have t1 : decide (-(k : Int) > 0) = false := decide_eq_false (by omega)
  have t2 : decide (-(k : Int) < 0) = true := decide_eq_true (by omega)
  have t4 : decide (0 < k) = true := decide_eq_true (by omega)
  have HD := Lib.hid hD
  clear hD
  go_enter Tryz.func103, Tryz.ntmps103
  go_wp2_with fail
  go_loopw [1] (fun v wr => RL b k dp ng w v wr) (fun v _ => (-(intOf v)).toNat)
  case atStart => exact ⟨k, 0, g, nd, dp, by go_num, h1, by omega, HD.out, Only.refl _ _, Int.le_refl _, by omega⟩
  case round =>
    have H1 := Lib.hid h1; clear h1
    clear HD c0 t0 t1 t2 t4
    obtain ⟨j, c, g', n', dp', rfl, j1, jc, hD2, hO2, p1, p2⟩ := hrel
    by_cases hj : 60 < j
    · have t3 : decide (-(j : Int) < -60) = true := decide_eq_true (by omega)
      have L := Lib.hid (rs_calls (k := 60) (by decide) (by decide) hD2 (by omega))
      have HO2 := Lib.hid hO2
      clear hD2 hO2
      go_wp2_with fail
      refine L.out.mono ?_
      rintro e w1 ⟨rfl, hO, g3, n3, c3, hD3, hc3, _⟩
      have O3 := Lib.hid (HO2.out.trans hO); have D3 := Lib.hid hD3
      clear hO hD3 L
      go_wp2_with fail
      exact ⟨⟨j - 60, c + 1, g3, n3, dp' - c3, by congr 1; omega, by omega, by omega, D3.out, O3.out, by omega, by omega⟩, by simp only [intOf]; omega⟩
    · have t3 : decide (-(j : Int) < -60) = false := decide_eq_false (by omega)
      have L := Lib.hid (rs_calls (k := j) j1 (by omega) hD2 (by omega))
      have HO2 := Lib.hid hO2
      clear hD2 hO2
      go_wp2_with fail
      refine L.out.mono ?_
      rintro e w1 ⟨rfl, hO, g3, n3, c3, hD3, hc3, _⟩
      have O3 := Lib.hid (HO2.out.trans hO); have D3 := Lib.hid hD3
      clear hO hD3 L
      go_wp2_with fail
      go_end0
      exact ⟨rfl, O3.out, g3, n3, dp' - c3, D3.out, by omega, by omega⟩
end Go.Proofs.YthjfdhkahmlolaaGreatDoor

/- shouldRoundUp, RoundedInteger. -/
namespace Go.Proofs.YthjfdhkahmlolaaGreatDoor
open Go.RowKit
set_option maxRecDepth 100000
def SruPost (w : World) (e : Ending) (w' : World) : Prop := (∃ r, e = .returned (.bool r)) ∧ w' = w
set_option maxHeartbeats 1000000 in
theorem sru_calls {w : World} {b nd : Nat} {g : Nat → Nat} {dp : Int} {ng tr : Bool} (h : DecB w b g nd dp ng tr) (hg : Dgt g nd) (hn : nd ≤ 800) (d : Int) :
    Calls Tryz.prog 146 #[.pointer (some ⟨b, 0, none⟩), .int .i64 d] w (SruPost w) := by
  have c0 := h.cnd
  have c3 := h.ctr
  have H := Lib.hid h; have HG := Lib.hid hg
  clear h hg
  by_cases h0 : d < 0
  · have t0 : decide (d < 0) = true := decide_eq_true h0
    go_enter Tryz.func146, Tryz.ntmps146
    go_wp2_with fail
    go_ret
    exact ⟨⟨_, rfl⟩, rfl⟩
  have t0 : decide (d < 0) = false := decide_eq_false h0
  obtain ⟨m, rfl⟩ : ∃ m : Nat, d = m := ⟨d.toNat, by omega⟩
  by_cases h1 : nd ≤ m
  · have t1 : decide ((m : Int) ≥ (nd : Int)) = true := decide_eq_true (by omega)
    go_enter Tryz.func146, Tryz.ntmps146
    go_wp2_with fail
    go_ret
    exact ⟨⟨_, rfl⟩, rfl⟩
  have t1 : decide ((m : Int) ≥ (nd : Int)) = false := decide_eq_false (by omega)
  have cm := H.out.dig (i := m) (by omega)
  have hgm := HG.out m (by omega)
  have e0 : 0 ≤ (m : Int) := by omega
  have e1 : (m : Int) < 800 := by omega
  have e2 : (m : Int).toNat = m := by omega
  have e3 : IntKind.i64.wrap ((m : Int) + 1) = (m : Int) + 1 := IntWalk.i64_in _ (by omega)
  by_cases h5 : g m = 53
  · have t5 : ((g m : Int) == 53) = true := by rw [beq_iff_eq]; omega
    by_cases h6 : m + 1 = nd
    · have t6 : ((m : Int) + 1 == (nd : Int)) = true := by rw [beq_iff_eq]; omega
      cases tr
      · by_cases h7 : 0 < m
        · obtain ⟨j, rfl⟩ : ∃ j, m = j + 1 := ⟨m - 1, by omega⟩
          have cj := H.out.dig (i := j) (by omega)
          have hgj := HG.out j (by omega)
          obtain ⟨x, hx, hx9⟩ : ∃ x, g j = x + 48 ∧ x ≤ 9 := ⟨g j - 48, by omega, by omega⟩
          rw [hx] at cj
          have t7 : decide (((j + 1 : Nat) : Int) > 0) = true := decide_eq_true (by omega)
          have e4 : IntKind.i64.wrap (((j + 1 : Nat) : Int) - 1) = (j : Int) := by rw [IntWalk.i64_in _ (by omega)]; omega
          have e5 : 0 ≤ (j : Int) := by omega
          have e6 : (j : Int) < 800 := by omega
          have e7 : (j : Int).toNat = j := by omega
          have e8 : IntKind.u8.wrap (((x + 48 : Nat) : Int) - 48) = (x : Int) := by
            rw [show ((x + 48 : Nat) : Int) - 48 = (x : Int) by omega]; exact IntWalk.u8_in _ ⟨by omega, by omega⟩
          go_enter Tryz.func146, Tryz.ntmps146
          go_wp2_with fail
          go_ret
          exact ⟨⟨_, rfl⟩, rfl⟩
        · obtain rfl : m = 0 := by omega
          obtain rfl : nd = 1 := by omega
          clear t6 t1
          have t7 : decide (((0 : Nat) : Int) > 0) = false := by decide
          go_enter Tryz.func146, Tryz.ntmps146
          go_wp2_with fail
          go_ret
          exact ⟨⟨_, rfl⟩, rfl⟩
      · go_enter Tryz.func146, Tryz.ntmps146
        go_wp2_with fail
        go_ret
        exact ⟨⟨_, rfl⟩, rfl⟩
    · have t6 : ((m : Int) + 1 == (nd : Int)) = false := by rw [beq_eq_false_iff_ne]; omega
      go_enter Tryz.func146, Tryz.ntmps146
      go_wp2_with fail
      go_ret
      exact ⟨⟨_, rfl⟩, rfl⟩
  · have t5 : ((g m : Int) == 53) = false := by rw [beq_eq_false_iff_ne]; omega
    go_enter Tryz.func146, Tryz.ntmps146
    go_wp2_with fail
    go_ret
    exact ⟨⟨_, rfl⟩, rfl⟩
def RiPost (w : World) (e : Ending) (w' : World) : Prop := (∃ m : Nat, m < 18446744073709551616 ∧ e = .returned (.int .u64 (m : Int))) ∧ w' = w
theorem u64_some (x : Int) : ∃ m : Nat, m < 18446744073709551616 ∧ IntKind.u64.wrap x = (m : Int) := by
  have h : 0 ≤ IntKind.u64.wrap x ∧ IntKind.u64.wrap x ≤ 18446744073709551615 := by
    simp only [IntKind.wrap, IntKind.signed, IntKind.bits]
    constructor <;> (simp; omega)
  exact ⟨(IntKind.u64.wrap x).toNat, by omega, by omega⟩
def RiR (nd : Nat) (w0 : World) (v n : Value) (wr : World) : Prop :=
  ∃ (k : Nat) (x : Int), v = .int .i64 (k : Int) ∧ n = .int .u64 (IntKind.u64.wrap x) ∧ k ≤ nd ∧ wr = w0
set_option maxHeartbeats 1000000 in
theorem ri_calls {w : World} {b nd : Nat} {g : Nat → Nat} {dp : Int} {ng : Bool} (h : Dok w b g nd dp ng) :
    Calls Tryz.prog 157 #[.pointer (some ⟨b, 0, none⟩)] w (RiPost w) := by
  obtain ⟨⟨tr, hB⟩, hg, n1, n2, l1⟩ := h
  have c0 := hB.cnd
  have c1 := hB.cdp
  have S := Lib.hid (sru_calls hB hg n2 dp)
  have HB := Lib.hid hB; have HG := Lib.hid hg
  clear hB hg
  by_cases h20 : dp > 20
  · have t0 : decide (dp > 20) = true := decide_eq_true h20
    go_enter Tryz.func157, Tryz.ntmps157
    go_wp2_with fail
    go_ret
    exact ⟨⟨18446744073709551615, by decide, rfl⟩, rfl⟩
  have t0 : decide (dp > 20) = false := decide_eq_false h20
  go_enter Tryz.func157, Tryz.ntmps157
  go_wp2_with fail
  go_loopw [3, 4] (fun v n wr => RiR nd w v n wr) (fun v _ _ => nd - (intOf v).toNat)
  case atStart => exact ⟨0, 0, rfl, rfl, Nat.zero_le _, rfl⟩
  case round =>
    obtain ⟨k, x, rfl, rfl, hk, hwr⟩ := hrel
    subst wr
    by_cases hin : (k : Int) < dp ∧ k < nd
    · have t1 : decide ((k : Int) < dp) = true := decide_eq_true hin.1
      have hin2 := hin.2
      have hgk := HG.out k hin.2
      have ck := HB.out.dig (i := k) (by omega)
      obtain ⟨d, hd, hd9⟩ : ∃ d, g k = d + 48 ∧ d ≤ 9 := ⟨g k - 48, by omega, by omega⟩
      rw [hd] at ck
      clear hd
      go_wp2_with fail
      exact ⟨⟨k + 1, _, by go_num, rfl, by omega, rfl⟩, by simp only [intOf]; omega⟩
    · by_cases hin1 : (k : Int) < dp
      · have t1 : decide ((k : Int) < dp) = true := decide_eq_true hin1
        have t2 : decide (k < nd) = false := decide_eq_false (by omega)
        go_wp2_with fail
        go_loopw [3, 4] (fun v n wr => RiR 900 w v n wr) (fun v _ _ => (dp - intOf v).toNat)
        case atStart => exact ⟨k, x, rfl, rfl, by omega, rfl⟩
        case round =>
          clear t1 t2
          obtain ⟨k2, x2, rfl, rfl, hk2, hwr⟩ := hrel
          subst wr
          by_cases hin3 : (k2 : Int) < dp
          · have t1 : decide ((k2 : Int) < dp) = true := decide_eq_true hin3
            go_wp2_with fail
            exact ⟨⟨k2 + 1, _, by go_num, rfl, by omega, rfl⟩, by simp only [intOf]; omega⟩
          · have t1 : decide ((k2 : Int) < dp) = false := decide_eq_false hin3
            go_wp2_with fail
            refine S.out.mono ?_
            rintro e w1 ⟨⟨r, rfl⟩, hw⟩
            subst w1
            clear S
            cases r
            · go_wp2_with fail
              go_ret
              obtain ⟨m, hm, e⟩ := u64_some x2
              exact ⟨⟨m, hm, by rw [e]; rfl⟩, rfl⟩
            · go_wp2_with fail
              go_ret
              obtain ⟨m, hm, e⟩ := u64_some (IntKind.u64.wrap x2 + 1)
              exact ⟨⟨m, hm, by rw [e]; rfl⟩, rfl⟩
      · have t1 : decide ((k : Int) < dp) = false := decide_eq_false hin1
        go_wp2_with fail
        go_loopw [3, 4] (fun v n wr => RiR 900 w v n wr) (fun v _ _ => (dp - intOf v).toNat)
        case atStart => exact ⟨k, x, rfl, rfl, by omega, rfl⟩
        case round =>
          clear t1
          obtain ⟨k2, x2, rfl, rfl, hk2, hwr⟩ := hrel
          subst wr
          by_cases hin3 : (k2 : Int) < dp
          · have t1 : decide ((k2 : Int) < dp) = true := decide_eq_true hin3
            go_wp2_with fail
            exact ⟨⟨k2 + 1, _, by go_num, rfl, by omega, rfl⟩, by simp only [intOf]; omega⟩
          · have t1 : decide ((k2 : Int) < dp) = false := decide_eq_false hin3
            go_wp2_with fail
            refine S.out.mono ?_
            rintro e w1 ⟨⟨r, rfl⟩, hw⟩
            subst w1
            clear S
            cases r
            · go_wp2_with fail
              go_ret
              obtain ⟨m, hm, e⟩ := u64_some x2
              exact ⟨⟨m, hm, by rw [e]; rfl⟩, rfl⟩
            · go_wp2_with fail
              go_ret
              obtain ⟨m, hm, e⟩ := u64_some (IntKind.u64.wrap x2 + 1)
              exact ⟨⟨m, hm, by rw [e]; rfl⟩, rfl⟩
end Go.Proofs.YthjfdhkahmlolaaGreatDoor
