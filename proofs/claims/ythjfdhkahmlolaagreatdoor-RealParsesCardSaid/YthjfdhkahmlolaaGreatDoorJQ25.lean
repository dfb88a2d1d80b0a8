/- atofHex, at any number. -/
import Derived.Test.YthjfdhkahmlolaaGreatDoorJQ19
import Derived.Test.YthjfdhkahmlolaaGreatDoorJQ24
import Derived.Deep.DeepCutAuto
import Derived.Deep.CutRange
import Derived.LaidEqlPtr
import Derived.Laws.FloatBits
import Derived.Test.YthjfdhkahmlolaaGreatDoorJQ20
import Derived.Test.YthjfdhkahmlolaaGreatDoorJQ06
namespace Go.Proofs.YthjfdhkahmlolaaGreatDoor
open Go.RowKit Usc
set_option maxRecDepth 100000
/-- no error, or the one of the range -/
def ErrV (v : Value) : Prop := v = .nilIface ∨ v = .iface 83 (.int .i64 1)
def HxAny (w0 : World) (e : Ending) (w : World) : Prop := (∃ (f : Nat) (v : Value), f < 18446744073709551616 ∧ ErrV v ∧ e = .returned (.tuple #[.float .f64 (f : Nat), v])) ∧ ∃ q, w = w0.drewN q
def HxL (w0 : World) (v2 v3 : Value) (w : World) : Prop := ∃ (m : Nat) (x : Int), v2 = .int .u64 (m : Int) ∧ m < 18446744073709551616 ∧ v3 = .int .i64 x ∧ ∃ q, w = w0.drewN q
def HxM (w0 : World) (v2 : Value) (w : World) : Prop := ∃ (m : Nat), v2 = .int .u64 (m : Int) ∧ m < 18446744073709551616 ∧ ∃ q, w = w0.drewN q
def HxE (w0 : World) (v3 : Value) (w : World) : Prop := ∃ (x : Int), v3 = .int .i64 x ∧ ∃ q, w = w0.drewN q
def HxF (w0 : World) (v2 v3 v17 : Value) (w : World) : Prop := ∃ (m : Nat) (x : Int), v2 = .int .u64 (m : Int) ∧ m < 18446744073709551616 ∧ v3 = .int .i64 x ∧ ErrV v17 ∧ ∃ q, w = w0.drewN q
theorem half_stick {m : Nat} (h : m < 18446744073709551616) (h1 : 2 ≤ m) : ∃ k : Nat, bits BinOp.or IntKind.u64 ((m : Int) / 2) (bits BinOp.and IntKind.u64 (m : Int) 1) = (k : Int) ∧ k < m := by
  refine ⟨m / 2 ||| m % 2, ?_, ?_⟩
  · rw [and_1 m h]
    have := or_nat (m / 2) (m % 2) (by omega) (by omega)
    rw [show (((m / 2 : Nat) : Nat) : Int) = (m : Int) / 2 by omega] at this
    exact this
  · rcases Nat.mod_two_eq_zero_or_one m with e | e
    · rw [e]; simp; omega
    · rw [e, or_one_eq]; omega
theorem info149 : (Tryz.prog.info? 149).map (fun j => decide (j.size ≠ 0)) = some true := by kernel_rfl
/-- the two kinds of floats lie apart -/
structure Kinds (w : World) : Prop where
  k7 : ∃ c t, w.heap[7]? = some (.cells c t (0, 0))
  k8 : ∃ c t, w.heap[8]? = some (.cells c t (0, 0))
theorem Kinds.only {S : Nat → Prop} {w w' : World} (h : Kinds w) (O : Only S w w') (h1 : ¬ S 7) (h2 : ¬ S 8) : Kinds w' := by
  obtain ⟨⟨c, t, a⟩, ⟨d, u, b⟩⟩ := h
  exact ⟨⟨c, t, O.blk a h1⟩, ⟨d, u, O.blk b h2⟩⟩
theorem kinds_eq {w : World} (h : Kinds w) : Sem.run Tryz.prog (binOp BinOp.eql 147 (.pointer (some ⟨8, 0, none⟩)) (.pointer (some ⟨7, 0, none⟩))) w = .ok (.bool false) w := by
  obtain ⟨⟨c, t, a⟩, ⟨d, u, b⟩⟩ := h
  have hi := info149
  cases hj : Tryz.prog.info? 149 with
  | none => rw [hj] at hi; cases hi
  | some j =>
    rw [hj] at hi
    have hs : j.size ≠ 0 := by simpa using hi
    exact run_eql_ptr_other w Tryz.underlying147 hj hs (by intro h; injection h with h; exact absurd h (by decide)) b a
set_option maxHeartbeats 4000000 in
theorem hx_any (s : ByteArray) (m0 : Nat) (x0 : Int) (ng tr : Bool) (w : World) (h0 : m0 < 18446744073709551616) (hk : Kinds w) (i0 : w.cell? ⟨8, 0, none⟩ = some (.int .u64 52)) (i1 : w.cell? ⟨8, 1, none⟩ = some (.int .u64 11)) (i2 : w.cell? ⟨8, 2, none⟩ = some (.int .i64 (-1023))) :
    Calls Tryz.prog 118 #[.string s, .pointer (some ⟨8, 0, none⟩), .int .u64 (m0 : Nat), .int .i64 x0, .bool ng, .bool tr] w (HxAny w) := by
  have HKI : Hid (∀ q, Kinds (w.drewN q)) := Lib.hid (fun q => ⟨hk.k7, hk.k8⟩)
  clear hk
  go_enter Tryz.func118, Tryz.ntmps118
  go_wp2_with fail
  go_quiet (fail)
  go_upto_block 0 with fail
  go_cut [2, 3] from 42 to 57 (fun v2 v3 wx => HxL w v2 v3 wx)
  case first =>
    go_wp2_with fail
    go_loopw [2, 3] (fun v2 v3 wr => HxL w v2 v3 wr) (fun v2 _ _ => 18446744073709551616 - (intOf v2).toNat)
    case atStart => exact ⟨m0, _, rfl, h0, rfl, _, rfl⟩
    case round =>
      obtain ⟨m, x, rfl, hm, rfl, q, rfl⟩ := hrel
      by_cases hm0 : m = 0
      · subst hm0
        go_wp2_with fail
        go_meet
        exact ⟨0, x, rfl, hm, rfl, _, rfl⟩
      · have t0 : ((m : Int) != 0) = true := by rw [bne_iff_ne]; omega
        by_cases hm2 : m < 18014398509481984
        · have t1 : ((m : Int) / 18014398509481984 == 0) = true := by rw [beq_iff_eq]; omega
          go_wp2_with fail
          exact ⟨⟨m * 2, _, by go_num, by omega, rfl, _, rfl⟩, by simp only [intOf]; omega⟩
        · have t1 : ((m : Int) / 18014398509481984 == 0) = false := by rw [beq_eq_false_iff_ne]; omega
          go_wp2_with fail
          all_goals (go_meet; exact ⟨m, x, rfl, hm, rfl, _, rfl⟩)
  case rest =>
    clear h0
    obtain ⟨m, x, rfl, hm, rfl, q, rfl⟩ := hcut
    go_upto_if 58 with fail
    go_cut [2] from 59 to 60 (fun v2 wx => HxM w v2 wx)
    case first =>
      cases tr
      · go_wp2_with fail
        go_meet
        exact ⟨m, rfl, hm, _, rfl⟩
      · go_wp2_with fail
        go_meet
        obtain ⟨k, hk, e⟩ := bits_some BinOp.or (m : Int) 1
        exact ⟨k, by rw [e], hk, _, rfl⟩
    case rest =>
      clear hm
      obtain ⟨m, rfl, hm, q2, rfl⟩ := hcut
      go_upto_block 2 with fail
      go_cut [2, 3] from 61 to 76 (fun v2 v3 wx => HxL w v2 v3 wx)
      case first =>
        go_wp2_with fail
        go_loopw [2, 3] (fun v2 v3 wr => HxL w v2 v3 wr) (fun v2 _ _ => (intOf v2).toNat)
        case atStart => exact ⟨m, _, rfl, hm, rfl, _, rfl⟩
        case round =>
          clear hm
          obtain ⟨m, x, rfl, hm, rfl, q, rfl⟩ := hrel
          by_cases hm2 : m < 36028797018963968
          · have t1 : ((m : Int) / 36028797018963968 != 0) = false := by rw [bne_eq_false_iff_eq]; omega
            go_wp2_with fail
            all_goals (go_meet; exact ⟨m, x, rfl, hm, rfl, _, rfl⟩)
          · have t1 : ((m : Int) / 36028797018963968 != 0) = true := by rw [bne_iff_ne]; omega
            obtain ⟨k, hk, hkm⟩ := half_stick hm (by omega)
            go_wp2_with fail
            exact ⟨⟨k, _, rfl, by omega, rfl, _, rfl⟩, by simp only [intOf]; omega⟩
      case rest =>
        clear hm
        obtain ⟨m, x, rfl, hm, rfl, q, rfl⟩ := hcut
        go_upto_block 4 with fail
        go_cut [2, 3] from 77 to 91 (fun v2 v3 wx => HxL w v2 v3 wx)
        case first =>
          go_wp2_with fail
          go_loopw [2, 3] (fun v2 v3 wr => HxL w v2 v3 wr) (fun v2 _ _ => (intOf v2).toNat)
          case atStart => exact ⟨m, _, rfl, hm, rfl, _, rfl⟩
          case round =>
            clear hm
            obtain ⟨m, x, rfl, hm, rfl, q, rfl⟩ := hrel
            by_cases hm2 : 1 < m
            · have t1 : decide ((m : Int) > 1) = true := decide_eq_true (by omega)
              obtain ⟨k, hk, hkm⟩ := half_stick hm (by omega)
              go_wp2_with fail
              all_goals first
                | exact ⟨⟨k, _, rfl, by omega, rfl, _, rfl⟩, by simp only [intOf]; omega⟩
                | (go_meet; exact ⟨m, x, rfl, hm, rfl, _, rfl⟩)
            · have t1 : decide ((m : Int) > 1) = false := decide_eq_false (by omega)
              go_wp2_with fail
              go_meet
              exact ⟨m, x, rfl, hm, rfl, _, rfl⟩
        case rest =>
          clear hm
          obtain ⟨m, x, rfl, hm, rfl, q, rfl⟩ := hcut
          have hm4 : m / 4 < 18446744073709551616 := by omega
          go_upto_if 103 with fail
          go_cut [2, 3] from 104 to 117 (fun v2 v3 wx => HxL w v2 v3 wx)
          case first =>
            go_wp2_with fail
            all_goals go_meet
            · exact ⟨(m / 4 + 1) / 2, _, by congr 1, by omega, rfl, _, rfl⟩
            · exact ⟨m / 4 + 1, _, by congr 1, by omega, rfl, _, rfl⟩
            · exact ⟨m / 4, _, by congr 1, by omega, rfl, _, rfl⟩
          case rest =>
            clear hm hm4
            obtain ⟨m, x, rfl, hm, rfl, q, rfl⟩ := hcut
            go_upto_if 124 with fail
            go_cut [3] from 125 to 128 (fun v3 wx => HxE w v3 wx)
            case first =>
              go_wp2_with fail
              all_goals go_meet
              all_goals exact ⟨_, rfl, _, rfl⟩
            case rest =>
              obtain ⟨x, rfl, q, rfl⟩ := hcut
              go_upto_if 131 with fail
              go_cut [2, 3, 17] from 132 to 139 (fun v2 v3 v17 wx => HxF w v2 v3 v17 wx)
              case first =>
                go_wp2_with fail
                all_goals go_meet
                all_goals first
                  | exact ⟨m, _, rfl, hm, rfl, .inl rfl, _, rfl⟩
                  | exact ⟨4503599627370496, _, rfl, by decide, rfl, .inr rfl, _, rfl⟩
              case rest =>
                clear hm
                obtain ⟨m, x, rfl, hm, rfl, hv, q, rfl⟩ := hcut
                have HV := Lib.hid hv; clear hv
                go_upto_region 32 with fail
                go_cut [18] from 148 to 168 (fun v18 wx => HxM w v18 wx)
                case first =>
                  go_quiet (fail)
                  go_wp2_with fail
                  go_meet
                  obtain ⟨k, hk, e⟩ := bits_some BinOp.or (bits BinOp.and IntKind.u64 (m : Int) 4503599627370495) (IntKind.u64.wrap (IntKind.u64.wrap (bits BinOp.and IntKind.i64 (wrap64 (x + 1023)) 2047) * 4503599627370496))
                  exact ⟨k, by rw [← e], hk, _, by rw [World.drewN_drewN]⟩
                case rest =>
                  clear hm
                  obtain ⟨m, rfl, hm, q, rfl⟩ := hcut
                  go_upto_if 169 with fail
                  go_cut [18] from 170 to 181 (fun v18 wx => HxM w v18 wx)
                  case first =>
                    cases ng
                    · go_wp2_with fail
                      go_meet
                      exact ⟨m, rfl, hm, _, rfl⟩
                    · go_wp2_with fail
                      go_quiet (fail)
                      go_wp2_with fail
                      go_meet
                      obtain ⟨k, hk, e⟩ := bits_some BinOp.or (m : Int) 9223372036854775808
                      exact ⟨k, by rw [e], hk, _, by rw [World.drewN_drewN]⟩
                  case rest =>
                    clear hm
                    obtain ⟨m, rfl, hm, q, rfl⟩ := hcut
                    have k1 := run_frb126 m
                    have k2 := kinds_eq (HKI.out q)
                    go_wp2_with fail
                    go_ret2
                    exact ⟨⟨m, _, hm, HV.out, rfl⟩, _, rfl⟩
end Go.Proofs.YthjfdhkahmlolaaGreatDoor

/- atof64exact, pack64, parseFloat64 at any number: what they tell lies in the range. -/
namespace Go.Proofs.YthjfdhkahmlolaaGreatDoor.Usc
open Pq.Flt Ieee
set_option maxRecDepth 100000
theorem rung_le (M : Nat) (q : Int) : rung M q ≤ 9218868437227405312 := by
  unfold rung
  split
  · decide
  · exact Nat.min_le_right _ _
/-- a product, or a quotient, with a power of ten: no NaN -/
theorem arith_some {s : Bool} {r j : Nat} (hr : r ≤ 9218868437227405312) (hj : j < 23) :
    (∃ s' r', r' ≤ 9218868437227405312 ∧ D.mul (D.word s r) (p10 j) = some (D.word s' r')) ∧ (∃ s' r', r' ≤ 9218868437227405312 ∧ D.div (D.word s r) (p10 j) = some (D.word s' r')) := by
  obtain ⟨a1, a2, a3, a4, a5⟩ := p10_at hj
  obtain ⟨m1, m2, m3⟩ := word_parts s r (by omega)
  have hs0 : sig (p10 j) ≠ 0 := by omega
  unfold Format.mul Format.div
  rw [read_p10 hj]
  rcases Nat.lt_or_ge r 9218868437227405312 with h | h
  · rw [read_fin _ (by rw [m1]; exact h), m1, m2]
    simp only [Datum.product, Datum.quotient, if_neg hs0, Option.map_some, Format.write, nearest_eq, Bool.bne_false]
    exact ⟨⟨_, _, rung_le _ _, rfl⟩, ⟨_, _, rung_le _ _, rfl⟩⟩
  · obtain rfl : r = 9218868437227405312 := by omega
    rw [read_inf _ m1, m2]
    simp only [Datum.product, Datum.quotient, if_neg hs0, Option.map_some, Format.write, ir, Bool.bne_false]
    exact ⟨⟨_, _, Nat.le_refl _, rfl⟩, ⟨_, _, Nat.le_refl _, rfl⟩⟩
theorem word_lt64 {s : Bool} {r : Nat} (hr : r ≤ 9218868437227405312) : D.word s r < 18446744073709551616 := (word_parts s r (by omega)).2.2
end Go.Proofs.YthjfdhkahmlolaaGreatDoor.Usc
namespace Go.Proofs.YthjfdhkahmlolaaGreatDoor
open Go.RowKit Usc
set_option maxRecDepth 100000
def ExAny (w : World) (e : Ending) (w' : World) : Prop := (∃ (x : Nat) (ok : Bool), x < 18446744073709551616 ∧ e = .returned (.tuple #[.float .f64 x, .bool ok])) ∧ w' = w
set_option maxHeartbeats 4000000 in
theorem ex_any (d : Nat) (p : Int) (neg : Bool) (w : World) (hE : Env3 w) (h0 : 1 ≤ d) (hd : d < 18446744073709551616) (hp : -400 ≤ p ∧ p ≤ 400) : Calls Tryz.prog 127 #[.int .u64 d, .int .i64 p, .bool neg] w (ExAny w) := by
  by_cases h : 4503599627370496 ≤ d
  · have i0 := hE.i0
    clear hE
    have t1 : ((d : Int) / 4503599627370496 != 0) = true := by rw [bne_iff_ne]; omega
    go_enter Tryz.func127, Tryz.ntmps127
    go_wp2_with fail
    all_goals (go_ret2; exact ⟨⟨0, false, by decide, rfl⟩, rfl⟩)
  have X1 : wd false d < 18446744073709551616 := word_lt64 (rung_le _ _)
  have Y1 : wd true d < 18446744073709551616 := word_lt64 (rung_le _ _)
  have HX := Lib.hid X1; have HY := Lib.hid Y1
  clear X1 Y1
  by_cases hz : p = 0
  · subst hz
    have i0 := hE.i0
    have t1 : ((d : Int) / 4503599627370496 != 0) = false := by rw [bne_eq_false_iff_eq]; omega
    have k1 := of_int d
    have k2 := run_fneg (wd false d)
    rw [neg_wd h0 (by omega)] at k2
    clear hE
    generalize wd false d = X at *
    generalize wd true d = Y at *
    cases neg
    · go_enter Tryz.func127, Tryz.ntmps127
      go_wp2_with fail
      all_goals (go_ret2; first | exact ⟨⟨_, _, HX.out, rfl⟩, rfl⟩ | exact ⟨⟨_, _, HY.out, rfl⟩, rfl⟩)
    · go_enter Tryz.func127, Tryz.ntmps127
      go_wp2_with fail
      all_goals (go_ret2; first | exact ⟨⟨_, _, HX.out, rfl⟩, rfl⟩ | exact ⟨⟨_, _, HY.out, rfl⟩, rfl⟩)
  by_cases h1 : 1 ≤ p ∧ p ≤ 22
  · obtain ⟨j, rfl⟩ : ∃ j : Nat, p = j := ⟨p.toNat, by omega⟩
    have i0 := hE.i0
    have t1 : ((d : Int) / 4503599627370496 != 0) = false := by rw [bne_eq_false_iff_eq]; omega
    have k1 := of_int d
    have k2 := run_fneg (wd false d)
    rw [neg_wd h0 (by omega)] at k2
    have t2 : ((j : Int) == 0) = false := by rw [beq_eq_false_iff_ne]; omega
    obtain ⟨bb, oo, c12, ct⟩ := hE.tab
    have cj := ct j (by omega)
    clear hE ct
    obtain ⟨⟨s1, r1, e1, q1⟩, _⟩ := arith_some (s := false) (r := Pq.Flt.rung d 0) (rung_le _ _) (show j < 23 by omega)
    obtain ⟨⟨s2, r2, e2, q2⟩, _⟩ := arith_some (s := true) (r := Pq.Flt.rung d 0) (rung_le _ _) (show j < 23 by omega)
    have k3 := run_mul (show Ieee.double.mul (wd false d) (p10 j) = _ from q1)
    have k4 := run_mul (show Ieee.double.mul (wd true d) (p10 j) = _ from q2)
    have H1 := Lib.hid (word_lt64 (s := s1) e1); have H2 := Lib.hid (word_lt64 (s := s2) e2)
    clear q1 q2 e1 e2
    generalize Pq.Flt.D.word s1 r1 = Z1 at *
    generalize Pq.Flt.D.word s2 r2 = Z2 at *
    generalize wd false d = X at *
    generalize wd true d = Y at *
    generalize p10 j = T at *
    cases neg
    · go_enter Tryz.func127, Tryz.ntmps127
      go_wp2_with fail
      all_goals (go_ret2; first | exact ⟨⟨_, _, H1.out, rfl⟩, rfl⟩ | exact ⟨⟨_, _, H2.out, rfl⟩, rfl⟩ | exact ⟨⟨_, _, HX.out, rfl⟩, rfl⟩ | exact ⟨⟨_, _, HY.out, rfl⟩, rfl⟩)
    · go_enter Tryz.func127, Tryz.ntmps127
      go_wp2_with fail
      all_goals (go_ret2; first | exact ⟨⟨_, _, H1.out, rfl⟩, rfl⟩ | exact ⟨⟨_, _, H2.out, rfl⟩, rfl⟩ | exact ⟨⟨_, _, HX.out, rfl⟩, rfl⟩ | exact ⟨⟨_, _, HY.out, rfl⟩, rfl⟩)
  by_cases h2 : 23 ≤ p ∧ p ≤ 37
  · obtain ⟨j, rfl⟩ : ∃ j : Nat, p = j := ⟨p.toNat, by omega⟩
    have i0 := hE.i0
    have t1 : ((d : Int) / 4503599627370496 != 0) = false := by rw [bne_eq_false_iff_eq]; omega
    have k1 := of_int d
    have k2 := run_fneg (wd false d)
    rw [neg_wd h0 (by omega)] at k2
    have t2 : ((j : Int) == 0) = false := by rw [beq_eq_false_iff_ne]; omega
    have t3 : ((j : Int) - 22).toNat = j - 22 := by omega
    obtain ⟨bb, oo, c12, ct⟩ := hE.tab
    have cj := ct 22 (by omega)
    have ci := ct (j - 22) (by omega)
    clear hE ct
    obtain ⟨⟨s1, r1, e1, q1⟩, _⟩ := arith_some (s := false) (r := Pq.Flt.rung d 0) (rung_le _ _) (show j - 22 < 23 by omega)
    obtain ⟨⟨s2, r2, e2, q2⟩, _⟩ := arith_some (s := true) (r := Pq.Flt.rung d 0) (rung_le _ _) (show j - 22 < 23 by omega)
    obtain ⟨⟨s3, r3, e3, q3⟩, _⟩ := arith_some (s := s1) (r := r1) e1 (show 22 < 23 by omega)
    obtain ⟨⟨s4, r4, e4, q4⟩, _⟩ := arith_some (s := s2) (r := r2) e2 (show 22 < 23 by omega)
    have k3 := run_mul (show Ieee.double.mul (wd false d) (p10 (j - 22)) = _ from q1)
    have k4 := run_mul (show Ieee.double.mul (wd true d) (p10 (j - 22)) = _ from q2)
    have k5 := run_mul q3
    have k6 := run_mul q4
    have H1 := Lib.hid (word_lt64 (s := s1) e1); have H2 := Lib.hid (word_lt64 (s := s2) e2); have H3 := Lib.hid (word_lt64 (s := s3) e3); have H4 := Lib.hid (word_lt64 (s := s4) e4)
    clear q1 q2 q3 q4 e1 e2 e3 e4
    generalize Pq.Flt.D.word s1 r1 = Z1 at *
    generalize Pq.Flt.D.word s2 r2 = Z2 at *
    generalize Pq.Flt.D.word s3 r3 = Z3 at *
    generalize Pq.Flt.D.word s4 r4 = Z4 at *
    generalize wd false d = X at *
    generalize wd true d = Y at *
    generalize p10 (j - 22) = Tj at *
    generalize p10 22 = T at *
    cases neg
    · go_enter Tryz.func127, Tryz.ntmps127
      go_wp2_with fail
      all_goals (go_ret2; first | exact ⟨⟨_, _, H3.out, rfl⟩, rfl⟩ | exact ⟨⟨_, _, H4.out, rfl⟩, rfl⟩ | exact ⟨⟨_, _, H1.out, rfl⟩, rfl⟩ | exact ⟨⟨_, _, H2.out, rfl⟩, rfl⟩)
    · go_enter Tryz.func127, Tryz.ntmps127
      go_wp2_with fail
      all_goals (go_ret2; first | exact ⟨⟨_, _, H3.out, rfl⟩, rfl⟩ | exact ⟨⟨_, _, H4.out, rfl⟩, rfl⟩ | exact ⟨⟨_, _, H1.out, rfl⟩, rfl⟩ | exact ⟨⟨_, _, H2.out, rfl⟩, rfl⟩)
  by_cases h3 : -22 ≤ p ∧ p < 0
  · obtain ⟨j, rfl⟩ : ∃ j : Nat, p = -(j : Int) := ⟨(-p).toNat, by omega⟩
    have i0 := hE.i0
    have t1 : ((d : Int) / 4503599627370496 != 0) = false := by rw [bne_eq_false_iff_eq]; omega
    have k1 := of_int d
    have k2 := run_fneg (wd false d)
    rw [neg_wd h0 (by omega)] at k2
    have t2 : (-(j : Int) == 0) = false := by rw [beq_eq_false_iff_ne]; omega
    obtain ⟨bb, oo, c12, ct⟩ := hE.tab
    have cj := ct j (by omega)
    clear hE ct
    obtain ⟨_, ⟨s1, r1, e1, q1⟩⟩ := arith_some (s := false) (r := Pq.Flt.rung d 0) (rung_le _ _) (show j < 23 by omega)
    obtain ⟨_, ⟨s2, r2, e2, q2⟩⟩ := arith_some (s := true) (r := Pq.Flt.rung d 0) (rung_le _ _) (show j < 23 by omega)
    have k3 := run_quo (show Ieee.double.div (wd false d) (p10 j) = _ from q1)
    have k4 := run_quo (show Ieee.double.div (wd true d) (p10 j) = _ from q2)
    have H1 := Lib.hid (word_lt64 (s := s1) e1); have H2 := Lib.hid (word_lt64 (s := s2) e2)
    clear q1 q2 e1 e2
    generalize Pq.Flt.D.word s1 r1 = Z1 at *
    generalize Pq.Flt.D.word s2 r2 = Z2 at *
    generalize wd false d = X at *
    generalize wd true d = Y at *
    generalize p10 j = T at *
    cases neg
    · go_enter Tryz.func127, Tryz.ntmps127
      go_wp2_with fail
      all_goals (go_ret2; first | exact ⟨⟨_, _, H1.out, rfl⟩, rfl⟩ | exact ⟨⟨_, _, H2.out, rfl⟩, rfl⟩ | exact ⟨⟨_, _, HX.out, rfl⟩, rfl⟩ | exact ⟨⟨_, _, HY.out, rfl⟩, rfl⟩)
    · go_enter Tryz.func127, Tryz.ntmps127
      go_wp2_with fail
      all_goals (go_ret2; first | exact ⟨⟨_, _, H1.out, rfl⟩, rfl⟩ | exact ⟨⟨_, _, H2.out, rfl⟩, rfl⟩ | exact ⟨⟨_, _, HX.out, rfl⟩, rfl⟩ | exact ⟨⟨_, _, HY.out, rfl⟩, rfl⟩)
  have hoff : p < -22 ∨ 37 < p := by omega
  have i0 := hE.i0
  have t1 : ((d : Int) / 4503599627370496 != 0) = false := by rw [bne_eq_false_iff_eq]; omega
  have k1 := of_int d
  have k2 := run_fneg (wd false d)
  rw [neg_wd h0 (by omega)] at k2
  have t2 : (p == 0) = false := by rw [beq_eq_false_iff_ne]; omega
  clear hE
  generalize wd false d = X at *
  generalize wd true d = Y at *
  rcases hoff with hoff | hoff
  · cases neg
    · go_enter Tryz.func127, Tryz.ntmps127
      go_wp2_with fail
      all_goals (go_ret2; first | exact ⟨⟨_, _, HX.out, rfl⟩, rfl⟩ | exact ⟨⟨_, _, HY.out, rfl⟩, rfl⟩)
    · go_enter Tryz.func127, Tryz.ntmps127
      go_wp2_with fail
      all_goals (go_ret2; first | exact ⟨⟨_, _, HX.out, rfl⟩, rfl⟩ | exact ⟨⟨_, _, HY.out, rfl⟩, rfl⟩)
  · cases neg
    · go_enter Tryz.func127, Tryz.ntmps127
      go_wp2_with fail
      all_goals (go_ret2; first | exact ⟨⟨_, _, HX.out, rfl⟩, rfl⟩ | exact ⟨⟨_, _, HY.out, rfl⟩, rfl⟩)
    · go_enter Tryz.func127, Tryz.ntmps127
      go_wp2_with fail
      all_goals (go_ret2; first | exact ⟨⟨_, _, HX.out, rfl⟩, rfl⟩ | exact ⟨⟨_, _, HY.out, rfl⟩, rfl⟩)
def PkAny (x y : Value) : Prop := (∃ f : Nat, f < 18446744073709551616 ∧ x = .float .f64 f) ∧ ErrV y
theorem pk_any (m : Nat) (e : Int) (w : World) (hm : m < 18446744073709551616) : Calls Tryz.prog 158 #[.int .u64 m, .int .i64 e] w fun en w' => ∃ x y, en = .returned (.tuple #[x, y]) ∧ PkAny x y ∧ w' = w := by
  have k1 := run_frb126 m
  obtain ⟨a, ha, ea⟩ := bits_some BinOp.or (bits BinOp.and IntKind.u64 (m : Int) 9223372036854775808) 9218868437227405312
  have k2 := run_frb126 a
  rw [← ea] at k2
  obtain ⟨b, hb, eb⟩ := bits_some BinOp.or (bits BinOp.andNot IntKind.u64 (m : Int) 4503599627370496) (IntKind.u64.wrap (IntKind.u64.wrap (wrap64 (1075 + e)) * 4503599627370496))
  have k3 := run_frb126 b
  rw [← eb] at k3
  have HA := Lib.hid ha; have HB := Lib.hid hb; have HM := Lib.hid hm
  clear ea eb ha hb hm
  go_enter Tryz.func158, Tryz.ntmps158
  go_wp2_with fail
  all_goals go_ret2
  all_goals first
    | exact ⟨_, _, rfl, ⟨⟨m, HM.out, rfl⟩, .inl rfl⟩, rfl⟩
    | exact ⟨_, _, rfl, ⟨⟨a, HA.out, rfl⟩, .inr rfl⟩, rfl⟩
    | exact ⟨_, _, rfl, ⟨⟨b, HB.out, rfl⟩, .inl rfl⟩, rfl⟩
theorem pa_any (d : Nat) (p : Int) (sg : Nat) (w : World) (hT : Tab w) (h0 : 1 ≤ d) (h1 : d < 18446744073709551616) (hp : -345 ≤ p ∧ p ≤ 310) (hsg : sg = 0 ∨ sg = 9223372036854775808) :
    Calls Tryz.prog 128 #[.int .u64 d, .int .i64 p, .int .u64 sg] w fun e w' => ∃ x y, e = .returned (.tuple #[x, y]) ∧ PkAny x y ∧ Only (fun _ => False) w w' := by
  refine parse_calls d p sg w hT h0 h1 hp hsg PkAny (fun _ => ⟨⟨sg, by omega, rfl⟩, .inl rfl⟩) (fun _ w => pk_any _ _ w ?_)
  have hul := pfu_lt (p := p) h0 h1
  have hr : pfr d p < 18446744073709551616 := by
    show rndm (if 36028797018963966 ≤ pfu d p then (pfu d p / 2) ||| (pfu d p % 2) else pfu d p) < _
    have h2 : (pfu d p / 2) ||| (pfu d p % 2) < 144115188075855872 := by
      have := Nat.or_lt_two_pow (n := 57) (x := pfu d p / 2) (y := pfu d p % 2) (by rw [show (2 : Nat) ^ 57 = 144115188075855872 by decide]; omega) (by rw [show (2 : Nat) ^ 57 = 144115188075855872 by decide]; omega)
      rw [show (2 : Nat) ^ 57 = 144115188075855872 by decide] at this
      exact this
    unfold rndm
    split <;> omega
  have := Nat.or_lt_two_pow (n := 64) (x := sg) (y := pfr d p) (by rw [show (2 : Nat) ^ 64 = 18446744073709551616 by decide]; omega) (by rw [show (2 : Nat) ^ 64 = 18446744073709551616 by decide]; omega)
  rw [show (2 : Nat) ^ 64 = 18446744073709551616 by decide] at this
  exact this
end Go.Proofs.YthjfdhkahmlolaaGreatDoor

/- special at texts of digits. -/
namespace Go.Proofs.YthjfdhkahmlolaaGreatDoor
open Go.RowKit
set_option maxRecDepth 100000
theorem bl_drop1 (s : ByteArray) : bl (s.extract 1 s.size) = (bl s).drop 1 := by
  unfold bl
  rw [ByteArray.data_extract, Array.toList_extract, ← List.map_drop]
  congr 1
  simp [List.extract_eq_take_drop]
  have : s.size = s.data.toList.length := rfl
  rw [this]
  exact List.take_of_length_le (by simp)
set_option maxHeartbeats 4000000 in
theorem sp_digit (s : ByteArray) (c0 : Nat) (l0 : List Nat) (w : World) (hl : bl s = c0 :: l0) (h0 : 48 ≤ c0 ∧ c0 ≤ 57) : Calls Tryz.prog 116 #[.string s] w fun en w' => en = .returned (.tuple #[.float .f64 0, .int .i64 0, .bool false]) ∧ w' = w := by
  have hz := bl_size s
  have hsz : 0 < s.size := by rw [hz, hl]; simp
  have b0 := bl_at (pre := []) hl hsz
  have hne : s ≠ ByteArray.empty := fun h => by rw [h] at hsz; exact absurd hsz (by decide)
  simp only [List.length_nil] at b0
  have t1 : ((c0 : Int) == 43) = false := by rw [beq_eq_false_iff_ne]; omega
  have t2 : ((c0 : Int) == 45) = false := by rw [beq_eq_false_iff_ne]; omega
  have t3 : ((c0 : Int) == 105) = false := by rw [beq_eq_false_iff_ne]; omega
  have t4 : ((c0 : Int) == 73) = false := by rw [beq_eq_false_iff_ne]; omega
  have t5 : ((c0 : Int) == 110) = false := by rw [beq_eq_false_iff_ne]; omega
  have t6 : ((c0 : Int) == 78) = false := by rw [beq_eq_false_iff_ne]; omega
  clear hl hz
  go_enter Tryz.func116, Tryz.ntmps116
  go_wp2_with fail
  go_ret3
  exact ⟨rfl, rfl⟩
theorem cp_digit (s : ByteArray) (c0 : Nat) (l0 : List Nat) (w : World) (hl : bl s = c0 :: l0) (h0 : 48 ≤ c0 ∧ c0 ≤ 57) : Calls Tryz.prog 153 #[.string s, .string ⟨#[105, 110, 102, 105, 110, 105, 116, 121]⟩] w fun en w' => en = .returned (.int .i64 0) ∧ w' = w := by
  have hz := bl_size s
  have hsz : 0 < s.size := by rw [hz, hl]; simp
  have b0 := bl_at (pre := []) hl hsz
  simp only [List.length_nil] at b0
  clear hl hz
  have t1 : ((c0 : Int) != 105) = true := by rw [bne_iff_ne]; omega
  have e0 : ((⟨#[105, 110, 102, 105, 110, 105, 116, 121]⟩ : ByteArray)[0]'(by decide)).toNat = 105 := rfl
  go_enter Tryz.func153, Tryz.ntmps153
  go_wp2_with fail
  all_goals refine wp_loop_rounds 1 ?_
  all_goals (rw [rounds_succ]; go_wp2_with fail)
  all_goals go_ret
  all_goals exact ⟨rfl, rfl⟩
theorem sp_neg (s : ByteArray) (c0 : Nat) (l0 : List Nat) (w : World) (hl : bl s = 45 :: c0 :: l0) (h0 : 48 ≤ c0 ∧ c0 ≤ 57) : Calls Tryz.prog 116 #[.string s] w fun en w' => en = .returned (.tuple #[.float .f64 0, .int .i64 0, .bool false]) ∧ w' = w := by
  have hz := bl_size s
  have hsz : 0 < s.size := by rw [hz, hl]; simp
  have b0 := bl_at (pre := []) hl hsz
  have hne : s ≠ ByteArray.empty := fun h => by rw [h] at hsz; exact absurd hsz (by decide)
  simp only [List.length_nil] at b0
  have HL := Lib.hid hl
  clear hl hz
  go_enter Tryz.func116, Tryz.ntmps116
  go_wp2_with fail
  have hx : bl (s.extract 1 s.size) = c0 :: l0 := by rw [bl_drop1, HL.out]; rfl
  refine (cp_digit _ c0 l0 _ hx h0).mono ?_
  rintro en w1 ⟨rfl, hw⟩; rw [hw]; clear hw w1
  go_wp2_with fail
  go_ret3
  exact ⟨rfl, rfl⟩
theorem cp_nan (w : World) : Calls Tryz.prog 153 #[.string ⟨#[78, 97, 78]⟩, .string ⟨#[110, 97, 110]⟩] w fun en w' => en = .returned (.int .i64 3) ∧ w' = w := by
  have b0 : ((⟨#[78, 97, 78]⟩ : ByteArray)[0]'(by decide)).toNat = 78 := rfl
  have b1 : ((⟨#[78, 97, 78]⟩ : ByteArray)[1]'(by decide)).toNat = 97 := rfl
  have b2 : ((⟨#[78, 97, 78]⟩ : ByteArray)[2]'(by decide)).toNat = 78 := rfl
  have e0 : ((⟨#[110, 97, 110]⟩ : ByteArray)[0]'(by decide)).toNat = 110 := rfl
  have e1 : ((⟨#[110, 97, 110]⟩ : ByteArray)[1]'(by decide)).toNat = 97 := rfl
  have e2 : ((⟨#[110, 97, 110]⟩ : ByteArray)[2]'(by decide)).toNat = 110 := rfl
  go_enter Tryz.func153, Tryz.ntmps153
  go_wp2_with fail
  refine wp_loop_rounds 4 ?_
  rw [rounds_succ]; go_wp2_with fail
  rw [rounds_succ]; go_wp2_with fail
  rw [rounds_succ]; go_wp2_with fail
  rw [rounds_succ]; go_wp2_with fail
  go_ret
  exact ⟨rfl, rfl⟩
theorem cp_inf (w : World) : Calls Tryz.prog 153 #[.string ⟨#[73, 110, 102]⟩, .string ⟨#[105, 110, 102, 105, 110, 105, 116, 121]⟩] w fun en w' => en = .returned (.int .i64 3) ∧ w' = w := by
  have b0 : ((⟨#[73, 110, 102]⟩ : ByteArray)[0]'(by decide)).toNat = 73 := rfl
  have b1 : ((⟨#[73, 110, 102]⟩ : ByteArray)[1]'(by decide)).toNat = 110 := rfl
  have b2 : ((⟨#[73, 110, 102]⟩ : ByteArray)[2]'(by decide)).toNat = 102 := rfl
  have e0 : ((⟨#[105, 110, 102, 105, 110, 105, 116, 121]⟩ : ByteArray)[0]'(by decide)).toNat = 105 := rfl
  have e1 : ((⟨#[105, 110, 102, 105, 110, 105, 116, 121]⟩ : ByteArray)[1]'(by decide)).toNat = 110 := rfl
  have e2 : ((⟨#[105, 110, 102, 105, 110, 105, 116, 121]⟩ : ByteArray)[2]'(by decide)).toNat = 102 := rfl
  go_enter Tryz.func153, Tryz.ntmps153
  go_wp2_with fail
  refine wp_loop_rounds 4 ?_
  rw [rounds_succ]; go_wp2_with fail
  rw [rounds_succ]; go_wp2_with fail
  rw [rounds_succ]; go_wp2_with fail
  rw [rounds_succ]; go_wp2_with fail
  go_ret
  exact ⟨rfl, rfl⟩
theorem inf_calls (sg : Int) (b : Nat) (h : (sg = 1 ∧ b = 9218868437227405312) ∨ (sg = -1 ∧ b = 18442240474082181120)) (w : World) : Calls Tryz.prog 154 #[.int .i64 sg] w fun en w' => en = .returned (.float .f64 b) ∧ w' = w := by
  have k1 : ∀ w, Sem.run Tryz.prog (callFunc 126 #[.int .u64 9218868437227405312]) w = .ok (.value (.float .f64 9218868437227405312)) w := fun w => by kernel_rfl
  have k2 : ∀ w, Sem.run Tryz.prog (callFunc 126 #[.int .u64 18442240474082181120]) w = .ok (.value (.float .f64 18442240474082181120)) w := fun w => by kernel_rfl
  rcases h with ⟨rfl, rfl⟩ | ⟨rfl, rfl⟩
  · go_enter Tryz.func154, Tryz.ntmps154
    go_wp2_with fail
    go_ret
    exact ⟨rfl, rfl⟩
  · go_enter Tryz.func154, Tryz.ntmps154
    go_wp2_with fail
    go_ret
    exact ⟨rfl, rfl⟩
theorem nan_calls (w : World) : Calls Tryz.prog 155 #[] w fun en w' => en = .returned (.float .f64 9221120237041090561) ∧ w' = w := by
  have k1 : ∀ w, Sem.run Tryz.prog (callFunc 126 #[.int .u64 9221120237041090561]) w = .ok (.value (.float .f64 9221120237041090561)) w := fun w => by kernel_rfl
  go_enter Tryz.func155, Tryz.ntmps155
  go_wp2_with fail
  go_ret
  exact ⟨rfl, rfl⟩
theorem sp_nan (w : World) : Calls Tryz.prog 116 #[.string ⟨#[78, 97, 78]⟩] w fun en w' => en = .returned (.tuple #[.float .f64 9221120237041090561, .int .i64 3, .bool true]) ∧ w' = w := by
  have b0 : ((⟨#[78, 97, 78]⟩ : ByteArray)[0]'(by decide)).toNat = 78 := rfl
  go_enter Tryz.func116, Tryz.ntmps116
  go_wp2_with fail
  refine (cp_nan _).mono ?_
  rintro en w1 ⟨rfl, hw⟩; rw [hw]; clear hw w1
  go_wp2_with fail
  refine (nan_calls _).mono ?_
  rintro en w1 ⟨rfl, hw⟩; rw [hw]; clear hw w1
  go_wp2_with fail
  go_ret3
  exact ⟨rfl, rfl⟩
theorem sp_pinf (w : World) : Calls Tryz.prog 116 #[.string ⟨#[43, 73, 110, 102]⟩] w fun en w' => en = .returned (.tuple #[.float .f64 9218868437227405312, .int .i64 4, .bool true]) ∧ w' = w := by
  have b0 : ((⟨#[43, 73, 110, 102]⟩ : ByteArray)[0]'(by decide)).toNat = 43 := rfl
  have e1 : (⟨#[43, 73, 110, 102]⟩ : ByteArray).extract 1 4 = ⟨#[73, 110, 102]⟩ := by decide +kernel
  go_enter Tryz.func116, Tryz.ntmps116
  go_wp2_with fail
  try rw [e1]
  refine (cp_inf _).mono ?_
  rintro en w1 ⟨rfl, hw⟩; rw [hw]; clear hw w1
  go_wp2_with fail
  refine (inf_calls 1 _ (.inl ⟨rfl, rfl⟩) _).mono ?_
  rintro en w1 ⟨rfl, hw⟩; rw [hw]; clear hw w1
  go_wp2_with fail
  go_ret3
  exact ⟨rfl, rfl⟩
theorem sp_ninf (w : World) : Calls Tryz.prog 116 #[.string ⟨#[45, 73, 110, 102]⟩] w fun en w' => en = .returned (.tuple #[.float .f64 18442240474082181120, .int .i64 4, .bool true]) ∧ w' = w := by
  have b0 : ((⟨#[45, 73, 110, 102]⟩ : ByteArray)[0]'(by decide)).toNat = 45 := rfl
  have e1 : (⟨#[45, 73, 110, 102]⟩ : ByteArray).extract 1 4 = ⟨#[73, 110, 102]⟩ := by decide +kernel
  go_enter Tryz.func116, Tryz.ntmps116
  go_wp2_with fail
  try rw [e1]
  refine (cp_inf _).mono ?_
  rintro en w1 ⟨rfl, hw⟩; rw [hw]; clear hw w1
  go_wp2_with fail
  refine (inf_calls (-1) _ (.inr ⟨rfl, rfl⟩) _).mono ?_
  rintro en w1 ⟨rfl, hw⟩; rw [hw]; clear hw w1
  go_wp2_with fail
  go_ret3
  exact ⟨rfl, rfl⟩
end Go.Proofs.YthjfdhkahmlolaaGreatDoor
