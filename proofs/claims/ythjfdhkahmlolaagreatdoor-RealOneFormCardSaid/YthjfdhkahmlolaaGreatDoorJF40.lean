/- atofHex, at any number. -/
import Derived.Test.YthjfdhkahmlolaaGreatDoorJF33
import Derived.Test.YthjfdhkahmlolaaGreatDoorJF39
import Derived.Deep.DeepCutAuto
import Derived.Deep.CutRange
import Derived.LaidEqlPtr
namespace Go.Proofs.YthjfdhkahmlolaaGreatDoor
open Go.RowKit Usc
set_option maxRecDepth 100000
/-- no error, or the one of the range -/
def ErrV (v : Value) : Prop := v = .nilIface ∨ v = .iface 83 (.int .i64 1)
def HxAny (w0 : World) (e : Ending) (w : World) : Prop := (∃ (f : Nat) (v : Value), f < 18446744073709551616 ∧ ErrV v ∧ e = .returned (.tuple #[.float .f64 (f : Nat), v])) ∧ ∃ q, w = w0.drewN q
def HxL (w0 : World) (v2 v3 : Value) (w : World) : Prop := ∃ (m : Nat) (x : Int), v2 = .int .u64 (m : Int) ∧ m < 18446744073709551616 ∧ v3 = .int .i64 x ∧ ∃ q, w = w0.drewN q
def HxM (w0 : World) (v2 : Value) (w : World) : Prop := ∃ (m : Nat), v2 = .int .u64 (m : Int) ∧ m < 18446744073709551616 ∧ ∃ q, w = w0.drewN q
def HxE (w0 : World) (v3 : Value) (w : World) : Prop := ∃ (x : Int), v3 = .int .i64 x ∧ ∃ q, w = w0.drewN q
def HxF (w0 : World) (v2 v3 v17 : Value) (w : World) : Prop := ∃ (m : Nat) (x : Int), v2 = .int .u64 (m : Int) ∧ m < 18446744073709551616 ∧ v3 = .int .i64 x ∧ ErrV v17 ∧ ∃ q, w = w0.drewN q
theorem half_stick {m : Nat} (h : m < 18446744073709551616) (h1 : 2 ≤ m) : ∃ k : Nat, bits BinOp.or IntKind.u64 ((m : Int) / 2) (bits BinOp.and IntKind.u64 (m : Int) 1) = (k : Int) ∧ k < m := by
  refine ⟨m / 2 ||| m % 2, ?_, ?_⟩
  · rw [and_1 m h]
    have := or_nat (m / 2) (m % 2) (by omega) (by omega)
    rw [show (((m / 2 : Nat) : Nat) : Int) = (m : Int) / 2 by omega] at this
    exact this
  · rcases Nat.mod_two_eq_zero_or_one m with e | e
    · rw [e]; simp; omega
    · rw [e, or_one_eq]; omega
theorem info149 : (Tryz.prog.info? 149).map (fun j => decide (j.size ≠ 0)) = some true := by kernel_rfl
/-- the two kinds of floats lie apart -/
structure Kinds (w : World) : Prop where
  k7 : ∃ c t, w.heap[7]? = some (.cells c t (0, 0))
  k8 : ∃ c t, w.heap[8]? = some (.cells c t (0, 0))
theorem Kinds.only {S : Nat → Prop} {w w' : World} (h : Kinds w) (O : Only S w w') (h1 : ¬ S 7) (h2 : ¬ S 8) : Kinds w' := by
  obtain ⟨⟨c, t, a⟩, ⟨d, u, b⟩⟩ := h
  exact ⟨⟨c, t, O.blk a h1⟩, ⟨d, u, O.blk b h2⟩⟩
theorem kinds_eq {w : World} (h : Kinds w) : Sem.run Tryz.prog (binOp BinOp.eql 147 (.pointer (some ⟨8, 0, none⟩)) (.pointer (some ⟨7, 0, none⟩))) w = .ok (.bool false) w := by
  obtain ⟨⟨c, t, a⟩, ⟨d, u, b⟩⟩ := h
  have hi := info149
  cases hj : Tryz.prog.info? 149 with
  | none => rw [hj] at hi; cases hi
  | some j =>
    rw [hj] at hi
    have hs : j.size ≠ 0 := by simpa using hi
    exact run_eql_ptr_other w Tryz.underlying147 hj hs (by intro h; injection h with h; exact absurd h (by decide)) b a
set_option maxHeartbeats 4000000 in
theorem hx_any (s : ByteArray) (m0 : Nat) (x0 : Int) (ng tr : Bool) (w : World) (h0 : m0 < 18446744073709551616) (hk : Kinds w) (i0 : w.cell? ⟨8, 0, none⟩ = some (.int .u64 52)) (i1 : w.cell? ⟨8, 1, none⟩ = some (.int .u64 11)) (i2 : w.cell? ⟨8, 2, none⟩ = some (.int .i64 (-1023))) :
    Calls Tryz.prog 118 #[.string s, .pointer (some ⟨8, 0, none⟩), .int .u64 (m0 : Nat), .int .i64 x0, .bool ng, .bool tr] w (HxAny w) := by
  have HKI : Hid (∀ q, Kinds (w.drewN q)) := Lib.hid (fun q => ⟨hk.k7, hk.k8⟩)
  clear hk
  go_enter Tryz.func118, Tryz.ntmps118
  go_wp2_with fail
  go_quiet (fail)
  go_upto_block 0 with fail
  go_cut [2, 3] from 42 to 57 (fun v2 v3 wx => HxL w v2 v3 wx)
  case first =>
    go_wp2_with fail
    go_loopw [2, 3] (fun v2 v3 wr => HxL w v2 v3 wr) (fun v2 _ _ => 18446744073709551616 - (intOf v2).toNat)
    case atStart => exact ⟨m0, _, rfl, h0, rfl, _, rfl⟩
    case round =>
      obtain ⟨m, x, rfl, hm, rfl, q, rfl⟩ := hrel
      by_cases hm0 : m = 0
      · subst hm0
        go_wp2_with fail
        go_meet
        exact ⟨0, x, rfl, hm, rfl, _, rfl⟩
      · have t0 : ((m : Int) != 0) = true := by rw [bne_iff_ne]; omega
        by_cases hm2 : m < 18014398509481984
        · have t1 : ((m : Int) / 18014398509481984 == 0) = true := by rw [beq_iff_eq]; omega
          go_wp2_with fail
          exact ⟨⟨m * 2, _, by go_num, by omega, rfl, _, rfl⟩, by simp only [intOf]; omega⟩
        · have t1 : ((m : Int) / 18014398509481984 == 0) = false := by rw [beq_eq_false_iff_ne]; omega
          go_wp2_with fail
          all_goals (go_meet; exact ⟨m, x, rfl, hm, rfl, _, rfl⟩)
  case rest =>
    clear h0
    obtain ⟨m, x, rfl, hm, rfl, q, rfl⟩ := hcut
    go_upto_if 58 with fail
    go_cut [2] from 59 to 60 (fun v2 wx => HxM w v2 wx)
    case first =>
      cases tr
      · go_wp2_with fail
        go_meet
        exact ⟨m, rfl, hm, _, rfl⟩
      · go_wp2_with fail
        go_meet
        obtain ⟨k, hk, e⟩ := bits_some BinOp.or (m : Int) 1
        exact ⟨k, by rw [e], hk, _, rfl⟩
    case rest =>
      clear hm
      obtain ⟨m, rfl, hm, q2, rfl⟩ := hcut
      go_upto_block 2 with fail
      go_cut [2, 3] from 61 to 76 (fun v2 v3 wx => HxL w v2 v3 wx)
      case first =>
        go_wp2_with fail
        go_loopw [2, 3] (fun v2 v3 wr => HxL w v2 v3 wr) (fun v2 _ _ => (intOf v2).toNat)
        case atStart => exact ⟨m, _, rfl, hm, rfl, _, rfl⟩
        case round =>
          clear hm
          obtain ⟨m, x, rfl, hm, rfl, q, rfl⟩ := hrel
          by_cases hm2 : m < 36028797018963968
          · have t1 : ((m : Int) / 36028797018963968 != 0) = false := by rw [bne_eq_false_iff_eq]; omega
            go_wp2_with fail
            all_goals (go_meet; exact ⟨m, x, rfl, hm, rfl, _, rfl⟩)
          · have t1 : ((m : Int) / 36028797018963968 != 0) = true := by rw [bne_iff_ne]; omega
            obtain ⟨k, hk, hkm⟩ := half_stick hm (by omega)
            go_wp2_with fail
            exact ⟨⟨k, _, rfl, by omega, rfl, _, rfl⟩, by simp only [intOf]; omega⟩
      case rest =>
        clear hm
        obtain ⟨m, x, rfl, hm, rfl, q, rfl⟩ := hcut
        go_upto_block 4 with fail
        go_cut [2, 3] from 77 to 91 (fun v2 v3 wx => HxL w v2 v3 wx)
        case first =>
          go_wp2_with fail
          go_loopw [2, 3] (fun v2 v3 wr => HxL w v2 v3 wr) (fun v2 _ _ => (intOf v2).toNat)
          case atStart => exact ⟨m, _, rfl, hm, rfl, _, rfl⟩
          case round =>
            clear hm
            obtain ⟨m, x, rfl, hm, rfl, q, rfl⟩ := hrel
            by_cases hm2 : 1 < m
            · have t1 : decide ((m : Int) > 1) = true := decide_eq_true (by omega)
              obtain ⟨k, hk, hkm⟩ := half_stick hm (by omega)
              go_wp2_with fail
              all_goals first
                | exact ⟨⟨k, _, rfl, by omega, rfl, _, rfl⟩, by simp only [intOf]; omega⟩
                | (go_meet; exact ⟨m, x, rfl, hm, rfl, _, rfl⟩)
            · have t1 : decide ((m : Int) > 1) = false := decide_eq_false (by omega)
              go_wp2_with fail
              go_meet
              exact ⟨m, x, rfl, hm, rfl, _, rfl⟩
        case rest =>
          clear hm
          obtain ⟨m, x, rfl, hm, rfl, q, rfl⟩ := hcut
          have hm4 : m / 4 < 18446744073709551616 := by omega
          go_upto_if 103 with fail
          go_cut [2, 3] from 104 to 117 (fun v2 v3 wx => HxL w v2 v3 wx)
          case first =>
            go_wp2_with fail
            all_goals go_meet
            · exact ⟨(m / 4 + 1) / 2, _, by congr 1, by omega, rfl, _, rfl⟩
            · exact ⟨m / 4 + 1, _, by congr 1, by omega, rfl, _, rfl⟩
            · exact ⟨m / 4, _, by congr 1, by omega, rfl, _, rfl⟩
          case rest =>
            clear hm hm4
            obtain ⟨m, x, rfl, hm, rfl, q, rfl⟩ := hcut
            go_upto_if 124 with fail
            go_cut [3] from 125 to 128 (fun v3 wx => HxE w v3 wx)
            case first =>
              go_wp2_with fail
              all_goals go_meet
              all_goals exact ⟨_, rfl, _, rfl⟩
            case rest =>
              obtain ⟨x, rfl, q, rfl⟩ := hcut
              go_upto_if 131 with fail
              go_cut [2, 3, 17] from 132 to 139 (fun v2 v3 v17 wx => HxF w v2 v3 v17 wx)
              case first =>
                go_wp2_with fail
                all_goals go_meet
                all_goals first
                  | exact ⟨m, _, rfl, hm, rfl, .inl rfl, _, rfl⟩
                  | exact ⟨4503599627370496, _, rfl, by decide, rfl, .inr rfl, _, rfl⟩
              case rest =>
                clear hm
                obtain ⟨m, x, rfl, hm, rfl, hv, q, rfl⟩ := hcut
                have HV := Lib.hid hv; clear hv
                go_upto_region 32 with fail
                go_cut [18] from 148 to 168 (fun v18 wx => HxM w v18 wx)
                case first =>
                  go_quiet (fail)
                  go_wp2_with fail
                  go_meet
                  obtain ⟨k, hk, e⟩ := bits_some BinOp.or (bits BinOp.and IntKind.u64 (m : Int) 4503599627370495) (IntKind.u64.wrap (IntKind.u64.wrap (bits BinOp.and IntKind.i64 (wrap64 (x + 1023)) 2047) * 4503599627370496))
                  exact ⟨k, by rw [← e], hk, _, by rw [World.drewN_drewN]⟩
                case rest =>
                  clear hm
                  obtain ⟨m, rfl, hm, q, rfl⟩ := hcut
                  go_upto_if 169 with fail
                  go_cut [18] from 170 to 181 (fun v18 wx => HxM w v18 wx)
                  case first =>
                    cases ng
                    · go_wp2_with fail
                      go_meet
                      exact ⟨m, rfl, hm, _, rfl⟩
                    · go_wp2_with fail
                      go_quiet (fail)
                      go_wp2_with fail
                      go_meet
                      obtain ⟨k, hk, e⟩ := bits_some BinOp.or (m : Int) 9223372036854775808
                      exact ⟨k, by rw [e], hk, _, by rw [World.drewN_drewN]⟩
                  case rest =>
                    clear hm
                    obtain ⟨m, rfl, hm, q, rfl⟩ := hcut
                    have k1 := run_frb126 m
                    have k2 := kinds_eq (HKI.out q)
                    go_wp2_with fail
                    go_ret2
                    exact ⟨⟨m, _, hm, HV.out, rfl⟩, _, rfl⟩
end Go.Proofs.YthjfdhkahmlolaaGreatDoor
