/- The law RealPrints. -/
import Derived.Test.YthjfdhkahmlolaaGreatDoorJP51
namespace Go.Proofs.YthjfdhkahmlolaaGreatDoor
open Go.RowKit Usc
set_option maxRecDepth 100000
/-- words that came in -/
structure Words (w : World) (a : Option Addr) (len : Nat) (us : Nat → Nat) : Prop where
  at' : ∀ j, j < len → ∃ b o, a = some ⟨b, o, none⟩ ∧ b < w.heap.size ∧ w.cell? ⟨b, o + j, none⟩ = some (.int .u64 (us j : Int)) ∧ us j < 18446744073709551616
def L4R (w0 : World) (len : Nat) (v10 : Value) (w : World) : Prop := ∃ i : Nat, v10 = .int .i64 (i : Int) ∧ i ≤ len ∧ Only (fun _ => False) w0 w
set_option maxHeartbeats 4000000 in
theorem prints_calls (a : Option Addr) (len cap : Nat) (us : Nat → Nat) (w : World) (hl : len ≤ 9223372036854775807) (hw : Words w a len us) (hE : Env w) (hE2 : Env2 w) :
    Calls Tryz.prog 4 #[.slice a len cap] w fun en w' => en = .returned (.bool true) ∧ Only (fun _ => False) w w' := by
  have K := Lib.hid (awake_calls w hE hE2)
  have HE := Lib.hid hE
  have HW := Lib.hid hw
  clear hE hE2 hw
  go_enter Tryz.func4, Tryz.ntmps4
  go_wp2_with fail
  refine K.out.mono ?_; rintro en w1 ⟨rfl, hO⟩; have O1 := Lib.hid hO; clear hO K
  go_wp2_with fail
  go_loopw [10] (fun v10 wr => L4R w len v10 wr) (fun v10 _ => len - (intOf v10).toNat)
  case atStart => exact ⟨0, rfl, Nat.zero_le _, O1.out⟩
  case round =>
    obtain ⟨i, rfl, hi, hO⟩ := hrel
    by_cases h : i < len
    · obtain ⟨b, o, rfl, hb, hc, hX⟩ := HW.out.at' i h
      have cc := cell_keep hc hO id
      have HO := Lib.hid hO
      clear hc hO
      generalize us i = X at *
      obtain ⟨t, ht⟩ := pr_ex X
      have k1 := run_frb X
      have P1 := Lib.hid (fun w hE => print_calls X t w hX ht hE)
      have P2 := Lib.hid (fun w => printR_calls X t w hX ht)
      have M1 := Lib.hid (fun w => may_calls X w hX)
      have M2 := Lib.hid (fun w => mayR_calls X w hX)
      have t1 : decide ((i : Int) < (len : Int)) = true := decide_eq_true (by omega)
      generalize (⟨t.toArray⟩ : ByteArray) = S at *
      have t2 : (S.toList == S.toList) = true := beq_self_eq_true _
      generalize mayV X = v at *
      have t3 : (v == v) = true := beq_self_eq_true _
      clear ht hX
      go_wp2_with fail
      refine (P1.out _ (HE.out.still HO.out (fun _ _ h => h))).mono ?_; rintro en w2 ⟨rfl, hO⟩; have HO2 := Lib.hid (HO.out.trans hO); clear hO P1
      go_wp2_with fail
      refine (P2.out _).mono ?_; rintro en w3 ⟨rfl, hO⟩; have HO3 := Lib.hid (HO2.out.trans hO); clear hO P2 HO2
      go_wp2_with fail
      refine (M1.out _).mono ?_; rintro en w4 ⟨rfl, hw⟩; rw [hw]; clear hw w4 M1
      go_wp2_with fail
      refine (M2.out _).mono ?_; rintro en w4 ⟨rfl, hw⟩; rw [hw]; clear hw w4 M2
      go_wp2_with fail
      exact ⟨⟨i + 1, congrArg (Value.int .i64) (by omega), by omega, HO3.out⟩, by simp only [intOf]; omega⟩
    · have t1 : decide ((i : Int) < (len : Int)) = false := decide_eq_false (by omega)
      have HO := Lib.hid hO; clear hO
      go_wp2_with fail
      go_ret
      exact ⟨rfl, HO.out⟩
end Go.Proofs.YthjfdhkahmlolaaGreatDoor
