/- The walk of PairFollows: parts. -/
import Derived.Test.YtgcjhdcplmfjbaaDoes1
import Derived.Test.YtgcjhdcplmfjbaaFlw
namespace Go.Proofs.Ytgcjhdcplmfjbaa
open Go.RowKit Flt

theorem rloss_fw {a b : Int} (ha : sm a) (hb : sm b) (hab : sm (a + b)) : rloss (fw a) (fw b) = 0 := by
  unfold rloss rsub
  rw [radd_fw ha hb]
  have e1 : radd (radd (fw a) (Flt.flip (fw (a + b)))) (fw b) = 0 := by
    rw [rsub_fw ha hab, show a - (a + b) = -b by omega, radd_fw (by unfold sm at *; omega) hb, show -b + b = 0 by omega, fw_zero]
  have e2 : radd (radd (fw b) (Flt.flip (fw (a + b)))) (fw a) = 0 := by
    rw [rsub_fw hb hab, show b - (a + b) = -a by omega, radd_fw (by unfold sm at *; omega) ha, show -a + a = 0 by omega, fw_zero]
  split
  · exact e1
  · exact e2
theorem radd00 : radd 0 0 = 0 := by decide +kernel
theorem rput_fw {a b : Int} (ha : sm a) (hb : sm b) (hab : sm (a + b)) : rput (fw a, 0) (fw b) = (fw (a + b), 0) := by
  unfold rput
  dsimp only
  rw [radd_fw ha hb, rloss_fw ha hb hab, radd00]
theorem rmerge_fw {a b : Int} (ha : sm a) (hb : sm b) (hab : sm (a + b)) : rmerge (fw a, 0) (fw b, 0) = (fw (a + b), 0) := by
  unfold rmerge
  dsimp only
  rw [radd_fw ha hb, rloss_fw ha hb hab, radd00, radd00]
theorem fw_add0 {a : Int} (ha : sm a) : radd (fw a) 0 = fw a := by
  have h := radd_fw ha (show sm 0 by unfold sm; omega)
  rw [fw_zero, Int.add_zero] at h; exact h
theorem fw_ne {a : Int} (ha : sm a) : fw a ≠ 9223372036854775808 := by
  intro h
  have h1 := fw_mag ha
  have h2 := fw_neg ha
  rw [h] at h1 h2
  have m : mag 9223372036854775808 = 0 := by decide
  have n : neg 9223372036854775808 = true := by decide
  rw [m] at h1
  rw [n] at h2
  have h3 := (rung_whole _ ha).2
  rw [← h1, V_zero] at h3
  have hU := U_pos
  have : a < 0 := by simpa using h2.symm
  have h4 : 0 < a.natAbs * U := Nat.mul_pos (by omega) hU
  omega

theorem nan_of_mag {x : Nat} (h : mag x < 9218868437227405312) : Flt.nan x = false := by unfold Flt.nan; simp; omega
theorem rloss_0 (x : Nat) (hx : x < 18446744073709551616) (h : mag x < 9218868437227405312) : rloss 0 x = 0 := by
  have n0 : Flt.nan 0 = false := by decide +kernel
  unfold rloss rsub
  rw [radd_0 x hx h, mag0]
  by_cases h0 : mag x = 0
  · rw [if_pos ⟨n0, nan_of_mag h, by omega⟩]
    have hp : plain x = 0 := by unfold plain; rw [if_pos h0]
    rw [hp, rsub_self 0 (by omega) (by rw [mag0]; omega), radd_0 x hx h, hp]
  · rw [if_neg (fun q => by omega)]
    have hp : plain x = x := by unfold plain; rw [if_neg h0]
    rw [hp, rsub_self x hx h, radd00]
theorem rput_0 (x : Nat) (hx : x < 18446744073709551616) (h : mag x < 9218868437227405312) : rput (0, 0) x = (plain x, 0) := by
  unfold rput
  dsimp only
  rw [radd_0 x hx h, rloss_0 x hx h, radd00]
theorem plain_lt {x : Nat} (hx : x < 18446744073709551616) : plain x < 18446744073709551616 := by unfold plain; split <;> omega
theorem plain_mag {x : Nat} : mag (plain x) = mag x := by
  unfold plain; split
  · rename_i h; rw [h, mag0]
  · rfl
theorem plain_add0 {x : Nat} (hx : x < 18446744073709551616) (h : mag x < 9218868437227405312) : radd (plain x) 0 = plain x := by
  rw [radd_comm, radd_0 _ (plain_lt hx) (by rw [plain_mag]; exact h)]
  unfold plain
  by_cases h0 : mag x = 0
  · rw [if_pos h0, if_pos mag0]
  · rw [if_neg h0, if_neg h0]
theorem plain_ne {x : Nat} : plain x ≠ 9223372036854775808 := by
  unfold plain
  split
  · omega
  · rename_i h; rintro rfl; exact h (by decide)
theorem order_same {x y : Nat} (hx : Flt.nan x = false) (hy : Flt.nan y = false) (h : key x = key y) : (FloatKind.f64.format.order x y == some Ordering.eq) = true := by
  have e : FloatKind.f64.format.order x y = some (compare (key x) (key y)) := order_eq x y hx hy
  rw [e, h]
  have : compare (key y) (key y) = Ordering.eq := by simp [compare, compareOfLessAndEq]
  rw [this]; rfl
theorem order_plain {x : Nat} (h : mag x < 9218868437227405312) : (FloatKind.f64.format.order (plain x) x == some Ordering.eq) = true := by
  refine order_same (nan_of_mag (by rw [plain_mag]; exact h)) (nan_of_mag h) ?_
  unfold plain
  by_cases h0 : mag x = 0
  · rw [if_pos h0]; unfold key; rw [h0, mag0]; simp
  · rw [if_neg h0]

set_option maxHeartbeats 400000 in
theorem may_any (a : Nat) (w : World) (ha : a < 18446744073709551616) :
    Calls Try.prog 27 #[.int .u64 a] w fun e w' => e = .returned (.bool (decide (mag a ≤ 8930638061075693568))) ∧ w = w' := by
  have hm := mag_bits a ha
  have ha' := Lib.hid ha
  clear ha
  go_enter Try.func27, Try.ntmps27
  go_wp2
  go_ret
  exact ⟨ret_eq (congrArg Value.bool (decide_eq_decide.2 Int.ofNat_le)), rfl⟩

theorem mag_bits2 (a : Nat) (h : a < 18446744073709551616) : bits BinOp.and IntKind.u64 (a : Int) 9223372036854775807 = ((mag a : Nat) : Int) := by
  have h1 := u64_and_nat a 9223372036854775807 h (by omega)
  have h2 := Nat.and_two_pow_sub_one_eq_mod a 63
  rw [show (2 ^ 63 - 1 : Nat) = 9223372036854775807 from rfl] at h2
  rw [h2] at h1; exact h1

set_option maxRecDepth 100000 in
set_option maxHeartbeats 2000000 in
theorem stays_any (s : Nat) (w : World) (hs : s < 18446744073709551616) (hm : mag s < 9218868437227405312) (hne : s ≠ 9223372036854775808) (hr : radd s 0 = s) :
    Calls Try.prog 25 #[.complex .f64 s 0] w fun e w' => e = .returned (.bool true) ∧ Only (fun _ => False) w w' := by
  have k1 := run_tobits
  have hs' := Lib.hid hs
  have hn := Lib.hid (nan_of_mag hm)
  have b1 := mag_bits2 s hs
  have g1 : decide ((9218868437227405312 : Int) ≤ (mag s : Int)) = false := by rw [decide_eq_false_iff_not]; omega
  have g2 : ((s : Int) == 9223372036854775808) = false := by rw [beq_eq_false_iff_ne]; omega
  have b0 : bits BinOp.and IntKind.u64 0 9223372036854775807 = 0 := by decide
  clear hs hm hne
  go_enter Try.func25, Try.ntmps25
  go_wp2_with fail
  refine (ptotal_any (s, 0) _).mono ?_
  rintro e w1 ⟨r, rfl, r1, _, S1⟩
  dsimp only at r1
  rw [hr] at r1
  obtain rfl := r1.eq_of hn.out
  clear r1 hr
  have O1 : Only (fun _ => False) w w1 := S1.only _
  clear S1
  go_wp2_with fail
  have hblk : Hid ((w1.alloc (.cells #[.int .u64 (r : Nat), .int .u64 0, .int .u64 (r : Nat)] 22)).heap[w1.heap.size]? = some (.cells #[.int .u64 (r : Nat), .int .u64 0, .int .u64 (r : Nat)] 22 (0, 0))) := blk_new w1 _
  generalize hw2 : w1.alloc (.cells #[.int .u64 (r : Nat), .int .u64 0, .int .u64 (r : Nat)] 22) = w2 at *
  have hO : Hid (Only (fun _ => False) w w2) := by rw [← hw2]; exact O1.alloc _
  clear hw2
  go_loop [4] (fun i => ∃ k : Nat, k ≤ 3 ∧ i = .int .i64 k) (fun i => 3 - (intOf i).toNat)
  case atStart => exact ⟨0, by omega, rfl⟩
  case round =>
    obtain ⟨k, hk, rfl⟩ := hrel
    by_cases hlt : k < 3
    · rcases (show k = 1 ∨ (k = 0 ∨ k = 2) by omega) with hk1 | hk1
      · have hc : w2.cell? ⟨w1.heap.size, k, none⟩ = some (.int .u64 0) := by subst hk1; exact blk_cell hblk.out 1
        clear hk1
        go_wp2_with fail
        go_round
        case rel => exact ⟨k + 1, by omega, by go_num⟩
        case measure => simp [intOf]; omega
      · have hc : w2.cell? ⟨w1.heap.size, k, none⟩ = some (.int .u64 (r : Nat)) := by
          rcases hk1 with h | h
          · subst h; exact blk_cell hblk.out 0
          · subst h; exact blk_cell hblk.out 2
        clear hk1
        go_wp2_with fail
        go_round
        case rel => exact ⟨k + 1, by omega, by go_num⟩
        case measure => simp [intOf]; omega
    · go_wp2_with fail
      go_ret
      exact ⟨rfl, hO.out⟩
end Go.Proofs.Ytgcjhdcplmfjbaa
