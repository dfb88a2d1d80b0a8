/- The walks of package pool: New, is, Take, Give, said of the mask of free numbers. -/
import Derived.Test.YtmfgagfkkhfliaaFrame
namespace Go.Proofs.Ytmfgagfkkhfliaa
open Go.RowKit

theorem bit_eq (F i : Nat) (hF : F < 65536) : (bits BinOp.and IntKind.u32 ((F : Int) / 2 ^ i) 1 == 1) = F.testBit i := by
  have h1 : ((F : Int) / 2 ^ i) = ((F / 2 ^ i : Nat) : Int) := by simp
  have h2 : F / 2 ^ i < 4294967296 := Nat.lt_of_le_of_lt (Nat.div_le_self _ _) (by omega)
  rw [h1, show (1 : Int) = ((1 : Nat) : Int) from rfl, u32_and_nat _ _ h2 (by omega), nat_mask1, Nat.testBit_eq_decide_div_mod_eq]
  rw [Bool.eq_iff_iff]; simp; omega

def clr (F i : Nat) : Nat := F &&& (4294967295 - 2 ^ i)
def put (F i : Nat) : Nat := F ||| 2 ^ i
theorem pow_le (i : Nat) (hi : i < 16) : 2 ^ i ≤ 32768 := by
  have : 2 ^ i ≤ 2 ^ 15 := Nat.pow_le_pow_right (by omega) (by omega)
  simpa using this
theorem clr_bit (F i j : Nat) (hF : F < 65536) (hi : i < 16) : (clr F i).testBit j = (F.testBit j && j != i) := by
  have hp := pow_le i hi
  unfold clr
  rw [Nat.testBit_and]
  by_cases hj : j < 32
  · have : (4294967295 - 2 ^ i) = 2 ^ 32 - (2 ^ i + 1) := by omega
    rw [this, Nat.testBit_two_pow_sub_succ (by omega), Nat.testBit_two_pow]
    by_cases e : i = j
    · subst e; simp
    · have e' : (j == i) = false := by rw [beq_eq_false_iff_ne]; exact fun h => e h.symm
      simp [hj, e, e', bne]
  · have h0 : F.testBit j = false := Nat.testBit_lt_two_pow (Nat.lt_of_lt_of_le hF (by have : 2 ^ 16 ≤ 2 ^ j := Nat.pow_le_pow_right (by omega) (by omega); simpa using this))
    simp [h0]
theorem clr_lt (F i : Nat) (hF : F < 65536) : clr F i < 65536 := Nat.lt_of_le_of_lt Nat.and_le_left hF
theorem put_bit (F i j : Nat) : (put F i).testBit j = (F.testBit j || j == i) := by
  unfold put
  rw [Nat.testBit_or, Nat.testBit_two_pow]
  by_cases e : i = j
  · subst e; simp
  · have : (j == i) = false := by simp; exact fun h => e h.symm
    simp [e, this]
theorem put_lt (F i : Nat) (hF : F < 65536) (hi : i < 16) : put F i < 65536 := by
  have := pow_le i hi
  unfold put
  exact Nat.or_lt_two_pow (n := 16) hF (by omega)
theorem clr_val (F i : Nat) (hF : F < 65536) (hi : i < 16) : bits BinOp.andNot IntKind.u32 (F : Int) (2 ^ i % 4294967296) = (clr F i : Nat) := by
  have hp := pow_le i hi
  have h1 : ((2 : Int) ^ i % 4294967296) = ((2 ^ i : Nat) : Int) := by
    have : (2 : Int) ^ i = ((2 ^ i : Nat) : Int) := by simp
    rw [this]; generalize 2 ^ i = p at *; omega
  rw [h1, u32_andNot_nat _ _ (by omega) (by omega)]; rfl
theorem put_val (F i : Nat) (hF : F < 65536) (hi : i < 16) : bits BinOp.or IntKind.u32 (F : Int) (2 ^ i % 4294967296) = (put F i : Nat) := by
  have hp := pow_le i hi
  have h1 : ((2 : Int) ^ i % 4294967296) = ((2 ^ i : Nat) : Int) := by
    have : (2 : Int) ^ i = ((2 ^ i : Nat) : Int) := by simp
    rw [this]; generalize 2 ^ i = p at *; omega
  rw [h1, u32_or_nat _ _ (by omega) (by omega)]; rfl

/-- A pool in block b: n numbers, the free ones the bits of F. -/
def PoolAt (w : World) (b n F : Nat) : Prop := w.heap[b]? = some (.cells #[.int .i64 n, .int .u32 F] 43 (0, 0))
theorem PoolAt.c0 {w : World} {b n F : Nat} (h : PoolAt w b n F) : w.cell? ⟨b, 0, none⟩ = some (.int .i64 n) := blk_cell h 0
theorem PoolAt.c1 {w : World} {b n F : Nat} (h : PoolAt w b n F) : w.cell? ⟨b, 1, none⟩ = some (.int .u32 F) := blk_cell h 1
theorem PoolAt.free {w : World} {b n F : Nat} (h : PoolAt w b n F) : w.frozen? ⟨b, 1, none⟩ = false := blk_free h 1
theorem PoolAt.stored {w : World} {b n F : Nat} (h : PoolAt w b n F) (G : Nat) : PoolAt (w.setCell ⟨b, 1, none⟩ (.int .u32 G)) b n G := blk_set h 1 _

set_option maxHeartbeats 400000 in
theorem is_any (b : Nat) (F i : Nat) (w : World) (h1 : w.cell? ⟨b, 1, none⟩ = some (.int .u32 F)) (hF : F < 65536) (_hi : i < 16) :
    Calls Try.prog 11 #[.pointer (some ⟨b, 0, none⟩), .int .i64 i] w fun e w' => e = .returned (.bool (F.testBit i)) ∧ w = w' := by
  go_enter Try.func11, Try.ntmps11
  go_wp2
  go_ret
  refine ⟨ret_eq ?_, rfl⟩
  exact congrArg Value.bool (by simpa using bit_eq F i hF)

set_option maxHeartbeats 400000 in
theorem take_none_at (b : Nat) (n F : Nat) (w : World) (h0 : w.cell? ⟨b, 0, none⟩ = some (.int .i64 n)) (h1 : w.cell? ⟨b, 1, none⟩ = some (.int .u32 F)) (hF : F < 65536) (hn : n ≤ 16) (hno : ∀ i, i < n → F.testBit i = false) :
    Calls Try.prog 7 #[.pointer (some ⟨b, 0, none⟩)] w fun e w' => e = .returned (.tuple #[.int .i64 0, .int .i64 14]) ∧ w = w' := by
  have hno' := Lib.hid hno; clear hno
  go_enter Try.func7, Try.ntmps7
  go_wp2
  go_loop [9] (fun i => ∃ k : Nat, k ≤ n ∧ i = .int .i64 k) (fun i => n - (intOf i).toNat)
  case atStart => exact ⟨0, Nat.zero_le _, rfl⟩
  case round =>
    obtain ⟨k, hk, rfl⟩ := hrel
    by_cases hlt : k < n
    · have hb := hno'.out k hlt
      go_wp2_with (go_at_call 11; refine (is_any _ F k _ h1 hF (by omega)).mono ?_; rintro e w' ⟨rfl, rfl⟩)
      go_round
      case rel => exact ⟨k + 1, by omega, by go_num⟩
      case measure => simp [intOf]; omega
    · go_wp2
      go_ret2
      exact ⟨rfl, rfl⟩
theorem take_none (b : Nat) (n F : Nat) (w : World) (h : PoolAt w b n F) (hF : F < 65536) (hn : n ≤ 16) (hno : ∀ i, i < n → F.testBit i = false) :
    Calls Try.prog 7 #[.pointer (some ⟨b, 0, none⟩)] w fun e w' => e = .returned (.tuple #[.int .i64 0, .int .i64 14]) ∧ w = w' :=
  take_none_at b n F w h.c0 h.c1 hF hn hno

set_option maxHeartbeats 400000 in
theorem take_some_at (b : Nat) (n F i : Nat) (w : World) (h0 : w.cell? ⟨b, 0, none⟩ = some (.int .i64 n)) (h1 : w.cell? ⟨b, 1, none⟩ = some (.int .u32 F)) (hz : w.frozen? ⟨b, 1, none⟩ = false) (hF : F < 65536) (hn : n ≤ 16) (hi : i < n) (hyes : F.testBit i = true) (hno : ∀ j, j < i → F.testBit j = false) :
    Calls Try.prog 7 #[.pointer (some ⟨b, 0, none⟩)] w fun e w' => e = .returned (.tuple #[.int .i64 i, .int .i64 0]) ∧ (w.setCell ⟨b, 1, none⟩ (.int .u32 (clr F i))).drew = w' := by
  have hno' := Lib.hid hno; clear hno
  have hyes' := Lib.hid hyes; clear hyes
  have hv := Lib.hid (clr_val F i hF (by omega))
  go_enter Try.func7, Try.ntmps7
  go_wp2
  go_loop [9] (fun j => ∃ k : Nat, k ≤ i ∧ j = .int .i64 k) (fun j => i - (intOf j).toNat)
  case atStart => exact ⟨0, Nat.zero_le _, rfl⟩
  case round =>
    obtain ⟨k, hk, rfl⟩ := hrel
    by_cases hlt : k < i
    · have hb := hno'.out k hlt
      go_wp2_with (go_at_call 11; refine (is_any _ F k _ h1 hF (by omega)).mono ?_; rintro e w' ⟨rfl, rfl⟩)
      go_round
      case rel => exact ⟨k + 1, by omega, by go_num⟩
      case measure => simp [intOf]; omega
    · obtain rfl : k = i := by omega
      have hb := hyes'.out
      go_wp2_with (go_at_call 11; refine (is_any _ F k _ h1 hF (by omega)).mono ?_; rintro e w' ⟨rfl, rfl⟩)
      go_region
      go_wp2
      go_ret2
      exact ⟨rfl, by rw [hv.out]⟩
theorem take_some (b : Nat) (n F i : Nat) (w : World) (h : PoolAt w b n F) (hF : F < 65536) (hn : n ≤ 16) (hi : i < n) (hyes : F.testBit i = true) (hno : ∀ j, j < i → F.testBit j = false) :
    Calls Try.prog 7 #[.pointer (some ⟨b, 0, none⟩)] w fun e w' => e = .returned (.tuple #[.int .i64 i, .int .i64 0]) ∧ Only (· = b) w w' ∧ PoolAt w' b n (clr F i) :=
  (take_some_at b n F i w h.c0 h.c1 h.free hF hn hi hyes hno).mono fun _ _ ⟨he, hw⟩ => ⟨he, by subst hw; exact (Only.set1 b w 1 _).drew, by subst hw; exact h.stored _⟩

theorem give_arg (b : Nat) (n F : Nat) (i : Int) (w : World) (h : PoolAt w b n F) (_hn : n ≤ 16) (hi : i < 0 ∨ (n : Int) ≤ i) (hlo : -9223372036854775808 ≤ i) (hhi : i ≤ 9223372036854775807) :
    Calls Try.prog 8 #[.pointer (some ⟨b, 0, none⟩), .int .i64 i] w fun e w' => e = .returned (.int .i64 1) ∧ w = w' := by
  have h0 := h.c0
  by_cases hneg : i < 0
  · go_enter Try.func8, Try.ntmps8
    go_wp2
    go_ret
    exact ⟨rfl, rfl⟩
  · have hge : (n : Int) ≤ i := by omega
    go_enter Try.func8, Try.ntmps8
    go_wp2
    go_ret
    exact ⟨rfl, rfl⟩

set_option maxHeartbeats 400000 in
theorem give_state (b : Nat) (n F : Nat) (i : Nat) (w : World) (h : PoolAt w b n F) (hF : F < 65536) (_hn : n ≤ 16) (hi : i < n) (hyes : F.testBit i = true) :
    Calls Try.prog 8 #[.pointer (some ⟨b, 0, none⟩), .int .i64 i] w fun e w' => e = .returned (.int .i64 8) ∧ w = w' := by
  have h0 := h.c0
  have h1 := h.c1
  go_enter Try.func8, Try.ntmps8
  go_wp2_with (go_at_call 11; refine (is_any _ F i _ h1 hF (by omega)).mono ?_; rintro e w' ⟨rfl, rfl⟩)
  go_ret
  exact ⟨rfl, rfl⟩

set_option maxHeartbeats 400000 in
theorem give_ok (b : Nat) (n F : Nat) (i : Nat) (w : World) (h : PoolAt w b n F) (hF : F < 65536) (_hn : n ≤ 16) (hi : i < n) (hno : F.testBit i = false) :
    Calls Try.prog 8 #[.pointer (some ⟨b, 0, none⟩), .int .i64 i] w fun e w' => e = .returned (.int .i64 0) ∧ Only (· = b) w w' ∧ PoolAt w' b n (put F i) := by
  have h0 := h.c0
  have h1 := h.c1
  have hz := h.free
  have hv := Lib.hid (put_val F i hF (by omega))
  have hend := Lib.hid (h.stored (put F i))
  go_enter Try.func8, Try.ntmps8
  go_wp2_with (go_at_call 11; refine (is_any _ F i _ h1 hF (by omega)).mono ?_; rintro e w' ⟨rfl, rfl⟩)
  go_region
  go_wp2
  go_ret
  refine ⟨rfl, (Only.set1 b w 1 _).drew, ?_⟩
  rw [hv.out]; exact hend.out

set_option maxHeartbeats 400000 in
theorem new_bad (n : Int) (w : World) (h : n < 1 ∨ 16 < n) :
    Calls Try.prog 6 #[.int .i64 n] w fun e w' => e = .returned (.tuple #[.pointer none, .int .i64 1]) ∧ w = w' := by
  by_cases h1 : n < 1
  · go_enter Try.func6, Try.ntmps6
    go_wp2
    go_ret2
    exact ⟨rfl, rfl⟩
  · have h2 : 16 < n := by omega
    go_enter Try.func6, Try.ntmps6
    go_wp2
    go_ret2
    exact ⟨rfl, rfl⟩

theorem shl_val (n : Nat) (h : n ≤ 16) : ((2 : Int) ^ n - 1) % 4294967296 = ((2 ^ n - 1 : Nat) : Int) := by
  have hp : 2 ^ n ≤ 2 ^ 16 := Nat.pow_le_pow_right (by omega) h
  have h1 : 1 ≤ 2 ^ n := Nat.one_le_two_pow
  have h2 : (2 : Int) ^ n = ((2 ^ n : Nat) : Int) := by simp
  rw [h2]; generalize 2 ^ n = p at *; omega

set_option maxHeartbeats 400000 in
theorem new_ok (n : Nat) (w : World) (h1 : 1 ≤ n) (h2 : n ≤ 16) :
    Calls Try.prog 6 #[.int .i64 n] w fun e w' => e = .returned (.tuple #[.pointer (some ⟨w.heap.size, 0, none⟩), .int .i64 0]) ∧ Only (fun _ => False) w w' ∧ PoolAt w' w.heap.size n (2 ^ n - 1) ∧ w'.heap.size = w.heap.size + 1 := by
  have hv := Lib.hid (shl_val n h2)
  go_enter Try.func6, Try.ntmps6
  go_wp2
  go_ret2
  refine ⟨rfl, (Only.refl _ _).alloc _, ?_, ?_⟩
  · unfold PoolAt; rw [← hv.out]; exact blk_new w _
  · simp

theorem new_int (n : Int) (w : World) (h1 : 1 ≤ n) (h2 : n ≤ 16) :
    Calls Try.prog 6 #[.int .i64 n] w fun e w' => e = .returned (.tuple #[.pointer (some ⟨w.heap.size, 0, none⟩), .int .i64 0]) ∧ Only (fun _ => False) w w' ∧ PoolAt w' w.heap.size n.toNat (2 ^ n.toNat - 1) ∧ w'.heap.size = w.heap.size + 1 := by
  obtain ⟨k, rfl⟩ := Int.eq_ofNat_of_zero_le (show 0 ≤ n by omega)
  exact new_ok k w (by omega) (by omega)
theorem give_state_int (b : Nat) (n F : Nat) (i : Int) (w : World) (h : PoolAt w b n F) (hF : F < 65536) (hn : n ≤ 16) (h0 : 0 ≤ i) (hi : i < n) (hyes : F.testBit i.toNat = true) :
    Calls Try.prog 8 #[.pointer (some ⟨b, 0, none⟩), .int .i64 i] w fun e w' => e = .returned (.int .i64 8) ∧ w = w' := by
  obtain ⟨k, rfl⟩ := Int.eq_ofNat_of_zero_le h0
  exact give_state b n F k w h hF hn (by omega) hyes
theorem give_ok_int (b : Nat) (n F : Nat) (i : Int) (w : World) (h : PoolAt w b n F) (hF : F < 65536) (hn : n ≤ 16) (h0 : 0 ≤ i) (hi : i < n) (hno : F.testBit i.toNat = false) :
    Calls Try.prog 8 #[.pointer (some ⟨b, 0, none⟩), .int .i64 i] w fun e w' => e = .returned (.int .i64 0) ∧ Only (· = b) w w' ∧ PoolAt w' b n (put F i.toNat) := by
  obtain ⟨k, rfl⟩ := Int.eq_ofNat_of_zero_le h0
  exact give_ok b n F k w h hF hn (by omega) hno

theorem bit2 : ∀ j, j < 1 → Nat.testBit 2 j = false := by
  intro j hj
  obtain rfl : j = 0 := by omega
  rfl

set_option maxHeartbeats 400000 in
/-- The fixed calls: New(2), and three times Take. -/
theorem fixed_any (w : World) : Calls Try.prog 5 #[] w fun e w' => e = .returned (.bool true) ∧ Only (fun _ => False) w w' := by
  go_enter Try.func5, Try.ntmps5
  go_wp2_with fail
  refine (new_int 2 _ (by omega) (by omega)).mono ?_
  rintro e w1 ⟨rfl, O1, P1, _⟩
  go_wp2_with fail
  refine (take_some _ 2 3 0 _ P1 (by omega) (by omega) (by omega) (by decide) (by omega)).mono ?_
  rintro e w2 ⟨rfl, O2, P2⟩
  go_wp2_with fail
  refine (take_some _ 2 2 1 _ P2 (by omega) (by omega) (by omega) (by decide) bit2).mono ?_
  rintro e w3 ⟨rfl, O3, P3⟩
  go_wp2_with fail
  refine (take_none _ 2 0 _ P3 (by omega) (by omega) (by simp)).mono ?_
  rintro e w4 ⟨rfl, rfl⟩
  go_wp2_with fail
  go_ret
  exact ⟨rfl, (O1.seq2 O2 (by rintro i rfl; exact .inl (Nat.le_refl _))).seq2 O3 (by rintro i rfl; exact .inl (Nat.le_refl _))⟩
end Go.Proofs.Ytmfgagfkkhfliaa
