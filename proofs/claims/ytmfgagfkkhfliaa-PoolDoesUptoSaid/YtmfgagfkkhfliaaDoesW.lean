/- The walk of PoolDoes: four cases (each of the two sizes may be, or not). -/
import Derived.Test.YtmfgagfkkhfliaaStep
namespace Go.Proofs.Ytmfgagfkkhfliaa
open Go.RowKit

theorem step_any (pb rb tb n : Nat) (k N : Int) (ot : Bool) (w : World) (h : InStep w pb rb tb n) (hlo : -9223372036854775808 ≤ N) (hhi : N ≤ 9223372036854775807) :
    Calls Try.prog 10 #[.pointer (some ⟨pb, 0, none⟩), .pointer (some ⟨rb, 0, none⟩), .agg #[.int .i64 k, .int .i64 N, .bool ot]] w (StepPost w pb rb tb n) := by
  by_cases h1 : k = 1
  · subst h1; exact step_take pb rb tb n N ot w h
  · by_cases h2 : k = 2
    · subst h2; exact step_give pb rb tb n N ot w h hlo hhi
    · exact step_other pb rb tb n k N ot w h (by simpa using h1) (by simpa using h2)

theorem sync_new {w1 w2 w3 : World} {n : Nat} (hn : n ≤ 16) (hp : PoolAt w2 w1.heap.size n (2 ^ n - 1)) (hs : w2.heap.size = w1.heap.size + 1) (ho : Only (fun _ => False) w2 w3) (hr : RefAt w3 (w2.heap.size + 1) w2.heap.size n (fun _ => false)) :
    InStep w3 w1.heap.size (w2.heap.size + 1) w2.heap.size n := by
  have hp2 : 2 ^ n ≤ 2 ^ 16 := Nat.pow_le_pow_right (by omega) hn
  exact ⟨_, _, ho.blk hp (by simp), by omega, hn, hr, fun j hj => by rw [Nat.testBit_two_pow_sub_one]; simpa using hj, by omega, by omega, by omega⟩
theorem InStep.kept {S : Nat → Prop} {w w' : World} {pb rb tb n : Nat} (h : InStep w pb rb tb n) (ho : Only S w w') (h1 : ¬ S pb) (h2 : ¬ S rb) (h3 : ¬ S tb) : InStep w' pb rb tb n := by
  obtain ⟨F, T, hs⟩ := h; exact ⟨F, T, hs.kept ho h1 h2 h3⟩

/-- the script's cells -/
structure Script (w : World) (a : Option Addr) (len : Nat) (K N : Nat → Int) (O : Nat → Bool) : Prop where
  at_ : ∀ j, j < len → ∃ p o, a = some ⟨p, o, none⟩ ∧ p < w.heap.size ∧ w.cell? ⟨p, o + j * 3, none⟩ = some (.int .i64 (K j)) ∧ w.cell? ⟨p, o + j * 3 + 1, none⟩ = some (.int .i64 (N j)) ∧ w.cell? ⟨p, o + j * 3 + 2, none⟩ = some (.bool (O j)) ∧ -9223372036854775808 ≤ N j ∧ N j ≤ 9223372036854775807

set_option maxRecDepth 100000 in
set_option maxHeartbeats 4000000 in
theorem does_goodgood (n : Nat) (m : Nat) (a : Option Addr) (len cap : Nat) (K N : Nat → Int) (O : Nat → Bool) (w : World) (hn1 : 1 ≤ n) (hn2 : n ≤ 16) (hk1 : 1 ≤ m) (hk2 : m ≤ 16) (hlen : len ≤ 9223372036854775807) (hsc : Script w a len K N O) :
    Calls Try.prog 4 #[.int .i64 n, .int .i64 m, .slice a len cap] w fun e w' => e = .returned (.bool true) ∧ Only (fun _ => False) w w' := by
  have hsc' := Lib.hid hsc.at_; clear hsc
  go_enter Try.func4, Try.ntmps4
  go_wp2_with fail
  refine (fixed_any _).mono ?_
  rintro e w1 ⟨rfl, O1⟩
  go_wp2_with fail
  refine (new_ok n _ hn1 hn2).mono ?_
  rintro e w2 ⟨rfl, O2, P2, S2⟩
  have S2' := Lib.hid S2; clear S2
  go_wp2_with fail
  refine (rnew_ok n _ hn1 hn2).mono ?_
  rintro e w3 ⟨rfl, O3, R3, S3⟩
  have S3' := Lib.hid S3; clear S3
  have hA := Lib.hid (sync_new hn2 P2 S2'.out O3 R3)
  have O123 := (O1.trans O2).trans O3
  have hw1 := O1.size
  clear O1 O2 O3 P2 R3
  go_wp2_with fail
  refine (new_ok m _ hk1 hk2).mono ?_
  rintro e w4 ⟨rfl, O4, P4, S4⟩
  have S4' := Lib.hid S4; clear S4
  go_wp2_with fail
  refine (rnew_ok m _ hk1 hk2).mono ?_
  rintro e w5 ⟨rfl, O5, R5, S5⟩
  clear S5
  have hB := Lib.hid (sync_new hk2 P4 S4'.out O5 R5)
  have O15 := (O123.trans O4).trans O5
  have hA5 := Lib.hid (hA.out.kept (O4.trans O5) (by simp) (by simp) (by simp))
  clear O123 O4 O5 P4 R5
  go_wp2_with fail
  go_loopw [16] (fun i wr => ∃ k : Nat, k ≤ len ∧ i = .int .i64 k ∧ Only (fun _ => False) w wr ∧ InStep wr w1.heap.size (w2.heap.size + 1) w2.heap.size n ∧ InStep wr w3.heap.size (w4.heap.size + 1) w4.heap.size m) (fun i _ => len - (intOf i).toNat)
  case atStart => exact ⟨0, Nat.zero_le _, rfl, O15, hA5.out, hB.out⟩
  case round =>
    obtain ⟨k, hk0, rfl, hon, hIa, hIb⟩ := hrel
    by_cases hlt : k < len
    · obtain ⟨p, o, rfl, hp, hcK, hcN, hcO, hlo, hhi⟩ := hsc'.out k hlt
      generalize K k = ki at hcK
      generalize N k = ni at hcN hlo hhi
      generalize O k = oi at hcO
      have hc0 := (hon.cellAt hp (by simp) (o + k * 3)).trans hcK
      have hc1 := (hon.cellAt hp (by simp) (o + k * 3 + 1)).trans hcN
      have hc2 := (hon.cellAt hp (by simp) (o + k * 3 + 2)).trans hcO
      clear hcK hcN hcO
      have hIa' := Lib.hid hIa; clear hIa
      have hIb' := Lib.hid hIb; clear hIb
      cases oi
      · go_wp2_with fail
        refine (step_any w1.heap.size (w2.heap.size + 1) w2.heap.size n ki ni _ _ hIa'.out hlo hhi).mono ?_
        rintro e w6 ⟨rfl, O6, I6⟩
        have I6' := Lib.hid I6; clear I6
        have hoth := Lib.hid (hIb'.out.kept O6 (by rintro (h | h) <;> (have := S2'.out; have := S3'.out; have := S4'.out; omega)) (by rintro (h | h) <;> (have := S2'.out; have := S3'.out; have := S4'.out; omega)) (by rintro (h | h) <;> (have := S2'.out; have := S3'.out; have := S4'.out; omega)))
        have hon6 := hon.seq2 O6 (by rintro i (rfl | rfl) <;> exact .inl (by have := S2'.out; have := S3'.out; have := S4'.out; omega))
        clear O6
        go_wp2_with fail
        go_roundw
        case rel => exact ⟨k + 1, by omega, by go_num, hon6, I6'.out, hoth.out⟩
        case measure => simp [intOf]; omega
      · go_wp2_with fail
        refine (step_any w3.heap.size (w4.heap.size + 1) w4.heap.size m ki ni _ _ hIb'.out hlo hhi).mono ?_
        rintro e w6 ⟨rfl, O6, I6⟩
        have I6' := Lib.hid I6; clear I6
        have hoth := Lib.hid (hIa'.out.kept O6 (by rintro (h | h) <;> (have := S2'.out; have := S3'.out; have := S4'.out; omega)) (by rintro (h | h) <;> (have := S2'.out; have := S3'.out; have := S4'.out; omega)) (by rintro (h | h) <;> (have := S2'.out; have := S3'.out; have := S4'.out; omega)))
        have hon6 := hon.seq2 O6 (by rintro i (rfl | rfl) <;> exact .inl (by have := S2'.out; have := S3'.out; have := S4'.out; omega))
        clear O6
        go_wp2_with fail
        go_roundw
        case rel => exact ⟨k + 1, by omega, by go_num, hon6, hoth.out, I6'.out⟩
        case measure => simp [intOf]; omega
    · go_wp2_with fail
      go_ret
      exact ⟨rfl, hon⟩

set_option maxRecDepth 100000 in
set_option maxHeartbeats 4000000 in
theorem does_goodbad (n : Nat) (m : Int) (a : Option Addr) (len cap : Nat) (K N : Nat → Int) (O : Nat → Bool) (w : World) (hn1 : 1 ≤ n) (hn2 : n ≤ 16) (hk : m < 1 ∨ 16 < m) (hlen : len ≤ 9223372036854775807) (hsc : Script w a len K N O) :
    Calls Try.prog 4 #[.int .i64 n, .int .i64 m, .slice a len cap] w fun e w' => e = .returned (.bool true) ∧ Only (fun _ => False) w w' := by
  have hsc' := Lib.hid hsc.at_; clear hsc
  go_enter Try.func4, Try.ntmps4
  go_wp2_with fail
  refine (fixed_any _).mono ?_
  rintro e w1 ⟨rfl, O1⟩
  go_wp2_with fail
  refine (new_ok n _ hn1 hn2).mono ?_
  rintro e w2 ⟨rfl, O2, P2, S2⟩
  have S2' := Lib.hid S2; clear S2
  go_wp2_with fail
  refine (rnew_ok n _ hn1 hn2).mono ?_
  rintro e w3 ⟨rfl, O3, R3, S3⟩
  have S3' := Lib.hid S3; clear S3
  have hA := Lib.hid (sync_new hn2 P2 S2'.out O3 R3)
  have O123 := (O1.trans O2).trans O3
  have hw1 := O1.size
  clear O1 O2 O3 P2 R3
  go_wp2_with fail
  refine (new_bad m _ hk).mono ?_
  rintro e w4 ⟨rfl, rfl⟩
  go_wp2_with fail
  refine (rnew_bad m _ hk).mono ?_
  rintro e w5 ⟨rfl, rfl⟩
  have O15 := O123
  clear O123
  have hA5 := hA
  go_wp2_with fail
  go_loopw [16] (fun i wr => ∃ k : Nat, k ≤ len ∧ i = .int .i64 k ∧ Only (fun _ => False) w wr ∧ InStep wr w1.heap.size (w2.heap.size + 1) w2.heap.size n) (fun i _ => len - (intOf i).toNat)
  case atStart => exact ⟨0, Nat.zero_le _, rfl, O15, hA5.out⟩
  case round =>
    obtain ⟨k, hk0, rfl, hon, hIa⟩ := hrel
    by_cases hlt : k < len
    · obtain ⟨p, o, rfl, hp, hcK, hcN, hcO, hlo, hhi⟩ := hsc'.out k hlt
      generalize K k = ki at hcK
      generalize N k = ni at hcN hlo hhi
      generalize O k = oi at hcO
      have hc0 := (hon.cellAt hp (by simp) (o + k * 3)).trans hcK
      have hc1 := (hon.cellAt hp (by simp) (o + k * 3 + 1)).trans hcN
      have hc2 := (hon.cellAt hp (by simp) (o + k * 3 + 2)).trans hcO
      clear hcK hcN hcO
      have hIa' := Lib.hid hIa; clear hIa
      cases oi
      · go_wp2_with fail
        refine (step_any w1.heap.size (w2.heap.size + 1) w2.heap.size n ki ni _ _ hIa'.out hlo hhi).mono ?_
        rintro e w6 ⟨rfl, O6, I6⟩
        have I6' := Lib.hid I6; clear I6
        have hon6 := hon.seq2 O6 (by rintro i (rfl | rfl) <;> exact .inl (by have := S2'.out; have := S3'.out; omega))
        clear O6
        go_wp2_with fail
        go_roundw
        case rel => exact ⟨k + 1, by omega, by go_num, hon6, I6'.out⟩
        case measure => simp [intOf]; omega
      · go_wp2_with fail
        go_roundw
        case rel => exact ⟨k + 1, by omega, by go_num, hon, hIa'.out⟩
        case measure => simp [intOf]; omega
    · go_wp2_with fail
      go_ret
      exact ⟨rfl, hon⟩

set_option maxRecDepth 100000 in
set_option maxHeartbeats 4000000 in
theorem does_badgood (n : Int) (m : Nat) (a : Option Addr) (len cap : Nat) (K N : Nat → Int) (O : Nat → Bool) (w : World) (hn : n < 1 ∨ 16 < n) (hk1 : 1 ≤ m) (hk2 : m ≤ 16) (hlen : len ≤ 9223372036854775807) (hsc : Script w a len K N O) :
    Calls Try.prog 4 #[.int .i64 n, .int .i64 m, .slice a len cap] w fun e w' => e = .returned (.bool true) ∧ Only (fun _ => False) w w' := by
  have hsc' := Lib.hid hsc.at_; clear hsc
  go_enter Try.func4, Try.ntmps4
  go_wp2_with fail
  refine (fixed_any _).mono ?_
  rintro e w1 ⟨rfl, O1⟩
  go_wp2_with fail
  refine (new_bad n _ hn).mono ?_
  rintro e w2 ⟨rfl, rfl⟩
  go_wp2_with fail
  refine (rnew_bad n _ hn).mono ?_
  rintro e w3 ⟨rfl, rfl⟩
  have O123 := O1
  have hw1 := O1.size
  clear O1
  go_wp2_with fail
  refine (new_ok m _ hk1 hk2).mono ?_
  rintro e w4 ⟨rfl, O4, P4, S4⟩
  have S4' := Lib.hid S4; clear S4
  go_wp2_with fail
  refine (rnew_ok m _ hk1 hk2).mono ?_
  rintro e w5 ⟨rfl, O5, R5, S5⟩
  clear S5
  have hB := Lib.hid (sync_new hk2 P4 S4'.out O5 R5)
  have O15 := (O123.trans O4).trans O5
  clear O123 O4 O5 P4 R5
  go_wp2_with fail
  go_loopw [16] (fun i wr => ∃ k : Nat, k ≤ len ∧ i = .int .i64 k ∧ Only (fun _ => False) w wr ∧ InStep wr w1.heap.size (w4.heap.size + 1) w4.heap.size m) (fun i _ => len - (intOf i).toNat)
  case atStart => exact ⟨0, Nat.zero_le _, rfl, O15, hB.out⟩
  case round =>
    obtain ⟨k, hk0, rfl, hon, hIb⟩ := hrel
    by_cases hlt : k < len
    · obtain ⟨p, o, rfl, hp, hcK, hcN, hcO, hlo, hhi⟩ := hsc'.out k hlt
      generalize K k = ki at hcK
      generalize N k = ni at hcN hlo hhi
      generalize O k = oi at hcO
      have hc0 := (hon.cellAt hp (by simp) (o + k * 3)).trans hcK
      have hc1 := (hon.cellAt hp (by simp) (o + k * 3 + 1)).trans hcN
      have hc2 := (hon.cellAt hp (by simp) (o + k * 3 + 2)).trans hcO
      clear hcK hcN hcO
      have hIb' := Lib.hid hIb; clear hIb
      cases oi
      · go_wp2_with fail
        go_roundw
        case rel => exact ⟨k + 1, by omega, by go_num, hon, hIb'.out⟩
        case measure => simp [intOf]; omega
      · go_wp2_with fail
        refine (step_any w1.heap.size (w4.heap.size + 1) w4.heap.size m ki ni _ _ hIb'.out hlo hhi).mono ?_
        rintro e w6 ⟨rfl, O6, I6⟩
        have I6' := Lib.hid I6; clear I6
        have hon6 := hon.seq2 O6 (by rintro i (rfl | rfl) <;> exact .inl (by have := S4'.out; omega))
        clear O6
        go_wp2_with fail
        go_roundw
        case rel => exact ⟨k + 1, by omega, by go_num, hon6, I6'.out⟩
        case measure => simp [intOf]; omega
    · go_wp2_with fail
      go_ret
      exact ⟨rfl, hon⟩

set_option maxRecDepth 100000 in
set_option maxHeartbeats 4000000 in
theorem does_badbad (n : Int) (m : Int) (a : Option Addr) (len cap : Nat) (K N : Nat → Int) (O : Nat → Bool) (w : World) (hn : n < 1 ∨ 16 < n) (hk : m < 1 ∨ 16 < m) (hlen : len ≤ 9223372036854775807) (hsc : Script w a len K N O) :
    Calls Try.prog 4 #[.int .i64 n, .int .i64 m, .slice a len cap] w fun e w' => e = .returned (.bool true) ∧ Only (fun _ => False) w w' := by
  have hsc' := Lib.hid hsc.at_; clear hsc
  go_enter Try.func4, Try.ntmps4
  go_wp2_with fail
  refine (fixed_any _).mono ?_
  rintro e w1 ⟨rfl, O1⟩
  go_wp2_with fail
  refine (new_bad n _ hn).mono ?_
  rintro e w2 ⟨rfl, rfl⟩
  go_wp2_with fail
  refine (rnew_bad n _ hn).mono ?_
  rintro e w3 ⟨rfl, rfl⟩
  have O123 := O1
  have hw1 := O1.size
  clear O1
  go_wp2_with fail
  refine (new_bad m _ hk).mono ?_
  rintro e w4 ⟨rfl, rfl⟩
  go_wp2_with fail
  refine (rnew_bad m _ hk).mono ?_
  rintro e w5 ⟨rfl, rfl⟩
  have O15 := O123
  clear O123
  go_wp2_with fail
  go_loopw [16] (fun i wr => ∃ k : Nat, k ≤ len ∧ i = .int .i64 k ∧ Only (fun _ => False) w wr) (fun i _ => len - (intOf i).toNat)
  case atStart => exact ⟨0, Nat.zero_le _, rfl, O15⟩
  case round =>
    obtain ⟨k, hk0, rfl, hon⟩ := hrel
    by_cases hlt : k < len
    · obtain ⟨p, o, rfl, hp, hcK, hcN, hcO, hlo, hhi⟩ := hsc'.out k hlt
      generalize K k = ki at hcK
      generalize N k = ni at hcN hlo hhi
      generalize O k = oi at hcO
      have hc0 := (hon.cellAt hp (by simp) (o + k * 3)).trans hcK
      have hc1 := (hon.cellAt hp (by simp) (o + k * 3 + 1)).trans hcN
      have hc2 := (hon.cellAt hp (by simp) (o + k * 3 + 2)).trans hcO
      clear hcK hcN hcO
      cases oi
      · go_wp2_with fail
        go_roundw
        case rel => exact ⟨k + 1, by omega, by go_num, hon⟩
        case measure => simp [intOf]; omega
      · go_wp2_with fail
        go_roundw
        case rel => exact ⟨k + 1, by omega, by go_num, hon⟩
        case measure => simp [intOf]; omega
    · go_wp2_with fail
      go_ret
      exact ⟨rfl, hon⟩
end Go.Proofs.Ytmfgagfkkhfliaa
