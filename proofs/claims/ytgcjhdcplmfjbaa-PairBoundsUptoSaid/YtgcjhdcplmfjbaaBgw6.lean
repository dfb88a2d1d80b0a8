/- Groups of lists of words; the walks of beyond, may and stays. -/
import Derived.Test.YtgcjhdcplmfjbaaBgw5
import Derived.Test.YtgcjhdcplmfjbaaFollw
namespace Go.Proofs.Ytgcjhdcplmfjbaa.Bg
open Go.RowKit Flt

def T1 (len : Nat → Nat) : Nat → Nat
  | 0 => 0
  | k + 1 => T1 len k + (1 + len k)
def T2 (m : Nat → Nat) (len : Nat → Nat → Nat) : Nat → Nat
  | 0 => 0
  | i + 1 => T2 m len i + (1 + T1 (len i) (m i))
theorem T1_le {len : Nat → Nat} {k : Nat} : ∀ {n}, k ≤ n → T1 len k ≤ T1 len n
  | 0, h => by rw [show k = 0 by omega]; exact Nat.le_refl _
  | n + 1, h => by
    by_cases e : k = n + 1
    · rw [e]; exact Nat.le_refl _
    · have := T1_le (len := len) (show k ≤ n by omega)
      show _ ≤ T1 len n + (1 + len n)
      omega
theorem T2_le {m : Nat → Nat} {len : Nat → Nat → Nat} {i : Nat} : ∀ {n}, i ≤ n → T2 m len i ≤ T2 m len n
  | 0, h => by rw [show i = 0 by omega]; exact Nat.le_refl _
  | n + 1, h => by
    by_cases e : i = n + 1
    · rw [e]; exact Nat.le_refl _
    · have := T2_le (m := m) (len := len) (show i ≤ n by omega)
      show _ ≤ T2 m len n + (1 + T1 (len n) (m n))
      omega
theorem T1_ge {len : Nat → Nat} : ∀ {n}, n ≤ T1 len n
  | 0 => Nat.zero_le _
  | n + 1 => by
    have := T1_ge (len := len) (n := n)
    show _ ≤ T1 len n + (1 + len n)
    omega
theorem T_in {n : Nat} {m : Nat → Nat} {len : Nat → Nat → Nat} {i k : Nat} (hi : i < n) (hk : k ≤ m i) : T2 m len i + 1 + T1 (len i) k ≤ T2 m len n := by
  have h1 := T2_le (m := m) (len := len) (show i + 1 ≤ n from hi)
  have h2 := T1_le (len := len i) hk
  have h3 : T2 m len (i + 1) = T2 m len i + (1 + T1 (len i) (m i)) := rfl
  omega
/-- a list of lists of words -/
def Gl (w : World) (q : Option Addr) (m : Nat) (len : Nat → Nat) (f : Nat → Nat → Nat) : Prop :=
  ∀ k, k < m → ∃ b o r c, q = some ⟨b, o, none⟩ ∧ b < w.heap.size ∧ w.cell? ⟨b, o + k, none⟩ = some (.slice r (len k) c) ∧ Words w r (len k) (f k)
/-- groups of lists of words -/
def Gs (w : World) (p : Option Addr) (n : Nat) (m : Nat → Nat) (len : Nat → Nat → Nat) (f : Nat → Nat → Nat → Nat) : Prop :=
  ∀ i, i < n → ∃ b o q c, p = some ⟨b, o, none⟩ ∧ b < w.heap.size ∧ w.cell? ⟨b, o + i, none⟩ = some (.slice q (m i) c) ∧ Gl w q (m i) (len i) (f i)

set_option maxRecDepth 100000 in
set_option maxHeartbeats 2000000 in
theorem beyond_calls (p : Option Addr) (n c0 : Nat) (m : Nat → Nat) (len : Nat → Nat → Nat) (f : Nat → Nat → Nat → Nat) (w : World) (hT : T2 m len n ≤ 1048576) (hn : n ≤ 1048576) (h : Gs w p n m len f) :
    Calls Try.prog 22 #[.slice p n c0] w fun e w' => e = .returned (.bool false) ∧ w' = w := by
  have H := Lib.hid h; have HT := Lib.hid hT
  clear h hT
  go_enter Try.func22, Try.ntmps22
  go_wp2_with fail
  go_loop [3, 4] (fun l i => ∃ a : Nat, a ≤ n ∧ i = .int .i64 a ∧ l = .int .i64 (2147483647 - (T2 m len a : Int))) (fun _ i => n - (intOf i).toNat)
  case atStart => exact ⟨0, Nat.zero_le _, rfl, rfl⟩
  case round =>
    obtain ⟨i, hi, rfl, rfl⟩ := hrel
    have hti : T2 m len i ≤ 1048576 := Nat.le_trans (T2_le hi) HT.out
    by_cases hlt : i < n
    · obtain ⟨b, o, q, c, rfl, _, x1, hg⟩ := H.out i hlt
      have HG := Lib.hid hg
      have hIn := Lib.hid (fun k (hk : k ≤ m i) => Nat.le_trans (T_in (len := len) hlt hk) HT.out)
      have hmi : m i ≤ 1048576 := by have := hIn.out (m i) (Nat.le_refl _); have := T1_ge (len := len i) (n := m i); omega
      have hN := Lib.hid (show T2 m len (i + 1) = T2 m len i + (1 + T1 (len i) (m i)) from rfl)
      clear hg
      generalize T2 m len i = t at *
      go_wp2_with fail
      go_loop [3, 5] (fun l z => ∃ k : Nat, k ≤ m i ∧ z = .int .i64 k ∧ l = .int .i64 (2147483647 - (t : Int) - 1 - (T1 (len i) k : Int))) (fun _ z => m i - (intOf z).toNat)
      case atStart => exact ⟨0, Nat.zero_le _, rfl, by simp [T1]⟩
      case round =>
        obtain ⟨k, hk, rfl, rfl⟩ := hrel
        have htk : t + 1 + T1 (len i) k ≤ 1048576 := hIn.out k hk
        by_cases hk2 : k < m i
        · obtain ⟨b2, o2, r, c2, rfl, _, y1, _⟩ := HG.out k hk2
          have htk2 : t + 1 + (T1 (len i) k + (1 + len i k)) ≤ 1048576 := hIn.out (k + 1) hk2
          have hN2 := Lib.hid (show T1 (len i) (k + 1) = T1 (len i) k + (1 + len i k) from rfl)
          generalize T1 (len i) k = t1 at *
          generalize len i k = lk at *
          go_wp2_with fail
          exact ⟨⟨k + 1, hk2, by go_num, by rw [hN2.out]; congr 1; omega⟩, by simp [intOf]; omega⟩
        · obtain rfl : m i = k := by omega
          generalize hT1 : T1 (len i) (m i) = t1 at *
          have hN3 := Lib.hid hN.out
          clear hT1
          generalize m i = mi at *
          go_wp2_with fail
          exact ⟨⟨i + 1, hlt, by go_num, by rw [hN3.out]; congr 1; omega⟩, by simp [intOf]; omega⟩
    · obtain rfl : n = i := by omega
      generalize T2 m len n = t at *
      have hd : decide ((2147483647 : Int) - (t : Int) < 0) = false := by rw [decide_eq_false_iff_not]; omega
      go_wp2_with fail
      go_ret
      exact ⟨rfl, rfl⟩

def Oks (m : Nat) (len : Nat → Nat) (f : Nat → Nat → Nat) : Prop := ∀ k, k < m → ∀ j, j < len k → mag (f k j) ≤ 8930638061075693568
def MayRes (w : World) (n : Nat) (m : Nat → Nat) (len : Nat → Nat → Nat) (f : Nat → Nat → Nat → Nat) (e : Ending) (w' : World) : Prop := ∃ q, e = .returned (.bool q) ∧ (q = true → ∀ i, i < n → Oks (m i) (len i) (f i)) ∧ w' = w
set_option maxRecDepth 100000 in
set_option maxHeartbeats 2000000 in
theorem may_calls (p : Option Addr) (n c0 : Nat) (m : Nat → Nat) (len : Nat → Nat → Nat) (f : Nat → Nat → Nat → Nat) (w : World) (hn : n ≤ 1048576) (hm : ∀ i, i < n → m i ≤ 1048576) (hl : ∀ i, i < n → ∀ k, k < m i → len i k ≤ 1048576) (h : Gs w p n m len f) :
    Calls Try.prog 23 #[.slice p n c0] w (MayRes w n m len f) := by
  have H := Lib.hid h; have HM := Lib.hid hm; have HL := Lib.hid hl
  clear h hm hl
  go_enter Try.func23, Try.ntmps23
  go_wp2_with fail
  go_loop [3] (fun i => ∃ a : Nat, a ≤ n ∧ i = .int .i64 a ∧ ∀ i, i < a → Oks (m i) (len i) (f i)) (fun i => n - (intOf i).toNat)
  case atStart => exact ⟨0, Nat.zero_le _, rfl, fun i hi => by omega⟩
  case round =>
    obtain ⟨i, hi, rfl, hok⟩ := hrel
    have HOK := Lib.hid hok
    clear hok
    by_cases hlt : i < n
    · obtain ⟨b, o, q, c, rfl, _, x1, hg⟩ := H.out i hlt
      have HG := Lib.hid hg
      have hmi := HM.out i hlt
      have HLI := Lib.hid (HL.out i hlt)
      clear hg
      go_wp2_with fail
      go_loop [4] (fun z => ∃ k : Nat, k ≤ m i ∧ z = .int .i64 k ∧ Oks k (len i) (f i)) (fun z => m i - (intOf z).toNat)
      case atStart => exact ⟨0, Nat.zero_le _, rfl, fun k hk => by omega⟩
      case round =>
        obtain ⟨k, hk, rfl, hok2⟩ := hrel
        have HOK2 := Lib.hid hok2
        clear hok2
        by_cases hk2 : k < m i
        · obtain ⟨b2, o2, r, c2, rfl, _, y1, hwd⟩ := HG.out k hk2
          have HW := Lib.hid hwd
          have hlk := HLI.out k hk2
          clear hwd
          go_wp2_with fail
          go_loop [5] (fun z => ∃ j : Nat, j ≤ len i k ∧ z = .int .i64 j ∧ ∀ j', j' < j → mag (f i k j') ≤ 8930638061075693568) (fun z => len i k - (intOf z).toNat)
          case atStart => exact ⟨0, Nat.zero_le _, rfl, fun k hk => by omega⟩
          case round =>
            obtain ⟨j, hj, rfl, hok3⟩ := hrel
            have HOK3 := Lib.hid hok3
            clear hok3
            by_cases hj2 : j < len i k
            · obtain ⟨b3, o3, rfl, _, z1, z2⟩ := HW.out.at_ j hj2
              have HZ := Lib.hid z2
              clear z2
              go_wp2_with fail
              refine (may_any _ _ HZ.out).mono ?_
              rintro e w3 ⟨rfl, rfl⟩
              have hQ := Lib.hid (show (decide (mag (f i k j) ≤ 8930638061075693568) = true → mag (f i k j) ≤ 8930638061075693568) from fun h => of_decide_eq_true h)
              generalize decide (mag (f i k j) ≤ 8930638061075693568) = Q at *
              cases Q
              · go_wp2_with fail
                go_ret
                exact ⟨false, rfl, fun q => (by cases q), rfl⟩
              · have HN := Lib.hid (show ∀ j', j' < j + 1 → mag (f i k j') ≤ 8930638061075693568 from fun j' hj' => by
                  by_cases e : j' = j
                  · rw [e]; exact hQ.out rfl
                  · exact HOK3.out j' (by omega))
                go_wp2_with fail
                exact ⟨⟨j + 1, hj2, by go_num, HN.out⟩, by simp [intOf]; omega⟩
            · obtain rfl : len i k = j := by omega
              have HN := Lib.hid (show Oks (k + 1) (len i) (f i) from fun k' hk' => by
                by_cases e : k' = k
                · rw [e]; exact HOK3.out
                · exact HOK2.out k' (by omega))
              go_wp2_with fail
              exact ⟨⟨k + 1, hk2, by go_num, HN.out⟩, by simp [intOf]; omega⟩
        · obtain rfl : m i = k := by omega
          have HN := Lib.hid (show ∀ i', i' < i + 1 → Oks (m i') (len i') (f i') from fun i' hi' => by
            by_cases e : i' = i
            · rw [e]; exact HOK2.out
            · exact HOK.out i' (by omega))
          go_wp2_with fail
          exact ⟨⟨i + 1, hlt, by go_num, HN.out⟩, by simp [intOf]; omega⟩
    · obtain rfl : n = i := by omega
      go_wp2_with fail
      go_ret
      exact ⟨true, rfl, fun _ => HOK.out, rfl⟩

set_option maxRecDepth 100000 in
set_option maxHeartbeats 2000000 in
theorem stays2 (s c A k : Nat) (X : Int) (w : World) (h : Flt.PW s c X A k) (hA : 64 * A < BG) :
    Calls Try.prog 25 #[.complex .f64 s c] w fun e w' => e = .returned (.bool true) ∧ Only (fun _ => False) w w' := by
  have k1 := run_tobits
  obtain ⟨t1, t2, _⟩ := h.total hA
  have t3 := radd_word s c
  have hn := Lib.hid (nan_of_mag t1)
  have hall : ∀ r, r < 18446744073709551616 → mag r < 9218868437227405312 → r ≠ 9223372036854775808 → bits BinOp.and IntKind.u64 (r : Int) 9223372036854775807 = ((mag r : Nat) : Int) ∧ decide ((9218868437227405312 : Int) ≤ (mag r : Int)) = false ∧ ((r : Int) == 9223372036854775808) = false := fun r h1 h2 h3 =>
    ⟨mag_bits2 r h1, by rw [decide_eq_false_iff_not]; omega, by rw [beq_eq_false_iff_ne]; omega⟩
  have fs := Lib.hid (hall s h.ls h.fs h.ns)
  have fc := Lib.hid (hall c h.lc h.fc h.nc)
  have ft := Lib.hid (hall (radd s c) t3 t1 t2)
  clear h hA t1 t2 t3 hall
  go_enter Try.func25, Try.ntmps25
  go_wp2_with fail
  refine (ptotal_any (s, c) _).mono ?_
  rintro e w1 ⟨r, rfl, r1, _, S1⟩
  dsimp only at r1
  obtain rfl := r1.eq_of hn.out
  clear r1
  have O1 : Only (fun _ => False) w w1 := S1.only _
  clear S1 hn
  generalize radd s c = r at *
  go_wp2_with fail
  have hblk : Hid ((w1.alloc (.cells #[.int .u64 (s : Nat), .int .u64 (c : Nat), .int .u64 (r : Nat)] 22)).heap[w1.heap.size]? = some (.cells #[.int .u64 (s : Nat), .int .u64 (c : Nat), .int .u64 (r : Nat)] 22 (0, 0))) := blk_new w1 _
  generalize hw2 : w1.alloc (.cells #[.int .u64 (s : Nat), .int .u64 (c : Nat), .int .u64 (r : Nat)] 22) = w2 at *
  have hO : Hid (Only (fun _ => False) w w2) := by rw [← hw2]; exact O1.alloc _
  clear hw2
  go_loop [4] (fun i => ∃ k : Nat, k ≤ 3 ∧ i = .int .i64 k) (fun i => 3 - (intOf i).toNat)
  case atStart => exact ⟨0, by omega, rfl⟩
  case round =>
    obtain ⟨k, hk, rfl⟩ := hrel
    by_cases hlt : k < 3
    · obtain ⟨x, hc, hf⟩ : ∃ x : Nat, w2.cell? ⟨w1.heap.size, k, none⟩ = some (.int .u64 (x : Nat)) ∧ (bits BinOp.and IntKind.u64 (x : Int) 9223372036854775807 = ((mag x : Nat) : Int) ∧ decide ((9218868437227405312 : Int) ≤ (mag x : Int)) = false ∧ ((x : Int) == 9223372036854775808) = false) := by
        rcases (show k = 0 ∨ k = 1 ∨ k = 2 by omega) with rfl | rfl | rfl
        · exact ⟨s, blk_cell hblk.out 0, fs.out⟩
        · exact ⟨c, blk_cell hblk.out 1, fc.out⟩
        · exact ⟨r, blk_cell hblk.out 2, ft.out⟩
      obtain ⟨f1, f2, f3⟩ := hf
      go_wp2_with fail
      go_round
      case rel => exact ⟨k + 1, by omega, by go_num⟩
      case measure => simp [intOf]; omega
    · go_wp2_with fail
      go_ret
      exact ⟨rfl, hO.out⟩
end Go.Proofs.Ytgcjhdcplmfjbaa.Bg
