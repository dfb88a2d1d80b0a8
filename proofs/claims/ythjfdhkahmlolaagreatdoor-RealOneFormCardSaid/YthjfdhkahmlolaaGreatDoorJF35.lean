/- Digits as numbers; prefixIsLessThan. -/
import Derived.Test.YthjfdhkahmlolaaGreatDoorJF34
namespace Go.Proofs.YthjfdhkahmlolaaGreatDoor
open Go.RowKit
set_option maxRecDepth 100000
/-- the number that the first n digits tell -/
def nm (g : Nat → Nat) : Nat → Nat
  | 0 => 0
  | n + 1 => nm g n * 10 + (g n - 48)
theorem nm_succ (g : Nat → Nat) (n : Nat) : nm g (n + 1) = nm g n * 10 + (g n - 48) := rfl
/-- the first n are digits -/
def Dgt (g : Nat → Nat) (n : Nat) : Prop := ∀ i, i < n → 48 ≤ g i ∧ g i ≤ 57
theorem Dgt.mono {g : Nat → Nat} {m n : Nat} (h : Dgt g n) (hm : m ≤ n) : Dgt g m := fun i hi => h i (by omega)
theorem nm_congr {g h : Nat → Nat} : ∀ {n : Nat}, (∀ i, i < n → g i = h i) → nm g n = nm h n
  | 0, _ => rfl
  | n + 1, e => by rw [nm_succ, nm_succ, nm_congr (n := n) (fun i hi => e i (by omega)), e n (by omega)]
theorem nm_lo (g : Nat → Nat) (i : Nat) : ∀ n, nm g i * 10 ^ n ≤ nm g (i + n)
  | 0 => by simp
  | n + 1 => by
    have h := nm_lo g i n
    rw [show i + (n + 1) = i + n + 1 by omega, nm_succ, Nat.pow_succ, ← Nat.mul_assoc]
    omega
theorem nm_hi {g : Nat → Nat} (i : Nat) : ∀ n, Dgt g (i + n) → nm g (i + n) < (nm g i + 1) * 10 ^ n
  | 0, _ => by simp
  | n + 1, hd => by
    have h := nm_hi (g := g) i n (hd.mono (by omega))
    have hd2 := hd (i + n) (by omega)
    rw [show i + (n + 1) = i + n + 1 by omega, nm_succ, Nat.pow_succ, ← Nat.mul_assoc]
    omega
theorem nm_lt {g : Nat → Nat} {n : Nat} (hd : Dgt g n) : nm g n < 10 ^ n := by
  have := nm_hi (g := g) 0 n (by rw [Nat.zero_add]; exact hd)
  rw [Nat.zero_add] at this
  simpa [nm] using this
theorem nm_ge {g : Nat → Nat} {n : Nat} (h1 : 1 ≤ n) (h0 : 49 ≤ g 0) : 10 ^ (n - 1) ≤ nm g n := by
  have := nm_lo g 1 (n - 1)
  rw [show 1 + (n - 1) = n by omega] at this
  have h2 : 1 ≤ nm g 1 := by rw [nm_succ]; omega
  exact Nat.le_trans (by have := Nat.mul_le_mul_right (10 ^ (n - 1)) h2; rw [Nat.one_mul] at this; exact this) this
theorem nm_less {g h : Nat → Nat} {p n m : Nat} (hg : Dgt g n) (hn : p ≤ n) (hm : p ≤ m) (hl : nm g p < nm h p) : nm g n * 10 ^ m < nm h m * 10 ^ n := by
  have h1 := nm_hi (g := g) p (n - p) (by rw [show p + (n - p) = n by omega]; exact hg)
  have h2 := nm_lo h p (m - p)
  rw [show p + (n - p) = n by omega] at h1
  rw [show p + (m - p) = m by omega] at h2
  have e1 : (10 : Nat) ^ m = 10 ^ p * 10 ^ (m - p) := by rw [← Nat.pow_add]; congr 1; omega
  have e2 : (10 : Nat) ^ n = 10 ^ p * 10 ^ (n - p) := by rw [← Nat.pow_add]; congr 1; omega
  have p1 : 0 < (10 : Nat) ^ p := Nat.pow_pos (by decide)
  have p2 : 0 < (10 : Nat) ^ (m - p) := Nat.pow_pos (by decide)
  have p3 : 0 < (10 : Nat) ^ (n - p) := Nat.pow_pos (by decide)
  rw [e1, e2]
  generalize (10 : Nat) ^ p = P at *
  generalize (10 : Nat) ^ (m - p) = A at *
  generalize (10 : Nat) ^ (n - p) = B at *
  have k1 : nm g n * (P * A) < (nm g p + 1) * B * (P * A) := Nat.mul_lt_mul_of_pos_right h1 (Nat.mul_pos p1 p2)
  have k2 : (nm g p + 1) * B * (P * A) ≤ nm h p * B * (P * A) := Nat.mul_le_mul_right _ (Nat.mul_le_mul_right _ hl)
  have k3 : nm h p * A * (P * B) ≤ nm h m * (P * B) := Nat.mul_le_mul_right _ h2
  have k4 : nm h p * B * (P * A) = nm h p * A * (P * B) := by
    rw [Nat.mul_assoc, Nat.mul_assoc, Nat.mul_left_comm B P A, Nat.mul_left_comm A P B, Nat.mul_comm B A]
  omega
theorem nm_more {g h : Nat → Nat} {n m : Nat} (hm : m ≤ n) (he : ∀ i, i < m → g i = h i) : nm h m * 10 ^ n ≤ nm g n * 10 ^ m := by
  have h1 := nm_lo g m (n - m)
  rw [show m + (n - m) = n by omega, nm_congr he] at h1
  have e1 : (10 : Nat) ^ n = 10 ^ (n - m) * 10 ^ m := by rw [← Nat.pow_add]; congr 1; omega
  rw [e1, ← Nat.mul_assoc]
  exact Nat.mul_le_mul_right _ h1
theorem nm_short {g h : Nat → Nat} {n m : Nat} (hm : n < m) (he : ∀ i, i < n → g i = h i) (hl : 49 ≤ h (m - 1)) : nm g n * 10 ^ m < nm h m * 10 ^ n := by
  have h1 := nm_lo h n (m - 1 - n)
  rw [show n + (m - 1 - n) = m - 1 by omega, ← nm_congr he] at h1
  have h2 : nm h m = nm h (m - 1) * 10 + (h (m - 1) - 48) := by
    obtain ⟨q, rfl⟩ : ∃ q, m = q + 1 := ⟨m - 1, by omega⟩
    rfl
  have h3 : nm g n * 10 ^ (m - n) < nm h m := by
    rw [show m - n = m - 1 - n + 1 by omega, Nat.pow_succ, ← Nat.mul_assoc]
    omega
  have e1 : (10 : Nat) ^ m = 10 ^ (m - n) * 10 ^ n := by rw [← Nat.pow_add]; congr 1; omega
  rw [e1, ← Nat.mul_assoc]
  exact Nat.mul_lt_mul_of_pos_right h3 (Nat.pow_pos (by decide))
/-- a text's bytes, as a function -/
def tb (s : ByteArray) (i : Nat) : Nat := ((bl s)[i]?).getD 0
theorem tb_at (s : ByteArray) {i : Nat} (h : i < s.size) : (s[i]'h).toNat = tb s i := by
  unfold tb
  have h1 : i < (bl s).length := by rw [← bl_size]; exact h
  have h2 : bl s = (bl s).take i ++ (bl s)[i] :: (bl s).drop (i + 1) := by simp
  have h3 := bl_at (s := s) (pre := (bl s).take i) (c := (bl s)[i]) h2 (by simp; omega)
  simp only [List.length_take, Nat.min_eq_left (Nat.le_of_lt h1)] at h3
  rw [h3, List.getElem?_eq_getElem h1]; rfl
/-- what prefixIsLessThan tells -/
def PrePost (g h : Nat → Nat) (n m : Nat) (w : World) (e : Ending) (w' : World) : Prop :=
  e = .returned (.bool (decide (nm g n * 10 ^ m < nm h m * 10 ^ n))) ∧ ∃ q, w' = w.drewN q
set_option maxHeartbeats 1000000 in
theorem pre_calls {w : World} {b nd : Nat} {g : Nat → Nat} {s : ByteArray} (hc : ∀ i, i < nd → w.cell? ⟨b, i, none⟩ = some (.int .u8 (g i : Int))) (hg : Dgt g nd) (hs : Dgt (tb s) s.size) (h0 : 1 ≤ s.size) (hl : 49 ≤ tb s (s.size - 1)) (hn : nd ≤ 800) (hz : s.size < 100) :
    Calls Tryz.prog 160 #[.slice (some ⟨b, 0, none⟩) nd 800, .string s] w (PrePost g (tb s) nd s.size w) := by
  have HC := Lib.hid hc; have HG := Lib.hid hg; have HS := Lib.hid hs; have HL := Lib.hid hl
  clear hc hg hs hl
  go_enter Tryz.func160, Tryz.ntmps160
  go_wp2_with fail
  go_loopw [5] (fun i wr => ∃ k : Nat, i = .int .i64 (k : Int) ∧ k ≤ nd ∧ k ≤ s.size ∧ (∀ j, j < k → g j = tb s j) ∧ ∃ q, wr = w.drewN q) (fun i _ => s.size - (intOf i).toNat)
  case atStart => exact ⟨0, rfl, Nat.zero_le _, Nat.zero_le _, fun j hj => absurd hj (by omega), 0, rfl⟩
  case round =>
    obtain ⟨k, rfl, k1, k2, hke, q, rfl⟩ := hrel
    have HE := Lib.hid hke
    clear hke
    by_cases hks : k = s.size
    · subst hks
      go_wp2_with fail
      go_ret
      exact ⟨by rw [decide_eq_false (Nat.not_lt.2 (nm_more k1 HE.out))]; rfl, _, rfl⟩
    · have hkl : k < s.size := by omega
      by_cases hkn : k = nd
      · subst hkn
        go_wp2_with fail
        go_ret
        exact ⟨by rw [decide_eq_true (nm_short hkl HE.out HL.out)]; rfl, _, rfl⟩
      · have hkd : k < nd := by omega
        have c1 := HC.out k hkd
        have e1 := tb_at s hkl
        by_cases heq : g k = tb s k
        · have t1 : ((g k : Int) != (tb s k : Int)) = false := by rw [bne_eq_false_iff_eq]; omega
          go_wp2_with fail
          go_quiet (fail)
          go_wp2_with fail
          exact ⟨⟨k + 1, by go_num, by omega, by omega, fun j hj => by
            by_cases h : j = k
            · subst h; exact heq
            · exact HE.out j (by omega), _, rfl⟩, by simp only [intOf]; omega⟩
        · have t1 : ((g k : Int) != (tb s k : Int)) = true := by rw [bne_iff_ne]; omega
          go_wp2_with fail
          go_quiet (fail)
          go_wp2_with fail
          go_quiet (fail)
          go_wp2_with fail
          go_ret
          have hgk := HG.out k hkd
          have hsk := HS.out k hkl
          refine ⟨?_, _, by rw [World.drewN_drewN, World.drewN_drewN]⟩
          by_cases hlt : g k < tb s k
          · have h1 := nm_less (p := k + 1) (n := nd) (m := s.size) (h := tb s) HG.out (by omega) (by omega) (by
              rw [nm_succ, nm_succ, nm_congr HE.out]; omega)
            rw [decide_eq_true h1]
            first | (rw [decide_eq_true hlt]; rfl) | (simp [hlt]; done) | (simp only [hlt, decide_true]; rfl)
          · have h1 := nm_less (p := k + 1) (n := s.size) (m := nd) (h := g) HS.out (by omega) (by omega) (by
              rw [nm_succ, nm_succ, nm_congr HE.out]; omega)
            rw [decide_eq_false (Nat.not_lt.2 (Nat.le_of_lt h1))]
            first | (rw [decide_eq_false hlt]; rfl) | (simp [hlt]; done) | (simp only [hlt, decide_false]; rfl)
end Go.Proofs.YthjfdhkahmlolaaGreatDoor

/- The table of leftShift's cheats: what it says of any digits. -/
namespace Go.Proofs.YthjfdhkahmlolaaGreatDoor
open Go.RowKit
set_option maxRecDepth 100000
/-- new digits, and the text of 5^k -/
def chD (k : Nat) : Nat := ((Go.Pinned.cheatRows[k]?).getD (0, [])).1
def chL (k : Nat) : List UInt8 := ((Go.Pinned.cheatRows[k]?).getD (0, [])).2
def chS (k : Nat) : ByteArray := ⟨(chL k).toArray⟩
def chOk (k : Nat) : Bool :=
  nm (fun i => ((chL k)[i]?.getD 0).toNat) (chL k).length == 5 ^ k && k + 1 == (chL k).length + chD k && 1 ≤ (chL k).length && (chL k).length ≤ 60 &&
  decide (10 ^ ((chL k).length - 1) ≤ 5 ^ k) && decide (5 ^ k < 10 ^ (chL k).length) && (chL k).all (fun x => 48 ≤ x && x ≤ 57) && (((chL k).getLast?).getD 0) == 53
theorem ch_ok : ∀ k, k < 61 → 1 ≤ k → chOk k = true := by decide +kernel
theorem cheat_rows_len : Go.Pinned.cheatRows.length = 61 := by decide +kernel
theorem chS_size (k : Nat) : (chS k).size = (chL k).length := by unfold chS; simp [ByteArray.size]
theorem chS_bl (k : Nat) : bl (chS k) = (chL k).map UInt8.toNat := rfl
theorem chS_tb (k i : Nat) : tb (chS k) i = ((chL k)[i]?.getD 0).toNat := by
  unfold tb
  rw [chS_bl, List.getElem?_map]
  cases (chL k)[i]? <;> rfl
structure ChP (k : Nat) : Prop where
  num : nm (tb (chS k)) (chS k).size = 5 ^ k
  len : k + 1 = (chS k).size + chD k
  one : 1 ≤ (chS k).size
  most : (chS k).size ≤ 60
  lo : 10 ^ ((chS k).size - 1) ≤ 5 ^ k
  hi : 5 ^ k < 10 ^ (chS k).size
  dgt : Dgt (tb (chS k)) (chS k).size
  last : 49 ≤ tb (chS k) ((chS k).size - 1)
theorem ch_p {k : Nat} (h1 : 1 ≤ k) (h2 : k ≤ 60) : ChP k := by
  have h := ch_ok k (by omega) h1
  unfold chOk at h
  simp only [Bool.and_eq_true, beq_iff_eq, decide_eq_true_eq, List.all_eq_true] at h
  obtain ⟨⟨⟨⟨⟨⟨⟨a1, a2⟩, a3⟩, a4⟩, a5⟩, a6⟩, a7⟩, a8⟩ := h
  have e : ∀ i, tb (chS k) i = ((chL k)[i]?.getD 0).toNat := chS_tb k
  refine ⟨?_, by rw [chS_size]; exact a2, by rw [chS_size]; exact a3, by rw [chS_size]; exact a4, by rw [chS_size]; exact a5, by rw [chS_size]; exact a6, ?_, ?_⟩
  · rw [chS_size, ← a1]; exact nm_congr (fun i _ => e i)
  · intro i hi
    rw [chS_size] at hi
    rw [e, List.getElem?_eq_getElem hi]
    have h := a7 (chL k)[i] (List.getElem_mem hi)
    have h1 : (48 : UInt8) ≤ (chL k)[i] := h.1
    have h2 : (chL k)[i] ≤ (57 : UInt8) := h.2
    exact ⟨by simpa [UInt8.le_iff_toNat_le] using h1, by simpa [UInt8.le_iff_toNat_le] using h2⟩
  · rw [e, chS_size]
    rw [List.getLast?_eq_getElem?] at a8
    rw [a8]; decide
/-- the digits of a number shifted by k bits -/
theorem shift_len {g : Nat → Nat} {n k D : Nat} {r : Bool} (C : ChP k) (hg : Dgt g n) (h1 : 1 ≤ n) (h0 : 49 ≤ g 0) (hr1 : r = true → nm g n * 10 ^ (chS k).size < 5 ^ k * 10 ^ n) (hr2 : r = false → 5 ^ k * 10 ^ n ≤ nm g n * 10 ^ (chS k).size) (hD : D = if r then chD k - 1 else chD k) :
    (r = true → 1 ≤ chD k) ∧ 10 ^ (n + D - 1) ≤ nm g n * 2 ^ k ∧ nm g n * 2 ^ k < 10 ^ (n + D) := by
  obtain ⟨_, c2, c3, _, c5, c6, _, _⟩ := C
  have hN := nm_lt hg
  have hN2 := nm_ge (n := n) h1 h0
  generalize nm g n = N at *
  generalize (chS k).size = L at *
  generalize chD k = d at *
  have e25 : (2 : Nat) ^ k * 5 ^ k = 10 ^ k := by rw [← Nat.mul_pow]
  have p5 : 0 < (5 : Nat) ^ k := Nat.pow_pos (by decide)
  have pL : 0 < (10 : Nat) ^ L := Nat.pow_pos (by decide)
  have hp : ∀ a b : Nat, (10 : Nat) ^ a * 10 ^ b = 10 ^ (a + b) := fun a b => (Nat.pow_add ..).symm
  cases r
  · refine ⟨fun h => absurd h (by decide), ?_, ?_⟩
    · have h := hr2 rfl
      rw [if_neg (by decide)] at hD
      subst hD
      have h3 : 10 ^ (n + D - 1) * 10 ^ L ≤ N * 2 ^ k * 10 ^ L := by
        rw [hp, show n + D - 1 + L = k + n by omega, ← hp, ← e25]
        have := Nat.mul_le_mul_left (2 ^ k) h
        rw [← Nat.mul_assoc, ← Nat.mul_assoc] at this
        rw [Nat.mul_comm N (2 ^ k)]
        exact this
      exact Nat.le_of_mul_le_mul_right h3 pL
    · rw [if_neg (by decide)] at hD
      subst hD
      have h2 : 2 ^ k ≤ 10 ^ D := by
        have h4 : 2 ^ k * 10 ^ (L - 1) ≤ 10 ^ D * 10 ^ (L - 1) := by
          rw [hp, show D + (L - 1) = k by omega, ← e25]
          exact Nat.mul_le_mul_left _ c5
        exact Nat.le_of_mul_le_mul_right h4 (Nat.pow_pos (by decide))
      rw [← hp]
      exact Nat.lt_of_lt_of_le (Nat.mul_lt_mul_of_pos_right hN (Nat.pow_pos (by decide))) (Nat.mul_le_mul_left _ h2)
  · have h := hr1 rfl
    rw [if_pos rfl] at hD
    have hd : 1 ≤ d := by
      rcases Nat.eq_zero_or_pos d with hd | hd
      · exfalso
        have h6 : k + 1 ≤ L := by omega
        have h7 : (5 : Nat) ^ k < 10 ^ k + 1 := Nat.lt_succ_of_le (Nat.pow_le_pow_left (by decide) k)
        have h8 : (10 : Nat) ^ k ≤ 10 ^ (L - 1) := Nat.pow_le_pow_right (by decide) (by omega)
        have h9 : 5 ^ k = 10 ^ k := by omega
        have hk : (2 : Nat) ^ k = 1 := by
          have h10 : 2 ^ k * 5 ^ k = 1 * 5 ^ k := by rw [e25, h9, Nat.one_mul]
          exact Nat.eq_of_mul_eq_mul_right p5 h10
        have hk0 : k = 0 := by
          rcases Nat.eq_zero_or_pos k with h | h
          · exact h
          · have := Nat.one_lt_two_pow (n := k) (by omega); omega
        subst hk0
        have : L = 1 := by omega
        subst this
        simp at h
        have h11 : 10 ^ (n - 1) * 10 = 10 ^ n := by rw [← Nat.pow_succ]; congr 1; omega
        omega
      · exact hd
    refine ⟨fun _ => hd, ?_, ?_⟩
    · have h2 : 10 ^ (d - 1) ≤ 2 ^ k := by
        have h4 : 10 ^ (d - 1) * 10 ^ L ≤ 2 ^ k * 10 ^ L := by
          rw [hp, show d - 1 + L = k by omega, ← e25]
          exact Nat.mul_le_mul_left _ (Nat.le_of_lt c6)
        exact Nat.le_of_mul_le_mul_right h4 pL
      have := Nat.mul_le_mul hN2 h2
      rw [hp] at this
      rw [hD, show n + (d - 1) - 1 = n - 1 + (d - 1) by omega]
      exact this
    · have h3 : N * 2 ^ k * 10 ^ L < 10 ^ (n + D) * 10 ^ L := by
        rw [hp, hD, show n + (d - 1) + L = k + n by omega, ← hp, ← e25]
        have := Nat.mul_lt_mul_of_pos_left h (Nat.two_pow_pos k)
        rw [← Nat.mul_assoc, ← Nat.mul_assoc] at this
        rw [Nat.mul_comm N (2 ^ k)]
        exact this
      exact Nat.lt_of_mul_lt_mul_right h3
end Go.Proofs.YthjfdhkahmlolaaGreatDoor
