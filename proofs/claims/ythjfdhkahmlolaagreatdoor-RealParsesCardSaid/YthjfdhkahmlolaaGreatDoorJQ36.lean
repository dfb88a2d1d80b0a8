/- The reference's whole numbers: tens, shift. -/
import Derived.Test.YthjfdhkahmlolaaGreatDoorJQ34
import Derived.BigQuiet
import Derived.Deep.QuietTactic
namespace Go.Proofs.YthjfdhkahmlolaaGreatDoor
open Go.RowKit
set_option maxRecDepth 100000
theorem NtPost.seq {a : Nat} {w0 w : World} (O : Only (fun _ => False) w0 w) {e : Ending} {w' : World} (h : NtPost a w e w') : NtPost a w0 e w' := by
  obtain ⟨v, h1, h2, h3⟩ := h
  exact ⟨v, h1, h2, O.trans h3⟩
/-- the loops of tens -/
def TnR (w0 : World) (a n : Nat) (v0 v1 : Value) (w : World) : Prop :=
  ∃ k b : Nat, v1 = .int .i64 (k : Int) ∧ k ≤ n ∧ Nt w v0 b ∧ Only (fun _ => False) w0 w ∧ b * 10 ^ k = a * 10 ^ n
set_option maxHeartbeats 4000000 in
theorem tens_calls (v : Value) (a n : Nat) (w : World) (hv : Nt w v a) (hb : a * 10 ^ n < Big) (hn : n ≤ 100000) : Calls Tryz.prog 83 #[v, .int .i64 (n : Int)] w (NtPost (a * 10 ^ n) w) := by
  have HB := Lib.hid hb; have HV := Lib.hid hv
  clear hb hv
  go_enter Tryz.func83, Tryz.ntmps83
  go_wp2_with fail
  go_loopw [0, 1] (fun v0 v1 wr => TnR w a n v0 v1 wr) (fun _ v1 _ => (intOf v1).toNat)
  case atStart => exact ⟨n, a, rfl, Nat.le_refl _, HV.out, Only.refl _ w, rfl⟩
  case round =>
    obtain ⟨k, b, rfl, hk, hN, hO, he⟩ := hrel
    have HN := Lib.hid hN; have HO := Lib.hid hO; have HE := Lib.hid he
    clear hN hO he
    by_cases h9 : 9 ≤ k
    · have hbB : b < Big := by
        have h1 : b * 1 ≤ b * 10 ^ k := Nat.mul_le_mul_left _ (Nat.one_le_pow _ _ (by decide))
        have := HE.out; have := HB.out
        omega
      have HBB := Lib.hid hbB; clear hbB
      go_wp2_with (refine (times_calls _ b 1000000000 _ HN.out (by decide) HBB.out).mono ?_; rintro en w1 ⟨v1, rfl, hv1, ho1⟩; have HN1 := Lib.hid hv1; have HO1 := Lib.hid ho1; clear hv1 ho1)
      refine ⟨⟨k - 9, b * 1000000000, congrArg (Value.int .i64) (by omega), by omega, HN1.out, HO.out.trans HO1.out, ?_⟩, by simp only [intOf]; omega⟩
      have h1 := HE.out
      obtain ⟨j, rfl⟩ : ∃ j, k = j + 9 := ⟨k - 9, by omega⟩
      rw [← h1, Nat.add_sub_cancel, Nat.mul_assoc, Nat.pow_add, Nat.mul_comm (10 ^ j)]
    · go_wp2_with fail
      go_loopw [0, 1] (fun v0 v1 wr => TnR w a n v0 v1 wr) (fun _ v1 _ => (intOf v1).toNat)
      case atStart => exact ⟨k, b, rfl, hk, HN.out, HO.out, HE.out⟩
      case round =>
        obtain ⟨k, b, rfl, hk, hN, hO, he⟩ := hrel
        clear HN HO HE
        have HN := Lib.hid hN; have HO := Lib.hid hO; have HE := Lib.hid he
        clear hN hO he
        by_cases h0 : 1 ≤ k
        · have hbB : b < Big := by
            have h1 : b * 1 ≤ b * 10 ^ k := Nat.mul_le_mul_left _ (Nat.one_le_pow _ _ (by decide))
            have := HE.out; have := HB.out
            omega
          have HBB := Lib.hid hbB; clear hbB
          go_wp2_with (refine (times_calls _ b 10 _ HN.out (by decide) HBB.out).mono ?_; rintro en w1 ⟨v1, rfl, hv1, ho1⟩; have HN1 := Lib.hid hv1; have HO1 := Lib.hid ho1; clear hv1 ho1)
          refine ⟨⟨k - 1, b * 10, congrArg (Value.int .i64) (by omega), by omega, HN1.out, HO.out.trans HO1.out, ?_⟩, by simp only [intOf]; omega⟩
          have h1 := HE.out
          obtain ⟨j, rfl⟩ : ∃ j, k = j + 1 := ⟨k - 1, by omega⟩
          rw [← h1, Nat.add_sub_cancel, Nat.mul_assoc, Nat.pow_succ, Nat.mul_comm (10 ^ j)]
        · obtain rfl : k = 0 := by omega
          go_wp2_with fail
          go_ret
          have h1 := HE.out
          rw [Nat.pow_zero, Nat.mul_one] at h1
          exact ⟨_, rfl, h1 ▸ HN.out, HO.out⟩
theorem lmL_app (q : Nat) (f : Nat → Nat) (n : Nat) : lmL (fun _ => 0) q ++ lmL f n = lmL (fun t => if t < q then 0 else f (t - q)) (q + n) := by
  unfold lmL
  refine List.ext_getElem? fun i => ?_
  rw [List.getElem?_append]
  simp only [List.length_map, List.length_range, List.getElem?_map]
  by_cases h : i < q
  · rw [if_pos h, List.getElem?_range h, List.getElem?_range (by omega)]
    simp [h]
  · rw [if_neg h]
    by_cases h2 : i - q < n
    · rw [List.getElem?_range h2, List.getElem?_range (by omega)]
      simp [h]
    · rw [List.getElem?_eq_none (l := List.range n) (by simp; omega), List.getElem?_eq_none (l := List.range (q + n)) (by simp; omega)]
      rfl
theorem nn_zero (q : Nat) : nn (fun t => if t < q then 0 else 0) q = 0 := by
  have : ∀ k, nn (fun t => if t < q then 0 else 0) k = 0 := by
    intro k
    induction k with
    | zero => rfl
    | succ k ih => rw [nn_succ, ih]; simp
  exact this q
theorem nn_shift (q : Nat) (f : Nat → Nat) : ∀ n, nn (fun t => if t < q then 0 else f (t - q)) (q + n) = nn f n * 4294967296 ^ q
  | 0 => by
    rw [Nat.add_zero]
    show nn _ q = 0 * _
    rw [Nat.zero_mul]
    exact (nn_congr (g := fun t => if t < q then 0 else 0) fun i hi => by simp only [if_pos hi]).trans (nn_zero q)
  | n + 1 => by
    rw [show q + (n + 1) = q + n + 1 by omega, nn_succ, nn_succ, nn_shift q f n, if_neg (by omega), Nat.add_sub_cancel_left, Nat.add_mul, Nat.pow_add, Nat.mul_comm (4294967296 ^ q), Nat.mul_assoc]
theorem lmL_replicate (q : Nat) : lmL (fun _ => 0) (q + 1) = lmL (fun _ => 0) q ++ [.int .u32 0] := by
  rw [show (.int .u32 0 : Value) = .int .u32 ((0 : Nat) : Int) from rfl, ← lmL_succ]
  unfold lmL
  refine List.map_congr_left fun t _ => ?_
  by_cases e : t = q
  · simp [e]
  · simp [e]
theorem lm_cells {w w' : World} {g n : Nat} {f : Nat → Nat} (hc : ∀ i, i < n → w.cell? ⟨g, i, none⟩ = some (.int .u32 (f i : Int))) (O : Only (fun _ => False) w w') :
    ∀ j u, (lmL f n)[j]? = some u → w'.cell? ((⟨g, 0, none⟩ : Addr).add j) = some u := by
  intro j u h
  unfold lmL at h
  have hj : j < n := by
    rcases Nat.lt_or_ge j n with h1 | h1
    · exact h1
    · rw [List.getElem?_eq_none (by simp; omega)] at h; cases h
  rw [List.getElem?_map, List.getElem?_range hj] at h
  cases h
  have := cell_keep (hc j hj) O id
  rw [← this]
  simp only [Addr.add]
  split <;> simp_all
theorem lm_one (f : Nat → Nat) (n : Nat) : ∀ u ∈ lmL f n, u.oneCell' = true := by
  intro u h
  unfold lmL at h
  obtain ⟨t, _, rfl⟩ := List.mem_map.1 h
  rfl
def ShR (w0 : World) (n : Nat) (v5 v6 : Value) (w : World) : Prop :=
  ∃ i : Nat, v6 = .int .i64 (i : Int) ∧ i ≤ n / 32 ∧ An w0 v5 (lmL (fun _ => 0) i) w
set_option maxHeartbeats 4000000 in
theorem shift_calls (v : Value) (a n : Nat) (w : World) (hv : Nt w v a) (hb : a * 2 ^ n < Big) : Calls Tryz.prog 82 #[v, .int .i64 (n : Int)] w (NtPost (a * 2 ^ n) w) := by
  have hV := hv
  obtain ⟨f, m, ⟨⟨p, cap, rfl, hcap, hc⟩, hl, h4⟩, rfl, hlast⟩ := hv
  have HV := Lib.hid hV; clear hV
  by_cases hm0 : m = 0
  · subst hm0
    clear hc hl hlast hb h4
    go_enter Tryz.func82, Tryz.ntmps82
    go_wp2_with fail
    go_ret
    refine ⟨_, rfl, ?_, Only.refl _ _⟩
    show Nt w _ (0 * 2 ^ n)
    rw [Nat.zero_mul]
    exact HV.out
  · have hm1 := nn_ge (f := f) (n := m) (by omega) (hlast (by omega))
    have hm2 : 1 ≤ nn f m := Nat.le_trans (Nat.one_le_pow _ _ (by decide)) hm1
    have hnB : n ≤ 90000 := by
      have h1 : 1 * 2 ^ n ≤ nn f m * 2 ^ n := Nat.mul_le_mul_right _ hm2
      rw [Nat.one_mul] at h1
      exact Big_lt hb h1
    have hmm : m ≤ 3000 := by
      refine len_Big ?_ hlast
      have h1 : nn f m * 1 ≤ nn f m * 2 ^ n := Nat.mul_le_mul_left _ (Nat.one_le_pow _ _ (by decide))
      omega
    obtain ⟨g, rfl, hcc⟩ := hc (by omega)
    have HB := Lib.hid hb; have HL := Lib.hid hl; have HLA := Lib.hid hlast; have HC := Lib.hid hcc
    clear hb hl hlast hc hcc hm1 hm2
    go_enter Tryz.func82, Tryz.ntmps82
    go_wp2_with fail
    go_loopw [5, 6] (fun v5 v6 wr => ShR w n v5 v6 wr) (fun _ v6 _ => n / 32 - (intOf v6).toNat)
    case atStart => exact ⟨0, rfl, Nat.zero_le _, An.start w⟩
    case round =>
      obtain ⟨i, rfl, hi, hA⟩ := hrel
      have HA := Lib.hid hA; clear hA
      by_cases hin : i < n / 32
      · go_wp2_with (at_builtin; (refine wp_an HA.out rfl _ _ rfl _ 1 (by simp [Act.eval]) (by simp [Act.eval]) rfl (by simp [Value.oneCell']) (by decide) (by rw [lmL_len]; omega) (by decide) ?_; intro v4 w4 hA'; have HA4 := Lib.hid hA'; clear hA'))
        have h1 := HA4.out
        rw [← lmL_replicate] at h1
        exact ⟨⟨i + 1, congrArg (Value.int .i64) (by omega), by omega, h1⟩, by simp only [intOf]; omega⟩
      · obtain rfl : i = n / 32 := by omega
        go_wp2_with (first | fail | (at_builtin; (refine wp_anS HA.out rfl _ _ rfl (by simp [Act.eval]) ⟨g, 0, none⟩ m cap (lmL f m) (by simp [Act.eval]) (lmL_len f m) (lm_cells HC.out HA.out.only) (lm_one f m) (by omega) (by rw [lmL_len]; omega) (by omega) ?_; intro v4 w4 hA'; have HA4 := Lib.hid hA'; clear hA')))
        have h1 := HA4.out
        rw [lmL_app] at h1
        have h2 := h1.lm (fun t ht => by
          by_cases e : t < n / 32
          · simp only [if_pos e]; decide
          · simp only [if_neg e]; exact HL.out _ (by omega)) (by omega)
        have h3 : Nt w4 v4 (nn f m * 4294967296 ^ (n / 32)) := by
          refine ⟨_, _, h2, (nn_shift _ _ _).symm, fun _ => ?_⟩
          rw [if_neg (by omega), show n / 32 + m - 1 - n / 32 = m - 1 by omega]
          exact HLA.out (by omega)
        have h5 : 4294967296 ^ (n / 32) * 2 ^ (n % 32) = 2 ^ n := by
          rw [two32, ← Nat.pow_add, Nat.div_add_mod]
        have h6 : 1 ≤ 2 ^ (n % 32) := Nat.one_le_pow _ _ (by decide)
        have h7 : 2 ^ (n % 32) < 4294967296 := Nat.lt_of_lt_of_le (Nat.pow_lt_pow_right (a := 2) (by decide) (show n % 32 < 32 by omega)) (by decide)
        have h8 : nn f m * 4294967296 ^ (n / 32) < Big := by
          refine Nat.lt_of_le_of_lt ?_ HB.out
          rw [← h5, ← Nat.mul_assoc]
          exact Nat.le_mul_of_pos_right _ h6
        have e1 : ((2 : Int) ^ (n % 32) % 4294967296) = ((2 ^ (n % 32) : Nat) : Int) := by
          have : ((2 : Int) ^ (n % 32)) = ((2 ^ (n % 32) : Nat) : Int) := by rw [Int.natCast_pow]; rfl
          rw [this]; omega
        rw [e1]
        refine (times_calls _ _ _ _ h3 h7 h8).mono ?_
        rw [Nat.mul_assoc, h5]
        rintro en w1 ⟨v1, rfl, hv1, ho1⟩
        have HN1 := Lib.hid hv1; have HO1 := Lib.hid (HA4.out.only.trans ho1)
        clear hv1 ho1 h1 h2 h3 h5 h6 h7 h8 e1
        go_wp2_with fail
        go_ret
        exact ⟨_, rfl, HN1.out, HO1.out⟩
end Go.Proofs.YthjfdhkahmlolaaGreatDoor

/- The reference's whole numbers: compare, less. -/
namespace Go.Proofs.YthjfdhkahmlolaaGreatDoor
open Go.RowKit
set_option maxRecDepth 100000
/-- how two stand -/
def cmp3 (a b : Nat) : Int := if a < b then -1 else if a = b then 0 else 1
theorem nn_less {f g : Nat → Nat} {k : Nat} (hf : ∀ i, i < k → f i < 4294967296) (h : f k < g k) : ∀ d, (∀ i, k < i → i < k + 1 + d → f i = g i) → nn f (k + 1 + d) < nn g (k + 1 + d)
  | 0, _ => by
    rw [Nat.add_zero, nn_succ, nn_succ]
    have h1 := nn_lt (f := f) (n := k) hf
    have h2 : (f k + 1) * 4294967296 ^ k ≤ g k * 4294967296 ^ k := Nat.mul_le_mul_right _ h
    rw [Nat.add_mul, Nat.one_mul] at h2
    omega
  | d + 1, e => by
    have h1 := nn_less hf h d (fun i h1 h2 => e i h1 (by omega))
    rw [show k + 1 + (d + 1) = k + 1 + d + 1 by omega, nn_succ, nn_succ, e (k + 1 + d) (by omega) (by omega)]
    omega
theorem nn_less' {f g : Nat → Nat} {k n : Nat} (hk : k < n) (hf : ∀ i, i < n → f i < 4294967296) (h : f k < g k) (e : ∀ i, k < i → i < n → f i = g i) : nn f n < nn g n := by
  have := nn_less (f := f) (g := g) (k := k) (fun i hi => hf i (by omega)) h (n - (k + 1)) (fun i h1 h2 => e i h1 (by omega))
  rw [show k + 1 + (n - (k + 1)) = n by omega] at this
  exact this
theorem nn_short {f g : Nat → Nat} {n m : Nat} (hf : ∀ i, i < n → f i < 4294967296) (h : n < m) (hg : g (m - 1) ≠ 0) : nn f n < nn g m := by
  have h1 := nn_lt (f := f) (n := n) hf
  have h2 := nn_ge (f := g) (n := m) (by omega) hg
  have h3 : 4294967296 ^ n ≤ 4294967296 ^ (m - 1) := Nat.pow_le_pow_right (by decide) (by omega)
  omega
def CmR (w0 : World) (f g : Nat → Nat) (n : Nat) (v5 : Value) (w : World) : Prop :=
  ∃ k : Nat, v5 = .int .i64 ((k : Int) - 1) ∧ k ≤ n ∧ (∀ i, k ≤ i → i < n → f i = g i) ∧ Still w0 w
def CmPost (a b : Nat) (w : World) (e : Ending) (w' : World) : Prop := e = .returned (.int .i64 (cmp3 a b)) ∧ Still w w'
set_option maxHeartbeats 4000000 in
theorem cmpn_calls (v u : Value) (a b : Nat) (w : World) (hv : Nt w v a) (hu : Nt w u b) : Calls Tryz.prog 84 #[v, u] w (CmPost a b w) := by
  obtain ⟨f, n, ⟨⟨p, cap, rfl, hcap, hc⟩, hl, h4⟩, rfl, hlast⟩ := hv
  obtain ⟨f', n', ⟨⟨p', cap', rfl, hcap', hc'⟩, hl', h4'⟩, rfl, hlast'⟩ := hu
  have HL := Lib.hid hl; have HLA := Lib.hid hlast; have HC := Lib.hid hc
  have HL' := Lib.hid hl'; have HLA' := Lib.hid hlast'; have HC' := Lib.hid hc'
  clear hl hlast hc hl' hlast' hc'
  rcases Nat.lt_trichotomy n n' with h | h | h
  · go_enter Tryz.func84, Tryz.ntmps84
    go_wp2_with fail
    go_ret
    refine ⟨ret_eq (congrArg (Value.int .i64) ?_), Still.refl _⟩
    have := nn_short HL.out h (HLA'.out (by omega))
    unfold cmp3; rw [if_pos this]
  · subst h
    go_enter Tryz.func84, Tryz.ntmps84
    go_wp2_with fail
    go_loopw [5] (fun v5 wr => CmR w f f' n v5 wr) (fun v5 _ => (intOf v5 + 1).toNat)
    case atStart => exact ⟨n, rfl, Nat.le_refl _, fun i h1 h2 => absurd h1 (by omega), Still.refl w⟩
    case round =>
      obtain ⟨k, rfl, hk, he, hS⟩ := hrel
      have HE := Lib.hid he; have HS := Lib.hid hS
      clear he hS
      by_cases hk0 : k = 0
      · subst hk0
        go_wp2_with fail
        go_ret
        refine ⟨ret_eq (congrArg (Value.int .i64) ?_), HS.out⟩
        have : nn f n = nn f' n := nn_congr fun i hi => HE.out i (by omega) hi
        unfold cmp3; rw [if_neg (by omega), if_pos this]
      · obtain ⟨j, rfl⟩ : ∃ j, k = j + 1 := ⟨k - 1, by omega⟩
        obtain ⟨g, rfl, hcc⟩ := HC.out (by omega)
        obtain ⟨g', rfl, hcc'⟩ := HC'.out (by omega)
        have cj := (HS.out.cell _).trans (hcc j (by omega))
        have cj' := (HS.out.cell _).trans (hcc' j (by omega))
        have ej : (((j + 1 : Nat) : Int) - 1) = (j : Int) := by omega
        rw [ej]
        clear hcc hcc'
        rcases Nat.lt_trichotomy (f j) (f' j) with h | h | h
        · have t1 : decide (f j < f' j) = true := decide_eq_true (by omega)
          have HH := Lib.hid h; clear h
          go_wp2_with fail
          go_quiet (fail)
          go_wp2_with fail
          go_ret
          refine ⟨ret_eq (congrArg (Value.int .i64) ?_), ?_⟩
          · have := nn_less' (f := f) (g := f') (k := j) (n := n) (by omega) HL.out HH.out (fun i h1 h2 => HE.out i (by omega) h2)
            unfold cmp3; rw [if_pos this]
          · exact HS.out.drewN _
        · have t1 : decide (f j < f' j) = false := decide_eq_false (by omega)
          have t2 : decide (f' j < f j) = false := decide_eq_false (by omega)
          have HH := Lib.hid h; clear h
          go_wp2_with fail
          go_quiet (fail)
          go_wp2_with fail
          go_quiet (fail)
          go_wp2_with fail
          refine ⟨⟨j, rfl, by omega, fun i h1 h2 => ?_, HS.out.drewN _⟩, ?_⟩
          · rcases Nat.eq_or_lt_of_le h1 with rfl | h3
            · exact HH.out
            · exact HE.out i (by omega) h2
          · simp only [intOf]; omega
        · have t1 : decide (f j < f' j) = false := decide_eq_false (by omega)
          have t2 : decide (f' j < f j) = true := decide_eq_true (by omega)
          have HH := Lib.hid h; clear h
          go_wp2_with fail
          go_quiet (fail)
          go_wp2_with fail
          go_quiet (fail)
          go_wp2_with fail
          go_ret
          refine ⟨ret_eq (congrArg (Value.int .i64) ?_), ?_⟩
          · have := nn_less' (f := f') (g := f) (k := j) (n := n) (by omega) HL'.out HH.out (fun i h1 h2 => (HE.out i (by omega) h2).symm)
            unfold cmp3; rw [if_neg (by omega), if_neg (by omega)]
          · exact (HS.out.drewN _).drewN _
  · go_enter Tryz.func84, Tryz.ntmps84
    go_wp2_with fail
    go_ret
    refine ⟨ret_eq (congrArg (Value.int .i64) ?_), Still.refl _⟩
    have := nn_short HL'.out h (HLA.out (by omega))
    unfold cmp3; rw [if_neg (by omega), if_neg (by omega)]
end Go.Proofs.YthjfdhkahmlolaaGreatDoor

/- The reference's whole numbers: less. -/
namespace Go.Proofs.YthjfdhkahmlolaaGreatDoor
open Go.RowKit
set_option maxRecDepth 100000
/-- limbs, none behind m -/
def upTo (g : Nat → Nat) (m t : Nat) : Nat := if t < m then g t else 0
theorem nn_upTo {g : Nat → Nat} {m : Nat} : ∀ d, nn (upTo g m) (m + d) = nn g m
  | 0 => nn_congr fun i hi => by unfold upTo; rw [if_pos (by omega)]
  | d + 1 => by
    rw [show m + (d + 1) = m + d + 1 by omega, nn_succ, nn_upTo d]
    unfold upTo
    rw [if_neg (by omega)]; omega
def LsR (w0 : World) (f g : Nat → Nat) (n m : Nat) (v5 v6 v7 : Value) (w : World) : Prop :=
  ∃ (i : Nat) (c : Int) (o : Nat → Nat), v7 = .int .i64 (i : Int) ∧ v6 = .int .i64 c ∧ i ≤ n ∧ (-1 ≤ c ∧ c ≤ 0) ∧ (∀ t, t < i → o t < 4294967296) ∧ (nn o i : Int) + c * ((4294967296 ^ i : Nat) : Int) = (nn f i : Int) - nn (upTo g m) i ∧ An w0 v5 (lmL o i) w
theorem ls_step {o f g : Nat → Nat} {i : Nat} {c x : Int} (he : (nn o i : Int) + c * ((4294967296 ^ i : Nat) : Int) = (nn f i : Int) - nn g i) (hx : x = c + f i - g i) :
    (nn (fun t => if t = i then (x % 4294967296).toNat else o t) (i + 1) : Int) + (x / 4294967296) * ((4294967296 ^ (i + 1) : Nat) : Int) = (nn f (i + 1) : Int) - nn g (i + 1) := by
  have e1 : nn (fun t => if t = i then (x % 4294967296).toNat else o t) i = nn o i := nn_congr fun t ht => by simp only [if_neg (show ¬ t = i by omega)]
  rw [nn_succ, nn_succ, nn_succ, e1]
  simp only [if_true]
  have e2 := Int.emod_add_mul_ediv x 4294967296
  have e3 : (((x % 4294967296).toNat : Nat) : Int) = x % 4294967296 := by omega
  have e6 : ((4294967296 ^ (i + 1) : Nat) : Int) = ((4294967296 ^ i : Nat) : Int) * 4294967296 := by rw [Nat.pow_succ, Int.natCast_mul]; rfl
  rw [e6]
  simp only [Int.natCast_add, Int.natCast_mul, e3]
  generalize ((4294967296 ^ i : Nat) : Int) = B at *
  have e4 : x % 4294967296 * B + x / 4294967296 * (B * 4294967296) = x * B := by
    conv => rhs; rw [← e2]
    rw [Int.add_mul, Int.mul_comm B, ← Int.mul_assoc, Int.mul_comm (x / 4294967296)]
  have e5 : x * B = c * B + f i * B - g i * B := by rw [hx, Int.sub_mul, Int.add_mul]
  omega
set_option maxHeartbeats 4000000 in
theorem less_calls (v u : Value) (a b : Nat) (w : World) (hv : Nt w v a) (hu : Nt w u b) (hab : b ≤ a) (ha : a < Big) : Calls Tryz.prog 85 #[v, u] w (NtPost (a - b) w) := by
  obtain ⟨f, n, ⟨⟨p, cap, rfl, hcap, hc⟩, hl, h4⟩, rfl, hlast⟩ := hv
  obtain ⟨f', m, ⟨⟨p', cap', rfl, hcap', hc'⟩, hl', h4'⟩, rfl, hlast'⟩ := hu
  have hmn : m ≤ n := by
    rcases Nat.lt_or_ge n m with h | h
    · have := nn_short (f := f) (g := f') hl h (hlast' (by omega)); omega
    · exact h
  have hn : n ≤ 3000 := len_Big ha hlast
  have HAB := Lib.hid hab
  have HC := Lib.hid hc; have HL := Lib.hid hl
  have HC' := Lib.hid hc'; have HL' := Lib.hid hl'
  clear hc hl ha hlast hc' hl' hlast' hab
  go_enter Tryz.func85, Tryz.ntmps85
  go_wp2_with fail
  go_loopw [5, 6, 7] (fun v5 v6 v7 wr => LsR w f f' n m v5 v6 v7 wr) (fun _ _ v7 _ => n - (intOf v7).toNat)
  case atStart => exact ⟨0, 0, fun _ => 0, rfl, rfl, Nat.zero_le _, by decide, fun t h => absurd h (by omega), by simp [nn], An.start w⟩
  case round =>
    obtain ⟨i, c, o, rfl, rfl, hi, ⟨hcl, hch⟩, ho, he, hA⟩ := hrel
    have HE := Lib.hid he; have HO := Lib.hid ho; have HA := Lib.hid hA
    clear he ho hA
    by_cases hin : i < n
    · obtain ⟨g, rfl, hcc⟩ := HC.out (by omega)
      have ci := cell_keep (hcc i hin) HA.out.only id
      have hfi := HL.out i hin
      clear hcc
      by_cases him : i < m
      · obtain ⟨g', rfl, hcc⟩ := HC'.out (by omega)
        have ci' := cell_keep (hcc i him) HA.out.only id
        have hfi' := HL'.out i him
        clear hcc
        go_wp2_with (at_builtin; (refine wp_an HA.out rfl _ _ rfl _ 1 (by simp [Act.eval]) (by simp [Act.eval]) rfl (by simp [Value.oneCell']) (by decide) (by rw [lmL_len]; omega) (by decide) ?_; intro v4 w4 hA'; have HA4 := Lib.hid hA'; clear hA'))
        have h1 := HA4.out
        obtain ⟨x, hx⟩ : ∃ x, x = c + f i - f' i := ⟨_, rfl⟩
        rw [← hx] at h1 ⊢
        have hxb : -4294967296 ≤ x ∧ x < 4294967296 := by omega
        obtain ⟨hx1, hx2⟩ := hxb
        rw [show (x % 4294967296) = (((x % 4294967296).toNat : Nat) : Int) by omega, ← lmL_succ] at h1
        refine ⟨⟨i + 1, x / 4294967296, _, congrArg (Value.int .i64) (by omega), rfl, by omega, by omega, fun t ht => ?_, ls_step HE.out (by rw [hx]; unfold upTo; rw [if_pos him]), h1⟩, by simp only [intOf]; omega⟩
        by_cases e : t = i
        · simp only [if_pos e]; omega
        · simp only [if_neg e]; exact HO.out t (by omega)
      · go_wp2_with (at_builtin; (refine wp_an HA.out rfl _ _ rfl _ 1 (by simp [Act.eval]) (by simp [Act.eval]) rfl (by simp [Value.oneCell']) (by decide) (by rw [lmL_len]; omega) (by decide) ?_; intro v4 w4 hA'; have HA4 := Lib.hid hA'; clear hA'))
        have h1 := HA4.out
        obtain ⟨x, hx⟩ : ∃ x, x = c + f i := ⟨_, rfl⟩
        rw [← hx] at h1 ⊢
        have hxb : -4294967296 ≤ x ∧ x < 4294967296 := by omega
        obtain ⟨hx1, hx2⟩ := hxb
        rw [show (x % 4294967296) = (((x % 4294967296).toNat : Nat) : Int) by omega, ← lmL_succ] at h1
        refine ⟨⟨i + 1, x / 4294967296, _, congrArg (Value.int .i64) (by omega), rfl, by omega, by omega, fun t ht => ?_, ls_step HE.out (by rw [hx]; unfold upTo; rw [if_neg him]; omega), h1⟩, by simp only [intOf]; omega⟩
        by_cases e : t = i
        · simp only [if_pos e]; omega
        · simp only [if_neg e]; exact HO.out t (by omega)
    · obtain rfl : i = n := by omega
      have HON := Lib.hid HA.out.only
      have e0 : nn (upTo f' m) i = nn f' m := by
        have := nn_upTo (g := f') (m := m) (i - m)
        rw [show m + (i - m) = i by omega] at this
        exact this
      have h1 := HE.out; have h2 := HAB.out
      rw [e0] at h1
      have h3 := nn_lt (f := o) HO.out
      have hc0 : c = 0 := by
        rcases (show c = -1 ∨ c = 0 by omega) with rfl | rfl
        · exfalso; omega
        · rfl
      subst hc0
      have HT := Lib.hid (show nn o i = nn f i - nn f' m by omega)
      have hL := HA.out.lm HO.out (by omega)
      clear h1 h2 h3 e0
      go_wp2_with (refine (trimn_calls hL).mono ?_; rintro en w1 ⟨⟨v, rfl, hv⟩, hw⟩; rw [hw]; clear hw w1 hL; rw [HT.out] at hv; have HV := Lib.hid hv; clear hv)
      go_ret
      exact ⟨v, rfl, HV.out, HON.out⟩
end Go.Proofs.YthjfdhkahmlolaaGreatDoor
