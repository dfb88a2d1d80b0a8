/- Unrounded scaling, plainly: when it is exact; certificates by neighbouring fractions. -/
import Derived.Test.YtiijgghholhcnaaGreatDoorJL17
import GoSem.PinnedTables
import Derived.KernelRfl
namespace Go.Proofs.YtiijgghholhcnaaGreatDoor.Re.Usc

/-- num / den, the last bit set too if it is not whole -/
def unr (num den : Nat) : Nat := (num / den) ||| (if num % den = 0 then 0 else 1)

theorem far_id1 (x y la lb ra rb : Int) (hd : ra * lb = la * rb + 1) : x = (ra * x - rb * y) * lb - (la * x - lb * y) * rb := by grind
theorem far_id2 (x y a M la lb ra rb : Int) (hd : ra * lb = la * rb + 1) : x * a - y * M = (ra * x - rb * y) * (lb * a - la * M) + (la * x - lb * y) * (ra * M - rb * a) := by grind

theorem mul_np {i b : Int} (h : i ≤ 0) (hb : 0 ≤ b) : i * b ≤ 0 := by
  have := Int.mul_le_mul_of_nonneg_right h hb; simpa using this
theorem mul_nn {i b : Int} (h : 0 ≤ i) (hb : 0 ≤ b) : 0 ≤ i * b := Int.mul_nonneg h hb
theorem mul_ge {i b : Int} (h : 1 ≤ i) (hb : 0 ≤ b) : b ≤ i * b := by
  have := Int.mul_le_mul_of_nonneg_right h hb; simpa using this

/-- what lies below: x a - y M, where y is the whole part -/
theorem far_low {x y a M la lb ra rb : Int} (hd : ra * lb = la * rb + 1) (hx : 0 < x) (hxl : x < lb + rb) (hL : 0 ≤ lb * a - la * M) (hR : 0 < ra * M - rb * a) (hlb : 0 ≤ lb) (hrb : 0 ≤ rb) (hN : 0 ≤ x * a - y * M) :
    ∃ i j : Int, 1 ≤ i ∧ 0 ≤ j ∧ x = i * lb - j * rb ∧ x * a - y * M = i * (lb * a - la * M) + j * (ra * M - rb * a) := by
  have e1 := far_id1 x y la lb ra rb hd
  have e2 := far_id2 x y a M la lb ra rb hd
  refine ⟨ra * x - rb * y, la * x - lb * y, ?_, ?_, e1, e2⟩
  · generalize ra * x - rb * y = i at *
    generalize la * x - lb * y = j at *
    generalize lb * a - la * M = L at *
    generalize ra * M - rb * a = R at *
    rcases Int.lt_or_le i 1 with hi | hi
    · exfalso
      have h1 := mul_np (i := i) (b := lb) (by omega) hlb
      have h2 := mul_np (i := i) (b := L) (by omega) hL
      rcases Int.lt_or_le j 0 with hj | hj
      · have h3 := mul_ge (i := -j) (b := R) (by omega) (by omega)
        rw [Int.neg_mul] at h3
        omega
      · have h3 := mul_nn hj hrb
        omega
    · exact hi
  · generalize ra * x - rb * y = i at *
    generalize la * x - lb * y = j at *
    generalize lb * a - la * M = L at *
    generalize ra * M - rb * a = R at *
    rcases Int.lt_or_le j 0 with hj | hj
    · exfalso
      have h4 := mul_ge (i := -j) (b := rb) (by omega) hrb
      rw [Int.neg_mul] at h4
      rcases Int.lt_or_le i 1 with hi | hi
      · have h2 := mul_np (i := i) (b := L) (by omega) hL
        have h3 := mul_ge (i := -j) (b := R) (by omega) (by omega)
        rw [Int.neg_mul] at h3
        omega
      · have h5 := mul_ge hi hlb
        omega
    · exact hj
/-- what lies above: y' M - x a -/
theorem far_up {x y a M la lb ra rb : Int} (hd : ra * lb = la * rb + 1) (hx : 0 < x) (hxl : x < lb + rb) (hL : 0 ≤ lb * a - la * M) (hR : 0 < ra * M - rb * a) (hlb : 0 ≤ lb) (hrb : 0 ≤ rb) (hN : 0 < y * M - x * a) :
    x * (ra * M - rb * a) ≤ (y * M - x * a) * rb := by
  have e1 := far_id1 x y la lb ra rb hd
  have e2 := far_id2 x y a M la lb ra rb hd
  have key : ∀ i j L R N : Int, 0 ≤ L → 0 < R → x = i * lb - j * rb → N = -(i * L + j * R) → 0 < N → x * R ≤ N * rb := by
    intro i j L R N hL hR e1 e2 hN
    have hj : j ≤ -1 := by
      rcases Int.lt_or_le (-1) j with hj | hj
      · exfalso
        have h3 := mul_nn (i := j) (b := R) (by omega) (by omega)
        rcases Int.lt_or_le i 1 with hi | hi
        · have h1 := mul_np (i := i) (b := lb) (by omega) hlb
          have h2 := mul_nn (i := j) (b := rb) (by omega) hrb
          omega
        · have h1 := mul_nn (i := i) (b := L) (by omega) hL
          omega
      · exact hj
    have hi : i ≤ 0 := by
      rcases Int.lt_or_le 0 i with hi | hi
      · exfalso
        have h1 := mul_ge (i := i) (b := lb) (by omega) hlb
        have h2 := mul_ge (i := -j) (b := rb) (by omega) hrb
        rw [Int.neg_mul] at h2
        omega
      · exact hi
    -- x <= -j rb ; N >= -j R
    have h1 := mul_np hi hlb
    have h2 := mul_np hi hL
    have h3 : x ≤ (-j) * rb := by rw [Int.neg_mul]; omega
    have h4 : (-j) * R ≤ N := by rw [Int.neg_mul]; omega
    have h5 := Int.mul_le_mul_of_nonneg_right h3 (Int.le_of_lt hR)
    have h6 := Int.mul_le_mul_of_nonneg_right h4 hrb
    have h7 : (-j) * rb * R = (-j) * R * rb := by grind
    omega
  exact key (ra * x - rb * y) (la * x - lb * y) _ _ _ hL hR e1 (by omega) hN
end Go.Proofs.YtiijgghholhcnaaGreatDoor.Re.Usc

/- uscale is unrounded scaling, where no product lies too near a whole number. -/
namespace Go.Proofs.YtiijgghholhcnaaGreatDoor.Re.Usc

theorem stick_true (n s : Nat) (q : Bool) : stick n s q = (n / 2 ^ s) ||| (if q then 1 else 0) := by cases q <;> rfl

/-- the whole part of V / (S 2^128), told by its bounds -/
theorem div_of {V M q K : Nat} (hK : K = q * M) (h0 : K ≤ V) (h1 : V < K + M) : V / M = q ∧ V % M = V - K := by
  have hM : 0 < M := by omega
  have e : V = (V - K) + M * q := by rw [Nat.mul_comm M q, ← hK]; omega
  constructor
  · rw [e, Nat.add_mul_div_left _ _ hM, Nat.div_eq_of_lt (by omega)]; omega
  · rw [e, Nat.add_mul_mod_self_left, Nat.mod_eq_of_lt (by omega)]; omega

/-- the program's side, where the product is far from whole numbers -/
theorem prog_far (x H L s : Nat) (hx : x < 18446744073709551616) (hH : H < 18446744073709551616) (hL : L < 18446744073709551616) (hpm : L ≤ H * 18446744073709551616)
    (hlow : 36893488147419103232 ≤ x * (H * 18446744073709551616 - L) % (2 ^ s * 340282366920938463463374607431768211456))
    (hup : x * (H * 18446744073709551616 - L) % (2 ^ s * 340282366920938463463374607431768211456) ≤ 2 ^ s * 340282366920938463463374607431768211456 - 18446744073709551616) :
    uscaleN x H L s = (x * (H * 18446744073709551616 - L) / (2 ^ s * 340282366920938463463374607431768211456)) ||| 1 := by
  have hV : x * (H * 18446744073709551616 - L) = x * H * 18446744073709551616 - x * L := by rw [Nat.mul_sub, Nat.mul_assoc]
  have hle : x * L ≤ x * H * 18446744073709551616 := by rw [Nat.mul_assoc]; exact Nat.mul_le_mul_left _ hpm
  have hm : x * L / 18446744073709551616 ≤ 18446744073709551614 := by
    have h1 : x * L ≤ 18446744073709551615 * 18446744073709551615 := Nat.mul_le_mul (by omega) (by omega)
    omega
  have hA : x * H < 340282366920938463463374607431768211456 := Nat.mul_lt_mul'' hx hH
  unfold uscaleN
  rw [hV] at hlow hup ⊢
  clear hV
  unfold hiN loN
  generalize x * H = A at *
  generalize x * L = B at *
  have hS : 0 < 2 ^ s := Nat.two_pow_pos s
  rw [stick_true, stick_true]
  generalize hSS : 2 ^ s = S at *
  -- h = q S + r
  have hdm := Nat.div_add_mod (A / 18446744073709551616) S
  have hmod := Nat.mod_lt (A / 18446744073709551616) hS
  rw [Nat.mul_comm] at hdm
  generalize hq : A / 18446744073709551616 / S = q at *
  generalize hr : A / 18446744073709551616 % S = r at *
  have hK : ∃ K, K = q * (S * 340282366920938463463374607431768211456) := ⟨_, rfl⟩
  obtain ⟨K, hK⟩ := hK
  have hK2 : K = (q * S) * 340282366920938463463374607431768211456 := by rw [hK, Nat.mul_assoc]
  by_cases h0 : q * S ≠ A / 18446744073709551616
  · rw [if_pos h0]
    obtain ⟨e1, _⟩ := div_of (V := A * 18446744073709551616 - B) hK (by omega) (by omega)
    rw [e1]; rfl
  · rw [if_neg h0]
    have h0' : q * S = A / 18446744073709551616 := Decidable.not_not.1 h0
    by_cases hb : A % 18446744073709551616 < B / 18446744073709551616
    · rw [decide_eq_true hb]
      have hq1 : 1 ≤ q := by
        rcases Nat.eq_zero_or_pos q with h | h
        · subst h; simp at h0'; omega
        · exact h
      obtain ⟨q', rfl⟩ : ∃ q', q = q' + 1 := ⟨q - 1, by omega⟩
      have e3 : (q' + 1) * S = q' * S + S := Nat.succ_mul _ _
      have hK' : K - S * 340282366920938463463374607431768211456 = q' * (S * 340282366920938463463374607431768211456) := by
        rw [hK, Nat.succ_mul]; omega
      have hKS : S * 340282366920938463463374607431768211456 ≤ K := by rw [hK, Nat.succ_mul]; omega
      obtain ⟨e1, e2⟩ := div_of (V := A * 18446744073709551616 - B) hK'.symm.symm (by omega) (by omega)
      rw [e1]
      have e4 : subN (A / 18446744073709551616) (true : Bool).toNat / S = q' := by
        have : subN (A / 18446744073709551616) (true : Bool).toNat = A / 18446744073709551616 - 1 := by
          unfold subN; simp only [Bool.toNat_true]
          have : 1 ≤ A / 18446744073709551616 := by omega
          omega
        rw [this, ← h0', e3]
        have : q' * S + S - 1 = (S - 1) + S * q' := by rw [Nat.mul_comm S q']; omega
        rw [this, Nat.add_mul_div_left _ _ hS, Nat.div_eq_of_lt (by omega)]; omega
      rw [e4]
      have e5 : 1 < subN (A % 18446744073709551616) (B / 18446744073709551616) := by unfold subN; omega
      rw [decide_eq_true e5]; rfl
    · rw [decide_eq_false hb]
      have e4 : subN (A / 18446744073709551616) (false : Bool).toNat / S = q := by
        have : subN (A / 18446744073709551616) (false : Bool).toNat = A / 18446744073709551616 := by
          unfold subN; simp only [Bool.toNat_false]
          omega
        rw [this, ← h0', Nat.mul_comm, Nat.mul_div_cancel_left _ hS]
      rw [e4]
      have hge : B / 18446744073709551616 + 2 ≤ A % 18446744073709551616 := by
        rcases Nat.lt_or_ge (A % 18446744073709551616) (B / 18446744073709551616 + 2) with hlt | hge
        · exfalso
          rcases Nat.lt_or_ge (A * 18446744073709551616 - B) K with hK0 | hK0
          · -- just below
            have hq1 : 1 ≤ q := by
              rcases Nat.eq_zero_or_pos q with h | h
              · subst h; simp at hK; omega
              · exact h
            obtain ⟨q', rfl⟩ : ∃ q', q = q' + 1 := ⟨q - 1, by omega⟩
            have hKS : K = q' * (S * 340282366920938463463374607431768211456) + S * 340282366920938463463374607431768211456 := by rw [hK, Nat.succ_mul]
            have hK' : K - S * 340282366920938463463374607431768211456 = q' * (S * 340282366920938463463374607431768211456) := by omega
            obtain ⟨_, e2⟩ := div_of (V := A * 18446744073709551616 - B) hK' (by omega) (by omega)
            rw [e2] at hup
            omega
          · obtain ⟨_, e2⟩ := div_of (V := A * 18446744073709551616 - B) hK hK0 (by omega)
            rw [e2] at hlow
            omega
        · exact hge
      obtain ⟨e1, _⟩ := div_of (V := A * 18446744073709551616 - B) hK (by omega) (by omega)
      rw [e1]
      have e5 : 1 < subN (A % 18446744073709551616) (B / 18446744073709551616) := by unfold subN; omega
      rw [decide_eq_true e5]; rfl
/-- the program's side, where the scaled number is whole: z -/
theorem prog_whole (x H L s z t : Nat) (hx : x < 18446744073709551616) (hH : H < 18446744073709551616) (hL : L < 18446744073709551616) (hpm : L ≤ H * 18446744073709551616)
    (hz : x * (H * 18446744073709551616 - L) = z * (2 ^ s * 340282366920938463463374607431768211456) + t) (ht : t < x ∨ t = 0) : uscaleN x H L s = z := by
  have hV : x * (H * 18446744073709551616 - L) = x * H * 18446744073709551616 - x * L := by rw [Nat.mul_sub, Nat.mul_assoc]
  have hle : x * L ≤ x * H * 18446744073709551616 := by rw [Nat.mul_assoc]; exact Nat.mul_le_mul_left _ hpm
  have hA : x * H < 340282366920938463463374607431768211456 := Nat.mul_lt_mul'' hx hH
  have htl : t + x * L < 340282366920938463463374607431768211456 := by
    have h1 : x * L ≤ x * 18446744073709551615 := Nat.mul_le_mul_left _ (by omega)
    omega
  rw [hV] at hz
  unfold uscaleN hiN loN
  generalize x * H = A at *
  generalize x * L = B at *
  have hS : 0 < 2 ^ s := Nat.two_pow_pos s
  rw [stick_true, stick_true]
  generalize 2 ^ s = S at *
  have e0 : z * (S * 340282366920938463463374607431768211456) = (z * S) * 340282366920938463463374607431768211456 := by rw [Nat.mul_assoc]
  rw [e0] at hz
  have h1 : A / 18446744073709551616 = z * S := by omega
  have h2 : A % 18446744073709551616 = (t + B) / 18446744073709551616 := by omega
  rw [h1, Nat.mul_div_cancel _ hS, if_neg (by simp)]
  have hb : ¬ A % 18446744073709551616 < B / 18446744073709551616 := by rw [h2]; exact Nat.not_lt.2 (Nat.div_le_div_right (by omega))
  rw [decide_eq_false hb]
  have e3 : subN (z * S) (false : Bool).toNat = z * S := by
    unfold subN; simp only [Bool.toNat_false]; omega
  have e4 : ¬ 1 < subN (A % 18446744073709551616) (B / 18446744073709551616) := by
    unfold subN; omega
  rw [e3, Nat.mul_div_cancel _ hS, decide_eq_false e4]
  simp
end Go.Proofs.YtiijgghholhcnaaGreatDoor.Re.Usc

/- The table of powers of ten, row by row: each is the least whole number not below ten's power at 128 places. Plain arithmetic, by the kernel. -/
namespace Go.Proofs.YtiijgghholhcnaaGreatDoor.Re.Usc

/-- the row i is 10^(i-348) at 128 places, rounded up: with lp the power's binary exponent -/
def rowOk (i : Nat) (x : Nat × Nat) : Bool :=
  let p : Int := (i : Int) - 348
  let lp : Int := Int.shiftRight (p * 108853) 15
  let k : Int := 127 - lp
  let num := 10 ^ p.toNat * 2 ^ k.toNat
  let den := 10 ^ (-p).toNat * 2 ^ (-k).toNat
  let pm := x.1 * 18446744073709551616 - x.2
  decide (x.1 < 18446744073709551616) && decide (x.2 < 18446744073709551616) &&
    decide (170141183460469231731687303715884105728 ≤ pm) && decide (pm < 340282366920938463463374607431768211456) &&
    decide (num ≤ pm * den) && decide (pm * den < num + den)
def rowsOk : Nat → List (Nat × Nat) → Bool
  | _, [] => true
  | i, x :: l => rowOk i x && rowsOk (i + 1) l
theorem table_ok : rowsOk 0 Go.Pinned.pow10Rows = true := by kernel_rfl
theorem rowsOk_at : ∀ (l : List (Nat × Nat)) (i k : Nat) (x : Nat × Nat), rowsOk i l = true → l[k]? = some x → rowOk (i + k) x = true
  | [], _, _, _, _, h => by simp at h
  | y :: l, i, 0, x, h, e => by
    simp at e; subst e
    unfold rowsOk at h; rw [Bool.and_eq_true] at h
    exact h.1
  | y :: l, i, k + 1, x, h, e => by
    unfold rowsOk at h; rw [Bool.and_eq_true] at h
    have := rowsOk_at l (i + 1) k x h.2 (by simpa using e)
    rwa [Nat.add_assoc, Nat.add_comm 1 k] at this
end Go.Proofs.YtiijgghholhcnaaGreatDoor.Re.Usc
