/- A certificate of two neighbouring fractions keeps every product of a number of 64 bits away from whole numbers. -/
import Derived.Test.YtiijgghholhcnaaGreatDoorJL22
namespace Go.Proofs.YtiijgghholhcnaaGreatDoor.Re.Usc

/-- the fractions la/lb <= a/M < ra/rb, neighbours, lb + rb not below 2 X, and far enough -/
def farOk (X a M la lb ra rb : Nat) : Bool :=
  decide (ra * lb = la * rb + 1) && decide (la * M ≤ lb * a) && decide (rb * a < ra * M) && decide (2 * X ≤ lb + rb) &&
    decide (la * M + 4 * lb ≤ lb * a) && decide (rb * a + 2 * rb ≤ ra * M)
theorem far_of {X a M la lb ra rb x : Nat} (h : farOk X a M la lb ra rb = true) (hx : X ≤ x) (hx2 : x < 2 * X) (hM : 0 < M) :
    4 * X ≤ x * a % M ∧ x * a % M ≤ M - 2 * X := by
  unfold farOk at h
  simp only [Bool.and_eq_true, decide_eq_true_eq] at h
  obtain ⟨⟨⟨⟨⟨h1, h2⟩, h3⟩, h4⟩, h5⟩, h6⟩ := h
  have hdm := Nat.div_add_mod (x * a) M
  have hlt := Nat.mod_lt (x * a) hM
  generalize x * a / M = y at *
  generalize ht : x * a % M = t at *
  have d1 : (ra : Int) * lb = la * rb + 1 := by exact_mod_cast h1
  have dL : (0 : Int) ≤ lb * a - la * M := by have : (la : Int) * M ≤ lb * a := by exact_mod_cast h2
                                              omega
  have dR : (0 : Int) < ra * M - rb * a := by have : (rb : Int) * a < ra * M := by exact_mod_cast h3
                                              omega
  have d5 : (la : Int) * M + 4 * lb ≤ lb * a := by exact_mod_cast h5
  have d6 : (rb : Int) * a + 2 * rb ≤ ra * M := by exact_mod_cast h6
  have dm : (M : Int) * y + t = x * a := by exact_mod_cast hdm
  have hyM : (y : Int) * M = M * y := Int.mul_comm _ _
  constructor
  · obtain ⟨i, j, hi, hj, ex, et⟩ := far_low (x := (x : Int)) (y := (y : Int)) (a := (a : Int)) (M := (M : Int)) d1 (by omega) (by omega) dL dR (by omega) (by omega) (by rw [hyM]; omega)
    have e1 : (x : Int) * a - y * M = t := by rw [hyM]; omega
    rw [e1] at et
    -- t >= i L, x <= i lb
    have g1 := mul_nn hj (b := (ra : Int) * M - rb * a) (by omega)
    have g2 := mul_nn hj (b := (rb : Int)) (by omega)
    have g3 : i * (4 * (lb : Int)) ≤ i * ((lb : Int) * a - la * M) := Int.mul_le_mul_of_nonneg_left (by omega) (by omega)
    have g4 : i * (4 * (lb : Int)) = 4 * (i * lb) := by rw [← Int.mul_assoc, Int.mul_comm i 4, Int.mul_assoc]
    generalize i * ((lb : Int) * a - la * M) = A1 at *
    generalize j * ((ra : Int) * M - rb * a) = A2 at *
    generalize i * (lb : Int) = A3 at *
    generalize j * (rb : Int) = A4 at *
    omega
  · have hu := far_up (x := (x : Int)) (y := ((y + 1 : Nat) : Int)) (a := (a : Int)) (M := (M : Int)) d1 (by omega) (by omega) dL dR (by omega) (by omega) (by
      have : ((y + 1 : Nat) : Int) * M = y * M + M := by push_cast; rw [Int.add_mul, Int.one_mul]
      rw [this, hyM]; omega)
    have e1 : ((y + 1 : Nat) : Int) * M - x * a = M - t := by
      have : ((y + 1 : Nat) : Int) * M = y * M + M := by push_cast; rw [Int.add_mul, Int.one_mul]
      rw [this, hyM]; omega
    rw [e1] at hu
    have hrb : 0 < rb := by
      rcases Nat.eq_zero_or_pos rb with e | e
      · subst e; simp at hu; exfalso
        have : (0 : Int) < x * (ra * M) := Int.mul_pos (by omega) (by omega)
        omega
      · exact e
    have g3 : (x : Int) * (2 * (rb : Int)) ≤ x * ((ra : Int) * M - rb * a) := Int.mul_le_mul_of_nonneg_left (by omega) (by omega)
    have g5 : (2 * (x : Int)) * rb ≤ ((M : Int) - t) * rb := by
      have : (2 * (x : Int)) * rb = x * (2 * rb) := by rw [Int.mul_comm 2 (x : Int), Int.mul_assoc]
      rw [this]; omega
    have g6 : 2 * (x : Int) ≤ M - t := Int.le_of_mul_le_mul_right g5 (by omega)
    omega
/-- the neighbours of a/M, their denominators' sum not below N -/
def nb (N a M : Nat) : Nat → Nat → Nat → Nat → Nat → Nat × Nat × Nat × Nat
  | 0, la, lb, ra, rb => (la, lb, ra, rb)
  | f + 1, la, lb, ra, rb =>
    if N ≤ lb + rb then (la, lb, ra, rb)
    else
      let num := lb * a - la * M
      let den := ra * M - rb * a
      if den ≤ num then
        let k := if rb = 0 then num / den else Nat.min (num / den) (Nat.max 1 ((N - lb - rb + rb - 1) / rb))
        nb N a M f (la + k * ra) (lb + k * rb) ra rb
      else
        let k := if num = 0 then (N - lb - rb + lb - 1) / lb else Nat.min ((den - 1) / num) (Nat.max 1 ((N - lb - rb + lb - 1) / lb))
        nb N a M f la lb (ra + k * la) (rb + k * lb)
/-- numbers of 64 bits that end in ten noughts: the row x, the shift s -/
def printOk (x : Nat × Nat) (s : Nat) : Bool :=
  let a := x.1 * 18446744073709551616 - x.2
  let M := 2 ^ (s + 118)
  let n := nb 18014398509481984 a M 80 0 1 1 0
  farOk 9007199254740992 a M n.1 n.2.1 n.2.2.1 n.2.2.2
def rowsPrint : Nat → List (Nat × Nat) → Bool
  | _, [] => true
  | i, x :: l => (decide (325 ≤ i) && decide (i ≤ 372) || (printOk x 5 && printOk x 6 && printOk x 7 && printOk x 8)) && rowsPrint (i + 1) l
theorem rowsPrint_at : ∀ (l : List (Nat × Nat)) (i k : Nat) (x : Nat × Nat), rowsPrint i l = true → l[k]? = some x → ¬ (325 ≤ i + k ∧ i + k ≤ 372) → printOk x 5 = true ∧ printOk x 6 = true ∧ printOk x 7 = true ∧ printOk x 8 = true
  | [], _, _, _, _, h, _ => by simp at h
  | y :: l, i, 0, x, h, e, n => by
    simp at e; subst e
    unfold rowsPrint at h
    rw [Bool.and_eq_true, Bool.or_eq_true] at h
    rcases h.1 with q | q
    · simp only [Bool.and_eq_true, decide_eq_true_eq] at q; exact absurd q n
    · simp only [Bool.and_eq_true] at q; exact ⟨q.1.1.1, q.1.1.2, q.1.2, q.2⟩
  | y :: l, i, k + 1, x, h, e, n => by
    unfold rowsPrint at h; rw [Bool.and_eq_true] at h
    exact rowsPrint_at l (i + 1) k x h.2 (by simpa using e) (by omega)
theorem print_ok : rowsPrint 0 Go.Pinned.pow10Rows = true := by kernel_rfl
end Go.Proofs.YtiijgghholhcnaaGreatDoor.Re.Usc
