/- The value of a text, and that unlike floats have unlike texts. Plain. -/
import Derived.Test.YthjfdhkahmlolaaGreatDoorJP46
namespace Go.Proofs.YthjfdhkahmlolaaGreatDoor
open Go.RowKit Usc
def isD (b : UInt8) : Bool := decide (48 ≤ b.toNat) && decide (b.toNat ≤ 57)
def numF (a : Nat) (l : List UInt8) : Nat := l.foldl (fun a b => 10 * a + (b.toNat - 48)) a
theorem numF_append (a : Nat) (l m : List UInt8) : numF a (l ++ m) = numF (numF a l) m := List.foldl_append ..
theorem numF_zeros (a j : Nat) : numF a (List.replicate j 48) = a * 10 ^ j := by
  induction j generalizing a with
  | zero => simp [numF]
  | succ j ih =>
    rw [List.replicate_succ]
    show numF (10 * a + ((48 : UInt8).toNat - 48)) (List.replicate j 48) = _
    rw [show (48 : UInt8).toNat - 48 = 0 from rfl, Nat.add_zero, ih, Nat.pow_succ, Nat.mul_comm 10 a, Nat.mul_assoc, Nat.mul_comm 10]
theorem num_dec (c : Nat) : numF 0 (Lib.decDigits c) = c := by
  induction c using Nat.strongRecOn with
  | _ c ih =>
    rw [Lib.decDigits]
    split
    · next h =>
      show 10 * 0 + ((UInt8.ofNat (48 + c)).toNat - 48) = c
      rw [UInt8.toNat_ofNat']; omega
    · next h =>
      rw [numF_append, ih (c / 10) (by omega)]
      show 10 * (c / 10) + ((UInt8.ofNat (48 + c % 10)).toNat - 48) = c
      rw [UInt8.toNat_ofNat']; omega
theorem dec_isD (c : Nat) : ∀ d ∈ Lib.decDigits c, isD d = true := fun d hd => by
  have := dec_byte c d hd
  unfold isD; simp; omega
theorem zeros_isD (j : Nat) : ∀ d ∈ List.replicate j (48 : UInt8), isD d = true := fun d hd => by
  rw [(List.mem_replicate.1 hd).2]; rfl
theorem isD_not {d : UInt8} (h : isD d = true) : d ≠ 101 ∧ d ≠ 46 ∧ d ≠ 45 ∧ d ≠ 43 ∧ d ≠ 78 ∧ d ≠ 73 := by
  refine ⟨?_, ?_, ?_, ?_, ?_, ?_⟩ <;> (rintro rfl; exact absurd h (by decide))
/-- ahead of the letter e, and from it on -/
def headT (t : List UInt8) : List UInt8 := t.takeWhile (· != 101)
def restT (t : List UInt8) : List UInt8 := t.dropWhile (· != 101)
def valN (t : List UInt8) : Nat := numF 0 ((headT t).filter isD)
def fracT (t : List UInt8) : Nat := (((headT t).dropWhile (· != 46)).filter isD).length
def expT (t : List UInt8) : Int := match restT t with | [] => 0 | _ :: r => (Lib.atoi r).getD 0
def valE (t : List UInt8) : Int := expT t - fracT t
theorem cut101 {A R : List UInt8} (h : (101 : UInt8) ∉ A) (hR : R = [] ∨ ∃ r, R = 101 :: r) : headT (A ++ R) = A ∧ restT (A ++ R) = R := by
  have hp : ∀ a ∈ A, (a != 101) = true := fun a ha => by rw [bne_iff_ne]; rintro rfl; exact h ha
  unfold headT restT
  rw [List.takeWhile_append_of_pos hp, List.dropWhile_append_of_pos hp]
  rcases hR with rfl | ⟨r, rfl⟩
  · simp
  · simp
theorem cut46 {P Q : List UInt8} (h : (46 : UInt8) ∉ P) (hQ : Q = [] ∨ ∃ q, Q = 46 :: q) : (P ++ Q).dropWhile (· != 46) = Q := by
  have hp : ∀ a ∈ P, (a != 46) = true := fun a ha => by rw [bne_iff_ne]; rintro rfl; exact h ha
  rw [List.dropWhile_append_of_pos hp]
  rcases hQ with rfl | ⟨r, rfl⟩
  · simp
  · simp
theorem no101 {l : List UInt8} (h : ∀ d ∈ l, isD d = true) : (101 : UInt8) ∉ l := fun m => (isD_not (h _ m)).1 rfl
theorem no46 {l : List UInt8} (h : ∀ d ∈ l, isD d = true) : (46 : UInt8) ∉ l := fun m => (isD_not (h _ m)).2.1 rfl
theorem filt {l : List UInt8} (h : ∀ d ∈ l, isD d = true) : l.filter isD = l := List.filter_eq_self.2 h
theorem filt46 (q : List UInt8) : (46 :: q).filter isD = q.filter isD := by
  rw [List.filter_cons, if_neg (by decide)]
/-- digits, a point, digits, an exponent: what such a text is worth -/
theorem val_of {P q R : List UInt8} (hP : ∀ d ∈ P, isD d = true) (hq : ∀ d ∈ q, isD d = true) (hR : R = [] ∨ ∃ r, R = 101 :: r) :
    valN (P ++ 46 :: q ++ R) = numF 0 (P ++ q) ∧ fracT (P ++ 46 :: q ++ R) = q.length ∧ restT (P ++ 46 :: q ++ R) = R := by
  have h1 : (101 : UInt8) ∉ P ++ 46 :: q := by
    intro m
    rcases List.mem_append.1 m with m | m
    · exact no101 hP m
    · rcases List.mem_cons.1 m with m | m
      · exact absurd m (by decide)
      · exact no101 hq m
  obtain ⟨e1, e2⟩ := cut101 h1 hR
  unfold valN fracT
  rw [e1, e2, cut46 (no46 hP) (.inr ⟨q, rfl⟩), List.filter_append, filt46, filt hP, filt hq]
  exact ⟨rfl, rfl, rfl⟩
theorem val_of0 {P R : List UInt8} (hP : ∀ d ∈ P, isD d = true) (hR : R = [] ∨ ∃ r, R = 101 :: r) :
    valN (P ++ R) = numF 0 P ∧ fracT (P ++ R) = 0 ∧ restT (P ++ R) = R := by
  obtain ⟨e1, e2⟩ := cut101 (no101 hP) hR
  unfold valN fracT
  rw [e1, e2, filt hP]
  have := cut46 (P := P) (Q := []) (no46 hP) (.inl rfl)
  rw [List.append_nil] at this
  rw [this]
  exact ⟨rfl, rfl, rfl⟩
theorem atoi_fin : ∀ n : Fin 1000, Lib.atoi (Lib.decDigits n.val) = some (n.val : Int) ∧ Lib.atoi (45 :: Lib.decDigits n.val) = some (-(n.val : Int)) := by decide +kernel
theorem atoi_itoa (e : Int) (h : -999 ≤ e ∧ e ≤ 999) : Lib.atoi (Lib.itoa e) = some e := by
  have := atoi_fin ⟨e.natAbs, by omega⟩
  simp only at this
  unfold Lib.itoa
  split
  · rw [this.2]; congr 1; omega
  · rw [show e.toNat = e.natAbs by omega, this.1]; congr 1; omega
theorem laid_val (c : Nat) (e : Int) (hx : -999 ≤ e ∧ e ≤ 999) : ∃ j : Nat, valN (laidB c e) = 10 ^ j * c ∧ valE (laidB c e) = e + 1 - (Lib.nDigits c : Int) - j := by
  have hD := dec_isD c
  have hl := Lib.decDigits_length c
  have hn := num_dec c
  have n0 := Lib.nDigits_pos c
  unfold laidB
  by_cases he : 0 ≤ e ∧ e ≤ 20
  · rw [if_pos he]
    by_cases h1 : (Lib.nDigits c : Int) ≤ e + 1
    · rw [if_pos h1]
      have hP : ∀ d ∈ Lib.decDigits c ++ List.replicate (e + 1 - (Lib.nDigits c : Int)).toNat 48, isD d = true := fun d hd => by
        rcases List.mem_append.1 hd with m | m
        · exact hD d m
        · exact zeros_isD _ d m
      obtain ⟨a, b, r⟩ := val_of0 hP (R := []) (.inl rfl)
      rw [List.append_nil] at a b r
      refine ⟨(e + 1 - (Lib.nDigits c : Int)).toNat, ?_, ?_⟩
      · rw [a, numF_append, hn, numF_zeros, Nat.mul_comm]
      · unfold valE expT; rw [b, r]; simp only; omega
    · rw [if_neg h1]
      have hP : ∀ d ∈ (Lib.decDigits c).take (e + 1).toNat, isD d = true := fun d hd => hD d (List.mem_of_mem_take hd)
      have hq : ∀ d ∈ (Lib.decDigits c).drop (e + 1).toNat, isD d = true := fun d hd => hD d (List.mem_of_mem_drop hd)
      obtain ⟨a, b, r⟩ := val_of hP hq (R := []) (.inl rfl)
      rw [List.append_nil] at a b r
      refine ⟨0, ?_, ?_⟩
      · rw [a, List.take_append_drop, hn]; simp
      · unfold valE expT; rw [b, r, List.length_drop, hl]; simp only; omega
  · rw [if_neg he]
    by_cases he2 : -6 ≤ e ∧ e < 0
    · rw [if_pos he2]
      have hq : ∀ d ∈ List.replicate (-e - 1).toNat 48 ++ Lib.decDigits c, isD d = true := fun d hd => by
        rcases List.mem_append.1 hd with m | m
        · exact zeros_isD _ d m
        · exact hD d m
      have hP : ∀ d ∈ [(48 : UInt8)], isD d = true := fun d hd => by rw [List.mem_singleton.1 hd]; rfl
      obtain ⟨a, b, r⟩ := val_of hP hq (R := []) (.inl rfl)
      have e1 : [(48 : UInt8)] ++ 46 :: (List.replicate (-e - 1).toNat 48 ++ Lib.decDigits c) ++ [] = [48, 46] ++ List.replicate (-e - 1).toNat 48 ++ Lib.decDigits c := by simp
      rw [e1] at a b r
      refine ⟨0, ?_, ?_⟩
      · rw [a, numF_append, numF_append, numF_zeros]
        show numF (0 * _) _ = _
        rw [Nat.zero_mul, hn]; simp
      · unfold valE expT; rw [b, r, List.length_append, List.length_replicate, hl]; simp only; omega
    · rw [if_neg he2]
      have hx' := atoi_itoa e hx
      by_cases h1 : Lib.nDigits c = 1
      · rw [pointB_one h1]
        obtain ⟨a, b, r⟩ := val_of0 hD (R := 101 :: Lib.itoa e) (.inr ⟨_, rfl⟩)
        refine ⟨0, ?_, ?_⟩
        · rw [a, hn]; simp
        · unfold valE expT; rw [b, r]; simp only [hx', Option.getD_some]; omega
      · obtain ⟨x, l, d1, d2, d3⟩ := pointB_many h1
        rw [d2]
        rw [d1] at hD hl hn
        have hP : ∀ d ∈ [x], isD d = true := fun d hd => hD d (by rw [List.mem_singleton.1 hd]; exact List.mem_cons_self)
        have hq : ∀ d ∈ l, isD d = true := fun d hd => hD d (List.mem_cons_of_mem _ hd)
        obtain ⟨a, b, r⟩ := val_of hP hq (R := 101 :: Lib.itoa e) (.inr ⟨_, rfl⟩)
        have e1 : [x] ++ 46 :: l ++ 101 :: Lib.itoa e = x :: 46 :: l ++ 101 :: Lib.itoa e := by simp
        rw [e1] at a b r
        refine ⟨0, ?_, ?_⟩
        · rw [a]; simpa using hn
        · unfold valE expT; rw [b, r]; simp only [hx', Option.getD_some]; simp at hl; omega
/-- the digits of a decimal are told by its text -/
theorem laid_inj {c c' : Nat} {s s' : Int} (H : Shb c s) (H' : Shb c' s') (h10 : c % 10 ≠ 0) (h10' : c' % 10 ≠ 0) (h : laidB c (exp10 c s) = laidB c' (exp10 c' s')) : c = c' ∧ s = s' := by
  have q : ∀ {c s}, Shb c s → -999 ≤ exp10 c s ∧ exp10 c s ≤ 999 := fun H => by
    have := H.n0; have := H.n1; have := H.s0; have := H.s1; unfold exp10; omega
  obtain ⟨j, a1, a2⟩ := laid_val c (exp10 c s) (q H)
  obtain ⟨j', b1, b2⟩ := laid_val c' (exp10 c' s') (q H')
  rw [h] at a1 a2
  obtain ⟨rfl, rfl⟩ := pow10_split (a1.symm.trans b1) h10 h10'
  refine ⟨rfl, ?_⟩
  have := a2.symm.trans b2
  unfold exp10 at this
  omega
end Go.Proofs.YthjfdhkahmlolaaGreatDoor
