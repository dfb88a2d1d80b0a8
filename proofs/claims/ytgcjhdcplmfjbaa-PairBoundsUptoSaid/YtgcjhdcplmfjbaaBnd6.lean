/- The sums of groups of lists, and what Near is asked: plainly. -/
import Derived.Test.YtgcjhdcplmfjbaaBgw6
namespace Go.Proofs.Ytgcjhdcplmfjbaa.Bg
open Flt

def VM : Nat := V 8930638061075693568
theorem VM_eq : VM = 2 ^ 52 * 2 ^ 1982 := by
  have h1 : sig 8930638061075693568 = 2 ^ 52 := by decide
  have h2 : (ex 8930638061075693568 + 1074).toNat = 1982 := by decide
  unfold VM V
  rw [h1, h2]
theorem lt_any {c : Nat} (h : c ≤ 2097152) (e : Nat) : 64 * (c * (2 ^ 52 * 2 ^ e)) < 2 ^ (e + 108) := by
  have h1 : 64 * (c * (2 ^ 52 * 2 ^ e)) = (64 * c * 2 ^ 52) * 2 ^ e := by rw [Nat.mul_assoc 64 c, Nat.mul_assoc 64, Nat.mul_assoc c]
  rw [h1, Nat.add_comm, Nat.pow_add]
  exact Nat.mul_lt_mul_of_pos_right (by omega) (Nat.two_pow_pos e)
theorem small {c A : Nat} (h : c ≤ 2097152) (hA : A ≤ c * VM) : 64 * A < BG := by
  have h1 := lt_any h 1982
  rw [← VM_eq] at h1
  have h2 : ∀ z, z = 1982 + 108 → 2 ^ z = BG := fun z hz => by
    unfold BG; congr 1
  have h3 := h2 _ rfl
  rw [h3] at h1
  omega
theorem smallW {c A : Nat} (h : c ≤ 2097152) (hA : A ≤ c * VM) : A < W 900 := by
  have h1 : VM < W 100 := V_small (by omega)
  have h2 : c * VM < W 102 := by
    rw [Nat.mul_comm]
    exact mul64_lt h1 (by omega)
  exact W_lt (Nat.lt_of_le_of_lt hA h2) (by omega)
theorem val_le {x : Nat} (h : mag x ≤ 8930638061075693568) : (val x).natAbs ≤ VM := by
  rw [val_abs]; exact V_le h
/-- of a list -/
def lX (us : Nat → Nat) : Nat → Int
  | 0 => 0
  | j + 1 => lX us j + val (us j)
def lA (us : Nat → Nat) : Nat → Nat
  | 0 => 0
  | j + 1 => lA us j + (val (us j)).natAbs
theorem lA_le {us : Nat → Nat} : ∀ {n}, (∀ j, j < n → mag (us j) ≤ 8930638061075693568) → lA us n ≤ n * VM
  | 0, _ => Nat.zero_le _
  | n + 1, h => by
    have h1 := lA_le (us := us) (n := n) (fun j hj => h j (by omega))
    have h2 := val_le (h n (by omega))
    show lA us n + (val (us n)).natAbs ≤ _
    rw [Nat.add_mul, Nat.one_mul]
    omega
theorem rof_pw {us : Nat → Nat} : ∀ {n}, (∀ j, j < n → mag (us j) ≤ 8930638061075693568) → n ≤ 1048576 → Flt.PW (rof us n).1 (rof us n).2 (lX us n) (lA us n) n
  | 0, _, _ => PW.zero
  | n + 1, h, hn => by
    have h1 := rof_pw (us := us) (n := n) (fun j hj => h j (by omega)) (by omega)
    have h3 := val_le (h n (by omega))
    have h4 := lA_le (us := us) (n := n) (fun j hj => h j (by omega))
    have h5 := small (c := n + 1) (A := lA us n + (val (us n)).natAbs) (by omega) (by rw [Nat.add_mul, Nat.one_mul]; omega)
    have := h1.put (x := us n) (by have := h n (by omega); omega) (by omega) h5
    exact this
/-- of a group: how many words, the sums -/
def N1 (len : Nat → Nat) : Nat → Nat
  | 0 => 0
  | k + 1 => N1 len k + len k
def gX (len : Nat → Nat) (f : Nat → Nat → Nat) : Nat → Int
  | 0 => 0
  | k + 1 => gX len f k + lX (f k) (len k)
def gA (len : Nat → Nat) (f : Nat → Nat → Nat) : Nat → Nat
  | 0 => 0
  | k + 1 => gA len f k + lA (f k) (len k)
def gK (len : Nat → Nat) (k : Nat) : Nat := N1 len k + 2 * k
theorem gA_le {len : Nat → Nat} {f : Nat → Nat → Nat} : ∀ {n}, Oks n len f → gA len f n ≤ N1 len n * VM
  | 0, _ => Nat.zero_le _
  | n + 1, h => by
    have h1 := gA_le (len := len) (f := f) (n := n) (fun k hk => h k (by omega))
    have h2 := lA_le (us := f n) (n := len n) (h n (by omega))
    show gA len f n + lA (f n) (len n) ≤ (N1 len n + len n) * VM
    rw [Nat.add_mul]
    omega
theorem N1_T1 {len : Nat → Nat} : ∀ {k}, N1 len k + k = T1 len k
  | 0 => rfl
  | k + 1 => by
    have := N1_T1 (len := len) (k := k)
    show N1 len k + len k + (k + 1) = T1 len k + (1 + len k)
    omega
/-- of all groups -/
def aN (m : Nat → Nat) (len : Nat → Nat → Nat) : Nat → Nat
  | 0 => 0
  | i + 1 => aN m len i + N1 (len i) (m i)
def aL (m : Nat → Nat) : Nat → Nat
  | 0 => 0
  | i + 1 => aL m i + m i
def aX (m : Nat → Nat) (len : Nat → Nat → Nat) (f : Nat → Nat → Nat → Nat) : Nat → Int
  | 0 => 0
  | i + 1 => aX m len f i + gX (len i) (f i) (m i)
def aA (m : Nat → Nat) (len : Nat → Nat → Nat) (f : Nat → Nat → Nat → Nat) : Nat → Nat
  | 0 => 0
  | i + 1 => aA m len f i + gA (len i) (f i) (m i)
theorem aT {m : Nat → Nat} {len : Nat → Nat → Nat} : ∀ {i}, aN m len i + aL m i + i = T2 m len i
  | 0 => rfl
  | i + 1 => by
    have h1 := aT (m := m) (len := len) (i := i)
    have h2 := N1_T1 (len := len i) (k := m i)
    show aN m len i + N1 (len i) (m i) + (aL m i + m i) + (i + 1) = T2 m len i + (1 + T1 (len i) (m i))
    omega
theorem aA_le {m : Nat → Nat} {len : Nat → Nat → Nat} {f : Nat → Nat → Nat → Nat} : ∀ {n}, (∀ i, i < n → Oks (m i) (len i) (f i)) → aA m len f n ≤ aN m len n * VM
  | 0, _ => Nat.zero_le _
  | n + 1, h => by
    have h1 := aA_le (m := m) (len := len) (f := f) (n := n) (fun i hi => h i (by omega))
    have h2 := gA_le (h n (by omega))
    show aA m len f n + gA (len n) (f n) (m n) ≤ (aN m len n + N1 (len n) (m n)) * VM
    rw [Nat.add_mul]
    omega
/-- a group's pair after one more list -/
theorem group_step {len : Nat → Nat} {f : Nat → Nat → Nat} {k : Nat} {s c : Nat} (h : Flt.PW s c (gX len f k) (gA len f k) (gK len k)) (ho : Oks (k + 1) len f) (hT : T1 len (k + 1) ≤ 1048576) :
    Flt.PW (rmerge (s, c) (rof (f k) (len k))).1 (rmerge (s, c) (rof (f k) (len k))).2 (gX len f (k + 1)) (gA len f (k + 1)) (gK len (k + 1)) := by
  have e1 := N1_T1 (len := len) (k := k + 1)
  have e2 : N1 len (k + 1) = N1 len k + len k := rfl
  have h1 := rof_pw (us := f k) (n := len k) (ho k (by omega)) (by omega)
  have h2 := gA_le ho
  have h3 := h.merge h1 (by unfold gK; omega) (small (c := N1 len (k + 1)) (by omega) h2)
  have e3 : gK len k + len k + 2 = gK len (k + 1) := by unfold gK; omega
  rw [e3] at h3
  exact h3
def wK (m : Nat → Nat) (len : Nat → Nat → Nat) (i : Nat) : Nat := 2 * (aN m len i + 2 * aL m i)
/-- the whole pair after one more group -/
theorem whole_step {m : Nat → Nat} {len : Nat → Nat → Nat} {f : Nat → Nat → Nat → Nat} {i s c s' c' : Nat} (h : Flt.PW s c (aX m len f i) (aA m len f i) (wK m len i)) (h' : Flt.PW s' c' (gX (len i) (f i) (m i)) (gA (len i) (f i) (m i)) (gK (len i) (m i)))
    (hz : m i = 0 → s' = 0 ∧ c' = 0) (ho : ∀ i', i' < i + 1 → Oks (m i') (len i') (f i')) (hT : T2 m len (i + 1) ≤ 1048576) :
    Flt.PW (rmerge (s, c) (s', c')).1 (rmerge (s, c) (s', c')).2 (aX m len f (i + 1)) (aA m len f (i + 1)) (wK m len (i + 1)) := by
  have e1 := aT (m := m) (len := len) (i := i + 1)
  have e2 : aN m len (i + 1) = aN m len i + N1 (len i) (m i) := rfl
  have e3 : aL m (i + 1) = aL m i + m i := rfl
  by_cases h0 : m i = 0
  · obtain ⟨rfl, rfl⟩ := hz h0
    obtain ⟨q1, q2⟩ := merge_empty h
    have e4 : rmerge (s, c) (0, 0) = (s, c) := Prod.ext q1 q2
    have e5 : aX m len f (i + 1) = aX m len f i := by show _ + gX (len i) (f i) (m i) = _; rw [h0]; show _ + (0 : Int) = _; omega
    have e6 : aA m len f (i + 1) = aA m len f i := by show _ + gA (len i) (f i) (m i) = _; rw [h0]; rfl
    have e7 : wK m len (i + 1) = wK m len i := by unfold wK; rw [e2, e3, h0]; rfl
    rw [e4, e5, e6, e7]; exact h
  · have h2 := aA_le (m := m) (len := len) (f := f) (n := i + 1) ho
    have h3 := h.merge h' (by unfold wK gK; omega) (small (c := aN m len (i + 1)) (by omega) h2)
    exact h3.mono (by unfold wK gK; omega) (by unfold wK; omega)
/-- an exact sum in memory: X, of magnitudes A -/
def XW (w : World) (b : Nat) (X : Int) (A : Nat) : Prop := ∃ P Q va vb, Exa w b P Q va vb ∧ (P : Int) - Q = X ∧ P + Q = A
theorem XW.only {w w' : World} {b A : Nat} {X : Int} {S : Nat → Prop} (h : XW w b X A) (O : Only S w w') (hb : ¬ S b) (hs : ∀ b, S b → ∃ X A, XW w b X A) : XW w' b X A := by
  obtain ⟨P, Q, va, vb, h, e1, e2⟩ := h
  exact ⟨P, Q, va, vb, h.only O hb (fun g hg => by obtain ⟨_, _, P, Q, va, vb, q, _⟩ := hs g hg; exact ⟨P, Q, va, vb, q⟩), e1, e2⟩
theorem add_sum (a P Q : Nat) : ((addA a P : Nat) : Int) - (addB a Q : Nat) = (P : Int) - Q + val a ∧ addA a P + addB a Q = P + Q + (val a).natAbs := by
  rw [val_abs]
  unfold addA addB val
  cases neg a
  · refine ⟨?_, ?_⟩
    · simp; omega
    · simp; omega
  · refine ⟨?_, ?_⟩
    · simp; omega
    · simp; omega
theorem xput_calls (a b A : Nat) (X : Int) (w : World) (ha : a < 18446744073709551616) (fa : mag a < 9218868437227405312) (h : XW w b X A) (hA : A < W 900) :
    Calls Try.prog 24 #[.pointer (some ⟨b, 0, none⟩), .int .u64 (a : Nat)] w fun e w' => e = .returned (.tuple #[]) ∧ XW w' b (X + val a) (A + (val a).natAbs) ∧ Only (· = b) w w' := by
  obtain ⟨P, Q, va, vb, h, e1, e2⟩ := h
  refine (put_calls a b P Q va vb w ha fa h (W_lt (Nat.lt_of_le_of_lt (by omega) hA) (by omega)) (W_lt (Nat.lt_of_le_of_lt (by omega) hA) (by omega)) (W_lt (V_small fa) (by omega))).mono ?_
  rintro e w' ⟨va', vb', rfl, h', O⟩
  obtain ⟨q1, q2⟩ := add_sum a P Q
  exact ⟨rfl, ⟨_, _, _, _, h', by rw [q1, e1], by rw [q2, e2]⟩, O⟩
theorem apn_abs (P Q : Nat) : apn P Q = ((P : Int) - Q).natAbs := by unfold apn; split <;> omega
theorem near_true {P Q t k m A : Nat} {X : Int} (e1 : (P : Int) - Q = X) (e2 : P + Q = A) (ht : t < 18446744073709551616) (h : 81129638414606681695789005144064 * (val t - X).natAbs ≤ 9007199254740992 * X.natAbs + A * m * m * k) : nearB P Q t k m = true := by
  unfold nearB
  obtain ⟨q1, q2⟩ := add_sum (flip t) P Q
  rw [apn_abs, apn_abs, q1, e1, e2, val_flip ht, show X + -val t = -(val t - X) by omega, Int.natAbs_neg]
  rw [show (2 : Nat) ^ 106 = 81129638414606681695789005144064 from rfl, show (2 : Nat) ^ 53 = 9007199254740992 from rfl]
  rw [Bool.not_eq_true', decide_eq_false_iff_not]
  rw [Nat.mul_comm X.natAbs, Nat.mul_comm (val t - X).natAbs]
  omega
theorem xnear_calls (t b A k m : Nat) (X : Int) (w : World) (h : XW w b X A) (ht : t < 18446744073709551616) (ft : mag t < 9218868437227405312) (hk : k < 4294967296) (hm : m < 18446744073709551616) (hA : A < W 900)
    (hn : 81129638414606681695789005144064 * (val t - X).natAbs ≤ 9007199254740992 * X.natAbs + A * m * m * k) :
    Calls Try.prog 26 #[.pointer (some ⟨b, 0, none⟩), .int .u64 (t : Nat), .int .u32 (k : Nat), .int .u64 (m : Nat)] w fun e w' => e = .returned (.bool true) ∧ Only (fun _ => False) w w' := by
  obtain ⟨P, Q, va, vb, h, e1, e2⟩ := h
  have := near_calls t b P Q k m va vb w h ht ft hk hm (Nat.lt_of_le_of_lt (by omega) hA) (Nat.lt_of_le_of_lt (by omega) hA)
  rw [near_true e1 e2 ht hn] at this
  exact this
theorem k_form (k A : Nat) : 2 * (k * (k * A)) = A * k * k * 2 := by
  rw [Nat.mul_comm 2, Nat.mul_comm k A, Nat.mul_comm k (A * k)]
theorem k_form16 (N A : Nat) : 2 * (2 * N * (2 * N * A)) ≤ A * N * N * 16 := by
  have e : 2 * (2 * N * (2 * N * A)) = (A * N * N) * 8 := by
    rw [Nat.mul_assoc 2 N A, Nat.mul_comm N A, Nat.mul_assoc 2 N, Nat.mul_left_comm N 2, Nat.mul_comm N (A * N)]
    omega
  rw [e]; omega
theorem xw_new (w : World) : XW (w.alloc (.cells #[.slice none 0 0, .slice none 0 0] 51)) w.heap.size 0 0 :=
  ⟨0, 0, _, _, ⟨blk_new _ _, big_nil _, big_nil _⟩, rfl, rfl⟩
end Go.Proofs.Ytgcjhdcplmfjbaa.Bg
