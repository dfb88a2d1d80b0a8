/- What the sum of two floats has lost, as words; pairs of words as whole numbers. -/
import Derived.Test.YtgcjhdcplmfjbaaBnd3
namespace Go.Proofs.Ytgcjhdcplmfjbaa.Flt
open Ieee

theorem V_le {g h : Nat} (q : g ≤ h) : V g ≤ V h := by
  rcases Nat.lt_or_ge g h with a | a
  · exact Nat.le_of_lt (V_lt a)
  · obtain rfl : g = h := by omega
    exact Nat.le_refl _
theorem rz_le (z : Int) : (rz z).natAbs ≤ 2 * z.natAbs := by
  have := near z
  omega
theorem bd1 {A B R : Int} {G : Nat} (hr : R.natAbs ≤ 2 * (A + B).natAbs) (hV : B.natAbs ≤ A.natAbs) (hb : 16 * A.natAbs < G) : (A + -R).natAbs < G ∧ (A - R + B).natAbs < G := by omega
/-- a loss: the greater one first -/
theorem loss1 (a b t : Nat) (fa : mag a < 9218868437227405312) (fb : mag b < 9218868437227405312) (lt : t < 18446744073709551616) (ft : mag t < 9218868437227405312) (ht : val t = rz (val a + val b)) (hle : mag b ≤ mag a) (hb : 16 * (val a).natAbs < BG) :
    mag (radd (radd a (flip t)) b) < 9218868437227405312 ∧ val (radd (radd a (flip t)) b) = val a + val b - rz (val a + val b) := by
  have hV : (val b).natAbs ≤ (val a).natAbs := by rw [val_abs, val_abs]; exact V_le hle
  obtain ⟨u1, u2⟩ := bd1 (rz_le (val a + val b)) hV hb
  obtain ⟨ja, hA, bA⟩ := val_grid a
  obtain ⟨jb, hB, bB⟩ := val_grid b
  have hex : (ex (mag b) + 1074).toNat ≤ (ex (mag a) + 1074).toNat := by have := ex_mono hle; omega
  obtain ⟨p1, p2⟩ := loss_parts hA bA hB bB hex hV
  have hfl := val_flip lt
  rw [ht] at hfl
  have s1 : (val a + val (flip t)).natAbs < BG := by rw [hfl]; exact u1
  obtain ⟨f1, v1, _⟩ := radd_rz a (flip t) fa (by rw [mag_flip t lt]; exact ft) s1
  rw [hfl, show val a + -rz (val a + val b) = val a - rz (val a + val b) by omega, rz_rp p1] at v1
  have s2 : (val (radd a (flip t)) + val b).natAbs < BG := by rw [v1]; exact u2
  obtain ⟨f2, v2, _⟩ := radd_rz (radd a (flip t)) b f1 fb s2
  rw [v1, show val a - rz (val a + val b) + val b = val a + val b - rz (val a + val b) by omega, rz_rp p2] at v2
  exact ⟨f2, v2⟩
theorem radd_word (a b : Nat) : radd a b < 18446744073709551616 := by
  unfold radd
  cases h : D.add a b with
  | none => simp
  | some r => exact Ieee.Format.add_lt D h
theorem nan_no {x : Nat} (h : mag x < 9218868437227405312) : nan x = false := by unfold nan; simp; omega
/-- a loss -/
def lossW (a b : Nat) : Nat := if nan a = false ∧ nan b = false ∧ mag b ≤ mag a then radd (radd a (flip (radd a b))) b else radd (radd b (flip (radd a b))) a
theorem lossW_val (a b : Nat) (fa : mag a < 9218868437227405312) (fb : mag b < 9218868437227405312) (ha : 16 * (val a).natAbs < BG) (hb : 16 * (val b).natAbs < BG) :
    mag (lossW a b) < 9218868437227405312 ∧ val (lossW a b) = val a + val b - rz (val a + val b) := by
  have hs : (val a + val b).natAbs < BG := by omega
  obtain ⟨f, v, _⟩ := radd_rz a b fa fb hs
  unfold lossW
  by_cases h : mag b ≤ mag a
  · rw [if_pos ⟨nan_no fa, nan_no fb, h⟩]
    exact loss1 a b _ fa fb (radd_word _ _) f v h ha
  · rw [if_neg (fun q => h q.2.2)]
    rw [show val a + val b = val b + val a by omega] at v ⊢
    exact loss1 b a _ fb fa (radd_word _ _) f v (by omega) hb
/-- a pair of words -/
structure PW (s c : Nat) (X : Int) (A k : Nat) : Prop where
  fs : mag s < 9218868437227405312
  fc : mag c < 9218868437227405312
  ls : s < 18446744073709551616
  lc : c < 18446744073709551616
  ns : s ≠ 9223372036854775808
  nc : c ≠ 9223372036854775808
  pi : PI (val s) (val c) X A k
theorem PW.zero : PW 0 0 0 0 0 := ⟨by decide, by decide, by decide, by decide, by decide, by decide, by
  have : val 0 = 0 := by decide
  rw [this]; exact PI.zero⟩
theorem PI.c1 {S C X : Int} {A k : Nat} (h : PI S C X A k) : C.natAbs ≤ A := by
  have h1 := h.c
  have h2 := h.kA.1
  generalize k * A = u at *
  omega
theorem PW.put {s c x : Nat} {X : Int} {A k : Nat} (h : PW s c X A k) (fx : mag x < 9218868437227405312) (hk : k + 1 ≤ 17179869184) (hA : 64 * (A + (val x).natAbs) < BG) :
    PW (radd s x) (radd c (lossW s x)) (X + val x) (A + (val x).natAbs) (k + 1) := by
  have h1 := h.pi.s
  have h2 := h.pi.c1
  have hs : (val s + val x).natAbs < BG := by omega
  obtain ⟨f1, v1, n1⟩ := radd_rz s x h.fs fx hs
  obtain ⟨f2, v2⟩ := lossW_val s x h.fs fx (by omega) (by omega)
  have hr := rz_le (val s + val x)
  have hc : (val c + val (lossW s x)).natAbs < BG := by rw [v2]; omega
  obtain ⟨f3, v3, n3⟩ := radd_rz c (lossW s x) h.fc f2 hc
  refine ⟨f1, f3, radd_word _ _, radd_word _ _, n1 h.ls h.ns, n3 h.lc h.nc, ?_⟩
  rw [v1, v3, v2]
  exact h.pi.add rfl hk
theorem bd2 {S S' C C' R R' : Int} {A A' G : Nat} (h1 : 2 * S.natAbs ≤ 3 * A) (h2 : C.natAbs ≤ A) (h1' : 2 * S'.natAbs ≤ 3 * A') (h2' : C'.natAbs ≤ A') (hr : R.natAbs ≤ 2 * (S + S').natAbs) (hr3 : R'.natAbs ≤ 2 * (C + C').natAbs) (hA : 64 * (A + A') < G) :
    (S + S').natAbs < G ∧ 16 * S.natAbs < G ∧ 16 * S'.natAbs < G ∧ (C + C').natAbs < G ∧ (R' + (S + S' - R)).natAbs < G := by
  refine ⟨by omega, by omega, by omega, by omega, ?_⟩
  have t1 := tri R' (S + S' - R)
  have t2 := tri (S + S') (-R)
  have t3 := tri S S'
  have t4 := tri C C'
  rw [Int.natAbs_neg, show S + S' + -R = S + S' - R by omega] at t2
  generalize (R' + (S + S' - R)).natAbs = a1 at *
  generalize (S + S' - R).natAbs = a2 at *
  generalize (S + S').natAbs = a3 at *
  generalize (C + C').natAbs = a4 at *
  omega
theorem PW.merge {s c s' c' : Nat} {X X' : Int} {A A' k k' : Nat} (h : PW s c X A k) (h' : PW s' c' X' A' k') (hk : k + k' + 2 ≤ 17179869184) (hA : 64 * (A + A') < BG) :
    PW (radd s s') (radd (radd c c') (lossW s s')) (X + X') (A + A') (k + k' + 2) := by
  obtain ⟨u1, u2, u3, u4, u5⟩ := bd2 h.pi.s h.pi.c1 h'.pi.s h'.pi.c1 (rz_le (val s + val s')) (rz_le (val c + val c')) hA
  obtain ⟨f1, v1, n1⟩ := radd_rz s s' h.fs h'.fs u1
  obtain ⟨f2, v2⟩ := lossW_val s s' h.fs h'.fs u2 u3
  obtain ⟨f3, v3, n3⟩ := radd_rz c c' h.fc h'.fc u4
  obtain ⟨f4, v4, n4⟩ := radd_rz (radd c c') (lossW s s') f3 f2 (by rw [v3, v2]; exact u5)
  refine ⟨f1, f4, radd_word _ _, radd_word _ _, n1 h.ls h.ns, n4 (radd_word _ _) (n3 h.lc h.nc), ?_⟩
  rw [v1, v4, v3, v2]
  exact h.pi.merge h'.pi hk
theorem PW.mono {s c : Nat} {X : Int} {A k k' : Nat} (h : PW s c X A k) (hk : k ≤ k') (hb : k' ≤ 17179869184) : PW s c X A k' := ⟨h.fs, h.fc, h.ls, h.lc, h.ns, h.nc, h.pi.mono hk hb⟩
/-- Total -/
theorem PW.total {s c : Nat} {X : Int} {A k : Nat} (h : PW s c X A k) (hA : 64 * A < BG) :
    mag (radd s c) < 9218868437227405312 ∧ radd s c ≠ 9223372036854775808 ∧ 81129638414606681695789005144064 * (val (radd s c) - X).natAbs ≤ 9007199254740992 * X.natAbs + 2 * (k * (k * A)) := by
  have h1 := h.pi.s
  have h2 := h.pi.c1
  have hs : (val s + val c).natAbs < BG := by omega
  obtain ⟨f1, v1, n1⟩ := radd_rz s c h.fs h.fc hs
  refine ⟨f1, n1 h.ls h.ns, ?_⟩
  rw [v1]
  exact h.pi.total
/-- an empty pair changes nothing -/
theorem radd_keep {s : Nat} (f : mag s < 9218868437227405312) (l : s < 18446744073709551616) (n : s ≠ 9223372036854775808) : radd s 0 = s := by
  rw [radd_comm, radd_0 s l f]
  unfold plain
  split
  · rename_i h0
    have := word_of s l
    rw [h0, word_eq] at this
    cases hn : neg s with
    | false => rw [hn] at this; simpa using this.symm
    | true => rw [hn] at this; exact absurd this (by simpa using n)
  · rfl
theorem merge_empty {s c : Nat} {X : Int} {A k : Nat} (h : PW s c X A k) : radd s 0 = s ∧ radd (radd c 0) (lossW s 0) = c := by
  have e1 := radd_keep h.fs h.ls h.ns
  have e2 := radd_keep h.fc h.lc h.nc
  refine ⟨e1, ?_⟩
  have e3 : lossW s 0 = 0 := by
    unfold lossW
    rw [if_pos ⟨nan_no h.fs, by decide, by rw [show mag 0 = 0 by decide]; omega⟩, e1, rsub_self s h.ls h.fs]
    exact radd_keep (by decide) (by decide) (by decide)
  rw [e2, e3, e2]
end Go.Proofs.Ytgcjhdcplmfjbaa.Flt
