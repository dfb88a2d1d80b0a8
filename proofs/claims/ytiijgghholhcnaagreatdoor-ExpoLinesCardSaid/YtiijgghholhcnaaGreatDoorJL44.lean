/- Plain facts on a snapshot that may be; its text. -/
import Derived.Test.YtiijgghholhcnaaGreatDoorJL42
import Derived.Test.YtiijgghholhcnaaGreatDoorJL43
namespace Go.Proofs.YtiijgghholhcnaaGreatDoor
open Go.RowKit
set_option maxRecDepth 100000
theorem chkF_ok {p : Nat} {V : Nat → Vl} : ∀ (f i : Nat), (chkF p V f i).1 = 0 → ∀ j, i ≤ j → j < i + f → vDesc (V j) = 0 ∧ holdsB p (V j) = true
  | 0, i, _, j, h1, h2 => by omega
  | f + 1, i, h, j, h1, h2 => by
    unfold chkF at h
    split at h
    · rename_i g; exact absurd h g
    · rename_i g1
      split at h
      · cases h
      · rename_i g2
        have g : vDesc (V i) = 0 ∧ holdsB p (V i) = true := ⟨Classical.byContradiction g1, by simpa using g2⟩
        by_cases e : j = i
        · subst e; exact g
        · split at h
          · rename_i g3; subst g3; exact chkF_ok f 1 h j (by omega) (by omega)
          · split at h
            · cases h
            · split at h
              · cases h
              · split at h
                · cases h
                · exact chkF_ok f (i + 1) h j (by omega) (by omega)
theorem chk_ok {prec : Int} {n : Nat} {V : Nat → Vl} (h : (chkE prec n V).1 = 0) : ∃ p : Nat, prec = (p : Int) ∧ 1 ≤ p ∧ p ≤ 14 ∧ n ≤ 256 ∧ ∀ j, j < n → vDesc (V j) = 0 ∧ holdsB p (V j) = true := by
  unfold chkE at h
  split at h
  · cases h
  · rename_i g
    split at h
    · cases h
    · refine ⟨prec.toNat, by omega, by omega, by omega, by omega, fun j hj => chkF_ok n 0 h j (Nat.zero_le _) (by omega)⟩
theorem fold_shift (F : Nat → Nat) : ∀ (l : List Nat) (a : Nat), l.foldl (fun a k => a + F k) a = a + l.foldl (fun a k => a + F k) 0
  | [], a => rfl
  | x :: l, a => by
    rw [List.foldl_cons, List.foldl_cons, fold_shift F l (a + F x), fold_shift F l (0 + F x)]
    omega
theorem mayC_ok {N : Nat → Nat} : ∀ (f i left : Nat), mayC N f i left = 0 → ∀ m, m ≤ f → ∃ s, s ≤ left ∧ s = (List.range m).foldl (fun a k => a + N (i + k)) 0
  | 0, i, left, _, m, hm => by
    obtain rfl : m = 0 := by omega
    exact ⟨0, Nat.zero_le _, rfl⟩
  | f + 1, i, left, h, m, hm => by
    unfold mayC at h
    split at h
    · cases h
    · rename_i g
      cases m with
      | zero => exact ⟨0, Nat.zero_le _, rfl⟩
      | succ m =>
        obtain ⟨s, h1, h2⟩ := mayC_ok f (i + 1) (left - N i) h m (by omega)
        refine ⟨N i + s, by omega, ?_⟩
        rw [h2, List.range_succ_eq_map, List.foldl_cons, List.foldl_map]
        have e : ∀ (l : List Nat) (a : Nat), l.foldl (fun a k => a + N (i + (k + 1))) a = a + l.foldl (fun a k => a + N (i + 1 + k)) 0 := by
          intro l a
          have q : (fun (a k : Nat) => a + N (i + (k + 1))) = (fun a k => a + N (i + 1 + k)) := by
            funext a k
            rw [show i + (k + 1) = i + 1 + k by omega]
          rw [q]
          exact fold_shift (fun k => N (i + 1 + k)) l a
        have e2 := e (List.range m) (0 + N (i + 0))
        simp only [Nat.succ_eq_add_one] at e2 ⊢
        rw [e2]; simp
/-- the sum of the first counts -/
def sumN (N : Nat → Nat) : Nat → Nat
  | 0 => 0
  | k + 1 => sumN N k + N k
theorem sumN_fold (N : Nat → Nat) (m : Nat) : (List.range m).foldl (fun a k => a + N (0 + k)) 0 = sumN N m := by
  induction m with
  | zero => rfl
  | succ m ih => rw [List.range_succ, List.foldl_append, ih]; simp [sumN]
theorem may_sum {p : Int} {n : Nat} {X : Nat → Int} {N : Nat → Nat} (h : mayE p n X N = 0) : ∀ m, m ≤ n → sumN N m ≤ 9223372036854775807 := by
  unfold mayE at h
  split at h
  · cases h
  · split at h
    · rename_i g; exact absurd h g
    · intro m hm
      obtain ⟨s, h1, h2⟩ := mayC_ok n 0 _ h m hm
      rw [sumN_fold] at h2
      omega
theorem lenB_le {p : Nat} (h2 : p ≤ 14) : lenB p ≤ 819200 := by
  have : ∀ q : Fin 15, lenB ((q.val : Nat) : Int) ≤ 819200 := by decide
  exact this ⟨p, by omega⟩
theorem may_len {p : Nat} {n : Nat} {X : Nat → Int} {N : Nat → Nat} (h2 : p ≤ 14) (h : mayE (p : Int) n X N = 0) : n ≤ 819200 := by
  have hm := may_ok h
  have hx : ∀ j, j < n → (j : Int) ≤ X j := by
    intro j
    induction j with
    | zero => intro hj; exact (hm 0 hj).1.1
    | succ j ih =>
      intro hj
      have h1 := ih (by omega)
      have h3 := (hm (j + 1) hj).2.1 (by omega)
      rw [Nat.add_sub_cancel] at h3
      omega
  rcases Nat.eq_zero_or_pos n with q | q
  · omega
  · have h3 := hx (n - 1) (by omega)
    have h4 := (hm (n - 1) (by omega)).1.2
    have h5 := lenB_le (p := p) h2
    omega
theorem hiSum_in {a b c d : Nat} (ha : a < 4611686018427387904) (hc : c < 4611686018427387904) (hb : b < 18446744073709551616) (hd : d < 18446744073709551616) :
    hiSum (a : Int) (b : Int) (c : Int) (d : Int) = ((a + c + (b + d) / 18446744073709551616 : Nat) : Int) := by
  unfold hiSum lowOf carOf
  have e1 : (IntKind.u64.wrap (a : Int)).toNat = a := by rw [u64_nat a (by omega)]; omega
  have e2 : (IntKind.u64.wrap (c : Int)).toNat = c := by rw [u64_nat c (by omega)]; omega
  rw [e1, e2]
  have e3 : ((b : Int)).toNat = b := by omega
  have e4 : ((d : Int)).toNat = d := by omega
  rw [e3, e4]
  have e5 : (a + c + (b + d) / 18446744073709551616) % 18446744073709551616 = a + c + (b + d) / 18446744073709551616 := Nat.mod_eq_of_lt (by omega)
  rw [e5]
  exact IntWalk.wrap64_in _ ⟨by omega, by omega⟩
/-- no sum overflows: it is a whole number not below 0 -/
theorem sumT_nat (g : Nat → Nat) (N : Nat → Nat) (n : Nat) (hg : ∀ j, j < n → g j < 9223372036854775808) (hs : ∀ m, m ≤ n → sumN N m ≤ 9223372036854775807) :
    ∀ k, k ≤ n → ∃ S, S ≤ 9223372036854775808 * sumN N k ∧ (sumT g N k).1 = ((S / 18446744073709551616 : Nat) : Int) ∧ (sumT g N k).2 = ((S % 18446744073709551616 : Nat) : Int)
  | 0, _ => ⟨0, Nat.zero_le _, rfl, rfl⟩
  | k + 1, hk => by
    obtain ⟨S, h1, h2, h3⟩ := sumT_nat g N n hg hs k (by omega)
    have h4 := hg k (by omega)
    have h5 := hs (k + 1) hk
    have h6 : g k * N k ≤ 9223372036854775808 * N k := Nat.mul_le_mul_right _ (by omega)
    have h7 : sumN N (k + 1) = sumN N k + N k := rfl
    have h8 : timesHi (g k) (N k) = ((g k * N k / 18446744073709551616 : Nat) : Int) := by
      unfold timesHi
      exact IntWalk.wrap64_in _ ⟨by omega, by omega⟩
    refine ⟨S + g k * N k, by omega, ?_, ?_⟩
    · show hiSum (sumT g N k).1 (sumT g N k).2 (timesHi (g k) (N k)) ((g k * N k % 18446744073709551616 : Nat) : Int) = _
      rw [h2, h3, h8]
      generalize g k * N k = G at *
      rw [hiSum_in (by omega) (by omega) (Nat.mod_lt _ (by decide)) (Nat.mod_lt _ (by decide))]
      congr 1
      omega
    · show ((loSum (sumT g N k).2 ((g k * N k % 18446744073709551616 : Nat) : Int) : Nat) : Int) = _
      rw [h3]
      unfold loSum lowOf
      generalize g k * N k = G at *
      congr 1
      omega
/-- a value that may be printed -/
structure Gp (p : Nat) (V : Vl) : Prop where
  good : Gv V
  pos : V.kind = 1 ∨ V.kind = 2 → 0 ≤ V.hi
  may : V.kind = 2 → mayE (p : Int) V.cn V.X V.C = 0 ∧ V.cn ≤ 819200
theorem cmp_zero {h l : Int} (hc : 0 ≤ cmpW h l 0 0) : 0 ≤ h := by
  unfold cmpW at hc
  split at hc
  · omega
  · split at hc
    · omega
    · omega
theorem cmp_ge {h l a b : Int} (ha : 0 ≤ a) (hc : 0 ≤ cmpW h l a b) : 0 ≤ h := by
  unfold cmpW at hc
  split at hc
  · omega
  · split at hc
    · omega
    · omega
theorem holds_good {p : Nat} {V : Vl} (h1 : 1 ≤ p) (h2 : p ≤ 14) (hd : vDesc V = 0) (hh : holdsB p V = true) : Gp p V := by
  have hG := desc_good hd
  unfold holdsB at hh
  by_cases k1 : V.kind = 1
  · rw [if_pos k1] at hh
    simp only [Bool.and_eq_true, decide_eq_true_eq] at hh
    exact ⟨hG, fun _ => cmp_zero hh.2, fun e => by rw [k1] at e; cases e⟩
  · rw [if_neg k1] at hh
    by_cases k2 : V.kind = 2
    · rw [if_pos k2, Bool.and_eq_true] at hh
      have hb := hh.2
      unfold histB at hb
      split at hb
      · cases hb
      · rename_i g1
        have g : mayE (p : Int) V.cn V.X V.C = 0 := Classical.byContradiction g1
        split at hb
        · cases hb
        · rw [Bool.and_eq_true, decide_eq_true_eq] at hb
          have hm := may_ok g
          obtain ⟨S, _, e1, _⟩ := sumT_nat (lowN p V.X) V.C V.cn (fun j hj => by
            obtain ⟨_, _, _, _, _, q, _⟩ := ends_nat (p := p) (X := V.X) (i := j) h1 h2 (hm j hj).1.1 (hm j hj).1.2
            exact q) (may_sum g) V.cn (Nat.le_refl _)
          exact ⟨hG, fun _ => cmp_ge (by rw [e1]; omega) hb.1, fun _ => ⟨g, may_len h2 g⟩⟩
    · exact ⟨hG, fun e => by rcases e with e | e <;> contradiction, fun e => by contradiction⟩
def kindT (k : Int) : List UInt8 := if k = 1 then [99, 111, 117, 110, 116, 101, 114] else if k = 2 then [104, 105, 115, 116, 111, 103, 114, 97, 109] else [115, 117, 109, 109, 97, 114, 121]
def helpT (s : List UInt8) : List UInt8 := s.flatMap (esc 2 hx hS 2)
def famB (V : Nat → Vl) (i : Nat) : Bool := if i = 0 then true else !((V (i - 1)).nm == (V i).nm)
def famT (V : Nat → Vl) (i : Nat) : List UInt8 :=
  if famB V i = true then [35, 32, 72, 69, 76, 80, 32] ++ (V i).nm ++ [32] ++ helpT (V i).help ++ [10] ++ ([35, 32, 84, 89, 80, 69, 32] ++ (V i).nm ++ [32] ++ kindT (V i).kind ++ [10]) else []
def valT (pt : Nat → List UInt8) (p : Nat) (v : Vl) : List UInt8 := if v.kind = 1 then counterT v else if v.kind = 2 then histT p v else summaryT pt v
def headT (p rf : Nat) : List UInt8 := [35, 32, 103, 110, 111, 109, 111, 110, 32] ++ Lib.itoa (p : Int) ++ [10] ++ ([35, 32, 114, 101, 102, 117, 115, 101, 100, 32] ++ Lib.decDigits rf ++ [10])
/-- the text of the first values -/
def bodyT (pt : Nat → List UInt8) (p rf : Nat) (V : Nat → Vl) : Nat → List UInt8
  | 0 => headT p rf
  | i + 1 => bodyT pt p rf V i ++ (famT V i ++ valT pt p (V i))
theorem bodyT_mono (pt : Nat → List UInt8) (p rf : Nat) (V : Nat → Vl) {i : Nat} : ∀ {j : Nat}, i ≤ j → (bodyT pt p rf V i).length ≤ (bodyT pt p rf V j).length
  | 0, h => by obtain rfl : i = 0 := by omega
               exact Nat.le_refl _
  | j + 1, h => by
    by_cases e : i = j + 1
    · rw [e]; exact Nat.le_refl _
    · have := bodyT_mono pt p rf V (i := i) (j := j) (by omega)
      rw [bodyT, List.length_append]; omega
end Go.Proofs.YtiijgghholhcnaaGreatDoor
