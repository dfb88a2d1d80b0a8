/- The walks of the reference's whole numbers of any length: Times, Greater, Apart. -/
import Derived.Test.YtgcjhdcplmfjbaaBgw1
namespace Go.Proofs.Ytgcjhdcplmfjbaa.Bg
open Go.RowKit

theorem plus_calls (w : World) (va vb : Value) (x y : Nat) (ha : BigV w va x) (hb : BigV w vb y) (bx : x < W 1000000) (by' : y < W 1000000) :
    Calls Try.prog 34 #[va, vb] w fun e w' => ∃ v, e = .returned v ∧ BigV w' v (x + y) ∧ Only (fun _ => False) w w' := by
  obtain ⟨p, n, c1, a, rfl, h1, h2, h3, rfl, h5, h6⟩ := ha
  obtain ⟨q, m, c2, b, rfl, k1, k2, k3, rfl, k5, k6⟩ := hb
  exact plus_in w p q n m c1 c2 a b (len_lt h5 bx) (len_lt k5 by') h3 k3
/-- a round of Times -/
structure TmIn (w : World) (n x : Nat) (a : Nat → Nat) (i c : Nat) (v : Value) (wr : World) : Prop where
  only : Only (fun _ => False) w wr
  le : i ≤ n + 1
  c1 : c < 4294967296
  le2 : i ≤ n ∨ c = 0
  row : ∃ o, Own w.heap.size wr v i o ∧ bv o i + c * W i = bv (at0 a n) i * x
theorem TmIn.next {w wr w' : World} {n x i c s keep : Nat} {a o : Nat → Nat} {v v' z : Value} (h : TmIn w n x a i c v wr) (hi : i ≤ n) (ho : Own w.heap.size wr v i o) (he : bv o i + c * W i = bv (at0 a n) i * x) (hs : s = c + at0 a n i * x) (hlt : s / 4294967296 < 4294967296)
    (hg : Grew (wr.alloc (.cells #[z] 56)) w' v v' keep) (hown : w'.ownsRow w.heap.size 56 1 v' (i + 1) (dl o i ++ [.int .u32 ((s % 4294967296 : Nat) : Int)])) : TmIn w n x a (i + 1) (s / 4294967296) v' w' := by
  have h2 : i + 1 ≤ n ∨ s / 4294967296 = 0 := by
    by_cases q1 : i < n
    · exact .inl q1
    · refine .inr ?_
      have e1 : at0 a n i = 0 := if_neg q1
      have := h.c1
      rw [e1, Nat.zero_mul] at hs; omega
  refine ⟨(h.only.alloc _).grown hg.grown (fun k hk => .inl (ho.1.lt k hk).1), by omega, hlt, h2, put o i (s % 4294967296), Own.push ho.2 (Nat.mod_lt _ (by omega)) hown, ?_⟩
  have e1 : bv (put o i (s % 4294967296)) i + c * W i = bv (at0 a n) i * x := by rw [bv_put]; exact he
  have := bv_carry (s := s) (c' := s / 4294967296) e1 (show put o i (s % 4294967296) i = s % 4294967296 from if_pos rfl) rfl
  rw [bv_succ (at0 a n), Nat.add_mul, Nat.mul_right_comm]
  rw [hs, Nat.add_mul] at this
  subst hs
  omega
def TmR (w : World) (n x : Nat) (a : Nat → Nat) (v q z : Value) (wr : World) : Prop := ∃ i c : Nat, z = .int .i64 (i : Nat) ∧ q = .int .u64 (c : Nat) ∧ TmIn w n x a i c v wr
theorem mul32 {u x : Nat} (hu : u < 4294967296) (hx : x < 4294967296) : u * x ≤ 4294967295 * 4294967295 := Nat.mul_le_mul (by omega) (by omega)
set_option maxRecDepth 100000 in
set_option maxHeartbeats 4000000 in
theorem times_in (w : World) (p : Option Addr) (n c1 x : Nat) (a : Nat → Nat) (hn : n ≤ 1000000) (hx : x < 4294967296) (ha : Bx w p n a) :
    Calls Try.prog 38 #[.slice p n c1, .int .u32 (x : Nat)] w fun e w' => ∃ v, e = .returned v ∧ BigV w' v (bv a n * x) ∧ Only (fun _ => False) w w' := by
  obtain ⟨i3, hi3, hz3, hs3, hb3⟩ := info_parts info56
  have HA := Lib.hid ha
  clear ha
  go_enter Try.func38, Try.ntmps38
  go_wp2_with fail
  go_loopw [5, 6, 7] (fun v q z wr => TmR w n x a v q z wr) (fun _ _ z _ => (n + 2) - (intOf z).toNat)
  case atStart => exact ⟨0, 0, rfl, rfl, (Only.refl _ _).alloc _, by omega, by omega, .inl (Nat.zero_le _), fun _ => 0, ⟨own_empty w, fun i hi => by omega⟩, by simp [bv]⟩
  case round =>
    obtain ⟨i, c, rfl, rfl, H⟩ := hrel
    have hi := H.le; have hc := H.c1
    obtain ⟨o, ho, he⟩ := H.row
    have HH := Lib.hid H; have HO := Lib.hid ho; have HE := Lib.hid he; clear H he
    obtain ⟨pv, cv, rfl, _⟩ := ho.slice
    clear ho
    by_cases h1 : i < n
    · have hi' : i ≤ n := by omega
      obtain ⟨b1, o1, rfl, l1, x1, x2⟩ := HA.out i h1
      rw [← HH.out.only.cellAt l1 id] at x1
      have A1 := Lib.hid (show at0 a n i = a i from if_pos h1)
      generalize a i = u at *
      clear l1
      have hm := mul32 x2 hx
      have hm2 : ((u : Int) * (x : Int)) = ((u * x : Nat) : Int) := by simp
      have hm3 : (0 : Int) ≤ (u : Int) * (x : Int) ∧ (u : Int) * (x : Int) ≤ 18446744065119617025 := by rw [hm2]; omega
      have ES2 := Lib.hid (show ((c : Int) + (u : Int) * (x : Int)) / 4294967296 = (((c + u * x) / 4294967296 : Nat) : Int) by rw [hm2]; omega)
      have HM := Lib.hid hm
      have HM2 := Lib.hid hm2
      have hw1 : IntKind.u64.wrap ((u : Int) * (x : Int)) = (u : Int) * (x : Int) := IntWalk.u64_in _ (by omega)
      have hw2 : IntKind.u64.wrap ((c : Int) + (u : Int) * (x : Int)) = (c : Int) + (u : Int) * (x : Int) := IntWalk.u64_in _ (by omega)
      clear hm hm2 hm3
      have ES := Lib.hid (show ((c : Int) + (u : Int) * (x : Int)) % 4294967296 = (((c + u * x) % 4294967296 : Nat) : Int) from by rw [HM2.out]; omega)
      go_wp2_with (at_builtin; go_loud (refine wpList_append_kept _ rfl (.tmp 33) (.tmp 36) 49 rfl 56 i3 (.int .u32 0) 1 4 Try.underlying49 hi3 hz3 hs3 hb3 rfl (by decide) w.heap.size i _ (dl o i) (by simp [Act.eval]) (own_keep' HO.out.1 ((Only.refl _ _).alloc _)) (by have := HH.out.only.size; simp; omega) ⟨wr.heap.size, 0, none⟩ 1 1 [.int .u32 (((c + u * x) % 4294967296 : Nat) : Int)] (by simp [Act.eval]) rfl (fun j u hj => by rw [← ES.out] at hj; exact box1 wr _ _ j u hj) (by simp [Value.oneCell']) (by decide) (by unfold maxLen; omega) (by omega) ?_; intro v' w' hgr hown; have N := Lib.hid (HH.out.next hi' HO.out HE.out (s := c + u * x) (by rw [A1.out]) (by have := HM.out; omega) hgr hown); clear hgr hown))
      exact ⟨⟨i + 1, (c + u * x) / 4294967296, by go_num, by rw [← ES2.out], N.out⟩, by simp [intOf]; omega⟩
    · have A1 := Lib.hid (show at0 a n i = 0 from if_neg h1)
      by_cases h3 : c = 0
      · subst h3
        obtain ⟨hsl1, hsl2, hsl3, hsl4⟩ : i ≤ cv ∧ cv ≤ maxLen ∧ Bx wr pv i o ∧ (pv = none → i = 0) := by
          obtain ⟨p', c', e, h⟩ := HO.out.slice
          cases e; exact h
        have K := Lib.hid (trim_calls wr pv i cv o hsl1 hsl2 hsl3 hsl4)
        have ev : bv o i = bv a n * x := by
          have := HE.out
          rw [Nat.zero_mul, Nat.add_zero, bv_at0 (by omega)] at this
          exact this
        have EV := Lib.hid ev
        clear hsl1 hsl2 hsl3 hsl4 ev
        go_wp2_with fail
        refine K.out.mono ?_
        rintro e w2 ⟨v, rfl, hv, rfl⟩
        rw [EV.out] at hv
        have HV := Lib.hid hv
        obtain ⟨p6, n6, c6, d6, rfl, _⟩ := hv
        go_wp2_with fail
        go_ret
        exact ⟨_, rfl, HV.out, HH.out.only⟩
      · have hi' : i ≤ n := by have := HH.out.le2; omega
        have h0 : 0 < c := by omega
        have ES2 := Lib.hid (show (c : Int) / 4294967296 = ((c / 4294967296 : Nat) : Int) by omega)
        have EC := Lib.hid (show c % 4294967296 = c from Nat.mod_eq_of_lt hc)
        have ES := Lib.hid (show (c : Int) % 4294967296 = (((c) % 4294967296 : Nat) : Int) from by omega)
        go_wp2_with (at_builtin; go_loud (refine wpList_append_kept _ rfl (.tmp 33) (.tmp 36) 49 rfl 56 i3 (.int .u32 0) 1 4 Try.underlying49 hi3 hz3 hs3 hb3 rfl (by decide) w.heap.size i _ (dl o i) (by simp [Act.eval]) (own_keep' HO.out.1 ((Only.refl _ _).alloc _)) (by have := HH.out.only.size; simp; omega) ⟨wr.heap.size, 0, none⟩ 1 1 [.int .u32 ((c : Nat) : Int)] (by simp [Act.eval]) rfl (fun j u hj => box1 wr _ _ j u hj) (by simp [Value.oneCell']) (by decide) (by unfold maxLen; omega) (by omega) ?_; intro v' w' hgr hown; have N := Lib.hid (HH.out.next hi' HO.out HE.out (s := c) (by rw [A1.out]; omega) (by omega) hgr (by rw [EC.out]; exact hown)); clear hgr hown))
        exact ⟨⟨i + 1, c / 4294967296, by go_num, by rw [← ES2.out], N.out⟩, by simp [intOf]; omega⟩

theorem times_calls (w : World) (va : Value) (x y : Nat) (ha : BigV w va x) (bx : x < W 1000000) (hy : y < 4294967296) :
    Calls Try.prog 38 #[va, .int .u32 (y : Nat)] w fun e w' => ∃ v, e = .returned v ∧ BigV w' v (x * y) ∧ Only (fun _ => False) w w' := by
  obtain ⟨p, n, c1, a, rfl, h1, h2, h3, rfl, h5, h6⟩ := ha
  exact times_in w p n c1 y a (len_lt h5 bx) hy h3

def iv : Nat → Value
  | 0 => .int .i64 (-1)
  | j + 1 => .int .i64 (j : Nat)
theorem iv_eq (k : Nat) : Value.int .i64 ((k : Int) - 1) = iv k := by
  cases k with
  | zero => rfl
  | succ j => show _ = Value.int .i64 (j : Nat); congr 1; omega
set_option maxHeartbeats 4000000 in
theorem greater_calls (w : World) (va vb : Value) (x y : Nat) (ha : BigV w va x) (hb : BigV w vb y) :
    Calls Try.prog 40 #[va, vb] w fun e w' => e = .returned (.bool (decide (y < x))) ∧ Only (fun _ => False) w w' := by
  have HB := Lib.hid hb
  obtain ⟨p, n, c, a, rfl, h1, h2, h3, rfl, h5, h6⟩ := ha
  have K := Lib.hid (trim_calls w p n c a h1 h2 h3 h6)
  clear h1 h2 h3 h5 h6
  have K2 := Lib.hid (show Calls Try.prog 45 #[vb] w (fun e w' => ∃ v, e = .returned v ∧ BigV w v y ∧ w' = w) by
    obtain ⟨p, n, c, a, rfl, h1, h2, h3, rfl, h5, h6⟩ := HB.out
    exact trim_calls w p n c a h1 h2 h3 h6)
  obtain ⟨q, m, c', b, rfl, _⟩ := hb
  generalize bv a n = x at *
  go_enter Try.func40, Try.ntmps40
  go_wp2_with fail
  refine K.out.mono ?_
  rintro e w2 ⟨v, rfl, hv, rfl⟩
  obtain ⟨p, n, c, a, rfl, h1, h2, h3, hx, h5, h6⟩ := hv
  have HX := Lib.hid hx; have HA := Lib.hid h3; have T1 := Lib.hid h5
  clear K h6 hx h3 h5
  go_wp2_with fail
  refine K2.out.mono ?_
  rintro e w3 ⟨v, rfl, hv, rfl⟩
  obtain ⟨q, m, c', b, rfl, k1, k2, k3, hy, k5, k6⟩ := hv
  have HY := Lib.hid hy; have HB' := Lib.hid k3; have T2 := Lib.hid k5
  have hnL : n ≤ 9223372036854775807 := by unfold maxLen at h2; omega
  have hmL : m ≤ 9223372036854775807 := by unfold maxLen at k2; omega
  clear K2 k6 hy k3 k5 h1 h2 k1 k2
  by_cases hnm : n = m
  · subst hnm
    have O0 := Lib.hid (Only.refl (fun _ => False) w3)
    go_wp2_with fail
    go_loopw [5] (fun i wr => ∃ k : Nat, k ≤ n ∧ i = iv k ∧ (∀ j, k ≤ j → j < n → a j = b j) ∧ Only (fun _ => False) w3 wr) (fun i _ => (intOf i + 1).toNat)
    case atStart => exact ⟨n, Nat.le_refl _, iv_eq n, fun j h1 h2 => by omega, O0.out⟩
    case round =>
      obtain ⟨k, hk, hi, hz, hO⟩ := hrel
      have HZ := Lib.hid hz; have HO := Lib.hid hO
      clear hz hO
      by_cases h0 : k = 0
      · subst h0
        obtain rfl : _ = Value.int .i64 (-1) := hi
        have e0 : decide (y < x) = false := by
          rw [decide_eq_false_iff_not, ← HX.out, ← HY.out, bv_same (fun j hj => HZ.out j (Nat.zero_le _) hj)]; omega
        have E0 := Lib.hid e0
        clear e0
        go_wp2_with fail
        go_ret
        exact ⟨by rw [E0.out]; rfl, HO.out⟩
      · obtain ⟨i, rfl⟩ : ∃ i, k = i + 1 := ⟨k - 1, by omega⟩
        obtain rfl : _ = Value.int .i64 (i : Nat) := hi
        obtain ⟨b1, o1, rfl, l1, x1, x2⟩ := HA.out i (by omega)
        obtain ⟨b2, o2, rfl, l2, y1, y2⟩ := HB'.out i (by omega)
        rw [← HO.out.cellAt l1 id] at x1
        rw [← HO.out.cellAt l2 id] at y1
        by_cases he : a i = b i
        · have HZ' := Lib.hid (show ∀ j, i ≤ j → j < n → a j = b j from fun j h1 h2 => by
            by_cases e : j = i
            · rw [e]; exact he
            · exact HZ.out j (by omega) h2)
          rw [he] at x1
          generalize b i = u at *
          generalize a i = u' at *
          clear he x2 l1 l2 h0
          go_wp2_with fail
          go_quiet (fail)
          go_wp2
          go_roundw
          case rel => exact ⟨i, by omega, iv_eq i, HZ'.out, HO.out.drewN _⟩
          case measure => simp [intOf]
        · have r1 : decide (y < x) = decide (((b i : Nat) : Int) < ((a i : Nat) : Int)) := by
            rw [← HX.out, ← HY.out]
            apply decide_eq_decide.2
            have hd1 : Dg a n := Bx.dg HA.out
            have hd2 : Dg b n := Bx.dg HB'.out
            rcases Nat.lt_or_gt_of_ne he with h | h
            · have := bv_gt (d := b) (e := a) (show i < n by omega) (fun j q1 q2 => (HZ.out j (by omega) q2).symm) h hd1
              constructor
              · intro q; omega
              · intro q; omega
            · have := bv_gt (d := a) (e := b) (show i < n by omega) (fun j q1 q2 => HZ.out j (by omega) q2) h hd2
              constructor
              · intro q; omega
              · intro q; omega
          have R1 := Lib.hid r1
          have hq : (((a i : Nat) : Int) == ((b i : Nat) : Int)) = false := by rw [beq_eq_false_iff_ne]; omega
          clear r1
          generalize b i = u at *
          generalize a i = u' at *
          clear he l1 l2 h0
          go_wp2_with fail
          go_quiet (fail)
          go_wp2_with fail
          go_quiet (fail)
          go_wp2_with fail
          go_ret
          exact ⟨by rw [R1.out]; simp, (HO.out.drewN _).drewN _⟩
  · have r1 : decide (y < x) = decide ((m : Int) < (n : Int)) := by
      rw [← HX.out, ← HY.out]
      apply decide_eq_decide.2
      have hd1 : Dg a n := Bx.dg HA.out
      have hd2 : Dg b m := Bx.dg HB'.out
      rcases Nat.lt_or_gt_of_ne hnm with h | h
      · have := bv_longer (d := b) (e := a) h (by have := T2.out; omega) hd1
        constructor
        · intro q; omega
        · intro q; omega
      · have := bv_longer (d := a) (e := b) h (by have := T1.out; omega) hd2
        constructor
        · intro q; omega
        · intro q; omega
    have R1 := Lib.hid r1
    have hq : ((n : Int) == (m : Int)) = false := by rw [beq_eq_false_iff_ne]; omega
    clear r1
    go_wp2_with fail
    go_ret
    exact ⟨by rw [R1.out]; simp, Only.refl _ _⟩

/-- a round of Apart -/
structure ApIn (w : World) (n m : Nat) (a b : Nat → Nat) (i c : Nat) (v : Value) (wr : World) : Prop where
  only : Only (fun _ => False) w wr
  le : i ≤ n
  c1 : c ≤ 1
  row : ∃ o, Own w.heap.size wr v i o ∧ bv o i + bv (at0 b m) i = bv a i + c * W i
theorem ApIn.next {w wr w' : World} {n m i c s c' keep : Nat} {a b o : Nat → Nat} {v v' z : Value} (h : ApIn w n m a b i c v wr) (hi : i < n) (ho : Own w.heap.size wr v i o) (he : bv o i + bv (at0 b m) i = bv a i + c * W i) (hs : s + at0 b m i + c = a i + 4294967296 * c') (hc : c' ≤ 1) (hlt : s < 4294967296)
    (hg : Grew (wr.alloc (.cells #[z] 56)) w' v v' keep) (hown : w'.ownsRow w.heap.size 56 1 v' (i + 1) (dl o i ++ [.int .u32 ((s : Nat) : Int)])) : ApIn w n m a b (i + 1) c' v' w' := by
  refine ⟨(h.only.alloc _).grown hg.grown (fun k hk => .inl (ho.1.lt k hk).1), by omega, hc, put o i s, Own.push ho.2 hlt hown, ?_⟩
  rw [bv_succ, bv_succ, bv_succ, bv_put, show put o i s i = s from if_pos rfl, W_succ]
  have e : (s + at0 b m i + c) * W i = (a i + 4294967296 * c') * W i := by rw [hs]
  rw [Nat.add_mul, Nat.add_mul, Nat.add_mul, Nat.mul_assoc 4294967296 c', Nat.mul_left_comm 4294967296 c'] at e
  rw [Nat.mul_comm (W i) 4294967296]
  omega
def ApR (w : World) (n m : Nat) (a b : Nat → Nat) (v q z : Value) (wr : World) : Prop := ∃ i c : Nat, z = .int .i64 (i : Nat) ∧ q = .int .i64 (c : Nat) ∧ ApIn w n m a b i c v wr
theorem apart_end {n m c : Nat} {a b o : Nat → Nat} (h : bv o n + bv (at0 b m) n = bv a n + c * W n) (hm : m ≤ n) (hd : Dg o n) (hle : bv b m ≤ bv a n) : bv o n = bv a n - bv b m := by
  rw [bv_at0 hm] at h
  have h1 := bv_lt hd
  have : c = 0 := by
    cases c with
    | zero => rfl
    | succ c =>
      have : 1 * W n ≤ (c + 1) * W n := Nat.mul_le_mul_right _ (by omega)
      omega
  subst this
  omega
theorem Own.dg' {B n : Nat} {w : World} {v : Value} {o : Nat → Nat} (h : Own B w v n o) : Dg o n := h.2
theorem own_empty' {w w2 : World} (O : Only (fun _ => False) w w2) : (w2.alloc (.cells #[] 56)).ownsRow w.heap.size 56 1 (.slice (some ⟨w2.heap.size, 0, none⟩) 0 0) 0 [] :=
  ⟨rfl, .inr ⟨w2.heap.size, 0, #[], rfl, O.size, blk_new _ _, Nat.le_refl _, Nat.zero_le _, rfl, rfl⟩⟩
/-- behind the choice of the greater one -/
def ApCut (w : World) (n m : Nat) (a b : Nat → Nat) (va vb : Value) (wr : World) : Prop := ∃ p q c1 c2, va = .slice p n c1 ∧ vb = .slice q m c2 ∧ Bx w p n a ∧ Bx w q m b ∧ Only (fun _ => False) w wr

set_option maxRecDepth 100000 in
set_option maxHeartbeats 4000000 in
theorem apart_calls (w : World) (va vb : Value) (x y : Nat) (ha : BigV w va x) (hb : BigV w vb y) (bx : x < W 1000000) (by' : y < W 1000000) :
    Calls Try.prog 36 #[va, vb] w fun e w' => ∃ v, e = .returned v ∧ BigV w' v (if x < y then y - x else x - y) ∧ Only (fun _ => False) w w' := by
  obtain ⟨i3, hi3, hz3, hs3, hb3⟩ := info_parts info56
  have K := Lib.hid (greater_calls w vb va y x hb ha)
  obtain ⟨p, n0, c1, a0, rfl, h1, h2, h3, rfl, h5, h6⟩ := ha
  obtain ⟨q, m0, c2, b0, rfl, k1, k2, k3, rfl, k5, k6⟩ := hb
  have nL := len_lt h5 bx
  have mL := len_lt k5 by'
  obtain ⟨n, m, a, b, hnm, hnn, hle, hres, hcut⟩ : ∃ n m a b, m ≤ n ∧ n ≤ 1000000 ∧ bv b m ≤ bv a n ∧ bv a n - bv b m = (if bv a0 n0 < bv b0 m0 then bv b0 m0 - bv a0 n0 else bv a0 n0 - bv b0 m0) ∧
      (∀ wr, Only (fun _ => False) w wr → if decide (bv a0 n0 < bv b0 m0) then ApCut w n m a b (.slice q m0 c2) (.slice p n0 c1) wr else ApCut w n m a b (.slice p n0 c1) (.slice q m0 c2) wr) := by
    by_cases hlt : bv a0 n0 < bv b0 m0
    · refine ⟨m0, n0, b0, a0, ?_, mL, by omega, by rw [if_pos hlt], fun wr O => ?_⟩
      · rcases h5 with e | e
        · omega
        · apply Nat.le_of_not_lt; intro hq
          have := bv_longer hq e (Bx.dg k3)
          omega
      · rw [if_pos (by simpa using hlt)]; exact ⟨q, p, c2, c1, rfl, rfl, k3, h3, O⟩
    · refine ⟨n0, m0, a0, b0, ?_, nL, by omega, by rw [if_neg hlt], fun wr O => ?_⟩
      · rcases k5 with e | e
        · omega
        · apply Nat.le_of_not_lt; intro hq
          have := bv_longer hq e (Bx.dg h3)
          omega
      · rw [if_neg (by simpa using hlt)]; exact ⟨p, q, c1, c2, rfl, rfl, h3, k3, O⟩
  rw [← hres]
  have HCUT := Lib.hid hcut
  have HLE := Lib.hid hle
  clear hres hcut hle h1 h2 h3 h5 h6 k1 k2 k3 k5 k6 nL mL bx by'
  generalize hcc : decide (bv a0 n0 < bv b0 m0) = cc at *
  have HCC := Lib.hid hcc
  clear hcc
  go_enter Try.func36, Try.ntmps36
  go_wp2_with fail
  refine K.out.mono ?_
  rintro e w2 ⟨rfl, O2⟩
  have O2' := Lib.hid O2
  clear O2 K
  have C := HCUT.out w2 O2'.out
  clear HCUT
  all_goals cases cc
  all_goals (
    obtain ⟨p', q', c1', c2', e1, e2, ha, hb, O3⟩ : ApCut w n m a b _ _ w2 := C
    simp only [Value.slice.injEq] at e1 e2
    obtain ⟨rfl, hn1, rfl⟩ := e1
    obtain ⟨rfl, hn2, rfl⟩ := e2
    have hn1' := hn1.symm
    have hn2' := hn2.symm
    clear hn1 hn2
    subst hn1'
    subst hn2'
    have HA := Lib.hid ha; have HB := Lib.hid hb
    clear ha hb O3
    go_wp2_with fail
    go_loopw [6, 7, 8] (fun v q z wr => ApR w n m a b v q z wr) (fun _ _ z _ => n - (intOf z).toNat)
    case atStart => exact ⟨0, 0, rfl, rfl, O2'.out.alloc _, by omega, by omega, fun _ => 0, ⟨own_empty' O2'.out, fun i hi => by omega⟩, rfl⟩
    case round =>
      obtain ⟨i, c, rfl, rfl, H⟩ := hrel
      have hi := H.le; have hc := H.c1
      obtain ⟨o, ho, he⟩ := H.row
      have HH := Lib.hid H; have HO := Lib.hid ho; have HE := Lib.hid he; clear H he
      obtain ⟨pv, cv, rfl, _⟩ := ho.slice
      clear ho
      by_cases h1 : i < n
      · obtain ⟨b1, o1, rfl, l1, x1, x2⟩ := HA.out i h1
        rw [← HH.out.only.cellAt l1 id] at x1
        by_cases h2 : i < m
        · obtain ⟨b2, o2, rfl, l2, y1, y2⟩ := HB.out i h2
          rw [← HH.out.only.cellAt l2 id] at y1
          have B1 := Lib.hid (show at0 b m i = b i from if_pos h2)
          generalize hu : a i = u at *
          have HU := Lib.hid hu
          generalize b i = u' at *
          clear l1 l2 hu
          by_cases h3 : u < u' + c
          · have ht : decide ((u : Int) - (c : Int) - (u' : Int) < 0) = true := by rw [decide_eq_true_iff]; omega
            have ES := Lib.hid (show (u : Int) - (c : Int) - (u' : Int) + 4294967296 = (((u + 4294967296 - c - u') : Nat) : Int) from by omega)
            have hsz : u + 4294967296 - c - u' < 4294967296 := by omega
            go_wp2_with (at_builtin; go_loud (refine wpList_append_kept _ rfl (.tmp 45) (.tmp 48) 49 rfl 56 i3 (.int .u32 0) 1 4 Try.underlying49 hi3 hz3 hs3 hb3 rfl (by decide) w.heap.size i _ (dl o i) (by simp [Act.eval]) (own_keep' HO.out.1 ((Only.refl _ _).alloc _)) (by have := HH.out.only.size; simp; omega) ⟨wr.heap.size, 0, none⟩ 1 1 [.int .u32 (((u + 4294967296 - c - u') : Nat) : Int)] (by simp [Act.eval]) rfl (fun j u hj => by rw [← ES.out] at hj; exact box1 wr _ _ j u hj) (by simp [Value.oneCell']) (by decide) (by unfold maxLen; omega) (by omega) ?_; intro v' w' hgr hown; have N := Lib.hid (HH.out.next h1 HO.out HE.out (s := u + 4294967296 - c - u') (c' := 1) (by rw [B1.out, HU.out]; omega) (by omega) (by omega) hgr hown); clear hgr hown))
            exact ⟨⟨i + 1, 1, by go_num, rfl, N.out⟩, by simp [intOf]; omega⟩
          · have ht : decide ((u : Int) - (c : Int) - (u' : Int) < 0) = false := by rw [decide_eq_false_iff_not]; omega
            have ES := Lib.hid (show (u : Int) - (c : Int) - (u' : Int) = (((u - c - u') : Nat) : Int) from by omega)
            have hsz : u - c - u' < 4294967296 := by omega
            go_wp2_with (at_builtin; go_loud (refine wpList_append_kept _ rfl (.tmp 45) (.tmp 48) 49 rfl 56 i3 (.int .u32 0) 1 4 Try.underlying49 hi3 hz3 hs3 hb3 rfl (by decide) w.heap.size i _ (dl o i) (by simp [Act.eval]) (own_keep' HO.out.1 ((Only.refl _ _).alloc _)) (by have := HH.out.only.size; simp; omega) ⟨wr.heap.size, 0, none⟩ 1 1 [.int .u32 (((u - c - u') : Nat) : Int)] (by simp [Act.eval]) rfl (fun j u hj => by rw [← ES.out] at hj; exact box1 wr _ _ j u hj) (by simp [Value.oneCell']) (by decide) (by unfold maxLen; omega) (by omega) ?_; intro v' w' hgr hown; have N := Lib.hid (HH.out.next h1 HO.out HE.out (s := u - c - u') (c' := 0) (by rw [B1.out, HU.out]; omega) (by omega) (by omega) hgr hown); clear hgr hown))
            exact ⟨⟨i + 1, 0, by go_num, rfl, N.out⟩, by simp [intOf]; omega⟩
        · have B1 := Lib.hid (show at0 b m i = 0 from if_neg h2)
          generalize hu : a i = u at *
          have HU := Lib.hid hu
          clear l1 hu
          by_cases h3 : u < c
          · have ht : decide ((u : Int) - (c : Int) < 0) = true := by rw [decide_eq_true_iff]; omega
            have ES := Lib.hid (show (u : Int) - (c : Int) + 4294967296 = (((u + 4294967296 - c) : Nat) : Int) from by omega)
            have hsz : u + 4294967296 - c < 4294967296 := by omega
            go_wp2_with (at_builtin; go_loud (refine wpList_append_kept _ rfl (.tmp 45) (.tmp 48) 49 rfl 56 i3 (.int .u32 0) 1 4 Try.underlying49 hi3 hz3 hs3 hb3 rfl (by decide) w.heap.size i _ (dl o i) (by simp [Act.eval]) (own_keep' HO.out.1 ((Only.refl _ _).alloc _)) (by have := HH.out.only.size; simp; omega) ⟨wr.heap.size, 0, none⟩ 1 1 [.int .u32 (((u + 4294967296 - c) : Nat) : Int)] (by simp [Act.eval]) rfl (fun j u hj => by rw [← ES.out] at hj; exact box1 wr _ _ j u hj) (by simp [Value.oneCell']) (by decide) (by unfold maxLen; omega) (by omega) ?_; intro v' w' hgr hown; have N := Lib.hid (HH.out.next h1 HO.out HE.out (s := u + 4294967296 - c) (c' := 1) (by rw [B1.out, HU.out]; omega) (by omega) (by omega) hgr hown); clear hgr hown))
            exact ⟨⟨i + 1, 1, by go_num, rfl, N.out⟩, by simp [intOf]; omega⟩
          · have ht : decide ((u : Int) - (c : Int) < 0) = false := by rw [decide_eq_false_iff_not]; omega
            have ES := Lib.hid (show (u : Int) - (c : Int) = (((u - c) : Nat) : Int) from by omega)
            have hsz : u - c < 4294967296 := by omega
            go_wp2_with (at_builtin; go_loud (refine wpList_append_kept _ rfl (.tmp 45) (.tmp 48) 49 rfl 56 i3 (.int .u32 0) 1 4 Try.underlying49 hi3 hz3 hs3 hb3 rfl (by decide) w.heap.size i _ (dl o i) (by simp [Act.eval]) (own_keep' HO.out.1 ((Only.refl _ _).alloc _)) (by have := HH.out.only.size; simp; omega) ⟨wr.heap.size, 0, none⟩ 1 1 [.int .u32 (((u - c) : Nat) : Int)] (by simp [Act.eval]) rfl (fun j u hj => by rw [← ES.out] at hj; exact box1 wr _ _ j u hj) (by simp [Value.oneCell']) (by decide) (by unfold maxLen; omega) (by omega) ?_; intro v' w' hgr hown; have N := Lib.hid (HH.out.next h1 HO.out HE.out (s := u - c) (c' := 0) (by rw [B1.out, HU.out]; omega) (by omega) (by omega) hgr hown); clear hgr hown))
            exact ⟨⟨i + 1, 0, by go_num, rfl, N.out⟩, by simp [intOf]; omega⟩
      · obtain rfl : n = i := by omega
        obtain ⟨hsl1, hsl2, hsl3, hsl4⟩ : n ≤ cv ∧ cv ≤ maxLen ∧ Bx wr pv n o ∧ (pv = none → n = 0) := by
          obtain ⟨p', c', e, h⟩ := HO.out.slice
          cases e; exact h
        have K := Lib.hid (trim_calls wr pv n cv o hsl1 hsl2 hsl3 hsl4)
        have EV := Lib.hid (apart_end HE.out hnm HO.out.2 HLE.out)
        clear hsl1 hsl2 hsl3 hsl4
        go_wp2_with fail
        refine K.out.mono ?_
        rintro e w3 ⟨v, rfl, hv, rfl⟩
        rw [EV.out] at hv
        have HV := Lib.hid hv
        obtain ⟨p6, n6, c6, d6, rfl, _⟩ := hv
        go_wp2_with fail
        go_ret
        exact ⟨_, rfl, HV.out, HH.out.only⟩)
end Go.Proofs.Ytgcjhdcplmfjbaa.Bg
