/- The walk of PairBounds. -/
import Derived.Test.YtgcjhdcplmfjbaaBnd6
namespace Go.Proofs.Ytgcjhdcplmfjbaa.Bg
open Go.RowKit Flt

/-- two exact sums -/
structure St (w wr : World) (b3 b8 : Nat) (X : Int) (A : Nat) (X8 : Int) (A8 : Nat) : Prop where
  only : Only (fun _ => False) w wr
  all : XW wr b3 X A
  one : XW wr b8 X8 A8
theorem St.put8 {w wr w' : World} {b3 b8 A A8 A' : Nat} {X X8 X' : Int} (h : St w wr b3 b8 X A X8 A8) (g : w.heap.size ≤ b8) (ne : b3 ≠ b8) (O : Only (· = b8) wr w') (k : XW w' b8 X' A') : St w w' b3 b8 X A X' A' :=
  ⟨h.only.seq2 O (by rintro i rfl; exact .inl g), h.all.only O ne (by rintro b rfl; exact ⟨_, _, h.one⟩), k⟩
theorem St.put3 {w wr w' : World} {b3 b8 A A8 A' : Nat} {X X8 X' : Int} (h : St w wr b3 b8 X A X8 A8) (g : w.heap.size ≤ b3) (ne : b3 ≠ b8) (O : Only (· = b3) wr w') (k : XW w' b3 X' A') : St w w' b3 b8 X' A' X8 A8 :=
  ⟨h.only.seq2 O (by rintro i rfl; exact .inl g), k, h.one.only O (fun e => ne e.symm) (by rintro b rfl; exact ⟨_, _, h.all⟩)⟩
theorem St.next {w wr w' : World} {b3 b8 A A8 : Nat} {X X8 : Int} (h : St w wr b3 b8 X A X8 A8) (O : Only (fun _ => False) wr w') : St w w' b3 b8 X A X8 A8 :=
  ⟨h.only.trans O, h.all.only O id (fun _ q => q.elim), h.one.only O id (fun _ q => q.elim)⟩
theorem floats_own {w' : World} {base : Nat} {p : Option Addr} {n c : Nat} {us : Nat → Nat} (h : w'.ownsRow base 33 1 (.slice p n c) n (fvals us n)) (hu : ∀ j, j < n → us j < 18446744073709551616) : Floats w' p n us := by
  constructor
  intro j hj
  rcases h.2 with ⟨_, e⟩ | ⟨g, cap, cur, e, _, h3, h4, _, h6, h7⟩
  · omega
  · cases e
    refine ⟨g, 0, rfl, blk_lt h3, ?_, hu j hj⟩
    have : (fvals us n)[j]? = some (.float .f64 (us j)) := by simp [fvals, hj]
    rw [blk_cell h3, Nat.zero_add, ← this, ← h7, List.getElem?_take, if_pos (by omega), Array.getElem?_toList]
/-- behind i groups -/
structure OutR (w wr : World) (b3 : Nat) (m : Nat → Nat) (len : Nat → Nat → Nat) (f : Nat → Nat → Nat → Nat) (i s c : Nat) : Prop where
  only : Only (fun _ => False) w wr
  all : XW wr b3 (aX m len f i) (aA m len f i)
  pw : Flt.PW s c (aX m len f i) (aA m len f i) (wK m len i)
def OutV (w : World) (n b3 : Nat) (m : Nat → Nat) (len : Nat → Nat → Nat) (f : Nat → Nat → Nat → Nat) (v4 v5 v6 v7 : Value) (wr : World) : Prop :=
  ∃ i s c x y, i ≤ n ∧ v7 = .int .i64 (i : Nat) ∧ v4 = .complex .f64 s c ∧ v5 = .int .u64 (x : Nat) ∧ v6 = .int .u64 (y : Nat) ∧ x = aN m len i ∧ y = aL m i ∧ OutR w wr b3 m len f i s c
def MidV (w : World) (b3 b8 x0 : Nat) (X0 : Int) (A0 mi : Nat) (len : Nat → Nat) (f : Nat → Nat → Nat) (v5 v9 v10 v11 : Value) (wr : World) : Prop :=
  ∃ k s c x y, k ≤ mi ∧ v11 = .int .i64 (k : Nat) ∧ v9 = .complex .f64 s c ∧ v5 = .int .u64 (x : Nat) ∧ v10 = .int .u64 (y : Nat) ∧ x = x0 + N1 len k ∧ y = 2 * mi + N1 len k ∧ Flt.PW s c (gX len f k) (gA len f k) (gK len k) ∧ (k = 0 → s = 0 ∧ c = 0) ∧ St w wr b3 b8 (X0 + gX len f k) (A0 + gA len f k) (gX len f k) (gA len f k)
def InV (w : World) (b3 b8 : Nat) (X : Int) (A : Nat) (X8 : Int) (A8 ln : Nat) (us : Nat → Nat) (v13 : Value) (wr : World) : Prop :=
  ∃ j, j ≤ ln ∧ v13 = .int .i64 (j : Nat) ∧ St w wr b3 b8 (X + lX us j) (A + lA us j) (X8 + lX us j) (A8 + lA us j)
theorem sim2_pw {p q : Nat × Nat} {X : Int} {A k : Nat} (h : Sim2 p q) (hq : Flt.PW q.1 q.2 X A k) : p = q :=
  h.eq_of (nan_no hq.fs) (nan_no hq.fc)
set_option maxRecDepth 100000 in
set_option maxHeartbeats 20000000 in
theorem bounds_any (p : Option Addr) (n c0 : Nat) (m : Nat → Nat) (len : Nat → Nat → Nat) (f : Nat → Nat → Nat → Nat) (w : World) (hT : T2 m len n ≤ 1048576) (hn : n ≤ 1048576) (h : Gs w p n m len f) :
    Calls Try.prog 4 #[.slice p n c0] w fun e w' => e = .returned (.bool true) ∧ Only (fun _ => False) w w' := by
  have hIn : ∀ i, i < n → T2 m len i + 1 + T1 (len i) (m i) ≤ 1048576 := fun i hi => Nat.le_trans (T_in hi (Nat.le_refl _)) hT
  have hM : ∀ i, i < n → m i ≤ 1048576 := fun i hi => by have := hIn i hi; have := T1_ge (len := len i) (n := m i); omega
  have hL : ∀ i, i < n → ∀ k, k < m i → T1 (len i) (k + 1) ≤ 1048576 := fun i hi k hk => by have := hIn i hi; have := T1_le (len := len i) (show k + 1 ≤ m i from hk); omega
  have hL2 : ∀ i, i < n → ∀ k, k < m i → len i k ≤ 1048576 := fun i hi k hk => by have := hL i hi k hk; have : T1 (len i) (k + 1) = T1 (len i) k + (1 + len i k) := rfl; omega
  have HB := Lib.hid (beyond_calls p n c0 m len f w hT hn h)
  have HMay := Lib.hid (may_calls p n c0 m len f w hn hM hL2 h)
  have H := Lib.hid h; have HT := Lib.hid hT; have HM := Lib.hid hM; have HL := Lib.hid hL; have HL2 := Lib.hid hL2
  clear h hT hM hL hL2 hIn
  have k1 := run_tobits
  go_enter Try.func4, Try.ntmps4
  go_wp2_with fail
  refine HB.out.mono ?_
  rintro e w1 ⟨rfl, rfl⟩
  go_wp2_with fail
  refine HMay.out.mono ?_
  rintro e w2 ⟨q, rfl, hq, rfl⟩
  clear HB HMay
  cases q
  · clear hq
    go_wp2_with fail
    refine (fixed_any _).mono ?_
    rintro e w3 ⟨rfl, O⟩
    have OO := Lib.hid O
    clear O
    go_wp2_with fail
    go_ret
    exact ⟨rfl, OO.out⟩
  · have OK := Lib.hid (hq rfl)
    clear hq
    have hx := xw_new w2
    have HX := Lib.hid hx; have O1 := Lib.hid ((Only.refl (fun _ => False) w2).alloc (.cells #[.slice none 0 0, .slice none 0 0] 51))
    have L1 := Lib.hid (Nat.le_refl w2.heap.size)
    clear hx
    go_wp2_with fail
    generalize hw3 : w2.alloc (.cells #[.slice none 0 0, .slice none 0 0] 51) = w3 at *
    have G3 := Lib.hid (show w2.heap.size < w3.heap.size by rw [← hw3]; simp)
    clear hw3
    generalize hb3 : w2.heap.size = b3 at *
    have B3 := Lib.hid hb3
    clear hb3
    go_loopw [4, 5, 6, 7] (fun v4 v5 v6 v7 wr => OutV w2 n b3 m len f v4 v5 v6 v7 wr) (fun _ _ _ v7 _ => n - (intOf v7).toNat)
    case atStart => exact ⟨0, 0, 0, 0, 0, Nat.zero_le _, rfl, rfl, rfl, rfl, rfl, rfl, O1.out, HX.out, PW.zero⟩
    case round =>
      obtain ⟨i, s, c, x, y, hi, rfl, rfl, rfl, rfl, hx, hy, R⟩ := hrel
      have HR := Lib.hid R; have EX := Lib.hid hx; have EY := Lib.hid hy
      have hti := aT (m := m) (len := len) (i := i)
      have hti2 : T2 m len i ≤ 1048576 := Nat.le_trans (T2_le hi) HT.out
      have hxl : x ≤ 1048576 := by omega
      have hyl : y ≤ 1048576 := by omega
      clear R hx hy hti hti2
      by_cases hlt : i < n
      · obtain ⟨b, o, q, cq, rfl, lb, x1, hg⟩ := H.out i hlt
        have HG := Lib.hid hg
        have LB := Lib.hid lb
        have X1 := Lib.hid x1
        have hmi := HM.out i hlt
        have y1 := x1
        rw [← HR.out.only.cellAt lb id] at y1
        have OKi := Lib.hid (OK.out i hlt)
        have HLi := Lib.hid (HL.out i hlt); have HLi2 := Lib.hid (HL2.out i hlt)
        have hz := xw_new wr
        have O2 := Lib.hid ((Only.refl (fun _ => False) wr).alloc (.cells #[.slice none 0 0, .slice none 0 0] 51))
        have Y2 := Lib.hid (show (wr.alloc (.cells #[.slice none 0 0, .slice none 0 0] 51)).cell? ⟨b, o + i, none⟩ = some (.slice q (m i) cq) from (O2.out.cellAt (Nat.lt_of_lt_of_le lb HR.out.only.size) id _).trans y1)
        have S0 := Lib.hid (show St w2 (wr.alloc (.cells #[.slice none 0 0, .slice none 0 0] 51)) b3 wr.heap.size (aX m len f i) (aA m len f i) 0 0 from ⟨HR.out.only.trans O2.out, HR.out.all.only O2.out id (fun _ q => q.elim), hz⟩)
        have G8 := Lib.hid (show w2.heap.size ≤ wr.heap.size from HR.out.only.size)
        have NE := Lib.hid (show b3 ≠ wr.heap.size from fun e => by
          obtain ⟨P, Q, va, vb, h, _⟩ := HR.out.all
          have := blk_lt h.blk
          omega)
        clear hg lb x1 hz O2
        have y2 := Y2.out
        go_wp2_with fail
        generalize wr.alloc (.cells #[.slice none 0 0, .slice none 0 0] 51) = w4 at *
        generalize wr.heap.size = b8 at *
        clear y2 y1
        go_loopw [5, 9, 10, 11] (fun v5 v9 v10 v11 wr => MidV w2 b3 b8 x (aX m len f i) (aA m len f i) (m i) (len i) (f i) v5 v9 v10 v11 wr) (fun _ _ _ v11 _ => m i - (intOf v11).toNat)
        case atStart => exact ⟨0, 0, 0, x, 2 * m i, Nat.zero_le _, rfl, rfl, rfl, (by first | rfl | go_num), rfl, rfl, PW.zero, fun _ => ⟨rfl, rfl⟩, by have := S0.out; simpa [gX, gA] using this⟩
        case round =>
          obtain ⟨k, s8, c8, x5, x10, hk, rfl, rfl, rfl, rfl, h5, h10, hpw, hz, hst⟩ := hrel
          have H5 := Lib.hid h5; have H10 := Lib.hid h10; have HPW := Lib.hid hpw; have HZ := Lib.hid hz; have HST := Lib.hid hst
          have hnt := N1_T1 (len := len i) (k := k)
          have hnt2 : T1 (len i) k ≤ 1048576 := Nat.le_trans (T1_le hk) (by
            have := T_in (len := len) hlt (Nat.le_refl (m i)); have := HT.out; omega)
          have hx5 : x5 ≤ 3145728 := by omega
          have hx10 : x10 ≤ 3145728 := by omega
          have y1 := X1.out
          rw [← HST.out.only.cellAt LB.out id] at y1
          clear h5 h10 hpw hz hst hnt hnt2
          by_cases hk2 : k < m i
          · obtain ⟨b2, o2, r, c2, rfl, l2, z1, hwd⟩ := HG.out k hk2
            rw [← HST.out.only.cellAt l2 id] at z1
            have HW := Lib.hid hwd
            have hlk := HLi2.out k hk2
            have OKk := Lib.hid (OKi.out k hk2)
            have FL := Lib.hid (floats_any r (len i k) c2 (f i k) wr (by omega) (hwd.kept HST.out.only (fun _ _ => id)))
            clear l2 hwd
            go_wp2_with fail
            refine FL.out.mono ?_
            rintro e w5 ⟨v, rfl, O5, ho⟩
            obtain ⟨pv, cv, rfl⟩ : ∃ pv cv, v = .slice pv (len i k) cv := by
              rcases ho.2 with ⟨e, e2⟩ | ⟨g, cap, cur, e, _⟩
              · exact ⟨none, 0, by rw [e, e2]⟩
              · exact ⟨_, _, e⟩
            have PO := Lib.hid (pof_any pv (len i k) cv (f i k) w5 (by omega) (floats_own ho (fun j hj => by obtain ⟨_, _, _, _, _, q⟩ := HW.out.at_ j hj; exact q)))
            have S5 := Lib.hid (HST.out.next O5)
            clear O5 ho FL y1 z1
            go_wp2_with fail
            refine PO.out.mono ?_
            rintro e w6 ⟨⟨q1, q2⟩, rfl, hs2, _, St6⟩
            have RP := Lib.hid (rof_pw (us := f i k) (n := len i k) OKk.out hlk)
            obtain ⟨rfl, rfl⟩ : q1 = (rof (f i k) (len i k)).1 ∧ q2 = (rof (f i k) (len i k)).2 := by
              have := sim2_pw hs2 RP.out
              exact ⟨congrArg Prod.fst this, congrArg Prod.snd this⟩
            have S6 := Lib.hid (S5.out.next (St6.only _))
            have PM := Lib.hid (pmerge_any (s8, c8) (rof (f i k) (len i k)) w6 ⟨HPW.out.ls, HPW.out.lc⟩ (rof_ok _ _))
            have GS := Lib.hid (group_step HPW.out (fun k' hk' => OKi.out k' (by omega)) (HLi.out k hk2))
            clear hs2 St6 PO S5 RP
            go_wp2_with fail
            refine PM.out.mono ?_
            rintro e w7 ⟨⟨q1, q2⟩, rfl, hs2, _, St7⟩
            obtain ⟨rfl, rfl⟩ : q1 = (rmerge (s8, c8) (rof (f i k) (len i k))).1 ∧ q2 = (rmerge (s8, c8) (rof (f i k) (len i k))).2 := by
              have := sim2_pw hs2 GS.out
              exact ⟨congrArg Prod.fst this, congrArg Prod.snd this⟩
            have S7 := Lib.hid (S6.out.next (St7.only _))
            clear hs2 St7 PM S6
            generalize (rmerge (s8, c8) (rof (f i k) (len i k))).1 = s9 at *
            generalize (rmerge (s8, c8) (rof (f i k) (len i k))).2 = c9 at *
            go_wp2_with fail
            go_loopw [13] (fun v13 wr => InV w2 b3 b8 (aX m len f i + gX (len i) (f i) k) (aA m len f i + gA (len i) (f i) k) (gX (len i) (f i) k) (gA (len i) (f i) k) (len i k) (f i k) v13 wr) (fun v13 _ => len i k - (intOf v13).toNat)
            case atStart => exact ⟨0, Nat.zero_le _, rfl, by have := S7.out; simpa [lX, lA] using this⟩
            case round =>
              obtain ⟨j, hj, rfl, hst⟩ := hrel
              have HS := Lib.hid hst
              clear hst
              by_cases hj2 : j < len i k
              · obtain ⟨b4, o4, rfl, l4, z1, z2⟩ := HW.out.at_ j hj2
                rw [← HS.out.only.cellAt l4 id] at z1
                have hmj := OKk.out j hj2
                have e5 := N1_T1 (len := len i) (k := k + 1)
                have e6 : N1 (len i) (k + 1) = N1 (len i) k + len i k := rfl
                have e7 := HLi.out k hk2
                have e8 := T_in (len := len) hlt (show k + 1 ≤ m i from hk2)
                have e9 := aT (m := m) (len := len) (i := i)
                have a1 := lA_le (us := f i k) (n := j) (fun j' hj' => OKk.out j' (by omega))
                have a2 := gA_le (len := len i) (f := f i) (n := k) (fun k' hk' => OKi.out k' (by omega))
                have a3 := aA_le (m := m) (len := len) (f := f) (n := i) (fun i' hi' => OK.out i' (by omega))
                have HT' := HT.out
                have P8 := Lib.hid (xput_calls (f i k j) b8 _ _ wr z2 (by omega) HS.out.one (smallW (c := N1 (len i) k + j) (by omega) (by rw [Nat.add_mul]; omega)))
                have BA := Lib.hid (smallW (c := aN m len i + N1 (len i) k + j) (A := aA m len f i + gA (len i) (f i) k + lA (f i k) j) (by omega) (by rw [Nat.add_mul, Nat.add_mul]; omega))
                have Z2 := Lib.hid z2
                have FM := Lib.hid (show mag (f i k j) < 9218868437227405312 by omega)
                have NX : Hid ((val (f i k j)).natAbs + lA (f i k) j = lA (f i k) (j + 1) ∧ val (f i k j) + lX (f i k) j = lX (f i k) (j + 1)) := Lib.hid ⟨Nat.add_comm _ _, Int.add_comm _ _⟩
                clear l4 z2 hmj e5 e6 e7 e8 e9 a1 a2 a3 HT'
                go_wp2_with fail
                refine P8.out.mono ?_
                rintro e w8 ⟨rfl, hw8, O8⟩
                have S8 := Lib.hid (HS.out.put8 G8.out NE.out O8 hw8)
                have z1' : w8.cell? ⟨b4, o4 + j, none⟩ = some (.int .u64 (f i k j : Nat)) := by
                  obtain ⟨b4', o4', e, l4, z1, _⟩ := HW.out.at_ j hj2
                  cases e
                  rw [← S8.out.only.cellAt l4 id] at z1
                  exact z1
                clear P8 hw8 O8 z1
                go_wp2_with fail
                refine (xput_calls (f i k j) b3 _ _ w8 Z2.out FM.out S8.out.all BA.out).mono ?_
                rintro e w9 ⟨rfl, hw9, O9⟩
                have S9 := Lib.hid (S8.out.put3 (by rw [B3.out]; exact Nat.le_refl _) NE.out O9 hw9)
                clear hw9 O9 S8 z1'
                go_wp2_with fail
                refine ⟨⟨j + 1, hj2, by go_num, ?_⟩, by simp [intOf]; omega⟩
                have := S9.out
                rw [← NX.out.1, ← NX.out.2]
                rw [show aX m len f i + gX (len i) (f i) k + (val (f i k j) + lX (f i k) j) = aX m len f i + gX (len i) (f i) k + lX (f i k) j + val (f i k j) by omega, show aA m len f i + gA (len i) (f i) k + ((val (f i k j)).natAbs + lA (f i k) j) = aA m len f i + gA (len i) (f i) k + lA (f i k) j + (val (f i k j)).natAbs by omega,
                  show gX (len i) (f i) k + (val (f i k j) + lX (f i k) j) = gX (len i) (f i) k + lX (f i k) j + val (f i k j) by omega, show gA (len i) (f i) k + ((val (f i k j)).natAbs + lA (f i k) j) = gA (len i) (f i) k + lA (f i k) j + (val (f i k j)).natAbs by omega]
                exact this
              · obtain rfl : len i k = j := by omega
                have HN := Lib.hid (show N1 (len i) (k + 1) = N1 (len i) k + len i k from rfl)
                have FIN := Lib.hid (show St w2 wr b3 b8 (aX m len f i + gX (len i) (f i) (k + 1)) (aA m len f i + gA (len i) (f i) (k + 1)) (gX (len i) (f i) (k + 1)) (gA (len i) (f i) (k + 1)) by
                  have := HS.out
                  rw [Int.add_assoc, Nat.add_assoc] at this
                  exact this)
                go_wp2_with fail
                exact ⟨⟨k + 1, s9, c9, x5 + len i k, x10 + len i k, hk2, by go_num, rfl, by go_num, by go_num, by rw [HN.out, H5.out, Nat.add_assoc], by rw [HN.out, H10.out, Nat.add_assoc], GS.out, fun e => by omega, FIN.out⟩, by simp [intOf]; omega⟩
          · obtain rfl : m i = k := by omega
            have a2 := gA_le OKi.out
            have e5 := N1_T1 (len := len i) (k := m i)
            have e8 := T_in (len := len) hlt (Nat.le_refl (m i))
            have HT' := HT.out
            have SM := small (c := N1 (len i) (m i)) (by omega) a2
            have T := HPW.out.total SM
            have hK : gK (len i) (m i) = x10 := by rw [H10.out]; unfold gK; omega
            rw [hK, k_form] at T
            obtain ⟨t1, t2, t3⟩ := T
            have NT := Lib.hid (nan_no t1)
            have FT := Lib.hid t1
            have NE' := Lib.hid t3
            have ST := Lib.hid (fun w1 => stays2 s8 c8 _ _ _ w1 HPW.out SM)
            have SW := Lib.hid (smallW (c := N1 (len i) (m i)) (by omega) a2)
            have WS := Lib.hid (whole_step HR.out.pw HPW.out (fun e => HZ.out e) (fun i' hi' => OK.out i' (by omega)) (Nat.le_trans (T2_le (show i + 1 ≤ n from hlt)) HT'))
            have RL := Lib.hid (radd_word s8 c8)
            have PM := Lib.hid (fun w1 => pmerge_any (s, c) (s8, c8) w1 ⟨HR.out.pw.ls, HR.out.pw.lc⟩ ⟨HPW.out.ls, HPW.out.lc⟩)
            clear a2 e5 e8 HT' SM t1 t2 t3 hK
            generalize hmm : m i = mi at *
            have HMM := Lib.hid hmm
            clear hmm
            go_wp2_with fail
            refine (ST.out _).mono ?_
            rintro e w5 ⟨rfl, O5⟩
            have S5 := Lib.hid (HST.out.next O5)
            clear O5 ST y1
            go_wp2_with fail
            refine (ptotal_any (s8, c8) _).mono ?_
            rintro e w6 ⟨r, rfl, r1, _, St6⟩
            dsimp only at r1
            obtain rfl := r1.eq_of NT.out
            have S6 := Lib.hid (S5.out.next (St6.only _))
            clear r1 St6 S5 NT
            generalize radd s8 c8 = r at *
            go_wp2_with fail
            refine (xnear_calls r b8 _ 2 x10 _ w6 S6.out.one RL.out FT.out (by omega) (by omega) SW.out NE'.out).mono ?_
            rintro e w7 ⟨rfl, O7⟩
            have S7 := Lib.hid (S6.out.next O7)
            clear O7 S6 RL FT SW NE'
            go_wp2_with fail
            refine (PM.out _).mono ?_
            rintro e w8 ⟨⟨q1, q2⟩, rfl, hs2, _, St8⟩
            obtain ⟨rfl, rfl⟩ : q1 = (rmerge (s, c) (s8, c8)).1 ∧ q2 = (rmerge (s, c) (s8, c8)).2 := by
              have := sim2_pw hs2 WS.out
              exact ⟨congrArg Prod.fst this, congrArg Prod.snd this⟩
            have S8 := Lib.hid (S7.out.next (St8.only _))
            clear hs2 St8 PM S7
            generalize (rmerge (s, c) (s8, c8)).1 = s9 at *
            generalize (rmerge (s, c) (s8, c8)).2 = c9 at *
            have FIN := Lib.hid (show OutR w2 w8 b3 m len f (i + 1) s9 c9 from ⟨S8.out.only, by rw [← HMM.out] at S8; exact S8.out.all, WS.out⟩)
            have XN := Lib.hid (show x5 = aN m len (i + 1) by rw [H5.out, EX.out, ← HMM.out]; rfl)
            have YN := Lib.hid (show y + mi = aL m (i + 1) by rw [EY.out, ← HMM.out]; rfl)
            go_wp2_with fail
            exact ⟨⟨i + 1, s9, c9, x5, y + mi, hlt, by go_num, rfl, rfl, by go_num, XN.out, YN.out, FIN.out⟩, by simp [intOf]; omega⟩
      · obtain rfl : n = i := by omega
        have a2 := aA_le OK.out
        have e5 := aT (m := m) (len := len) (i := n)
        have HT' := HT.out
        have SM := small (c := aN m len n) (by omega) a2
        obtain ⟨t1, t2, t3⟩ := HR.out.pw.total SM
        have hK : wK m len n = 2 * (x + 2 * y) := by rw [EX.out, EY.out]; rfl
        rw [hK] at t3
        have t4 := Nat.le_trans t3 (Nat.add_le_add_left (k_form16 (x + 2 * y) (aA m len f n)) _)
        have NT := Lib.hid (nan_no t1)
        have FT := Lib.hid t1
        have NE' := Lib.hid t4
        have ST := Lib.hid (fun w1 => stays2 s c _ _ _ w1 HR.out.pw SM)
        have SW := Lib.hid (smallW (c := aN m len n) (by omega) a2)
        have RL := Lib.hid (radd_word s c)
        have EM := Lib.hid (show ((x + 2 * y : Nat) : Int) = (x : Int) + 2 * (y : Int) by omega)
        clear a2 e5 HT' SM t1 t2 t3 t4 hK
        go_wp2_with fail
        refine (ST.out _).mono ?_
        rintro e w5 ⟨rfl, O5⟩
        have A5 := Lib.hid (HR.out.all.only O5 id (fun _ q => q.elim))
        have S5 := Lib.hid (HR.out.only.trans O5)
        clear O5 ST
        go_wp2_with fail
        refine (ptotal_any (s, c) _).mono ?_
        rintro e w6 ⟨r, rfl, r1, _, St6⟩
        dsimp only at r1
        obtain rfl := r1.eq_of NT.out
        have O6 : Only (fun _ => False) w5 w6 := St6.only _
        have A6 := Lib.hid (A5.out.only O6 id (fun _ q => q.elim))
        have S6 := Lib.hid (S5.out.trans O6)
        clear r1 St6 S5 A5 O6 NT
        generalize radd s c = r at *
        have K := xnear_calls r b3 _ 16 (x + 2 * y) _ w6 A6.out RL.out FT.out (by omega) (by omega) SW.out NE'.out
        rw [EM.out] at K
        have HK := Lib.hid K
        clear K
        go_wp2_with fail
        refine HK.out.mono ?_
        rintro e w7 ⟨rfl, O7⟩
        have S7 := Lib.hid (S6.out.trans O7)
        clear O7 S6 HK
        go_wp2_with fail
        refine (fixed_any _).mono ?_
        rintro e w8 ⟨rfl, O8⟩
        have S8 := Lib.hid (S7.out.trans O8)
        clear O8 S7
        go_wp2_with fail
        go_ret
        exact ⟨rfl, S8.out⟩
end Go.Proofs.Ytgcjhdcplmfjbaa.Bg
