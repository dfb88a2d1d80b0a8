/- The walks of the reference's exact sums: Whole, Put. -/
import Derived.Test.YtgcjhdcplmfjbaaBgw3
namespace Go.Proofs.Ytgcjhdcplmfjbaa.Bg
open Go.RowKit Flt

theorem ex_le {g : Nat} (h : g < 9218868437227405312) : ∃ k : Nat, ex g = (k : Int) - 1074 ∧ k ≤ 2045 ∧ (ex g + 1074).toNat = k := by
  have h1 : -1074 ≤ ex g := ex_ge g
  refine ⟨(ex g + 1074).toNat, by omega, ?_, rfl⟩
  unfold ex
  split <;> omega
theorem two_bx {w : World} {x y : Nat} (hx : x < 4294967296) (hy : y < 4294967296) : Bx (w.alloc (.cells #[.int .u32 (x : Nat), .int .u32 (y : Nat)] 56)) (some ⟨w.heap.size, 0, none⟩) 2 (fun i => if i = 0 then x else y) := by
  intro i hi
  have hb := blk_new w (.cells #[.int .u32 (x : Nat), .int .u32 (y : Nat)] 56)
  refine ⟨w.heap.size, 0, rfl, blk_lt hb, ?_, ?_⟩
  · rw [blk_cell hb]
    rcases (show i = 0 ∨ i = 1 by omega) with rfl | rfl <;> rfl
  · dsimp only; split <;> assumption
theorem two_bv (s : Nat) (_ : s < 9007199254740992) : bv (fun i => if i = 0 then s % 4294967296 else s / 4294967296) 2 = s := by
  simp only [bv, W]
  simp
  omega
set_option maxHeartbeats 1000000 in
theorem whole_calls (a : Nat) (w : World) (ha : a < 18446744073709551616) (fa : mag a < 9218868437227405312) :
    Calls Try.prog 33 #[.int .u64 (a : Nat)] w fun e w' => ∃ v, e = .returned v ∧ BigV w' v (V (mag a)) ∧ Only (fun _ => False) w w' := by
  obtain ⟨k, hk, hk2, hk3⟩ := ex_le fa
  have hv : V (mag a) = sig (mag a) * 2 ^ k := by unfold V; rw [hk3]
  have hs := sig_lt (mag a)
  have K := parts_any a w ha
  rw [hk] at K
  rw [hv]
  have HV := Lib.hid (two_bv (sig (mag a)) (by simpa using hs))
  generalize sig (mag a) = s at *
  have hs' : s < 9007199254740992 := by simpa using hs
  have e1 : ((s : Int) % 4294967296) = ((s % 4294967296 : Nat) : Int) := by omega
  have e3 : ((s : Int) / 4294967296) = ((s / 4294967296 : Nat) : Int) := by omega
  have K2 := up_in (w.alloc (.cells #[.int .u32 ((s % 4294967296 : Nat) : Int), .int .u32 ((s / 4294967296 : Nat) : Int)] 56)) (some ⟨w.heap.size, 0, none⟩) 2 2 k _ (by omega) (by omega) (two_bx (Nat.mod_lt _ (by omega)) (by omega))
  rw [HV.out, ← e1, ← e3] at K2
  have HK := Lib.hid K; have HK2 := Lib.hid K2
  have HO := Lib.hid ((Only.refl (fun _ => False) w).alloc (.cells #[.int .u32 ((s : Int) % 4294967296), .int .u32 ((s : Int) / 4294967296)] 56))
  clear K K2 hs hk hk3 hv e1 e3 fa ha HV
  go_enter Try.func33, Try.ntmps33
  go_wp2_with fail
  refine HK.out.mono ?_
  rintro e w2 ⟨rfl, rfl⟩
  go_wp2_with fail
  refine HK2.out.mono ?_
  rintro e w3 ⟨v, rfl, hv, O3⟩
  have HV := Lib.hid hv; have P := Lib.hid (HO.out.trans O3)
  obtain ⟨p6, n6, c6, d6, rfl, _⟩ := hv
  clear O3 HO
  go_wp2_with fail
  go_ret
  exact ⟨_, rfl, HV.out, P.out⟩

/-- a slice of any kind -/
def IsSl (v : Value) : Prop := ∃ p n c, v = .slice p n c
theorem BigV.sl {w : World} {v : Value} {x : Nat} (h : BigV w v x) : IsSl v := by
  obtain ⟨p, n, c, d, e, _⟩ := h
  exact ⟨p, n, c, e⟩
/-- an exact sum at b -/
structure Exa (w : World) (b X Y : Nat) (va vb : Value) : Prop where
  blk : w.heap[b]? = some (.cells #[va, vb] 51 (0, 0))
  a : BigV w va X
  b : BigV w vb Y
theorem Exa.not {w : World} {b X Y : Nat} {va vb : Value} (h : Exa w b X Y va vb) {o : Nat} {k : IntKind} {n : Int} (hc : w.cell? ⟨b, o, none⟩ = some (.int k n)) : False := by
  obtain ⟨p, n1, c, rfl⟩ := h.a.sl
  obtain ⟨q, m1, c2, rfl⟩ := h.b.sl
  rw [blk_cell h.blk] at hc
  rcases (show o = 0 ∨ o = 1 ∨ 2 ≤ o by omega) with rfl | rfl | q
  · cases hc
  · cases hc
  · rw [Array.getElem?_eq_none (by simpa using q)] at hc; cases hc
theorem Bx.upd {w w' : World} {p : Option Addr} {n : Nat} {d : Nat → Nat} {S : Nat → Prop} (h : Bx w p n d) (O : Only S w w') (hs : ∀ b, S b → ∃ X Y va vb, Exa w b X Y va vb) : Bx w' p n d := by
  intro i hi
  obtain ⟨b, o, e, h1, h2, h3⟩ := h i hi
  have hb : ¬ S b := fun q => by
    obtain ⟨X, Y, va, vb, q⟩ := hs b q
    exact q.not h2
  exact ⟨b, o, e, Nat.lt_of_lt_of_le h1 O.size, by rw [O.cellAt h1 hb, h2], h3⟩
theorem BigV.upd {w w' : World} {v : Value} {x : Nat} {S : Nat → Prop} (h : BigV w v x) (O : Only S w w') (hs : ∀ b, S b → ∃ X Y va vb, Exa w b X Y va vb) : BigV w' v x := by
  obtain ⟨p, n, c, d, e, h1, h2, h3, h4⟩ := h
  exact ⟨p, n, c, d, e, h1, h2, h3.upd O hs, h4⟩
theorem Exa.only {w w' : World} {b X Y : Nat} {va vb : Value} {S : Nat → Prop} (h : Exa w b X Y va vb) (O : Only S w w') (hb : ¬ S b) (hs : ∀ b, S b → ∃ X Y va vb, Exa w b X Y va vb) : Exa w' b X Y va vb :=
  ⟨O.blk h.blk hb, h.a.upd O hs, h.b.upd O hs⟩
theorem Exa.setA {w : World} {b X Y X' : Nat} {va vb v : Value} (h : Exa w b X Y va vb) (hv : BigV w v X') : Exa (w.setCell ⟨b, 0, none⟩ v) b X' Y v vb := by
  have O : Only (· = b) w (w.setCell ⟨b, 0, none⟩ v) := (Only.refl (· = b) w).setCell (p := ⟨b, 0, none⟩) (.inr rfl) v
  have hs : ∀ g, g = b → ∃ X Y va vb, Exa w g X Y va vb := fun g e => ⟨X, Y, va, vb, e ▸ h⟩
  exact ⟨blk_set h.blk _ _, hv.upd O hs, h.b.upd O hs⟩
theorem Exa.setB {w : World} {b X Y Y' : Nat} {va vb v : Value} (h : Exa w b X Y va vb) (hv : BigV w v Y') : Exa (w.setCell ⟨b, 1, none⟩ v) b X Y' va v := by
  have O : Only (· = b) w (w.setCell ⟨b, 1, none⟩ v) := (Only.refl (· = b) w).setCell (p := ⟨b, 1, none⟩) (.inr rfl) v
  have hs : ∀ g, g = b → ∃ X Y va vb, Exa w g X Y va vb := fun g e => ⟨X, Y, va, vb, e ▸ h⟩
  exact ⟨blk_set h.blk _ _, h.a.upd O hs, hv.upd O hs⟩
def addA (a X : Nat) : Nat := if neg a then X else X + V (mag a)
def addB (a Y : Nat) : Nat := if neg a then Y + V (mag a) else Y
structure ExC (w : World) (b : Nat) (va vb : Value) : Prop where
  c0 : w.cell? ⟨b, 0, none⟩ = some va
  c1 : w.cell? ⟨b, 1, none⟩ = some vb
  f0 : w.frozen? ⟨b, 0, none⟩ = false
  f1 : w.frozen? ⟨b, 1, none⟩ = false
theorem Exa.cells {w : World} {b X Y : Nat} {va vb : Value} (h : Exa w b X Y va vb) : ExC w b va vb :=
  ⟨by rw [blk_cell h.blk]; rfl, by rw [blk_cell h.blk]; rfl, blk_free h.blk _, blk_free h.blk _⟩
set_option maxHeartbeats 2000000 in
theorem put_calls (a b X Y : Nat) (va vb : Value) (w : World) (ha : a < 18446744073709551616) (fa : mag a < 9218868437227405312) (h : Exa w b X Y va vb) (bx : X < W 1000) (by' : Y < W 1000) (bv : V (mag a) < W 1000) :
    Calls Try.prog 24 #[.pointer (some ⟨b, 0, none⟩), .int .u64 (a : Nat)] w fun e w' => ∃ va vb, e = .returned (.tuple #[]) ∧ Exa w' b (addA a X) (addB a Y) va vb ∧ Only (· = b) w w' := by
  have hw := Lib.hid (whole_calls a w ha fa)
  have hm := and_sign a ha
  have H := Lib.hid h; have BX := Lib.hid bx; have BY := Lib.hid by'; have BV := Lib.hid bv
  have ha' := Lib.hid ha
  obtain ⟨p1, n1, k1, rfl⟩ := h.a.sl
  obtain ⟨p2, n2, k2, rfl⟩ := h.b.sl
  clear h bx by' bv ha fa
  have hA := Lib.hid (show addA a X = if neg a then X else X + V (mag a) from rfl)
  have hB := Lib.hid (show addB a Y = if neg a then Y + V (mag a) else Y from rfl)
  generalize addA a X = AX at *
  generalize addB a Y = AY at *
  generalize V (mag a) = VA at *
  generalize hn : neg a = sg at *
  unfold sgn at hm
  rw [hn] at hm
  clear hn
  cases sg
  · have hm' : bits BinOp.and IntKind.u64 (a : Int) 9223372036854775808 = 0 := hm
    clear hm
    go_enter Try.func24, Try.ntmps24
    go_wp2_with fail
    refine hw.out.mono ?_
    rintro e w2 ⟨v, rfl, hv, O2⟩
    have H2 := Lib.hid (H.out.only O2 id (fun _ q => q.elim))
    have HV := Lib.hid hv; have P2 := Lib.hid (O2.mono (T := (· = b)) (fun _ _ q => q.elim))
    obtain ⟨p3, n3, k3, d3, rfl, _⟩ := hv
    obtain ⟨q0, q1, q2, q3⟩ := H2.out.cells
    clear O2 hw
    go_wp2_with fail
    refine (plus_calls _ _ _ X VA H2.out.a HV.out (W_lt BX.out (by omega)) (W_lt BV.out (by omega))).mono ?_
    rintro e w3 ⟨v, rfl, hv, O3⟩
    have H3 := Lib.hid (H2.out.only O3 id (fun _ q => q.elim))
    have H4 := Lib.hid (H3.out.setA hv)
    have P3 := Lib.hid ((P2.out.trans (O3.mono (T := (· = b)) (fun _ _ q => q.elim))).setCell (p := ⟨b, 0, none⟩) (.inr rfl) v)
    clear O3 q0 q1 q2 q3
    obtain ⟨q0, q1, q2, q3⟩ := H3.out.cells
    obtain ⟨p4, n4, k4, d4, rfl, _⟩ := hv
    go_wp2_with fail
    go_end0
    exact ⟨_, _, rfl, by rw [hA.out, hB.out]; exact H4.out, P3.out⟩
  · have hm' : bits BinOp.and IntKind.u64 (a : Int) 9223372036854775808 = 9223372036854775808 := hm
    clear hm
    go_enter Try.func24, Try.ntmps24
    go_wp2_with fail
    refine hw.out.mono ?_
    rintro e w2 ⟨v, rfl, hv, O2⟩
    have H2 := Lib.hid (H.out.only O2 id (fun _ q => q.elim))
    have HV := Lib.hid hv; have P2 := Lib.hid (O2.mono (T := (· = b)) (fun _ _ q => q.elim))
    obtain ⟨p3, n3, k3, d3, rfl, _⟩ := hv
    obtain ⟨q0, q1, q2, q3⟩ := H2.out.cells
    clear O2 hw
    go_wp2_with fail
    refine (plus_calls _ _ _ Y VA H2.out.b HV.out (W_lt BY.out (by omega)) (W_lt BV.out (by omega))).mono ?_
    rintro e w3 ⟨v, rfl, hv, O3⟩
    have H3 := Lib.hid (H2.out.only O3 id (fun _ q => q.elim))
    have H4 := Lib.hid (H3.out.setB hv)
    have P3 := Lib.hid ((P2.out.trans (O3.mono (T := (· = b)) (fun _ _ q => q.elim))).setCell (p := ⟨b, 1, none⟩) (.inr rfl) v)
    clear O3 q0 q1 q2 q3
    obtain ⟨q0, q1, q2, q3⟩ := H3.out.cells
    obtain ⟨p4, n4, k4, d4, rfl, _⟩ := hv
    go_wp2_with fail
    go_end0
    exact ⟨_, _, rfl, by rw [hA.out, hB.out]; exact H4.out, P3.out⟩
end Go.Proofs.Ytgcjhdcplmfjbaa.Bg
