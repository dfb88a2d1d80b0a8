/- The reference's number and zeros. -/
import Derived.Test.YthjfdhkahmlolaaGreatDoorJQ34
import Derived.Test.YthjfdhkahmlolaaGreatDoorJQ20
import Derived.Test.YthjfdhkahmlolaaGreatDoorJQ05
import Derived.Lib.ItoaNum
import Derived.Test.YthjfdhkahmlolaaGreatDoorJQ11
import Derived.Test.YthjfdhkahmlolaaGreatDoorJQ17
namespace Go.Proofs.YthjfdhkahmlolaaGreatDoor
open Go.RowKit
set_option maxRecDepth 100000
/-- a new row of bytes that has grown to l -/
structure Ab (w0 : World) (v : Value) (l : List Value) (wr : World) : Prop where
  only : Only (fun _ => False) w0 wr
  own : wr.ownsRow w0.heap.size 5 1 v l.length l
theorem Ab.alloc {w0 : World} {v : Value} {l : List Value} {wr : World} (h : Ab w0 v l wr) (o : Obj) : Ab w0 v l (wr.alloc o) := ⟨h.only.alloc o, h.own.alloc o⟩
theorem Ab.next {w0 : World} {v v' : Value} {l news : List Value} {wr w' : World} {k m : Nat} (h : Ab w0 v l wr) (hg : Grew wr w' v v' k) (hm : news.length = m) (ho : w'.ownsRow w0.heap.size 5 1 v' (l.length + m) (l ++ news)) : Ab w0 v' (l ++ news) w' :=
  ⟨h.only.grown hg.grown (fun k hk => .inl (own_base h.own hk)), by rw [List.length_append, hm]; exact ho⟩
theorem wp_ab {ops : Array Oper} {rest : List Oper} {o : Oper} {a : Act} {Q : Exit → Act → World → Prop} {w0 : World} {v : Value} {l : List Value} {wr : World}
    (H : Ab w0 v l wr) (hg : o.guard = none) (s x : Operand) (hop : o.op = Op.call { callee := Callee.builtin Builtin.append, args := #[s, x], argTypes := #[67, 67] })
    (c : Array Value) (m : Nat) (hs : a.eval s = v) (hx : a.eval x = .slice (some ⟨wr.heap.size, 0, none⟩) m m) (hn : c.toList.length = m) (h1c : ∀ u ∈ c.toList, u.oneCell' = true)
    (hm : 0 < m) (hl : l.length ≤ 1000000) (hm1 : m ≤ 1000000)
    (hK : ∀ v' w', Ab w0 v' (l ++ c.toList) w' → wpList Tryz.prog ops Q rest (a.put o.dst v') w') : wpList Tryz.prog ops Q (o :: rest) a (wr.alloc (.cells c 5)) := by
  refine wpList_append_kept (wr.alloc (.cells c 5)) hg s x 67 hop 5 Tryz.t5 (.int .u8 0) 1 1 Tryz.underlying67 hi5 hz5 hs5 hb5 rfl (by decide) w0.heap.size l.length v l hs (H.alloc _).own (H.alloc _).only.size ⟨wr.heap.size, 0, none⟩ m m c.toList hx (by omega) (box_cells wr c 5) h1c hm (by unfold maxLen; omega) (by omega) ?_
  intro v' w' hgr ho
  exact hK v' w' ((H.alloc _).next hgr hn ho)
theorem Ab.start (w : World) : Ab w (.slice (some ⟨w.heap.size, 0, none⟩) 0 0) [] (w.alloc (.cells #[] 5)) :=
  ⟨(Only.refl _ w).alloc _, rfl, .inr ⟨w.heap.size, 0, #[], rfl, Nat.le_refl _, blk_new w _, Nat.le_refl _, by unfold maxLen; omega, rfl, rfl⟩⟩
theorem bc_len (l : List UInt8) : (Lib.byteCells l).length = l.length := by simp [Lib.byteCells]
theorem bc_snoc (l : List UInt8) (b : UInt8) : Lib.byteCells (l ++ [b]) = Lib.byteCells l ++ [.int .u8 b.toNat] := by simp [Lib.byteCells]
theorem ofNat_toNat {x : Nat} (h : x < 256) : (UInt8.ofNat x).toNat = x := by simp [UInt8.toNat_ofNat']; omega
/-- the digits so far, the last one first -/
def NmR (w0 : World) (D : List UInt8) (v0 v2 : Value) (w : World) : Prop :=
  ∃ (n : Nat) (l : List UInt8), v0 = .int .u64 (n : Int) ∧ n < 18446744073709551616 ∧ D = Lib.decDigits n ++ l.reverse ∧ Ab w0 v2 (Lib.byteCells l) w
theorem dec_step {n : Nat} (h : ¬ n < 10) : Lib.decDigits n = Lib.decDigits (n / 10) ++ [UInt8.ofNat (48 + n % 10)] := by rw [Lib.decDigits, dif_neg h]
/-- turned round at i places from both ends -/
def rvG (G : Nat → Nat) (L i k : Nat) : Nat := if k < i ∨ L - i ≤ k then G (L - 1 - k) else G k
def rvF (G : Nat → Nat) (C : Nat → Value) (L i k : Nat) : Value := if k < L then .int .u8 (rvG G L i k : Int) else C k
def RvR (wA : World) (g L M : Nat) (G : Nat → Nat) (C : Nat → Value) (v3 : Value) (w : World) : Prop :=
  ∃ i : Nat, v3 = .int .i64 (i : Int) ∧ i ≤ L / 2 ∧ Fb w g M 5 (rvF G C L i) ∧ Only (· = g) wA w
theorem rv_step {w : World} {g L M i : Nat} {G : Nat → Nat} {C : Nat → Value} (h : Fb w g M 5 (rvF G C L i)) (hi : i < L / 2) (_hM : L ≤ M) {x y : Int} (hx : x = (G (L - 1 - i) : Int)) (hy : y = (G i : Int)) :
    Fb ((w.setCell ⟨g, i, none⟩ (.int .u8 x)).setCell ⟨g, L - 1 - i, none⟩ (.int .u8 y)) g M 5 (rvF G C L (i + 1)) := by
  subst hx; subst hy
  refine ((h.set i _).set (L - 1 - i) _).congr fun k hk => ?_
  simp only [rvF, rvG]
  by_cases e1 : k = L - 1 - i
  · subst e1
    rw [if_pos rfl, if_pos (by omega), if_pos (by omega), show L - 1 - (L - 1 - i) = i by omega]
  · rw [if_neg e1]
    by_cases e2 : k = i
    · subst e2
      rw [if_pos rfl, if_pos (by omega), if_pos (by omega)]
    · rw [if_neg e2]
      by_cases e3 : k < L
      · rw [if_pos e3, if_pos e3]
        by_cases e4 : k < i ∨ L - i ≤ k
        · rw [if_pos e4, if_pos (by omega)]
        · rw [if_neg e4, if_neg (by omega)]
      · rw [if_neg e3, if_neg e3]
theorem rv_at {w : World} {g L M i k : Nat} {G : Nat → Nat} {C : Nat → Value} (h : Fb w g M 5 (rvF G C L i)) (hM : L ≤ M) (hk : k < L) (h1 : i ≤ k) (h2 : k < L - i) : w.cell? ⟨g, k, none⟩ = some (.int .u8 (G k : Int)) := by
  rw [h.cell (show k < M by omega)]
  unfold rvF rvG
  rw [if_pos hk, if_neg (by omega)]
theorem rv_end {w : World} {g L M k : Nat} {G : Nat → Nat} {C : Nat → Value} (h : Fb w g M 5 (rvF G C L (L / 2))) (hM : L ≤ M) (hk : k < L) : w.cell? ⟨g, k, none⟩ = some (.int .u8 (G (L - 1 - k) : Int)) := by
  rw [h.cell (show k < M by omega)]
  unfold rvF rvG
  rw [if_pos hk]
  by_cases e : k < L / 2 ∨ L - L / 2 ≤ k
  · rw [if_pos e]
  · rw [if_neg e, show L - 1 - k = k by omega]
theorem bsz (l : List UInt8) : (⟨l.toArray⟩ : ByteArray).size = l.length := rfl
theorem nd20 {N : Nat} (h : N < 18446744073709551616) : (Lib.decDigits N).length ≤ 20 := by
  rw [Lib.decDigits_length]
  rcases Nat.eq_zero_or_pos N with e | e
  · subst e; rw [Lib.nDigits_small (by decide)]; decide
  · rcases Nat.lt_or_ge 20 (Lib.nDigits N) with g | g
    · have h3 := Usc.pow_le_nDigits N e
      have h4 : (10 : Nat) ^ 20 ≤ 10 ^ (Lib.nDigits N - 1) := Nat.pow_le_pow_right (by decide) (by omega)
      rw [show (10 : Nat) ^ 20 = 100000000000000000000 by decide] at h4
      omega
    · exact g
/-- the row grown, as a block told by a function -/
theorem Ab.block {w0 wr : World} {v : Value} {m D : List UInt8} (h : Ab w0 v (Lib.byteCells m) wr) (hD : D = m.reverse) (h0 : D ≠ []) :
    ∃ g cap M G C, v = .slice (some ⟨g, 0, none⟩) D.length cap ∧ D.length ≤ cap ∧ w0.heap.size ≤ g ∧ D.length ≤ M ∧ Fb wr g M 5 (rvF G C D.length 0) ∧ ∀ k, k < D.length → D[k]? = some (UInt8.ofNat (G (D.length - 1 - k))) ∧ G k < 256 := by
  have hlen : D.length = m.length := by rw [hD, List.length_reverse]
  rcases h.own.2 with ⟨rfl, e0⟩ | ⟨g, cap, cur, rfl, e2, e3, e4, e5, e6, e7⟩
  · rw [bc_len] at e0
    exact absurd (List.eq_nil_of_length_eq_zero (by omega)) h0
  · rw [bc_len, ← hlen] at e4 e7 ⊢
    rw [Nat.mul_one] at e7
    have hM : D.length ≤ cur.size := by
      have := congrArg List.length e7
      rw [bc_len, List.length_take] at this
      simp at this; omega
    refine ⟨g, cap, cur.size, fun k => (m.getD k 0).toNat, fun k => (cur[k]?).getD (.bool false), rfl, e4, e2, hM, ⟨cur, e3, rfl, fun k hk => ?_⟩, fun k hk => ⟨?_, UInt8.toNat_lt _⟩⟩
    · unfold rvF rvG
      by_cases hkL : k < D.length
      · rw [if_pos hkL, if_neg (by omega)]
        have h1 : (cur.toList.take D.length)[k]? = (Lib.byteCells m)[k]? := by rw [e7]
        rw [List.getElem?_take, if_pos hkL, Array.getElem?_toList] at h1
        rw [h1]
        have hk2 : k < m.length := by omega
        simp [Lib.byteCells, hk2]
      · rw [if_neg hkL]; simp [hk]
    · have hk2 : k < m.length := by omega
      have hk3 : D.length - 1 - k < m.length := by omega
      simp only [UInt8.ofNat_toNat]
      rw [hD, List.getElem?_reverse hk2, ← hD, show m.length - 1 - k = D.length - 1 - k by omega]
      simp [hk3]
set_option maxHeartbeats 4000000 in
theorem number_calls (N : Nat) (w : World) (hN : N < 18446744073709551616) :
    Calls Tryz.prog 40 #[.int .u64 (N : Int)] w fun en w' => en = .returned (.string ⟨(Lib.decDigits N).toArray⟩) ∧ Only (fun _ => False) w w' := by
  have hlen := nd20 hN
  obtain ⟨D, hD⟩ : ∃ D, D = Lib.decDigits N := ⟨_, rfl⟩
  rw [← hD] at hlen ⊢
  have HD := Lib.hid hD; clear hD
  go_enter Tryz.func40, Tryz.ntmps40
  go_wp2_with fail
  go_loopw [0, 3] (fun v0 v2 wr => NmR w D v0 v2 wr) (fun v0 _ _ => (intOf v0).toNat)
  case atStart => exact ⟨N, [], rfl, hN, by simp [HD.out], Ab.start w⟩
  case round =>
    obtain ⟨n, l, rfl, hn, he, hA⟩ := hrel
    have hll : l.length ≤ 20 := by have := congrArg List.length he; simp at this; omega
    have HE := Lib.hid he; have HA := Lib.hid hA; clear he hA
    by_cases h10 : n < 10
    · have t1 : decide ((10 : Int) ≤ (n : Int)) = false := decide_eq_false (by omega)
      go_wp2_with (at_builtin; (refine wp_ab HA.out rfl _ _ rfl _ 1 (by simp [Act.eval]) (by simp [Act.eval]) rfl (by simp [Value.oneCell']) (by decide) (by rw [bc_len]; omega) (by decide) ?_; intro v4 w4 hA'; have HA4 := Lib.hid hA'; clear hA'))
      have hA5 := HA4.out
      have hb1 : ((48 + (n : Int)) : Int) = ((UInt8.ofNat (48 + n)).toNat : Int) := by rw [ofNat_toNat (by omega)]; omega
      rw [hb1, ← bc_snoc] at hA5
      have hDm : D = (l ++ [UInt8.ofNat (48 + n)]).reverse := by rw [HE.out, Lib.decDigits_one h10]; simp
      have hD0 : D ≠ [] := by rw [hDm]; simp
      obtain ⟨g, cap, M, G, C, rfl, hcap, hg, hM, hF, hk⟩ := hA5.block hDm hD0
      have HF := Lib.hid hF; have HK := Lib.hid hk; have HO := Lib.hid hA5.only
      generalize hL : D.length = L at *
      have HL := Lib.hid hL; clear hL
      clear hA5 hF hk hb1 hDm hD0 HA4 HA HE
      go_loopw [4] (fun v4 wr => RvR w4 g L M G C v4 wr) (fun v4 _ => L - (intOf v4).toNat)
      case atStart => exact ⟨0, rfl, Nat.zero_le _, HF.out, Only.refl _ _⟩
      case round =>
        obtain ⟨i, rfl, hi, hFi, hO⟩ := hrel
        have HFi := Lib.hid hFi; have HOi := Lib.hid hO; clear hFi hO
        by_cases h2 : i < L / 2
        · have t2 : decide ((i : Int) < (L : Int) / 2) = true := decide_eq_true (by omega)
          have c1 := rv_at HFi.out hM (k := i) (by omega) (by omega) (by omega)
          have c2 := rv_at HFi.out hM (k := L - 1 - i) (by omega) (by omega) (by omega)
          have f1 := HFi.out.free i
          have f2 := (HFi.out.set i (.int .u8 (G (L - 1 - i) : Int))).free (L - 1 - i)
          have hst := Lib.hid (rv_step HFi.out h2 hM (x := (G (L - 1 - i) : Int)) (y := (G i : Int)) rfl rfl)
          go_wp2_with fail
          exact ⟨⟨i + 1, congrArg (Value.int .i64) (by omega), by omega, hst.out, (HOi.out.setCell (p := ⟨g, i, none⟩) (.inr rfl) _).setCell (p := ⟨g, L - 1 - i, none⟩) (.inr rfl) _⟩, by simp only [intOf]; omega⟩
        · obtain rfl : i = L / 2 := by omega
          have t2 : decide (((L / 2 : Nat) : Int) < (L : Int) / 2) = false := decide_eq_false (by omega)
          have hcv : Sem.run Tryz.prog (convert 67 9 (.slice (some ⟨g, 0, none⟩) L cap)) wr = .ok (.string ⟨D.toArray⟩) wr := by
            have := run_convert_bytes_back wr 67 9 5 ⟨g, 0, none⟩ cap D Tryz.underlying67 Tryz.underlying5 Tryz.underlying9 (fun j hj => by
              have hjL : j < L := by rw [← HL.out]; exact hj
              have h3 := rv_end HFi.out hM hjL
              have h4 := HK.out j hjL
              have h5 := (HK.out (L - 1 - j) (by omega)).2
              rw [List.getElem?_eq_getElem hj] at h4
              have h6 : D[j] = UInt8.ofNat (G (L - 1 - j)) := Option.some.inj h4.1
              rw [h6, ofNat_toNat h5]
              have ha : (⟨g, 0, none⟩ : Addr).add j = ⟨g, j, none⟩ := by unfold Addr.add; split <;> simp_all
              rw [ha]; exact h3)
            rw [HL.out] at this
            exact this
          have HO9 := Lib.hid (HO.out.seq2 (S := fun _ => False) HOi.out (fun i hi => .inl (by cases hi; exact hg)))
          go_wp2_with fail
          go_ret
          exact ⟨rfl, HO9.out⟩
    · have t1 : decide ((10 : Int) ≤ (n : Int)) = true := decide_eq_true (by omega)
      go_wp2_with (at_builtin; (refine wp_ab HA.out rfl _ _ rfl _ 1 (by simp [Act.eval]) (by simp [Act.eval]) rfl (by simp [Value.oneCell']) (by decide) (by rw [bc_len]; omega) (by decide) ?_; intro v4 w4 hA'; have HA4 := Lib.hid hA'; clear hA'))
      have hA5 := HA4.out
      have hb1 : ((48 + (n : Int) % 10) : Int) = ((UInt8.ofNat (48 + n % 10)).toNat : Int) := by rw [ofNat_toNat (by omega)]; omega
      rw [show (#[Value.int IntKind.u8 (48 + (n : Int) % 10)] : Array Value).toList = [Value.int IntKind.u8 (48 + (n : Int) % 10)] from rfl, hb1, ← bc_snoc] at hA5
      refine ⟨⟨n / 10, _, congrArg (Value.int .u64) (by omega), by omega, ?_, hA5⟩, by simp only [intOf]; omega⟩
      rw [HE.out, dec_step h10]
      simp
/-- so many noughts -/
def ZsR (w0 : World) (n : Nat) (v2 v3 : Value) (w : World) : Prop := ∃ i : Nat, v3 = .int .i64 (i : Int) ∧ v2 = .string ⟨(List.replicate i (48 : UInt8)).toArray⟩ ∧ i ≤ n ∧ w = w0
set_option maxHeartbeats 4000000 in
theorem zeros_calls (n : Nat) (w : World) (hn : n ≤ 1000) :
    Calls Tryz.prog 41 #[.int .i64 (n : Int)] w fun en w' => en = .returned (.string ⟨(List.replicate n (48 : UInt8)).toArray⟩) ∧ w' = w := by
  go_enter Tryz.func41, Tryz.ntmps41
  go_wp2_with fail
  go_loopw [3, 4] (fun v2 v3 wr => ZsR w n v2 v3 wr) (fun _ v3 _ => n - (intOf v3).toNat)
  case atStart => exact ⟨0, rfl, rfl, Nat.zero_le _, rfl⟩
  case round =>
    obtain ⟨i, rfl, hv, hi, hw⟩ := hrel
    rw [hw]; clear hw
    obtain ⟨S, hSS⟩ : ∃ S : ByteArray, S = ⟨(List.replicate i (48 : UInt8)).toArray⟩ := ⟨_, rfl⟩
    rw [← hSS] at hv; subst hv
    have hz : S.size = i := by rw [hSS, bsz, List.length_replicate]
    have hs : S ++ ⟨#[48]⟩ = ⟨(List.replicate (i + 1) (48 : UInt8)).toArray⟩ := by
      apply ByteArray.ext
      rw [hSS, ByteArray.data_append, List.replicate_succ']
      apply Array.ext'
      simp
    have HS := Lib.hid hs; have HSS := Lib.hid hSS; clear hs hSS
    by_cases h : i < n
    · have t1 : decide ((i : Int) < (n : Int)) = true := decide_eq_true (by omega)
      go_wp2_with fail
      exact ⟨⟨i + 1, congrArg (Value.int .i64) (by omega), congrArg Value.string HS.out, by omega, rfl⟩, by simp only [intOf]; omega⟩
    · obtain rfl : i = n := by omega
      have t1 : decide ((i : Int) < (i : Int)) = false := decide_eq_false (by omega)
      go_wp2_with fail
      go_ret
      exact ⟨congrArg (fun z => Ending.returned (Value.string z)) HSS.out, rfl⟩
end Go.Proofs.YthjfdhkahmlolaaGreatDoor

/- The reference's text of a float above 0. Printed by gen_ntl.py. -/
namespace Go.Proofs.YthjfdhkahmlolaaGreatDoor
open Go.RowKit Usc
set_option maxRecDepth 100000
def DgC (b c : Nat) (e : Int) : Prop := ∀ w : World, Calls Tryz.prog 39 #[.int .u64 (b : Int)] w fun en w' => en = .returned (.tuple #[.int .u64 (c : Int), .int .i64 e]) ∧ Only (fun _ => False) w w'
def TxC (b c : Nat) (e : Int) : Prop := ∀ w : World, Calls Tryz.prog 27 #[.int .u64 (b : Int)] w fun en w' => en = .returned (.string ⟨(laidB c e).toArray⟩) ∧ Only (fun _ => False) w w'
theorem zeros_is (k : Nat) : (⟨(List.replicate k (48 : UInt8)).toArray⟩ : ByteArray).size = k := by rw [ba_size, List.length_replicate]
set_option maxHeartbeats 4000000 in
theorem text_a (b c : Nat) (e : Int) (hD : DgC b c e) (hc : c < 18446744073709551616) (_hn : Lib.nDigits c ≤ 17) (he : 0 ≤ e ∧ e ≤ 20) (h1 : (Lib.nDigits c : Int) ≤ e + 1) : TxC b c e := by
  intro w
  have HD := Lib.hid hD; clear hD
  have HN := Lib.hid (fun w => number_calls c w hc)
  have hl := Lib.decDigits_length c
  have hn0 := Lib.nDigits_pos c
  have hr : laidB c e = Lib.decDigits c ++ List.replicate (e + 1 - Lib.nDigits c).toNat 48 := by unfold laidB; rw [if_pos he, if_pos h1]
  rw [hr]
  obtain ⟨S, hS⟩ : ∃ S : ByteArray, S = ⟨(Lib.decDigits c).toArray⟩ := ⟨_, rfl⟩
  have hz : S.size = Lib.nDigits c := by rw [hS, ba_size, hl]
  rw [← hS] at HN
  obtain ⟨k, hk⟩ : ∃ k : Nat, (k : Int) = e + 1 - Lib.nDigits c := ⟨(e + 1 - Lib.nDigits c).toNat, by omega⟩
  obtain ⟨Z, hZ⟩ : ∃ Z : ByteArray, Z = ⟨(List.replicate k (48 : UInt8)).toArray⟩ := ⟨_, rfl⟩
  have HZ := Lib.hid (fun w => zeros_calls k w (by omega))
  rw [← hZ] at HZ
  have hz2 : Z.size = k := by rw [hZ, zeros_is]
  have hk2 : k ≤ 21 := by omega
  have hfin := Lib.hid (show S ++ Z = ⟨(Lib.decDigits c ++ List.replicate (e + 1 - Lib.nDigits c).toNat 48).toArray⟩ by
    rw [hS, hZ, ba_append, show (e + 1 - (Lib.nDigits c : Int)).toNat = k by omega])
  have HK := Lib.hid hk
  clear hl hr hS hk hZ
  generalize Lib.nDigits c = n at *
  go_enter Tryz.func27, Tryz.ntmps27
  go_wp2_with fail
  refine (HD.out _).mono ?_; rintro en w1 ⟨rfl, hO⟩; have HO1 := Lib.hid hO; clear hO HD
  go_wp2_with fail
  refine (HN.out _).mono ?_; rintro en w2 ⟨rfl, hO⟩; have HO2 := Lib.hid (HO1.out.trans hO); clear hO HN HO1
  go_wp2_with fail
  rw [← HK.out]
  refine (HZ.out _).mono ?_; rintro en w3 ⟨rfl, hw⟩; rw [hw]; clear hw w3 HZ
  go_wp2_with fail
  go_ret
  first
    | exact ⟨congrArg (fun z => Ending.returned (Value.string z)) hfin.out, HO2.out⟩
    | exact ⟨congrArg (fun z => Ending.returned (Value.string z)) hfin.out, HO2.out.drewN _⟩
set_option maxHeartbeats 4000000 in
theorem text_b (b c : Nat) (e : Int) (hD : DgC b c e) (hc : c < 18446744073709551616) (_hn : Lib.nDigits c ≤ 17) (he : 0 ≤ e ∧ e ≤ 20) (h1 : ¬ (Lib.nDigits c : Int) ≤ e + 1) : TxC b c e := by
  intro w
  have HD := Lib.hid hD; clear hD
  have HN := Lib.hid (fun w => number_calls c w hc)
  have hl := Lib.decDigits_length c
  have hn0 := Lib.nDigits_pos c
  have hr : laidB c e = (Lib.decDigits c).take (e + 1).toNat ++ 46 :: (Lib.decDigits c).drop (e + 1).toNat := by unfold laidB; rw [if_pos he, if_neg h1]
  rw [hr]
  obtain ⟨S, hS⟩ : ∃ S : ByteArray, S = ⟨(Lib.decDigits c).toArray⟩ := ⟨_, rfl⟩
  have hz : S.size = Lib.nDigits c := by rw [hS, ba_size, hl]
  rw [← hS] at HN
  obtain ⟨k, rfl⟩ : ∃ k : Nat, e = (k : Int) := ⟨e.toNat, by omega⟩
  have hfin := Lib.hid (show S.extract 0 (k + 1) ++ ⟨#[46]⟩ ++ S.extract (k + 1) (Lib.nDigits c) = ⟨((Lib.decDigits c).take ((k : Int) + 1).toNat ++ 46 :: (Lib.decDigits c).drop ((k : Int) + 1).toNat).toArray⟩ by
    rw [hS, ba_extract, ba_extract, show (⟨#[46]⟩ : ByteArray) = ⟨([46] : List UInt8).toArray⟩ from rfl, ba_append, ba_append, show ((k : Int) + 1).toNat = k + 1 by omega, ← hl]
    simp
    exact List.take_of_length_le (by simp))
  clear hl hr hS
  generalize Lib.nDigits c = n at *
  go_enter Tryz.func27, Tryz.ntmps27
  go_wp2_with fail
  refine (HD.out _).mono ?_; rintro en w1 ⟨rfl, hO⟩; have HO1 := Lib.hid hO; clear hO HD
  go_wp2_with fail
  refine (HN.out _).mono ?_; rintro en w2 ⟨rfl, hO⟩; have HO2 := Lib.hid (HO1.out.trans hO); clear hO HN HO1
  go_wp2_with fail
  go_quiet (fail)
  go_wp2_with fail
  go_ret
  first
    | exact ⟨congrArg (fun z => Ending.returned (Value.string z)) hfin.out, HO2.out⟩
    | exact ⟨congrArg (fun z => Ending.returned (Value.string z)) hfin.out, HO2.out.drewN _⟩
set_option maxHeartbeats 4000000 in
theorem text_c (b c : Nat) (e : Int) (hD : DgC b c e) (hc : c < 18446744073709551616) (_hn : Lib.nDigits c ≤ 17) (he : -6 ≤ e ∧ e < 0) : TxC b c e := by
  intro w
  have HD := Lib.hid hD; clear hD
  have HN := Lib.hid (fun w => number_calls c w hc)
  have hl := Lib.decDigits_length c
  have hn0 := Lib.nDigits_pos c
  have hr : laidB c e = [48, 46] ++ List.replicate (-e - 1).toNat 48 ++ Lib.decDigits c := by unfold laidB; rw [if_neg (by omega), if_pos he]
  rw [hr]
  obtain ⟨S, hS⟩ : ∃ S : ByteArray, S = ⟨(Lib.decDigits c).toArray⟩ := ⟨_, rfl⟩
  have hz : S.size = Lib.nDigits c := by rw [hS, ba_size, hl]
  rw [← hS] at HN
  obtain ⟨k, hk⟩ : ∃ k : Nat, (k : Int) = -e - 1 := ⟨(-e - 1).toNat, by omega⟩
  obtain ⟨Z, hZ⟩ : ∃ Z : ByteArray, Z = ⟨(List.replicate k (48 : UInt8)).toArray⟩ := ⟨_, rfl⟩
  have HZ := Lib.hid (fun w => zeros_calls k w (by omega))
  rw [← hZ] at HZ
  have hz2 : Z.size = k := by rw [hZ, zeros_is]
  have hk2 : k ≤ 21 := by omega
  have hfin := Lib.hid (show (⟨#[48, 46]⟩ : ByteArray) ++ Z ++ S = ⟨([48, 46] ++ List.replicate (-e - 1).toNat 48 ++ Lib.decDigits c).toArray⟩ by
    rw [hS, hZ, show (⟨#[48, 46]⟩ : ByteArray) = ⟨([48, 46] : List UInt8).toArray⟩ from rfl, ba_append, ba_append, show (-e - 1).toNat = k by omega])
  have HK := Lib.hid hk
  clear hl hr hS hk hZ
  generalize Lib.nDigits c = n at *
  go_enter Tryz.func27, Tryz.ntmps27
  go_wp2_with fail
  refine (HD.out _).mono ?_; rintro en w1 ⟨rfl, hO⟩; have HO1 := Lib.hid hO; clear hO HD
  go_wp2_with fail
  refine (HN.out _).mono ?_; rintro en w2 ⟨rfl, hO⟩; have HO2 := Lib.hid (HO1.out.trans hO); clear hO HN HO1
  go_wp2_with fail
  rw [← HK.out]
  refine (HZ.out _).mono ?_; rintro en w3 ⟨rfl, hw⟩; rw [hw]; clear hw w3 HZ
  go_wp2_with fail
  go_ret
  first
    | exact ⟨congrArg (fun z => Ending.returned (Value.string z)) hfin.out, HO2.out⟩
    | exact ⟨congrArg (fun z => Ending.returned (Value.string z)) hfin.out, HO2.out.drewN _⟩
set_option maxHeartbeats 4000000 in
theorem text_dno (b c : Nat) (e : Int) (hD : DgC b c e) (hc : c < 18446744073709551616) (_hn : Lib.nDigits c ≤ 17) (he : -999 ≤ e ∧ e < -6) (h1 : Lib.nDigits c = 1) : TxC b c e := by
  intro w
  have HD := Lib.hid hD; clear hD
  have HN := Lib.hid (fun w => number_calls c w hc)
  have hl := Lib.decDigits_length c
  have hn0 := Lib.nDigits_pos c
  have hpl := pointB_len c
  have hr : laidB c e = pointB c ++ 101 :: Lib.itoa e := by unfold laidB; rw [if_neg (by omega), if_neg (by omega)]
  rw [hr]
  obtain ⟨S, hS⟩ : ∃ S : ByteArray, S = ⟨(Lib.decDigits c).toArray⟩ := ⟨_, rfl⟩
  have hz : S.size = Lib.nDigits c := by rw [hS, ba_size, hl]
  rw [← hS] at HN
  obtain ⟨k, hk⟩ : ∃ k : Nat, (k : Int) = -e := ⟨(-e).toNat, by omega⟩
  have hit : Lib.itoa e = 45 :: Lib.decDigits k := by
    unfold Lib.itoa
    rw [if_pos (by omega), show e.natAbs = k by omega]
  obtain ⟨Z, hZ⟩ : ∃ Z : ByteArray, Z = ⟨(Lib.decDigits k).toArray⟩ := ⟨_, rfl⟩
  obtain ⟨Y, hY⟩ : ∃ Y : ByteArray, Y = ⟨(pointB c).toArray⟩ := ⟨_, rfl⟩
  have hy : Y.size ≤ 18 := by rw [hY, ba_size]; omega
  have hz2 : Z.size ≤ 20 := by rw [hZ, ba_size]; exact nd20 (by omega)
  have HZ := Lib.hid (fun w => number_calls k w (by omega))
  rw [← hZ] at HZ
  have hfin := Lib.hid (show Y ++ ⟨#[101, 45]⟩ ++ Z = ⟨(pointB c ++ 101 :: Lib.itoa e).toArray⟩ by
    rw [hY, hZ, hit, show (⟨#[101, 45]⟩ : ByteArray) = ⟨([101, 45] : List UInt8).toArray⟩ from rfl, ba_append, ba_append]; simp)
  have hone : S.extract 0 1 = Y := by
    rw [hS, hY, ba_extract, pointB_one h1]
    congr 2
    simp
    exact List.take_of_length_le (by omega)
  have e1 := Lib.hid hone
  clear hone
  have HK := Lib.hid hk
  clear hl hr hS hk hZ hY hpl hit
  rw [h1] at hz
  clear _hn hn0 h1
  go_enter Tryz.func27, Tryz.ntmps27
  go_wp2_with fail
  refine (HD.out _).mono ?_; rintro en w1 ⟨rfl, hO⟩; have HO1 := Lib.hid hO; clear hO HD
  go_wp2_with fail
  refine (HN.out _).mono ?_; rintro en w2 ⟨rfl, hO⟩; have HO2 := Lib.hid (HO1.out.trans hO); clear hO HN HO1
  go_wp2_with fail
  rw [← HK.out, e1.out]
  first
    | (refine (HZ.out _).mono ?_; rintro en w3 ⟨rfl, hO⟩; have HO3 := Lib.hid (HO2.out.trans hO); clear hO)
    | (refine (HZ.out _).mono ?_; rintro en w3 ⟨rfl, hO⟩; have HO3 := Lib.hid ((HO2.out.drewN _).trans hO); clear hO)
  go_wp2_with fail
  go_ret
  exact ⟨congrArg (fun z => Ending.returned (Value.string z)) hfin.out, HO3.out⟩
set_option maxHeartbeats 4000000 in
theorem text_dnm (b c : Nat) (e : Int) (hD : DgC b c e) (hc : c < 18446744073709551616) (_hn : Lib.nDigits c ≤ 17) (he : -999 ≤ e ∧ e < -6) (h1 : Lib.nDigits c ≠ 1) : TxC b c e := by
  intro w
  have HD := Lib.hid hD; clear hD
  have HN := Lib.hid (fun w => number_calls c w hc)
  have hl := Lib.decDigits_length c
  have hn0 := Lib.nDigits_pos c
  have hpl := pointB_len c
  have hr : laidB c e = pointB c ++ 101 :: Lib.itoa e := by unfold laidB; rw [if_neg (by omega), if_neg (by omega)]
  rw [hr]
  obtain ⟨S, hS⟩ : ∃ S : ByteArray, S = ⟨(Lib.decDigits c).toArray⟩ := ⟨_, rfl⟩
  have hz : S.size = Lib.nDigits c := by rw [hS, ba_size, hl]
  rw [← hS] at HN
  obtain ⟨k, hk⟩ : ∃ k : Nat, (k : Int) = -e := ⟨(-e).toNat, by omega⟩
  have hit : Lib.itoa e = 45 :: Lib.decDigits k := by
    unfold Lib.itoa
    rw [if_pos (by omega), show e.natAbs = k by omega]
  obtain ⟨Z, hZ⟩ : ∃ Z : ByteArray, Z = ⟨(Lib.decDigits k).toArray⟩ := ⟨_, rfl⟩
  obtain ⟨Y, hY⟩ : ∃ Y : ByteArray, Y = ⟨(pointB c).toArray⟩ := ⟨_, rfl⟩
  have hy : Y.size ≤ 18 := by rw [hY, ba_size]; omega
  have hz2 : Z.size ≤ 20 := by rw [hZ, ba_size]; exact nd20 (by omega)
  have HZ := Lib.hid (fun w => number_calls k w (by omega))
  rw [← hZ] at HZ
  have hfin := Lib.hid (show Y ++ ⟨#[101, 45]⟩ ++ Z = ⟨(pointB c ++ 101 :: Lib.itoa e).toArray⟩ by
    rw [hY, hZ, hit, show (⟨#[101, 45]⟩ : ByteArray) = ⟨([101, 45] : List UInt8).toArray⟩ from rfl, ba_append, ba_append]; simp)
  have hmany : S.extract 0 1 ++ ((⟨#[46]⟩ : ByteArray) ++ S.extract 1 (Lib.nDigits c)) = Y := by
    obtain ⟨x, l, h1, h2, h3⟩ := pointB_many h1
    rw [hS, hY, ba_extract, ba_extract, show (⟨#[46]⟩ : ByteArray) = ⟨([46] : List UInt8).toArray⟩ from rfl, ba_append, ba_append, h2, ← hl, h1]
    simp
  have e1 := Lib.hid hmany
  clear hmany
  have hn2 : 2 ≤ Lib.nDigits c := by omega
  clear h1
  have HK := Lib.hid hk
  clear hl hr hS hk hZ hY hpl hit
  generalize Lib.nDigits c = n at *
  go_enter Tryz.func27, Tryz.ntmps27
  go_wp2_with fail
  refine (HD.out _).mono ?_; rintro en w1 ⟨rfl, hO⟩; have HO1 := Lib.hid hO; clear hO HD
  go_wp2_with fail
  refine (HN.out _).mono ?_; rintro en w2 ⟨rfl, hO⟩; have HO2 := Lib.hid (HO1.out.trans hO); clear hO HN HO1
  go_wp2_with fail
  all_goals try (go_quiet (fail); go_wp2_with fail)
  rw [← HK.out, e1.out]
  first
    | (refine (HZ.out _).mono ?_; rintro en w3 ⟨rfl, hO⟩; have HO3 := Lib.hid (HO2.out.trans hO); clear hO)
    | (refine (HZ.out _).mono ?_; rintro en w3 ⟨rfl, hO⟩; have HO3 := Lib.hid ((HO2.out.drewN _).trans hO); clear hO)
  go_wp2_with fail
  go_ret
  exact ⟨congrArg (fun z => Ending.returned (Value.string z)) hfin.out, HO3.out⟩
set_option maxHeartbeats 4000000 in
theorem text_dpo (b c : Nat) (e : Int) (hD : DgC b c e) (hc : c < 18446744073709551616) (_hn : Lib.nDigits c ≤ 17) (he : 20 < e ∧ e ≤ 999) (h1 : Lib.nDigits c = 1) : TxC b c e := by
  intro w
  have HD := Lib.hid hD; clear hD
  have HN := Lib.hid (fun w => number_calls c w hc)
  have hl := Lib.decDigits_length c
  have hn0 := Lib.nDigits_pos c
  have hpl := pointB_len c
  have hr : laidB c e = pointB c ++ 101 :: Lib.itoa e := by unfold laidB; rw [if_neg (by omega), if_neg (by omega)]
  rw [hr]
  obtain ⟨S, hS⟩ : ∃ S : ByteArray, S = ⟨(Lib.decDigits c).toArray⟩ := ⟨_, rfl⟩
  have hz : S.size = Lib.nDigits c := by rw [hS, ba_size, hl]
  rw [← hS] at HN
  obtain ⟨k, hk⟩ : ∃ k : Nat, (k : Int) = e := ⟨e.toNat, by omega⟩
  have hit : Lib.itoa e = Lib.decDigits k := by
    unfold Lib.itoa
    rw [if_neg (by omega), show e.toNat = k by omega]
  obtain ⟨Z, hZ⟩ : ∃ Z : ByteArray, Z = ⟨(Lib.decDigits k).toArray⟩ := ⟨_, rfl⟩
  obtain ⟨Y, hY⟩ : ∃ Y : ByteArray, Y = ⟨(pointB c).toArray⟩ := ⟨_, rfl⟩
  have hy : Y.size ≤ 18 := by rw [hY, ba_size]; omega
  have hz2 : Z.size ≤ 20 := by rw [hZ, ba_size]; exact nd20 (by omega)
  have HZ := Lib.hid (fun w => number_calls k w (by omega))
  rw [← hZ] at HZ
  have hfin := Lib.hid (show Y ++ ⟨#[101]⟩ ++ Z = ⟨(pointB c ++ 101 :: Lib.itoa e).toArray⟩ by
    rw [hY, hZ, hit, show (⟨#[101]⟩ : ByteArray) = ⟨([101] : List UInt8).toArray⟩ from rfl, ba_append, ba_append]; simp)
  have hone : S.extract 0 1 = Y := by
    rw [hS, hY, ba_extract, pointB_one h1]
    congr 2
    simp
    exact List.take_of_length_le (by omega)
  have e1 := Lib.hid hone
  clear hone
  have HK := Lib.hid hk
  clear hl hr hS hk hZ hY hpl hit
  rw [h1] at hz
  clear _hn hn0 h1
  go_enter Tryz.func27, Tryz.ntmps27
  go_wp2_with fail
  refine (HD.out _).mono ?_; rintro en w1 ⟨rfl, hO⟩; have HO1 := Lib.hid hO; clear hO HD
  go_wp2_with fail
  refine (HN.out _).mono ?_; rintro en w2 ⟨rfl, hO⟩; have HO2 := Lib.hid (HO1.out.trans hO); clear hO HN HO1
  go_wp2_with fail
  rw [← HK.out, e1.out]
  first
    | (refine (HZ.out _).mono ?_; rintro en w3 ⟨rfl, hO⟩; have HO3 := Lib.hid (HO2.out.trans hO); clear hO)
    | (refine (HZ.out _).mono ?_; rintro en w3 ⟨rfl, hO⟩; have HO3 := Lib.hid ((HO2.out.drewN _).trans hO); clear hO)
  go_wp2_with fail
  go_ret
  exact ⟨congrArg (fun z => Ending.returned (Value.string z)) hfin.out, HO3.out⟩
set_option maxHeartbeats 4000000 in
theorem text_dpm (b c : Nat) (e : Int) (hD : DgC b c e) (hc : c < 18446744073709551616) (_hn : Lib.nDigits c ≤ 17) (he : 20 < e ∧ e ≤ 999) (h1 : Lib.nDigits c ≠ 1) : TxC b c e := by
  intro w
  have HD := Lib.hid hD; clear hD
  have HN := Lib.hid (fun w => number_calls c w hc)
  have hl := Lib.decDigits_length c
  have hn0 := Lib.nDigits_pos c
  have hpl := pointB_len c
  have hr : laidB c e = pointB c ++ 101 :: Lib.itoa e := by unfold laidB; rw [if_neg (by omega), if_neg (by omega)]
  rw [hr]
  obtain ⟨S, hS⟩ : ∃ S : ByteArray, S = ⟨(Lib.decDigits c).toArray⟩ := ⟨_, rfl⟩
  have hz : S.size = Lib.nDigits c := by rw [hS, ba_size, hl]
  rw [← hS] at HN
  obtain ⟨k, hk⟩ : ∃ k : Nat, (k : Int) = e := ⟨e.toNat, by omega⟩
  have hit : Lib.itoa e = Lib.decDigits k := by
    unfold Lib.itoa
    rw [if_neg (by omega), show e.toNat = k by omega]
  obtain ⟨Z, hZ⟩ : ∃ Z : ByteArray, Z = ⟨(Lib.decDigits k).toArray⟩ := ⟨_, rfl⟩
  obtain ⟨Y, hY⟩ : ∃ Y : ByteArray, Y = ⟨(pointB c).toArray⟩ := ⟨_, rfl⟩
  have hy : Y.size ≤ 18 := by rw [hY, ba_size]; omega
  have hz2 : Z.size ≤ 20 := by rw [hZ, ba_size]; exact nd20 (by omega)
  have HZ := Lib.hid (fun w => number_calls k w (by omega))
  rw [← hZ] at HZ
  have hfin := Lib.hid (show Y ++ ⟨#[101]⟩ ++ Z = ⟨(pointB c ++ 101 :: Lib.itoa e).toArray⟩ by
    rw [hY, hZ, hit, show (⟨#[101]⟩ : ByteArray) = ⟨([101] : List UInt8).toArray⟩ from rfl, ba_append, ba_append]; simp)
  have hmany : S.extract 0 1 ++ ((⟨#[46]⟩ : ByteArray) ++ S.extract 1 (Lib.nDigits c)) = Y := by
    obtain ⟨x, l, h1, h2, h3⟩ := pointB_many h1
    rw [hS, hY, ba_extract, ba_extract, show (⟨#[46]⟩ : ByteArray) = ⟨([46] : List UInt8).toArray⟩ from rfl, ba_append, ba_append, h2, ← hl, h1]
    simp
  have e1 := Lib.hid hmany
  clear hmany
  have hn2 : 2 ≤ Lib.nDigits c := by omega
  clear h1
  have HK := Lib.hid hk
  clear hl hr hS hk hZ hY hpl hit
  generalize Lib.nDigits c = n at *
  go_enter Tryz.func27, Tryz.ntmps27
  go_wp2_with fail
  refine (HD.out _).mono ?_; rintro en w1 ⟨rfl, hO⟩; have HO1 := Lib.hid hO; clear hO HD
  go_wp2_with fail
  refine (HN.out _).mono ?_; rintro en w2 ⟨rfl, hO⟩; have HO2 := Lib.hid (HO1.out.trans hO); clear hO HN HO1
  go_wp2_with fail
  all_goals try (go_quiet (fail); go_wp2_with fail)
  rw [← HK.out, e1.out]
  first
    | (refine (HZ.out _).mono ?_; rintro en w3 ⟨rfl, hO⟩; have HO3 := Lib.hid (HO2.out.trans hO); clear hO)
    | (refine (HZ.out _).mono ?_; rintro en w3 ⟨rfl, hO⟩; have HO3 := Lib.hid ((HO2.out.drewN _).trans hO); clear hO)
  go_wp2_with fail
  go_ret
  exact ⟨congrArg (fun z => Ending.returned (Value.string z)) hfin.out, HO3.out⟩
end Go.Proofs.YthjfdhkahmlolaaGreatDoor
