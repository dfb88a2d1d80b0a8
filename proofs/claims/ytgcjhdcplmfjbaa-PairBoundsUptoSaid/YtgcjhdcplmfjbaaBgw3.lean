/- The walks of the reference's whole numbers: Up, By. -/
import Derived.Test.YtgcjhdcplmfjbaaBgw2
import Derived.Laws.OwnMore
namespace Go.Proofs.Ytgcjhdcplmfjbaa.Bg
open Go.RowKit

theorem run_append_own_zero {P : Program} {w : World} (base : Nat) (t ty e : TypeId) (i : TypeInfo) (size : Nat) (ht : P.underlying t = some (.slice e)) (hi : P.info? e = some i)
    (v : Value) (n : Nat) (xs : List Value) (hown : w.ownsRow base e size v n xs) (p : Option Addr) (c : Nat) :
    (Builtin.append_ #[t, t] ty #[v, .slice p 0 c]).run P w = .ok v w := by
  have h0 : ∀ a : Addr, (loadCells a 0).run P w = .ok #[] w := fun a => rfl
  rcases hown.2 with ⟨rfl, rfl⟩ | ⟨g, cap, cur, rfl, _, _, hnc, _⟩
  · cases p <;> simp [Builtin.append_, run_underlying ht, sizeOf, typeInfo, hi, Builtin.lenOf, Builtin.firstCells, h0]
  · cases p <;> simp [Builtin.append_, run_underlying ht, sizeOf, typeInfo, hi, Builtin.lenOf, Builtin.firstCells, hnc, storeCells, h0]
theorem Grew.refl {w : World} {base e size n : Nat} {v : Value} {xs : List Value} (_h : w.ownsRow base e size v n xs) (keep : Nat) : Grew w w v v keep :=
  ⟨⟨rfl, rfl, rfl, Nat.le_refl _, fun _ _ _ => rfl⟩, fun _ _ _ _ => rfl, fun _ _ => rfl, .inl rfl⟩
theorem wpList_append_any {P : Program} (w : World) {ops : Array Oper} {rest : List Oper} {o : Oper} {a : Act} {Q : Exit → Act → World → Prop}
    (hg : o.guard = none) (s x : Operand) (t : TypeId) (hop : o.op = Op.call { callee := Callee.builtin Builtin.append, args := #[s, x], argTypes := #[t, t] })
    (e : TypeId) (i : TypeInfo) (z : Value) (size bytes : Nat) (h1 : P.underlying t = some (.slice e)) (h2 : P.info? e = some i) (h3 : i.zero = some z) (h4 : i.size = size) (h5 : i.bytes = bytes) (h6 : z.cells.size = size) (h7 : 0 < size)
    (base n : Nat) (v : Value) (xs : List Value) (hs : a.eval s = v) (ho : w.ownsRow base e size v n xs) (hbase : base ≤ w.heap.size)
    (p : Option Addr) (m c : Nat) (news : List Value) (hx : a.eval x = .slice p m c) (hnil : p = none → m = 0) (hn : news.length = m * size) (hc : ∀ ad j u, p = some ad → news[j]? = some u → w.cell? (ad.add j) = some u) (h1c : ∀ u ∈ news, u.oneCell' = true)
    (b1 : n + m ≤ maxLen) (b2 : (n + m) * bytes ≤ 140737488355328)
    (hK : ∀ v' w', Grew w w' v v' (n * size) → w'.ownsRow base e size v' (n + m) (xs ++ news) → wpList P ops Q rest (a.put o.dst v') w') :
    wpList P ops Q (o :: rest) a w := by
  by_cases hm : m = 0
  · subst hm
    have hnews : news = [] := List.eq_nil_of_length_eq_zero (by simpa using hn)
    subst hnews
    refine wpList_plain hg fun K hK' => ?_
    have hrun := run_append_own_zero (P := P) (w := w) base t o.type e i size h1 h2 v n xs ho p c
    unfold Oper.wp
    simp [execOp, hop, resolve, invoke, builtin, hs, hx, hrun, Result.andThen]
    exact hK' _ _ (hK v w (Grew.refl ho _) (by simpa using ho))
  · cases p with
    | none => exact absurd (hnil rfl) hm
    | some ad => exact wpList_append_kept w hg s x t hop e i z size bytes h1 h2 h3 h4 h5 h6 h7 base n v xs hs ho hbase ad m c news hx hn (fun j u hj => hc ad j u rfl hj) h1c (by omega) b1 b2 hK
theorem zeros_dl (n : Nat) : List.replicate n (Value.int .u32 0) = dl (fun _ => 0) n := by
  unfold dl
  induction n with
  | zero => rfl
  | succ n ih => rw [List.replicate_succ', List.range_succ, List.map_append, ih]; rfl
theorem zeros_row {w w2 : World} {n : Nat} (hn : n ≤ 100000) (O : Only (fun _ => False) (w.alloc (.cells (madeCells #[.int .u32 0] n) 56)) w2) :
    w2.ownsRow w.heap.size 56 1 (.slice (some ⟨w.heap.size, 0, none⟩) n n) n (dl (fun _ => 0) n) := by
  refine ⟨by simp [dl], .inr ⟨w.heap.size, n, madeCells #[.int .u32 0] n, rfl, Nat.le_refl _, O.blk (blk_new _ _) id, Nat.le_refl _, by unfold maxLen; omega, by simp [size_madeCells], ?_⟩⟩
  rw [toList_madeCells_one, ← zeros_dl, List.take_of_length_le (by simp)]
theorem dl_app (a : Nat → Nat) (k n : Nat) : dl (fun _ => 0) k ++ dl a n = dl (fun i => if i < k then 0 else a (i - k)) (k + n) := by
  unfold dl
  rw [List.range_add, List.map_append]
  congr 1
  · apply List.map_congr_left; intro i hi; dsimp only; rw [if_pos (by simpa using hi)]
  · rw [List.map_map]; apply List.map_congr_left; intro i _
    show _ = Value.int .u32 ((if k + i < k then 0 else a (k + i - k) : Nat) : Int)
    rw [if_neg (by omega), show k + i - k = i by omega]
theorem dl_src {w : World} {p : Option Addr} {n : Nat} {d : Nat → Nat} (h : Bx w p n d) : ∀ ad j u, p = some ad → (dl d n)[j]? = some u → w.cell? (ad.add j) = some u := by
  intro ad j u hp hj
  have hlt : j < n := by
    have := (List.getElem?_eq_some_iff.1 hj).1
    simpa [dl] using this
  obtain ⟨b, o, e, h1, h2, h3⟩ := h j hlt
  rw [hp] at e; injection e with e; subst e
  have e2 : (dl d n)[j]? = some (.int .u32 (d j : Nat)) := by simp [dl, hlt]
  rw [e2] at hj; injection hj with hj
  have ha : (⟨b, o, none⟩ : Addr).add j = ⟨b, o + j, none⟩ := by simp [Addr.add]
  rw [ha, h2, hj]
theorem dl_one (d : Nat → Nat) (n : Nat) : ∀ u ∈ dl d n, u.oneCell' = true := by
  intro u hu
  obtain ⟨j, _, rfl⟩ := List.mem_map.1 hu
  rfl
theorem W_two (n : Nat) : W n = 2 ^ (32 * n) := by
  induction n with
  | zero => rfl
  | succ n ih => rw [W_succ, ih, show 32 * (n + 1) = 32 * n + 32 by omega, Nat.pow_add]
theorem up_val (x k : Nat) : W (k / 32) * (x * 2 ^ (k % 32)) = x * 2 ^ k := by
  rw [W_two, Nat.mul_left_comm, ← Nat.pow_add, Nat.div_add_mod]
/-- behind the append -/
theorem up_own {w w' : World} {k n : Nat} {v : Value} {d : Nat → Nat} (hd : Dg d n) (h : w'.ownsRow w.heap.size 56 1 v (k + n) (dl (fun _ => 0) k ++ dl d n)) : Own w.heap.size w' v (k + n) (fun i => if i < k then 0 else d (i - k)) := by
  refine ⟨by rw [← dl_app]; exact h, fun i hi => ?_⟩
  dsimp only
  split
  · omega
  · exact hd _ (by omega)
theorem pow32 {j : Nat} (h : j < 32) : 2 ^ j < 4294967296 := by
  have : 2 ^ j < 2 ^ 32 := Nat.pow_lt_pow_right (by omega) h
  simpa using this
theorem up_lt {x k m : Nat} (hx : x < W m) : x * 2 ^ (k % 32) < W (m + 1) := by
  have h1 := pow32 (Nat.mod_lt k (show 32 > 0 by omega))
  rw [W_succ]
  calc x * 2 ^ (k % 32) ≤ x * 4294967296 := Nat.mul_le_mul_left _ (by omega)
    _ < W m * 4294967296 := Nat.mul_lt_mul_of_pos_right hx (by omega)
theorem run_make32 (k : Nat) (h : k ≤ 100000) (W : World) : Sem.run Try.prog (Instr.makeSlice 49 (.int .i64 ((k : Int) / 32)) (.int .i64 ((k : Int) / 32))) W = .ok (.slice (some ⟨W.heap.size, 0, none⟩) (k / 32) (k / 32)) (W.alloc (.cells (madeCells #[.int .u32 0] (k / 32)) 56)) := by
  obtain ⟨i4, hi4, hz4, hs4, hb4⟩ := info_parts info56
  have hmk := run_make (P := Try.prog) (w := W) 49 56 i4 (.int .u32 0) Try.underlying49 hi4 hz4 .i64 .i64 ((k : Int) / 32) ((k : Int) / 32) (by omega) (by omega) (by rw [hb4]; omega) (by omega)
  rw [hs4, show ((k : Int) / 32).toNat = k / 32 by omega, Nat.mul_one] at hmk
  exact hmk
theorem mul_lt' {x m : Nat} (hx : x < W m) : x * 2 ^ 32 < W (m + 1) := by
  rw [W_succ]
  exact Nat.mul_lt_mul_of_pos_right hx (by omega)
set_option maxHeartbeats 2000000 in
theorem up_in (w : World) (p : Option Addr) (n c1 k : Nat) (a : Nat → Nat) (hn : n ≤ 30000) (hk : k ≤ 5000) (ha : Bx w p n a) :
    Calls Try.prog 39 #[.slice p n c1, .int .i64 (k : Nat)] w fun e w' => ∃ v, e = .returned v ∧ BigV w' v (bv a n * 2 ^ k) ∧ Only (fun _ => False) w w' := by
  obtain ⟨i3, hi3, hz3, hs3, hb3⟩ := info_parts info56
  have hmk := run_make32 k (by omega)
  have hA : Only (fun _ => False) w (w.alloc (.cells (madeCells #[.int .u32 0] (k / 32)) 56)) := (Only.refl _ _).alloc _
  have K := times_in _ p n c1 (2 ^ (k % 32)) a (by omega) (pow32 (Nat.mod_lt k (by omega))) (ha.only hA)
  have he : (((2 ^ (k % 32) : Nat) : Int)) = 2 ^ (k % 32) % 4294967296 := by
    have := pow32 (Nat.mod_lt k (show 32 > 0 by omega))
    rw [← Nat.mod_eq_of_lt this]
    simp
  rw [he] at K
  have hlt := up_lt (k := k) (bv_lt (Bx.dg ha))
  have HA := Lib.hid hA; have HK := Lib.hid K; have HL := Lib.hid hlt
  clear hA K he hlt
  go_enter Try.func39, Try.ntmps39
  go_wp2_with fail
  refine HK.out.mono ?_
  rintro e w2 ⟨v, rfl, ⟨p2, n2, c2, d2, rfl, h1, h2, h3, h4, h5, h6⟩, O2⟩
  have R2 := Lib.hid (zeros_row (by omega) O2)
  have n2l : n2 ≤ n + 1 := len_lt h5 (by rw [h4]; exact HL.out)
  have D2 := Lib.hid h3; have V2 := Lib.hid h4; have N2 := Lib.hid h6; have P2 := Lib.hid (HA.out.trans O2)
  clear h3 h4 h5 h6 O2 HK
  go_wp2_with (at_builtin; go_loud (refine wpList_append_any _ rfl (.tmp 9) (.tmp 14) 49 rfl 56 i3 (.int .u32 0) 1 4 Try.underlying49 hi3 hz3 hs3 hb3 rfl (by decide) w.heap.size (k / 32) _ (dl (fun _ => 0) (k / 32)) (by simp [Act.eval]) R2.out P2.out.size p2 n2 c2 (dl d2 n2) (by simp [Act.eval]) N2.out (by simp [dl]) (dl_src D2.out) (dl_one _ _) (by unfold maxLen; omega) (by omega) ?_; intro v' w' hgr hown; have N := Lib.hid (up_own (Bx.dg D2.out) hown); have O := Lib.hid (P2.out.grown hgr.grown (fun q hq => .inl ((R2.out).lt q hq).1)); clear hgr hown; obtain ⟨p5, c5, rfl, s1, s2, s3, s4⟩ := N.out.slice; have T := Lib.hid (trim_calls w' p5 (k / 32 + n2) c5 _ s1 s2 s3 s4); clear s1 s2 s3 s4))
  refine T.out.mono ?_
  rintro e w4 ⟨v, rfl, hv, rfl⟩
  have ev : bv (fun i => if i < k / 32 then 0 else d2 (i - k / 32)) (k / 32 + n2) = bv a n * 2 ^ k := by rw [bv_up, V2.out, up_val]
  rw [ev] at hv
  have HV := Lib.hid hv
  obtain ⟨p6, n6, c6, d6, rfl, _⟩ := hv
  clear ev
  go_wp2_with fail
  go_ret
  exact ⟨_, rfl, HV.out, O.out⟩
theorem up_calls (w : World) (va : Value) (x k : Nat) (ha : BigV w va x) (bx : x < W 30000) (hk : k ≤ 5000) :
    Calls Try.prog 39 #[va, .int .i64 (k : Nat)] w fun e w' => ∃ v, e = .returned v ∧ BigV w' v (x * 2 ^ k) ∧ Only (fun _ => False) w w' := by
  obtain ⟨p, n, c1, a, rfl, h1, h2, h3, rfl, h5, h6⟩ := ha
  exact up_in w p n c1 k a (len_lt h5 bx) hk h3
theorem by_val (x n : Nat) : x * (n % 4294967296) + x * (n / 4294967296) * 2 ^ 32 = x * n := by
  rw [Nat.mul_assoc, ← Nat.mul_add]
  congr 1
  omega
theorem W_lt {x m k : Nat} (h : x < W m) (hk : m ≤ k) : x < W k := Nat.lt_of_lt_of_le h (W_mono hk)
theorem mul_lt {x y m : Nat} (hx : x < W m) (hy : y < 4294967296) : x * y < W (m + 1) := by
  rw [W_succ]
  calc x * y ≤ x * 4294967296 := Nat.mul_le_mul_left _ (by omega)
    _ < W m * 4294967296 := Nat.mul_lt_mul_of_pos_right hx (by omega)
set_option maxHeartbeats 2000000 in
theorem by_calls (w : World) (va : Value) (x n : Nat) (ha : BigV w va x) (bx : x < W 20000) (hn : n < 18446744073709551616) :
    Calls Try.prog 37 #[va, .int .u64 (n : Nat)] w fun e w' => ∃ v, e = .returned v ∧ BigV w' v (x * n) ∧ Only (fun _ => False) w w' := by
  have e1 : ((n : Int) % 4294967296) = ((n % 4294967296 : Nat) : Int) := by omega
  have e2 : ((n : Int) / 4294967296) = ((n / 4294967296 : Nat) : Int) := by omega
  have e3 : ((n : Int) / 4294967296 % 4294967296) = ((n / 4294967296 : Nat) : Int) := by omega
  have K1 := times_calls w va x (n % 4294967296) ha (W_lt bx (by omega)) (Nat.mod_lt _ (by omega))
  have hA := ha
  have HB := Lib.hid ha
  have B1 := Lib.hid (mul_lt bx (Nat.mod_lt n (show 4294967296 > 0 by omega)))
  have B2 := Lib.hid (mul_lt bx (show n / 4294967296 < 4294967296 by omega))
  have E1 := Lib.hid e1; have E2 := Lib.hid e2; have E3 := Lib.hid e3; have BX := Lib.hid bx
  rw [← e1] at K1
  have HK1 := Lib.hid K1
  clear K1 e1 e2 e3
  obtain ⟨p, m, c, d, rfl, _⟩ := hA
  go_enter Try.func37, Try.ntmps37
  go_wp2_with fail
  refine HK1.out.mono ?_
  rintro e w2 ⟨v, rfl, hv, O2⟩
  have K2 := times_calls w2 _ x (n / 4294967296) (HB.out.only O2) (W_lt BX.out (by omega)) (by omega)
  rw [← E2.out] at K2
  have HK2 := Lib.hid K2; have V2 := Lib.hid hv; have P2 := Lib.hid O2
  clear K2 O2 HK1
  obtain ⟨p2, m2, c2, d2, rfl, _⟩ := hv
  go_wp2_with fail
  refine HK2.out.mono ?_
  rintro e w3 ⟨v, rfl, hv, O3⟩
  have V3 := Lib.hid (V2.out.only O3)
  have HK3 := Lib.hid (up_calls w3 _ (x * (n / 4294967296)) 32 hv (W_lt B2.out (by omega)) (by omega))
  have P3 := Lib.hid (P2.out.trans O3)
  clear O3 HK2 P2 V2
  obtain ⟨p3, m3, c3, d3, rfl, _⟩ := hv
  go_wp2_with fail
  refine HK3.out.mono ?_
  rintro e w4 ⟨v, rfl, hv, O4⟩
  have V4 := V3.out.only O4
  have h4 : x * (n / 4294967296) * 2 ^ 32 < W 20002 := mul_lt' B2.out
  have HK4 := Lib.hid (plus_calls w4 _ _ _ _ V4 hv (W_lt B1.out (by omega)) (W_lt h4 (by omega)))
  have P4 := Lib.hid (P3.out.trans O4)
  clear O4 HK3 P3 V3 V4 h4
  obtain ⟨p4, m4, c4, d4, rfl, _⟩ := hv
  go_wp2_with fail
  refine HK4.out.mono ?_
  rintro e w5 ⟨v, rfl, hv, O5⟩
  rw [by_val] at hv
  have HV := Lib.hid hv
  have P5 := Lib.hid (P4.out.trans O5)
  obtain ⟨p5, m5, c5, d5, rfl, _⟩ := hv
  clear O5
  go_wp2_with fail
  go_ret
  exact ⟨_, rfl, HV.out, P5.out⟩
end Go.Proofs.Ytgcjhdcplmfjbaa.Bg
