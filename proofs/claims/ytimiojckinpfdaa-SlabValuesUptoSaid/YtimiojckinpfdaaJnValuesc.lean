/- The walks of slices.IndexFunc and slices.DeleteFunc: counts of 0 are struck. -/
import Derived.Test.YtimiojckinpfdaaRows
import Derived.Lib.SliceRun
import Derived.Deep.RegionHeld3
import Derived.Test.YtimiojckinpfdaaJnValuesb
namespace Go.Proofs.Ytimiojckinpfdaa
open Go.RowKit Srt

theorem del_no (x : Int) (y : Nat) (hy : y ≠ 0) (w : World) : Calls Try.prog 78 #[.agg #[.int .i64 x, .int .u64 (y : Nat)]] w fun e w' => e = .returned (.bool false) ∧ Only (fun _ => False) w w' := by
  have k : ((y : Int) == 0) = false := by simp; exact hy
  have k2 : (y == 0) = false := by simp; exact hy
  have O := Lib.hid ((Only.refl (fun _ => False) w).alloc (.cells #[.int .i64 x, .int .u64 (y : Nat)] 55))
  go_enter Try.func78, Try.ntmps78
  go_wp2_with fail
  go_ret
  exact ⟨rfl, O.out⟩
theorem del_yes (x : Int) (w : World) : Calls Try.prog 78 #[.agg #[.int .i64 x, .int .u64 ((0 : Nat) : Int)]] w fun e w' => e = .returned (.bool true) ∧ Only (fun _ => False) w w' := by
  have O := Lib.hid ((Only.refl (fun _ => False) w).alloc (.cells #[.int .i64 x, .int .u64 ((0 : Nat) : Int)] 55))
  go_enter Try.func78, Try.ntmps78
  go_wp2_with fail
  go_ret
  exact ⟨rfl, O.out⟩
def delf : Value := .func (.func 78) #[] #[]
def IxR (w : World) (n : Nat) (c : Nat → Cn) (v : Value) (wr : World) : Prop := ∃ k : Nat, k ≤ n ∧ v = .int .i64 k ∧ (∀ i, i < k → (c i).2 ≠ 0) ∧ Only (fun _ => False) w wr
def IxRes (w : World) (n : Nat) (c : Nat → Cn) (e : Ending) (w' : World) : Prop := Only (fun _ => False) w w' ∧ ((e = .returned (.int .i64 (-1)) ∧ ∀ i, i < n → (c i).2 ≠ 0) ∨ ∃ k : Nat, k < n ∧ e = .returned (.int .i64 k) ∧ (c k).2 = 0 ∧ ∀ i, i < k → (c i).2 ≠ 0)
set_option maxRecDepth 100000 in
set_option maxHeartbeats 2000000 in
theorem index_calls (p : Option Addr) (n cap : Nat) (c : Nat → Cn) (w : World) (hn : n ≤ 9007199254740992) (hc : Cnts w p n c) : Calls Try.prog 103 #[.slice p n cap, delf] w (IxRes w n c) := by
  have C := Lib.hid hc; clear hc
  unfold delf
  go_enter Try.func103, Try.ntmps103
  go_wp2_with fail
  go_loopw [8] (fun v wr => IxR w n c v wr) (fun v _ => n - (intOf v).toNat)
  case atStart => exact ⟨0, Nat.zero_le _, rfl, fun i hi => by omega, Only.refl _ _⟩
  case round =>
    obtain ⟨k, hk, rfl, hz, O⟩ := hrel
    have Z := Lib.hid hz; clear hz
    by_cases hlt : k < n
    · obtain ⟨b, o, rfl, g1, d1, e1⟩ := (C.out.only O (fun _ _ h => h)) k hlt
      unfold ci at d1
      unfold cn at e1
      rcases hx : c k with ⟨x, y⟩
      rw [hx] at d1 e1
      dsimp only at d1 e1
      have X := Lib.hid hx; clear hx
      have O' := Lib.hid O; clear O
      by_cases hy : y = 0
      · subst hy
        go_wp2_with fail
        refine (del_yes x wr).mono ?_
        rintro e2 w2 ⟨rfl, O2⟩
        have O3 := Lib.hid (O'.out.trans O2)
        clear O2
        go_wp2_with fail
        go_ret
        exact ⟨O3.out, .inr ⟨k, hlt, rfl, by rw [X.out], Z.out⟩⟩
      · go_wp2_with fail
        refine (del_no x y hy wr).mono ?_
        rintro e2 w2 ⟨rfl, O2⟩
        have O3 := Lib.hid (O'.out.trans O2)
        clear O2
        go_wp2_with fail
        go_roundw
        case rel => exact ⟨k + 1, by omega, by go_num, fun i hi => by
          rcases Nat.lt_or_eq_of_le (Nat.le_of_lt_succ hi) with h | rfl
          · exact Z.out i h
          · rw [X.out]; exact hy, O3.out⟩
        case measure => simp [intOf]; omega
    · obtain rfl : k = n := by omega
      have O' := Lib.hid O; clear O
      go_wp2_with fail
      go_ret
      exact ⟨O'.out, .inl ⟨rfl, Z.out⟩⟩
theorem zero55 (w : World) : (zeroValue 55).run Try.prog w = .ok (.agg #[.int .i64 0, .int .u64 0]) w := by
  obtain ⟨i3, hi3, hz3, hs3, hb3⟩ := info_parts info55
  simp [zeroValue, typeInfo, hi3, hz3]
theorem run_clear2 {w : World} {g n cap i : Nat} {h : Nat → Cn} (hR : RowC w g n cap h) (hi : i < n) : ∃ w', (∀ ty, (Builtin.clear_ #[36] ty #[.slice (some ⟨g, i * 2, none⟩) (n - i) (cap - i)]).run Try.prog w = .ok (.tuple #[]) w') ∧ Only (· = g) w w' ∧ RowC w' g i cap h := by
  obtain ⟨X, h1, h2, h3, h4, h5⟩ := hR
  have hz : (Builtin.zeroCells #[Value.int .i64 0, .int .u64 0] (n - i)).toList.length = (n - i) * 2 := by
    rw [Array.length_toList, zero_len]; rfl
  have hst := run_storeCells_at Try.prog g (i * 2) 55 (Builtin.zeroCells #[Value.int .i64 0, .int .u64 0] (n - i)).toList 0 X w h1 (by rw [hz]; omega) (by
    intro v hv
    unfold Builtin.zeroCells at hv
    simp at hv
    obtain ⟨j, hj, rfl⟩ := hv
    have : j % 2 = 0 ∨ j % 2 = 1 := by omega
    rcases this with e | e <;> rw [e] <;> rfl)
  have e1 : ∀ j, j < i * 2 → (X.toList.take (i * 2) ++ (Builtin.zeroCells #[Value.int .i64 0, .int .u64 0] (n - i)).toList ++ X.toList.drop (i * 2 + (Builtin.zeroCells #[Value.int .i64 0, .int .u64 0] (n - i)).toList.length)).toArray[j]? = X[j]? := fun j hj => by
    rw [List.getElem?_toArray, List.append_assoc, List.getElem?_append_left (by simp; omega), List.getElem?_take, if_pos hj, Array.getElem?_toList]
  have e2 : (X.toList.take (i * 2) ++ (Builtin.zeroCells #[Value.int .i64 0, .int .u64 0] (n - i)).toList ++ X.toList.drop (i * 2 + (Builtin.zeroCells #[Value.int .i64 0, .int .u64 0] (n - i)).toList.length)).toArray.size = cap * 2 := by
    rw [List.size_toArray, List.length_append, List.length_append, hz]; simp; omega
  rw [Nat.add_zero] at hst
  generalize (X.toList.take (i * 2) ++ (Builtin.zeroCells #[Value.int .i64 0, .int .u64 0] (n - i)).toList ++ X.toList.drop (i * 2 + (Builtin.zeroCells #[Value.int .i64 0, .int .u64 0] (n - i)).toList.length)).toArray = Y at hst e1 e2
  refine ⟨w.setRow g Y, fun ty => ?_, ⟨rfl, rfl, rfl, by simp [World.setRow], fun k hk hne => setRow_other w g k _ hne⟩, ⟨Y, setRow_heap w g _ _ _ _ h1, e2, by omega, h4, fun k hk => ?_⟩⟩
  · obtain ⟨m, hm⟩ : ∃ m, n - i = m + 1 := ⟨n - i - 1, by omega⟩
    rw [hm] at hst ⊢
    simp [Builtin.clear_, run_underlying Try.underlying36, Value.cells, hst]
  · obtain ⟨q1, q2⟩ := h5 k (by omega)
    rw [e1 _ (by omega), e1 _ (by omega)]
    exact ⟨q1, q2⟩
def DfR (w : World) (g n cap : Nat) (f : Nat → Cn) (p q : Value) (wr : World) : Prop := ∃ i j : Nat, ∃ h, p = .int .i64 i ∧ q = .int .i64 j ∧ i < j ∧ j ≤ n ∧ win h 0 i = (win f 0 j).filter (fun x => x.2 != 0) ∧ (∀ k, j ≤ k → h k = f k) ∧ RowC wr g n cap h ∧ Only (· = g) w wr
/-- what DeleteFunc answers: the counts that are not 0, in the row's own block -/
def DelRes (w : World) (g n cap : Nat) (f : Nat → Cn) (e : Ending) (w' : World) : Prop := ∃ i h, e = .returned (hv g i cap) ∧ i ≤ n ∧ win h 0 i = (win f 0 n).filter (fun x => x.2 != 0) ∧ RowC w' g i cap h ∧ Only (· = g) w w'
theorem filter_all {f : Nat → Cn} {n : Nat} (h : ∀ i, i < n → (f i).2 ≠ 0) : (win f 0 n).filter (fun x => x.2 != 0) = win f 0 n :=
  List.filter_eq_self.2 fun x hx => by
    obtain ⟨k, _, hk, rfl⟩ := mem_win.1 hx
    simpa using h k hk
theorem filter_snoc (f : Nat → Cn) (j : Nat) : (win f 0 (j + 1)).filter (fun x => x.2 != 0) = (win f 0 j).filter (fun x => x.2 != 0) ++ if (f j).2 = 0 then [] else [f j] := by
  rw [win_snoc f (Nat.zero_le _), List.filter_append]
  congr 1
  split
  · rename_i h; simp [h]
  · rename_i h; simp [h]
theorem win_put (h : Nat → Cn) (i : Nat) (x : Cn) : win (fun k => if k = i then x else h k) 0 (i + 1) = win h 0 i ++ [x] := by
  rw [win_snoc _ (Nat.zero_le _)]
  congr 1
  · exact win_congr fun k _ hk => if_neg (by omega)
  · rw [if_pos rfl]
set_option maxRecDepth 100000 in
set_option maxHeartbeats 4000000 in
theorem delete_calls (g n cap : Nat) (f : Nat → Cn) (w : World) (hn : n ≤ 9007199254740992) (hR : RowC w g n cap f) : Calls Try.prog 77 #[hv g n cap, delf] w (DelRes w g n cap f) := by
  have K := Lib.hid (index_calls (some ⟨g, 0, none⟩) n cap f w hn (hR.cnts (Nat.le_refl _)))
  have R := Lib.hid hR
  have hnc : n ≤ cap := by obtain ⟨_, _, _, q, _⟩ := hR; exact q
  have hcm : cap ≤ maxLen := by obtain ⟨_, _, _, _, q, _⟩ := hR; exact q
  have hgl : g < w.heap.size := by obtain ⟨_, q, _⟩ := hR; exact blk_lt q
  unfold maxLen at hcm
  clear hR
  unfold delf at *
  go_enter Try.func77, Try.ntmps77
  go_wp2_with fail
  refine K.out.mono ?_
  rintro e w1 ⟨O1, ⟨rfl, hz⟩ | ⟨i, hi, rfl, hz, hz2⟩⟩
  · have Z := Lib.hid hz
    have O := Lib.hid O1
    clear hz O1
    go_wp2_with fail
    go_ret
    exact ⟨n, f, rfl, Nat.le_refl _, (filter_all Z.out).symm, R.out.only O.out id, O.out.mono (fun _ _ h => h.elim)⟩
  · have O := Lib.hid O1
    have R1 := Lib.hid (R.out.only O1 id)
    have I0 := Lib.hid (show win f 0 i = (win f 0 (i + 1)).filter (fun x => x.2 != 0) by rw [filter_snoc, if_pos hz, List.append_nil, filter_all hz2])
    have kn : ((i : Int) == -1) = false := by simp <;> omega
    clear hz hz2 O1
    go_wp2_with fail
    go_loopw [5, 6] (fun p q wr => DfR w g n cap f p q wr) (fun _ q _ => n - (intOf q).toNat)
    case atStart => exact ⟨i, i + 1, f, rfl, by go_num, by omega, hi, I0.out, fun _ _ => rfl, R1.out, O.out.mono (fun _ _ h => h.elim)⟩
    case round =>
      obtain ⟨i, j, h, rfl, rfl, hij, hjn, hwin, htail, hR2, hO2⟩ := hrel
      have hin : i < n := by omega
      by_cases hlt : j < n
      · obtain ⟨x0, x1, x2, x3⟩ := hR2.arr.get hlt
        obtain ⟨y0, y1, y2, y3⟩ := hR2.arr.get hin
        rw [htail j (Nat.le_refl _)] at x0 x1
        rcases hx : f j with ⟨u, v⟩
        rw [hx] at x0 x1
        dsimp only at x0 x1
        have HW := Lib.hid hwin
        have HT := Lib.hid htail
        have H2 := Lib.hid hR2
        have P2 := Lib.hid hO2
        have HX := Lib.hid hx
        clear hwin htail hR2 hO2 hx y0 y1 y2 y3
        by_cases hv0 : v = 0
        · subst hv0
          go_wp2_with fail
          refine (del_yes u _).mono ?_
          rintro e3 w3 ⟨rfl, O3⟩
          have O4 := ((Only.refl (fun _ => False) wr).alloc _).trans O3
          have X := Lib.hid (show DfR w g n cap f (.int .i64 i) (.int .i64 ((j : Int) + 1)) w3 from ⟨i, j + 1, h, rfl, by go_num, by omega, hlt, by rw [HW.out, filter_snoc, HX.out, if_pos rfl, List.append_nil], fun k hk => HT.out k (by omega), H2.out.only O4 id, P2.out.trans (O4.mono (fun _ _ h => h.elim))⟩)
          clear O3 O4
          go_wp2_with fail
          go_roundw
          case rel => exact X.out
          case measure => simp [intOf]; omega
        · go_wp2_with fail
          refine (del_no u v hv0 _).mono ?_
          rintro e3 w3 ⟨rfl, O3⟩
          have O4 := ((Only.refl (fun _ => False) wr).alloc _).trans O3
          have hb := O3.blk (blk_new wr (.cells #[.int .i64 u, .int .u64 (v : Nat)] 55)) id
          have d0 := blk_cell hb 0
          have d1 := blk_cell hb 1
          have R4 := H2.out.only O4 id
          obtain ⟨y0, y1, y2, y3⟩ := R4.arr.get hin
          have X := Lib.hid (show DfR w g n cap f (.int .i64 ((i : Int) + 1)) (.int .i64 ((j : Int) + 1)) ((w3.setCell ⟨g, i * 2, none⟩ (.int .i64 u)).setCell ⟨g, i * 2 + 1, none⟩ (.int .u64 (v : Nat))) from
            ⟨i + 1, j + 1, _, by go_num, by go_num, by omega, hlt, by rw [win_put, HW.out, filter_snoc, HX.out, if_neg hv0], fun k hk => by rw [if_neg (by omega)]; exact HT.out k (by omega), R4.put i (u, v) |>.take (by omega), (P2.out.trans (O4.mono (fun _ _ h => h.elim))).trans (((Only.refl (· = g) w3).setCell (p := ⟨g, _, none⟩) (.inr rfl) _).setCell (p := ⟨g, _, none⟩) (.inr rfl) _)⟩)
          clear O3 O4 hb R4
          simp at d0 d1
          go_wp2_with fail
          go_roundw
          case rel => exact X.out
          case measure => simp [intOf]; omega
      · obtain rfl : j = n := by omega
        obtain ⟨w4, hcl, O4, R4⟩ := run_clear2 hR2 hin
        have X := Lib.hid (show DelRes w g j cap f (.returned (hv g i cap)) w4 from ⟨i, h, rfl, by omega, hwin, R4, hO2.trans O4⟩)
        have hic : i ≤ cap := by omega
        have hne : ¬ cap = i := by omega
        clear hwin htail hR2 hO2 O4 R4
        go_wp2_with fail
        go_ret
        exact X.out
end Go.Proofs.Ytimiojckinpfdaa

/- The walks of the order of counts, and of the insertion sort. -/
namespace Go.Proofs.Ytimiojckinpfdaa
open Go.RowKit Srt

def cmpN (x y : Cn) : Int := if x.1 < y.1 then -1 else if x.1 > y.1 then 1 else 0
theorem cmp_calls (x y : Cn) (w : World) :
    Calls Try.prog 76 #[.agg #[.int .i64 x.1, .int .u64 (x.2 : Nat)], .agg #[.int .i64 y.1, .int .u64 (y.2 : Nat)]] w fun e w' => e = .returned (.int .i64 (cmpN x y)) ∧ Only (fun _ => False) w w' := by
  obtain ⟨x, p⟩ := x
  obtain ⟨y, q⟩ := y
  unfold cmpN
  dsimp only
  have O := (((Only.refl (fun _ => False) w).alloc (.cells #[.int .i64 x, .int .u64 (p : Nat)] 55)).alloc (.cells #[.int .i64 y, .int .u64 (q : Nat)] 55))
  have O' := Lib.hid O; clear O
  by_cases h1 : x < y
  · have k1 : decide (x < y) = true := by simpa using h1
    rw [if_pos h1]
    go_enter Try.func76, Try.ntmps76
    go_wp2_with fail
    go_ret
    exact ⟨rfl, O'.out⟩
  · have k1 : decide (x < y) = false := by simpa using h1
    rw [if_neg h1]
    by_cases h2 : x > y
    · have k2 : decide (x > y) = true := by simpa using h2
      rw [if_pos h2]
      go_enter Try.func76, Try.ntmps76
      go_wp2_with fail
      go_ret
      exact ⟨rfl, O'.out⟩
    · have k2 : decide (x > y) = false := by simpa using h2
      rw [if_neg h2]
      go_enter Try.func76, Try.ntmps76
      go_wp2_with fail
      go_ret
      exact ⟨rfl, O'.out⟩
abbrev aggv (x : Cn) : Value := .agg #[.int .i64 x.1, .int .u64 (x.2 : Nat)]
theorem cmpN_lt {x y : Cn} (h : x.1 < y.1) : decide (cmpN x y < 0) = true := by unfold cmpN; rw [if_pos h]; rfl
theorem cmpN_ge {x y : Cn} (h : ¬ x.1 < y.1) : decide (cmpN x y < 0) = false := by
  unfold cmpN; rw [if_neg h]; split <;> rfl
/-- two elements that are compared: what stays -/
structure Cm (W : World) (g i j : Nat) (x y : Cn) (w : World) : Prop where
  only : Only (fun _ => False) W w
  gl : g < W.heap.size
  a : ArrAt w g i x
  b : ArrAt w g j y
def Cells4 (g i j : Nat) (x1 : Int) (x2 : Nat) (y1 : Int) (y2 : Nat) (w : World) : Prop :=
  w.cell? ⟨g, i * 2, none⟩ = some (.int .i64 x1) ∧ w.cell? ⟨g, i * 2 + 1, none⟩ = some (.int .u64 (x2 : Nat)) ∧ w.cell? ⟨g, j * 2, none⟩ = some (.int .i64 y1) ∧ w.cell? ⟨g, j * 2 + 1, none⟩ = some (.int .u64 (y2 : Nat))
theorem Cm.cells {W : World} {g i j : Nat} {x1 : Int} {x2 : Nat} {y1 : Int} {y2 : Nat} {w : World} (h : Cm W g i j (x1, x2) (y1, y2) w) :
    w.cell? ⟨g, i * 2, none⟩ = some (.int .i64 x1) ∧ w.cell? ⟨g, i * 2 + 1, none⟩ = some (.int .u64 (x2 : Nat)) ∧ w.cell? ⟨g, j * 2, none⟩ = some (.int .i64 y1) ∧ w.cell? ⟨g, j * 2 + 1, none⟩ = some (.int .u64 (y2 : Nat)) := ⟨h.a.c0, h.a.c1, h.b.c0, h.b.c1⟩
theorem ArrAt.only {S : Nat → Prop} {w w' : World} {g i : Nat} {x : Cn} (h : ArrAt w g i x) (O : Only S w w') (hs : ¬ S g) : ArrAt w' g i x := by
  have hl : g < w.heap.size := World.block_lt_of_cell? w _ h.c0
  have fr : ∀ o, w'.frozen? ⟨g, o, none⟩ = w.frozen? ⟨g, o, none⟩ := fun o => World.frozen?_of_block (w := w) (O.block g hl hs)
  exact ⟨by rw [O.cellAt hl hs]; exact h.c0, by rw [O.cellAt hl hs]; exact h.c1, by rw [fr]; exact h.f0, by rw [fr]; exact h.f1⟩
theorem Cm.to {W : World} {g i j : Nat} {x y : Cn} {w w' : World} (h : Cm W g i j x y w) (O : Only (fun _ => False) w w') : Cm W g i j x y w' :=
  ⟨h.only.trans O, h.gl, h.a.only O id, h.b.only O id⟩
theorem Cm.drew {W : World} {g i j : Nat} {x y : Cn} {w : World} (h : Cm W g i j x y w) : Cm W g i j x y w.drew := h.to (Only.refl _ _).drew
theorem Cm.start {W : World} {g n i j : Nat} {f : Nat → Cn} (h : Arr W g n f) (hi : i < n) (hj : j < n) : Cm W g i j (f i) (f j) W :=
  ⟨Only.refl _ _, World.block_lt_of_cell? W _ (h.get hi).c0, h.get hi, h.get hj⟩
theorem cm_cmp {W : World} {g i j : Nat} {x1 : Int} {x2 : Nat} {y1 : Int} {y2 : Nat} {w : World} (h : Cm W g i j (x1, x2) (y1, y2) w) :
    Calls Try.prog 76 #[.agg #[.int .i64 x1, .int .u64 (x2 : Nat)], .agg #[.int .i64 y1, .int .u64 (y2 : Nat)]] w fun e w' => e = .returned (.int .i64 (cmpN (x1, x2) (y1, y2))) ∧ Cm W g i j (x1, x2) (y1, y2) w' :=
  (cmp_calls (x1, x2) (y1, y2) w).mono fun _ _ ⟨he, O⟩ => ⟨he, h.to O⟩

/-- the order, as a value -/
def cmpf : Value := .func (.func 76) #[] #[]
def InsO (w : World) (g n a b : Nat) (f : Nat → Cn) (v : Value) (wr : World) : Prop := ∃ i : Nat, ∃ h, v = .int .i64 i ∧ a + 1 ≤ i ∧ (i = a + 1 ∨ i ≤ b) ∧ Anew f h a b ∧ Sorted (win h a i) ∧ Only (· = g) w wr ∧ Arr wr g n h
def InsI (w : World) (g n a b i : Nat) (f : Nat → Cn) (v : Value) (wr : World) : Prop := ∃ j : Nat, ∃ h, v = .int .i64 j ∧ a ≤ j ∧ j ≤ i ∧ Anew f h a b ∧ Ins h a i j ∧ Only (· = g) w wr ∧ Arr wr g n h
theorem swp_comm (f : Nat → Cn) (i j : Nat) : swp f i j = swp f j i := by
  funext k; unfold swp
  by_cases h1 : k = i
  · by_cases h2 : k = j
    · rw [if_pos h1, if_pos h2, ← h1, ← h2]
    · rw [if_pos h1, if_neg h2, if_pos h1]
  · by_cases h2 : k = j
    · rw [if_neg h1, if_pos h2, if_pos h2]
    · rw [if_neg h1, if_neg h2, if_neg h2, if_neg h1]
theorem swp_anew (f : Nat → Cn) {a b q : Nat} (h1 : a ≤ q) (h2 : q + 1 < b) : Anew f (swp f (q + 1) q) a b :=
  ⟨by rw [swp_comm]; exact perm_swp1 f h1 h2, fun k hk => swp_out f (by omega) (by omega)⟩
theorem ins_v {j q : Nat} (hq : j = q + 1) : Value.int .i64 ((j : Int) - 1) = .int .i64 (q : Nat) := by subst hq; congr 1; omega
theorem ins_next {w wr w8 : World} {g n a b i j q : Nat} {f h3 : Nat → Cn} {x1 y1 : Int} {x2 y2 : Nat} (hN : Anew f h3 a b) (hI : Ins h3 a i j) (O : Only (· = g) w wr) (hR : Arr wr g n h3) (h1 : a ≤ j) (h2 : j ≤ i) (hib : i < b) (hq : j = q + 1) (_hb : b ≤ n)
    (hx : h3 j = (x1, x2)) (hy : h3 q = (y1, y2)) (hC : Cm wr g j q (x1, x2) (y1, y2) w8) (hlt : x1 < y1) (ha : a < j := by omega) :
    InsI w g n a b i f (.int .i64 (q : Nat)) (swpW w8 g j q (x1, x2) (y1, y2)).drew := by
  have A8 := (hR.only hC.only id).swap j q
  rw [hx, hy] at A8
  subst hq
  have hl : (h3 (q + 1)).1 < (h3 q).1 := by rw [hx, hy]; exact hlt
  exact ⟨q, swp h3 (q + 1) q, rfl, by omega, by omega, hN.trans (swp_anew h3 (by omega) (by omega)), hI.step (by omega) h2 hl, O.trans ((hC.only.mono (fun _ _ h => h.elim)).trans (only_swpW _ _ _ _ _ _)).drew, A8⟩
theorem ins_done {w wr w8 : World} {g n a b i j : Nat} {f h3 : Nat → Cn} (hN : Anew f h3 a b) (hI : Ins h3 a i j) (O : Only (· = g) w wr) (hR : Arr wr g n h3) (h1 : a ≤ j) (h2 : j ≤ i) (hib : i < b) (he : j = a ∨ ∃ q, j = q + 1 ∧ (h3 q).1 ≤ (h3 j).1)
    (hC : Only (fun _ => False) wr w8) : InsO w g n a b f (.int .i64 ((i : Int) + 1)) w8 := by
  refine ⟨i + 1, h3, by go_num, by omega, .inr (by omega), hN, hI.done h1 h2 ?_, O.trans (hC.mono (fun _ _ h => h.elim)), hR.only hC id⟩
  rcases he with he | ⟨q, rfl, he⟩
  · exact .inl he
  · exact .inr he
set_option maxHeartbeats 4000000 in
set_option maxRecDepth 100000 in
theorem insert_calls (g n cap a b : Nat) (f : Nat → Cn) (w : World) (hn : n ≤ 9007199254740992) (h1 : a ≤ b) (h2 : b ≤ n) (hA : Arr w g n f) :
    Calls Try.prog 111 #[hv g n cap, .int .i64 a, .int .i64 b, cmpf] w fun e w' => e = .returned (.tuple #[]) ∧ Only (· = g) w w' ∧ ∃ h, Arr w' g n h ∧ Anew f h a b ∧ Sorted (win h a b) := by
  have hA' := Lib.hid hA; clear hA
  unfold cmpf
  go_enter Try.func111, Try.ntmps111
  go_wp2_with fail
  go_loopw [8] (fun v wr => InsO w g n a b f v wr) (fun v _ => b - (intOf v).toNat)
  case atStart => exact ⟨a + 1, f, by go_num, Nat.le_refl _, .inl rfl, Anew.refl _ _ _, by rw [win_one]; exact sorted_one _, Only.refl _ _, hA'.out⟩
  case round =>
    obtain ⟨i, h, rfl, hi1, hi2, hN, hS, O, hR⟩ := hrel
    have hN' := Lib.hid hN
    have hS' := Lib.hid hS
    have O' := Lib.hid O
    have hR' := Lib.hid hR
    have hi2' := Lib.hid hi2
    clear hN hS O hR hi2
    by_cases hlt : i < b
    · go_wp2_with fail
      go_loopw [9] (fun v wr => InsI w g n a b i f v wr) (fun v _ => (intOf v).toNat)
      case atStart => exact ⟨i, h, rfl, by omega, Nat.le_refl _, hN'.out, Ins.start hS'.out, O'.out, hR'.out⟩
      case round =>
        obtain ⟨j, h3, rfl, hj1, hj2, hN3, hI3, O3, hR3⟩ := hrel
        have hN3' := Lib.hid hN3
        have hI3' := Lib.hid hI3
        have O3' := Lib.hid O3
        have hR3' := Lib.hid hR3
        clear hN3 hI3 O3 hR3 hR' O' hS' hN'
        by_cases hja : a < j
        · obtain ⟨q, hq⟩ : ∃ q, j = q + 1 := ⟨j - 1, by omega⟩
          have hC := Cm.start hR3'.out (i := j) (j := q) (by omega) (by omega)
          have kg : decide ((j : Int) > a) = true := by simp; omega
          have wj : IntKind.i64.wrap ((j : Int) - 1) = (q : Int) := i64_of q (by omega) (by omega)
          have hqn : q < n := by omega
          have hjn : j < n := by omega
          have Hq := Lib.hid hq
          clear hq
          rcases hx : h3 j with ⟨x1, x2⟩
          rcases hy : h3 q with ⟨y1, y2⟩
          rw [hx, hy] at hC
          have Hx := Lib.hid hx
          have Hy := Lib.hid hy
          clear hx hy
          obtain ⟨d0, d1, d2, d3⟩ := hC.cells
          by_cases hxy : x1 < y1
          · have kc := cmpN_lt (x := (x1, x2)) (y := (y1, y2)) hxy
            have hxy' := Lib.hid hxy
            clear hxy
            go_wp2_with fail
            go_region_held3 (fun w' => Cm wr g j q (x1, x2) (y1, y2) w' ∧ w'.cell? ⟨g, j * 2, none⟩ = some (.int .i64 x1) ∧ w'.cell? ⟨g, j * 2 + 1, none⟩ = some (.int .u64 (x2 : Nat)) ∧ w'.cell? ⟨g, q * 2, none⟩ = some (.int .i64 y1) ∧ w'.cell? ⟨g, q * 2 + 1, none⟩ = some (.int .u64 (y2 : Nat)))
              ((go_split_ands; first | exact ⟨by assumption, Cm.cells (by assumption)⟩ | exact ⟨Cm.drew (by assumption), Cm.cells (Cm.drew (by assumption))⟩))
              (first | (go_at_call 76; go_split_ands; refine (cm_cmp (by assumption)).mono ?_; rintro e w8 ⟨rfl, hC8⟩))
            have A9 := ins_next hN3'.out hI3'.out O3'.out hR3'.out hj1 hj2 hlt Hq.out h2 Hx.out Hy.out hC8 hxy'.out
            have A9' := Lib.hid A9
            obtain ⟨e0, e1, e2, e3⟩ := hC8.a
            obtain ⟨t0, t1, t2, t3⟩ := hC8.b
            clear A9 hC8
            have hne : j ≠ q := by have := Hq.out; omega
            go_wp2_with fail
            go_region
            all_goals
              go_wp2_with fail
              exact ⟨A9'.out, by have := Hq.out; simp [intOf]; omega⟩
          · have kc := cmpN_ge (x := (x1, x2)) (y := (y1, y2)) hxy
            have hxy' := Lib.hid hxy
            clear hxy
            go_wp2_with fail
            go_region_held3 (fun w' => Cm wr g j q (x1, x2) (y1, y2) w' ∧ w'.cell? ⟨g, j * 2, none⟩ = some (.int .i64 x1) ∧ w'.cell? ⟨g, j * 2 + 1, none⟩ = some (.int .u64 (x2 : Nat)) ∧ w'.cell? ⟨g, q * 2, none⟩ = some (.int .i64 y1) ∧ w'.cell? ⟨g, q * 2 + 1, none⟩ = some (.int .u64 (y2 : Nat)))
              ((go_split_ands; first | exact ⟨by assumption, Cm.cells (by assumption)⟩ | exact ⟨Cm.drew (by assumption), Cm.cells (Cm.drew (by assumption))⟩))
              (first | (go_at_call 76; go_split_ands; refine (cm_cmp (by assumption)).mono ?_; rintro e w8 ⟨rfl, hC8⟩))
            have A9 := ins_done hN3'.out hI3'.out O3'.out hR3'.out hj1 hj2 hlt (.inr ⟨q, Hq.out, by rw [Hx.out, Hy.out]; have := hxy'.out; dsimp only; omega⟩) hC8.only
            have A9' := Lib.hid A9
            clear A9 hC8
            go_wp2_with fail
            go_roundw
            case rel => exact A9'.out
            case measure => simp [intOf]; omega
        · obtain rfl : j = a := by omega
          have kg : decide ((j : Int) > j) = false := by simp
          go_wp2_with fail
          go_quiet (fail)
          have A9 := ins_done hN3'.out hI3'.out O3'.out hR3'.out hj1 hj2 hlt (.inl rfl) ((Only.refl _ wr).drewN nq)
          have A9' := Lib.hid A9
          clear A9
          go_wp2_with fail
          go_roundw
          case rel => exact A9'.out
          case measure => simp [intOf]; omega
    · go_wp2_with fail
      go_end0
      exact ⟨rfl, O'.out, h, hR'.out, hN'.out, sorted_part hS'.out (Nat.le_refl _) (by omega)⟩
end Go.Proofs.Ytimiojckinpfdaa

/- The walk of symMerge where the first run is one element. -/
namespace Go.Proofs.Ytimiojckinpfdaa
open Go.RowKit Srt

def SymRes (w : World) (g n a b : Nat) (f : Nat → Cn) (e : Ending) (w' : World) : Prop := e = .returned (.tuple #[]) ∧ Only (· = g) w w' ∧ ∃ h, Arr w' g n h ∧ Anew f h a b ∧ Sorted (win h a b)
def SL (w : World) (a m b : Nat) (f : Nat → Cn) (p q : Value) (wr : World) : Prop := ∃ i j : Nat, p = .int .i64 i ∧ q = .int .i64 j ∧ m ≤ i ∧ i ≤ j ∧ j ≤ b ∧ (∀ k, m ≤ k → k < i → (f k).1 < (f a).1) ∧ (∀ k, j ≤ k → k < b → (f a).1 ≤ (f k).1) ∧ Only (fun _ => False) w wr
theorem left_done {f : Nat → Cn} {a m b i : Nat} (hm : m = a + 1) (h1 : m ≤ i) (h2 : i ≤ b) (hb : Sorted (win f m b)) (l1 : ∀ k, m ≤ k → k < i → (f k).1 < (f a).1) (l2 : ∀ k, i ≤ k → k < b → (f a).1 ≤ (f k).1) :
    Anew f (rot f a m i) a b ∧ Sorted (win (rot f a m i) a b) := by
  have ha : Sorted (win f a m) := by subst hm; rw [win_one]; exact sorted_one _
  obtain ⟨e1, e2⟩ := rot_win f (a := a) (m := m) (b := i) (by omega) h1
  refine merged (s := a) (e := i) ha hb ⟨Nat.le_refl _, by omega, h1, h2, fun x y q1 q2 => by omega, fun x y q1 q2 q3 q4 => ?_⟩ rfl (Anew.refl _ _ _) ?_ (Anew.refl _ _ _) ?_
  · obtain rfl : y = a := by omega
    have := l1 x q1 q2; omega
  · rw [e1]; exact sorted_part hb (Nat.le_refl _) h2
  · rw [win_app _ (m := i) (by omega) h2, e2, (rot_anew f (a := a) (m := m) (b := i) (by omega) h1).same (.inr (Nat.le_refl _))]
    refine sorted_app.2 ⟨ha, sorted_part hb h1 (Nat.le_refl _), below_win.2 fun x y q1 q2 q3 q4 => ?_⟩
    obtain rfl : x = a := by omega
    exact l2 y q3 q4
def SLu (w : World) (g n a i : Nat) (f : Nat → Cn) (v : Value) (wr : World) : Prop := ∃ k : Nat, v = .int .i64 k ∧ a ≤ k ∧ k + 1 ≤ i ∧ Only (· = g) w wr ∧ Arr wr g n (upTo f a k)
theorem slu_next {w wr : World} {g n a i k : Nat} {f : Nat → Cn} {x1 y1 : Int} {x2 y2 : Nat} (h1 : a ≤ k) (h2 : k + 1 + 1 ≤ i) (O : Only (· = g) w wr) (hR : Arr wr g n (upTo f a k)) (hx : upTo f a k k = (x1, x2)) (hy : upTo f a k (k + 1) = (y1, y2)) :
    SLu w g n a i f (.int .i64 ((k : Int) + 1)) (swpW wr g k (k + 1) (x1, x2) (y1, y2)).drew := by
  have A := hR.swap k (k + 1)
  rw [hx, hy, upTo_step f h1] at A
  exact ⟨k + 1, by go_num, by omega, h2, (O.trans (only_swpW _ _ _ _ _ _)).drew, A⟩
theorem slu_end {w wr : World} {g n a m b i k : Nat} {f : Nat → Cn} (hm : m = a + 1) (h1 : m ≤ i) (h2 : i ≤ b) (hb : Sorted (win f m b)) (l1 : ∀ k, m ≤ k → k < i → (f k).1 < (f a).1) (l2 : ∀ k, i ≤ k → k < b → (f a).1 ≤ (f k).1) (hk : k + 1 = i) (O : Only (· = g) w wr) (hR : Arr wr g n (upTo f a k)) :
    SymRes w g n a b f (.returned (.tuple #[])) wr := by
  obtain ⟨r1, r2⟩ := left_done hm h1 h2 hb l1 l2
  refine ⟨rfl, O, _, hR, ?_⟩
  unfold upTo
  rw [hk, ← hm]
  exact ⟨r1, r2⟩
set_option maxHeartbeats 4000000 in
set_option maxRecDepth 200000 in
theorem symm_left (g n cap a m b : Nat) (f : Nat → Cn) (w : World) (hn : n ≤ 9007199254740992) (hm : m = a + 1) (h2 : m < b) (h3 : b ≤ n) (hA : Arr w g n f) (hb : Sorted (win f m b)) :
    Calls Try.prog 112 #[hv g n cap, .int .i64 a, .int .i64 m, .int .i64 b, cmpf] w (SymRes w g n a b f) := by
  have hA' := Lib.hid hA; clear hA
  have hb' := Lib.hid hb; clear hb
  have k1 : ((m : Int) - a == 1) = true := by simp; omega
  have am : a < m := by omega
  have hm' := Lib.hid hm; clear hm
  unfold cmpf
  go_enter Try.func112, Try.ntmps112
  go_wp2_with fail
  go_loopw [10, 11] (fun p q wr => SL w a m b f p q wr) (fun p q _ => (intOf q).toNat - (intOf p).toNat)
  case atStart => exact ⟨m, b, rfl, rfl, Nat.le_refl _, by omega, Nat.le_refl _, fun k q1 q2 => by omega, fun k q1 q2 => by omega, Only.refl _ _⟩
  case round =>
    obtain ⟨i, j, rfl, rfl, i1, i2, i3, l1, l2, O⟩ := hrel
    have L1 := Lib.hid l1
    have L2 := Lib.hid l2
    clear l1 l2
    by_cases hlt : i < j
    · have hh : (((i : Int) + j) / 2) = (((i + j) / 2 : Nat) : Int) := by omega
      obtain ⟨c, hc⟩ : ∃ c, c = (i + j) / 2 := ⟨_, rfl⟩
      have c1 : i ≤ c := by omega
      have c2 : c < j := by omega
      have hc' := Lib.hid hc
      rw [← hc] at hh
      clear hc
      have hcn : c < n := by omega
      have han : a < n := by omega
      have hR := hA'.out.only O id
      have hC := Cm.start hR (i := c) (j := a) (hcn) (han)
      rcases hx : f c with ⟨x1, x2⟩
      rcases hy : f a with ⟨y1, y2⟩
      rw [hx, hy] at hC
      have Hx := Lib.hid hx
      have Hy := Lib.hid hy
      clear hx hy
      obtain ⟨d0, d1, d2, d3⟩ := hC.cells
      have O' := Lib.hid O
      clear O hR
      by_cases hxy : x1 < y1
      · have kc := cmpN_lt (x := (x1, x2)) (y := (y1, y2)) hxy
        have hxy' := Lib.hid hxy
        clear hxy
        go_wp2_with fail
        go_region_held3 (fun w' => Cm wr g c a (x1, x2) (y1, y2) w' ∧ w'.cell? ⟨g, c * 2, none⟩ = some (.int .i64 x1) ∧ w'.cell? ⟨g, c * 2 + 1, none⟩ = some (.int .u64 (x2 : Nat)) ∧ w'.cell? ⟨g, a * 2, none⟩ = some (.int .i64 y1) ∧ w'.cell? ⟨g, a * 2 + 1, none⟩ = some (.int .u64 (y2 : Nat)))
          ((go_split_ands; first | exact ⟨by assumption, Cm.cells (by assumption)⟩ | exact ⟨Cm.drew (by assumption), Cm.cells (Cm.drew (by assumption))⟩))
          (first | (go_at_call 76; go_split_ands; refine (cm_cmp (by assumption)).mono ?_; rintro e w8 ⟨rfl, hC8⟩))
        have O8 := Lib.hid (O'.out.trans hC8.only)
        clear hC8
        go_wp2_with fail
        go_roundw
        case rel => exact ⟨c + 1, j, by go_num, rfl, by omega, by omega, i3, fun k q1 q2 => by have := sorted_le hb'.out q1 (show k ≤ c by omega) (by omega); have f1 : (f c).1 = x1 := (by rw [Hx.out]); have f2 : (f a).1 = y1 := (by rw [Hy.out]); have := hxy'.out; omega, L2.out, O8.out⟩
        case measure => simp [intOf]; omega
      · have kc := cmpN_ge (x := (x1, x2)) (y := (y1, y2)) hxy
        have hxy' := Lib.hid hxy
        clear hxy
        go_wp2_with fail
        go_region_held3 (fun w' => Cm wr g c a (x1, x2) (y1, y2) w' ∧ w'.cell? ⟨g, c * 2, none⟩ = some (.int .i64 x1) ∧ w'.cell? ⟨g, c * 2 + 1, none⟩ = some (.int .u64 (x2 : Nat)) ∧ w'.cell? ⟨g, a * 2, none⟩ = some (.int .i64 y1) ∧ w'.cell? ⟨g, a * 2 + 1, none⟩ = some (.int .u64 (y2 : Nat)))
          ((go_split_ands; first | exact ⟨by assumption, Cm.cells (by assumption)⟩ | exact ⟨Cm.drew (by assumption), Cm.cells (Cm.drew (by assumption))⟩))
          (first | (go_at_call 76; go_split_ands; refine (cm_cmp (by assumption)).mono ?_; rintro e w8 ⟨rfl, hC8⟩))
        have O8 := Lib.hid (O'.out.trans hC8.only)
        clear hC8
        go_wp2_with fail
        go_roundw
        case rel => exact ⟨i, c, rfl, rfl, i1, c1, by omega, L1.out, fun k q1 q2 => by have := sorted_le hb'.out (show m ≤ c by omega) q1 q2; have f1 : (f c).1 = x1 := (by rw [Hx.out]); have f2 : (f a).1 = y1 := (by rw [Hy.out]); have := hxy'.out; omega, O8.out⟩
        case measure => simp [intOf]; omega
    · obtain rfl : i = j := by omega
      have O' := Lib.hid O
      have hR := Lib.hid (hA'.out.only O id)
      clear O
      go_wp2_with fail
      go_loopw [13] (fun v wr' => SLu w g n a i f v wr') (fun v _ => i - (intOf v).toNat)
      case atStart => exact ⟨a, rfl, Nat.le_refl _, by omega, O'.out.mono (fun _ _ h => h.elim), by rw [upTo_start]; exact hR.out⟩
      case round =>
        obtain ⟨k, rfl, q1, q2, O2, hR2⟩ := hrel
        by_cases hlt2 : k + 1 < i
        · obtain ⟨x0, x1, x2, x3⟩ := hR2.get (i := k) (by omega)
          obtain ⟨y0, y1, y2, y3⟩ := hR2.get (i := k + 1) (by omega)
          rcases hu : upTo f a k k with ⟨u1, u2⟩
          rcases hv : upTo f a k (k + 1) with ⟨v1, v2⟩
          have N := Lib.hid (slu_next (i := i) q1 (by omega) O2 hR2 hu hv)
          rw [hu] at x0 x1
          rw [hv] at y0 y1
          dsimp only at x0 x1 y0 y1
          have wk : IntKind.i64.wrap ((k : Int) + 1) = ((k + 1 : Nat) : Int) := i64_of (k + 1) (by omega) (by omega)
          have kt : decide ((k : Int) < i - 1) = true := by simp; omega
          have hkn : k < n := by omega
          have hkn1 : k + 1 < n := by omega
          have hne : k ≠ k + 1 := by omega
          have tn : ((k : Int) + 1).toNat = k + 1 := by omega
          clear hu hv O2 hR2
          go_wp2_with fail
          go_region
          all_goals
            go_wp2_with fail
            exact ⟨N.out, by simp [intOf]; omega⟩
        · have kt : decide ((k : Int) < i - 1) = false := by simp; omega
          have N := Lib.hid (slu_end (k := k) hm'.out i1 i3 hb'.out L1.out L2.out (by omega) O2 hR2)
          go_wp2_with fail
          go_end0
          exact N.out
end Go.Proofs.Ytimiojckinpfdaa

/- The walk of symMerge where the second run is one element. -/
namespace Go.Proofs.Ytimiojckinpfdaa
open Go.RowKit Srt

theorem right_done {f : Nat → Cn} {a m b i : Nat} (hm : b = m + 1) (h1 : a ≤ i) (h2 : i ≤ m) (ha : Sorted (win f a m)) (l1 : ∀ k, a ≤ k → k < i → (f k).1 ≤ (f m).1) (l2 : ∀ k, i ≤ k → k < m → (f m).1 < (f k).1) :
    Anew f (rot f i m b) a b ∧ Sorted (win (rot f i m b) a b) := by
  have hb : Sorted (win f m b) := by subst hm; rw [win_one]; exact sorted_one _
  obtain ⟨e1, e2⟩ := rot_win f (a := i) (m := m) (b := b) h2 (by omega)
  refine merged (s := i) (e := b) ha hb ⟨h1, h2, by omega, Nat.le_refl _, fun x y q1 q2 => by omega, fun x y q1 q2 q3 q4 => ?_⟩ rfl (Anew.refl _ _ _) ?_ (Anew.refl _ _ _) ?_
  · obtain rfl : x = m := by omega
    have := l2 y q3 q4; omega
  · rw [win_app _ (m := i) h1 (by omega), e1, (rot_anew f (a := i) (m := m) (b := b) h2 (by omega)).same (.inl (Nat.le_refl _))]
    refine sorted_app.2 ⟨sorted_part ha (Nat.le_refl _) h2, hb, below_win.2 fun x y q1 q2 q3 q4 => ?_⟩
    obtain rfl : y = m := by omega
    exact l1 x q1 q2
  · rw [e2]; exact sorted_part ha h1 (Nat.le_refl _)
def SR (w : World) (a m : Nat) (f : Nat → Cn) (p q : Value) (wr : World) : Prop := ∃ i j : Nat, p = .int .i64 i ∧ q = .int .i64 j ∧ a ≤ i ∧ i ≤ j ∧ j ≤ m ∧ (∀ k, a ≤ k → k < i → (f k).1 ≤ (f m).1) ∧ (∀ k, j ≤ k → k < m → (f m).1 < (f k).1) ∧ Only (fun _ => False) w wr
def SRd (w : World) (g n m i : Nat) (f : Nat → Cn) (v : Value) (wr : World) : Prop := ∃ k : Nat, v = .int .i64 k ∧ i ≤ k ∧ k ≤ m ∧ Only (· = g) w wr ∧ Arr wr g n (downTo f m k)
theorem srd_next {w wr : World} {g n m i k q : Nat} {f : Nat → Cn} {x1 y1 : Int} {x2 y2 : Nat} (hq : k = q + 1) (h1 : i ≤ q) (h2 : k ≤ m) (O : Only (· = g) w wr) (hR : Arr wr g n (downTo f m k)) (hx : downTo f m k k = (x1, x2)) (hy : downTo f m k q = (y1, y2)) :
    SRd w g n m i f (.int .i64 (q : Nat)) (swpW wr g k q (x1, x2) (y1, y2)).drew := by
  have A := hR.swap k q
  rw [hx, hy] at A
  subst hq
  rw [downTo_step f (by omega)] at A
  exact ⟨q, rfl, h1, by omega, (O.trans (only_swpW _ _ _ _ _ _)).drew, A⟩
theorem srd_end {w wr : World} {g n a m b i k : Nat} {f : Nat → Cn} (hm : b = m + 1) (h1 : a ≤ i) (h2 : i ≤ m) (ha : Sorted (win f a m)) (l1 : ∀ k, a ≤ k → k < i → (f k).1 ≤ (f m).1) (l2 : ∀ k, i ≤ k → k < m → (f m).1 < (f k).1) (hk : k = i) (O : Only (· = g) w wr) (hR : Arr wr g n (downTo f m k)) :
    SymRes w g n a b f (.returned (.tuple #[])) wr := by
  obtain ⟨r1, r2⟩ := right_done hm h1 h2 ha l1 l2
  refine ⟨rfl, O, _, hR, ?_⟩
  unfold downTo
  rw [hk, ← hm]
  exact ⟨r1, r2⟩
set_option maxHeartbeats 4000000 in
set_option maxRecDepth 200000 in
theorem symm_right (g n cap a m b : Nat) (f : Nat → Cn) (w : World) (hn : n ≤ 9007199254740992) (ham : a + 1 < m) (hm : b = m + 1) (h3 : b ≤ n) (hA : Arr w g n f) (ha : Sorted (win f a m)) :
    Calls Try.prog 112 #[hv g n cap, .int .i64 a, .int .i64 m, .int .i64 b, cmpf] w (SymRes w g n a b f) := by
  have hA' := Lib.hid hA; clear hA
  have ha' := Lib.hid ha; clear ha
  have k1 : ((m : Int) - a == 1) = false := by simp; omega
  have k2 : ((b : Int) - m == 1) = true := by simp; omega
  have am : m < b := by omega
  have hm' := Lib.hid hm; clear hm
  unfold cmpf
  go_enter Try.func112, Try.ntmps112
  go_wp2_with fail
  go_loopw [14, 15] (fun p q wr => SR w a m f p q wr) (fun p q _ => (intOf q).toNat - (intOf p).toNat)
  case atStart => exact ⟨a, m, rfl, rfl, Nat.le_refl _, by omega, Nat.le_refl _, fun k q1 q2 => by omega, fun k q1 q2 => by omega, Only.refl _ _⟩
  case round =>
    obtain ⟨i, j, rfl, rfl, i1, i2, i3, l1, l2, O⟩ := hrel
    have L1 := Lib.hid l1
    have L2 := Lib.hid l2
    clear l1 l2
    by_cases hlt : i < j
    · have hh : (((i : Int) + j) / 2) = (((i + j) / 2 : Nat) : Int) := by omega
      obtain ⟨c, hc⟩ : ∃ c, c = (i + j) / 2 := ⟨_, rfl⟩
      have c1 : i ≤ c := by omega
      have c2 : c < j := by omega
      have hc' := Lib.hid hc
      rw [← hc] at hh
      clear hc
      have hcn : c < n := by omega
      have hmn : m < n := by omega
      have hR := hA'.out.only O id
      have hC := Cm.start hR (i := m) (j := c) (hmn) (hcn)
      rcases hx : f m with ⟨x1, x2⟩
      rcases hy : f c with ⟨y1, y2⟩
      rw [hx, hy] at hC
      have Hx := Lib.hid hx
      have Hy := Lib.hid hy
      clear hx hy
      obtain ⟨d0, d1, d2, d3⟩ := hC.cells
      have O' := Lib.hid O
      clear O hR
      by_cases hxy : x1 < y1
      · have kc := cmpN_lt (x := (x1, x2)) (y := (y1, y2)) hxy
        have hxy' := Lib.hid hxy
        clear hxy
        go_wp2_with fail
        go_region_held3 (fun w' => Cm wr g m c (x1, x2) (y1, y2) w' ∧ w'.cell? ⟨g, m * 2, none⟩ = some (.int .i64 x1) ∧ w'.cell? ⟨g, m * 2 + 1, none⟩ = some (.int .u64 (x2 : Nat)) ∧ w'.cell? ⟨g, c * 2, none⟩ = some (.int .i64 y1) ∧ w'.cell? ⟨g, c * 2 + 1, none⟩ = some (.int .u64 (y2 : Nat)))
          ((go_split_ands; first | exact ⟨by assumption, Cm.cells (by assumption)⟩ | exact ⟨Cm.drew (by assumption), Cm.cells (Cm.drew (by assumption))⟩))
          (first | (go_at_call 76; go_split_ands; refine (cm_cmp (by assumption)).mono ?_; rintro e w8 ⟨rfl, hC8⟩))
        have O8 := Lib.hid (O'.out.trans hC8.only)
        clear hC8
        go_wp2_with fail
        go_roundw
        case rel => exact ⟨i, c, rfl, rfl, i1, c1, by omega, L1.out, fun k q1 q2 => by have := sorted_le ha'.out (show a ≤ c by omega) q1 q2; have f1 : (f m).1 = x1 := (by rw [Hx.out]); have f2 : (f c).1 = y1 := (by rw [Hy.out]); have := hxy'.out; omega, O8.out⟩
        case measure => simp [intOf]; omega
      · have kc := cmpN_ge (x := (x1, x2)) (y := (y1, y2)) hxy
        have hxy' := Lib.hid hxy
        clear hxy
        go_wp2_with fail
        go_region_held3 (fun w' => Cm wr g m c (x1, x2) (y1, y2) w' ∧ w'.cell? ⟨g, m * 2, none⟩ = some (.int .i64 x1) ∧ w'.cell? ⟨g, m * 2 + 1, none⟩ = some (.int .u64 (x2 : Nat)) ∧ w'.cell? ⟨g, c * 2, none⟩ = some (.int .i64 y1) ∧ w'.cell? ⟨g, c * 2 + 1, none⟩ = some (.int .u64 (y2 : Nat)))
          ((go_split_ands; first | exact ⟨by assumption, Cm.cells (by assumption)⟩ | exact ⟨Cm.drew (by assumption), Cm.cells (Cm.drew (by assumption))⟩))
          (first | (go_at_call 76; go_split_ands; refine (cm_cmp (by assumption)).mono ?_; rintro e w8 ⟨rfl, hC8⟩))
        have O8 := Lib.hid (O'.out.trans hC8.only)
        clear hC8
        go_wp2_with fail
        go_roundw
        case rel => exact ⟨c + 1, j, by go_num, rfl, by omega, by omega, i3, fun k q1 q2 => by have := sorted_le ha'.out q1 (show k ≤ c by omega) (by omega); have f1 : (f m).1 = x1 := (by rw [Hx.out]); have f2 : (f c).1 = y1 := (by rw [Hy.out]); have := hxy'.out; omega, L2.out, O8.out⟩
        case measure => simp [intOf]; omega
    · obtain rfl : i = j := by omega
      have O' := Lib.hid O
      have hR := Lib.hid (hA'.out.only O id)
      clear O
      go_wp2_with fail
      go_loopw [17] (fun v wr' => SRd w g n m i f v wr') (fun v _ => (intOf v).toNat)
      case atStart => exact ⟨m, rfl, by omega, Nat.le_refl _, O'.out.mono (fun _ _ h => h.elim), by rw [downTo_start]; exact hR.out⟩
      case round =>
        obtain ⟨k, rfl, q1, q2, O2, hR2⟩ := hrel
        by_cases hlt2 : i < k
        · obtain ⟨q, hq⟩ : ∃ q, k = q + 1 := ⟨k - 1, by omega⟩
          obtain ⟨x0, x1, x2, x3⟩ := hR2.get (i := k) (by omega)
          obtain ⟨y0, y1, y2, y3⟩ := hR2.get (i := q) (by omega)
          rcases hu : downTo f m k k with ⟨u1, u2⟩
          rcases hv : downTo f m k q with ⟨v1, v2⟩
          have N := Lib.hid (srd_next (i := i) hq (by omega) q2 O2 hR2 hu hv)
          rw [hu] at x0 x1
          rw [hv] at y0 y1
          dsimp only at x0 x1 y0 y1
          have wk : IntKind.i64.wrap ((k : Int) - 1) = (q : Int) := i64_of q (by omega) (by omega)
          have kt : decide ((k : Int) > i) = true := by simp; omega
          have hkn : k < n := by omega
          have hkn1 : q < n := by omega
          have hne : k ≠ q := by omega
          have hqk : q < k := by omega
          clear hu hv O2 hR2 hq
          go_wp2_with fail
          go_region
          all_goals
            go_wp2_with fail
            exact ⟨N.out, by simp [intOf]; omega⟩
        · have kt : decide ((k : Int) > i) = false := by simp; omega
          have N := Lib.hid (srd_end (k := k) hm'.out i1 i3 ha'.out L1.out L2.out (by omega) O2 hR2)
          go_wp2_with fail
          go_end0
          exact N.out
end Go.Proofs.Ytimiojckinpfdaa

/- The walk of symMerge, and of the whole sort. -/
namespace Go.Proofs.Ytimiojckinpfdaa
open Go.RowKit Srt

def Mid (a m b d s0 r0 : Nat) : Prop := (d < m ∧ s0 + b = d + m ∧ r0 = d) ∨ (m ≤ d ∧ s0 = a ∧ r0 = m)
theorem mid_cut {f : Nat → Cn} {a m b d s0 r0 s e : Nat} (ham : a + 1 < m) (_hmb : m + 1 < b) (hd : 2 * d ≤ a + b) (hd2 : a + b ≤ 2 * d + 1) (hs : Mid a m b d s0 r0)
    (ha : Sorted (win f a m)) (hb : Sorted (win f m b)) (h1 : s0 ≤ s) (h2 : s ≤ r0) (he : e + s = d + m) (l1 : ∀ k, s0 ≤ k → k < s → (f k).1 ≤ (f (d + m - 1 - k)).1) (l2 : ∀ k, s ≤ k → k < r0 → (f (d + m - 1 - k)).1 < (f k).1) : Cut f a m b s e ∧ d = s + (e - m) := by
  have g1 : a ≤ s := by rcases hs with ⟨h, h', h''⟩ | ⟨h, h', h''⟩ <;> omega
  have g2 : s ≤ m := by rcases hs with ⟨h, h', h''⟩ | ⟨h, h', h''⟩ <;> omega
  have g3 : m ≤ e := by rcases hs with ⟨h, h', h''⟩ | ⟨h, h', h''⟩ <;> omega
  have g4 : e ≤ b := by rcases hs with ⟨h, h', h''⟩ | ⟨h, h', h''⟩ <;> omega
  refine ⟨⟨g1, g2, g3, g4, fun i j q1 q2 q3 q4 => ?_, fun i j q1 q2 q3 q4 => ?_⟩, by omega⟩
  · have hlt : s0 < s := by rcases hs with ⟨h, h', h''⟩ | ⟨h, h', h''⟩ <;> omega
    have x1 := sorted_le ha q1 (show i ≤ s - 1 by omega) (by omega)
    have x2 := l1 (s - 1) (by omega) (by omega)
    rw [show d + m - 1 - (s - 1) = e by omega] at x2
    have x3 := sorted_le hb g3 q3 q4
    omega
  · have hlt : s < r0 := by rcases hs with ⟨h, h', h''⟩ | ⟨h, h', h''⟩ <;> omega
    have x1 := sorted_le hb q1 (show i ≤ e - 1 by omega) (by omega)
    have x2 := l2 s (by omega) hlt
    rw [show d + m - 1 - s = e - 1 by omega] at x2
    have x3 := sorted_le ha g1 q3 q4
    omega
theorem rot_triv (f : Nat → Cn) {s m e : Nat} (h : ¬ (s < m ∧ m < e)) (h1 : s ≤ m) (h2 : m ≤ e) : rot f s m e = f := by
  funext k
  unfold rot
  repeat' split
  all_goals first | rfl | (exfalso; omega) | (congr 1; omega)
/-- the windows behind the turn -/
theorem cut_wins {f : Nat → Cn} {a m b s e d : Nat} (k : Cut f a m b s e) (hd : d = s + (e - m)) (ha : Sorted (win f a m)) (hb : Sorted (win f m b)) :
    Sorted (win (rot f s m e) a s) ∧ Sorted (win (rot f s m e) s d) ∧ Sorted (win (rot f s m e) d e) ∧ Sorted (win (rot f s m e) e b) := by
  obtain ⟨k1, k2, k3, k4, l1, l2⟩ := k
  obtain ⟨e1, e2⟩ := rot_win f k2 k3
  rw [← hd] at e1 e2
  have R := rot_anew f k2 k3
  rw [R.same (.inl (Nat.le_refl _)), e1, e2, R.same (.inr (Nat.le_refl _))]
  exact ⟨sorted_part ha (Nat.le_refl _) k2, sorted_part hb (Nat.le_refl _) k4, sorted_part ha k1 (Nat.le_refl _), sorted_part hb k3 (Nat.le_refl _)⟩
/-- the first half's merge was not needed -/
theorem half_l {f : Nat → Cn} {a s d : Nat} (h : ¬ (a < s ∧ s < d)) (h1 : a ≤ s) (h2 : s ≤ d) (q1 : Sorted (win f a s)) (q2 : Sorted (win f s d)) : Sorted (win f a d) := by
  by_cases e : a = s
  · rw [e]; exact q2
  · have : s = d := by omega
    rw [← this]; exact q1
theorem half_r {f : Nat → Cn} {d e b : Nat} (h : ¬ (d < e ∧ e < b)) (h1 : d ≤ e) (h2 : e ≤ b) (q1 : Sorted (win f d e)) (q2 : Sorted (win f e b)) : Sorted (win f d b) := half_l h h1 h2 q1 q2
def SM (w : World) (d m s0 r0 : Nat) (f : Nat → Cn) (p q : Value) (wr : World) : Prop := ∃ s r : Nat, p = .int .i64 s ∧ q = .int .i64 r ∧ s0 ≤ s ∧ s ≤ r ∧ r ≤ r0 ∧ (∀ k, s0 ≤ k → k < s → (f k).1 ≤ (f (d + m - 1 - k)).1) ∧ (∀ k, r ≤ k → k < r0 → (f (d + m - 1 - k)).1 < (f k).1) ∧ Only (fun _ => False) w wr
theorem sm_lo {f : Nat → Cn} {a m b d s0 r0 s c : Nat} (ham : a + 1 < m) (_hmb : m + 1 < b) (hd : 2 * d ≤ a + b) (hd2 : a + b ≤ 2 * d + 1) (hs : Mid a m b d s0 r0) (ha : Sorted (win f a m)) (hb : Sorted (win f m b)) (hc : c < r0) (_h1 : s0 ≤ s) (_h2 : s ≤ c) (h : (f c).1 ≤ (f (d + m - 1 - c)).1) :
    ∀ k, s0 ≤ k → k < c + 1 → (f k).1 ≤ (f (d + m - 1 - k)).1 := by
  intro k q1 q2
  have x1 := sorted_le ha (show a ≤ k by rcases hs with ⟨h, h', h''⟩ | ⟨h, h', h''⟩ <;> omega) (show k ≤ c by omega) (by rcases hs with ⟨h, h', h''⟩ | ⟨h, h', h''⟩ <;> omega)
  have x2 := sorted_le hb (i := d + m - 1 - c) (j := d + m - 1 - k) (by rcases hs with ⟨h, h', h''⟩ | ⟨h, h', h''⟩ <;> omega) (by omega) (by rcases hs with ⟨h, h', h''⟩ | ⟨h, h', h''⟩ <;> omega)
  omega
theorem sm_hi {f : Nat → Cn} {a m b d s0 r0 c : Nat} (ham : a + 1 < m) (hmb : m + 1 < b) (hd : 2 * d ≤ a + b) (hd2 : a + b ≤ 2 * d + 1) (hs : Mid a m b d s0 r0) (ha : Sorted (win f a m)) (hb : Sorted (win f m b)) (hc : s0 ≤ c) (h : (f (d + m - 1 - c)).1 < (f c).1) :
    ∀ k, c ≤ k → k < r0 → (f (d + m - 1 - k)).1 < (f k).1 := by
  intro k q1 q2
  have x1 := sorted_le ha (show a ≤ c by rcases hs with ⟨h, h', h''⟩ | ⟨h, h', h''⟩ <;> omega) q1 (by rcases hs with ⟨h, h', h''⟩ | ⟨h, h', h''⟩ <;> omega)
  have x2 := sorted_le hb (i := d + m - 1 - k) (j := d + m - 1 - c) (by rcases hs with ⟨h, h', h''⟩ | ⟨h, h', h''⟩ <;> omega) (by omega) (by rcases hs with ⟨h, h', h''⟩ | ⟨h, h', h''⟩ <;> omega)
  omega
def SymAt (g n cap a m b : Nat) (f : Nat → Cn) (w : World) : Prop := Arr w g n f → Sorted (win f a m) → Sorted (win f m b) → Calls Try.prog 112 #[hv g n cap, .int .i64 a, .int .i64 m, .int .i64 b, cmpf] w (SymRes w g n a b f)
set_option maxHeartbeats 16000000 in
set_option maxRecDepth 200000 in
theorem symm_main (g n cap a m b : Nat) (f : Nat → Cn) (w : World) (hn : n ≤ 9007199254740992) (ham : a + 1 < m) (hmb : m + 1 < b) (h3 : b ≤ n) (hA : Arr w g n f) (ha : Sorted (win f a m)) (hb : Sorted (win f m b))
    (IH : ∀ a' m' b' f' w', b' - a' < b - a → a' < m' → m' < b' → b' ≤ n → SymAt g n cap a' m' b' f' w') :
    Calls Try.prog 112 #[hv g n cap, .int .i64 a, .int .i64 m, .int .i64 b, cmpf] w (SymRes w g n a b f) := by
  have hA' := Lib.hid hA; clear hA
  have ha' := Lib.hid ha; clear ha
  have hb' := Lib.hid hb; clear hb
  have IH' := Lib.hid IH; clear IH
  have k1 : ((m : Int) - a == 1) = false := by simp; omega
  have k2 : ((b : Int) - m == 1) = false := by simp; omega
  obtain ⟨d, hd⟩ : ∃ d, d = (a + b) / 2 := ⟨_, rfl⟩
  have dd1 : 2 * d ≤ a + b := by omega
  have dd2 : a + b ≤ 2 * d + 1 := by omega
  have hh : (((a : Int) + b) / 2) = (d : Int) := by omega
  clear hd
  obtain ⟨p, hp⟩ : ∃ p, p = d + m - 1 := ⟨_, rfl⟩
  have hpi : (d : Int) + m - 1 = (p : Int) := by omega
  have hp' := Lib.hid hp
  have p1 : p ≤ d + m - 1 := by omega
  have p2 : d + m - 1 ≤ p := by omega
  clear hp
  by_cases hdm : d < m
  · have kd : decide ((m : Int) > d) = true := by simp; omega
    obtain ⟨s0, hs0⟩ : ∃ s0, s0 = d + m - b := ⟨_, rfl⟩
    have hs1 : s0 + b = d + m := by omega
    have hsi : (d : Int) + m - b = (s0 : Int) := by omega
    clear hs0
    have HM : Hid (Mid a m b d s0 d) := Lib.hid (.inl ⟨hdm, hs1, rfl⟩)
    have h01 : s0 ≤ d := by omega
    have r0n : d ≤ n := by omega
    have r0p : d ≤ p := by omega
    unfold cmpf
    go_enter Try.func112, Try.ntmps112
    go_wp2_with fail
    go_loopw [20, 21] (fun u v wr => SM w d m s0 d f u v wr) (fun u v _ => (intOf v).toNat - (intOf u).toNat)
    case atStart => exact ⟨s0, d, rfl, rfl, Nat.le_refl _, h01, Nat.le_refl _, fun k q1 q2 => by omega, fun k q1 q2 => by omega, Only.refl _ _⟩
    case round =>
      obtain ⟨s, r, rfl, rfl, i1, i2, i3, l1, l2, O⟩ := hrel
      have L1 := Lib.hid l1
      have L2 := Lib.hid l2
      clear l1 l2
      by_cases hlt : s < r
      · obtain ⟨c, hc⟩ : ∃ c, c = (s + r) / 2 := ⟨_, rfl⟩
        have hc2 : (((s : Int) + r) / 2) = (c : Int) := by omega
        have c1 : s ≤ c := by omega
        have c2 : c < r := by omega
        clear hc
        obtain ⟨q, hq⟩ : ∃ q, q = p - c := ⟨_, rfl⟩
        have cp : c ≤ p := by omega
        have wq : IntKind.i64.wrap ((p : Int) - c) = (q : Int) := i64_of q (by omega) (by omega)
        have hqn : q < n := by omega
        have hcn : c < n := by omega
        have hqd : q = d + m - 1 - c := by omega
        have Hq := Lib.hid hqd
        clear hqd hq
        have hR := hA'.out.only O id
        have hC := Cm.start hR (i := q) (j := c) (hqn) (hcn)
        rcases hx : f q with ⟨x1, x2⟩
        rcases hy : f c with ⟨y1, y2⟩
        rw [hx, hy] at hC
        have Hx := Lib.hid hx
        have Hy := Lib.hid hy
        clear hx hy
        obtain ⟨d0, d1, d2, d3⟩ := hC.cells
        have O' := Lib.hid O
        clear O hR
        by_cases hxy : x1 < y1
        · have kc := cmpN_lt (x := (x1, x2)) (y := (y1, y2)) hxy
          have hxy' := Lib.hid hxy
          clear hxy
          go_wp2_with fail
          go_region_held3 (fun w' => Cm wr g q c (x1, x2) (y1, y2) w' ∧ w'.cell? ⟨g, q * 2, none⟩ = some (.int .i64 x1) ∧ w'.cell? ⟨g, q * 2 + 1, none⟩ = some (.int .u64 (x2 : Nat)) ∧ w'.cell? ⟨g, c * 2, none⟩ = some (.int .i64 y1) ∧ w'.cell? ⟨g, c * 2 + 1, none⟩ = some (.int .u64 (y2 : Nat)))
            ((go_split_ands; first | exact ⟨by assumption, Cm.cells (by assumption)⟩ | exact ⟨Cm.drew (by assumption), Cm.cells (Cm.drew (by assumption))⟩))
            (first | (go_at_call 76; go_split_ands; refine (cm_cmp (by assumption)).mono ?_; rintro e w8 ⟨rfl, hC8⟩))
          have O8 := Lib.hid (O'.out.trans hC8.only)
          clear hC8
          go_wp2_with fail
          go_roundw
          case rel => exact ⟨s, c, rfl, rfl, i1, c1, by omega, L1.out, sm_hi ham hmb dd1 dd2 HM.out ha'.out hb'.out (by omega) (by have f1 : (f q).1 = x1 := (by rw [Hx.out]); have f2 : (f c).1 = y1 := (by rw [Hy.out]); have := hxy'.out; rw [Hq.out] at f1; omega), O8.out⟩
          case measure => simp [intOf]; omega
        · have kc := cmpN_ge (x := (x1, x2)) (y := (y1, y2)) hxy
          have hxy' := Lib.hid hxy
          clear hxy
          go_wp2_with fail
          go_region_held3 (fun w' => Cm wr g q c (x1, x2) (y1, y2) w' ∧ w'.cell? ⟨g, q * 2, none⟩ = some (.int .i64 x1) ∧ w'.cell? ⟨g, q * 2 + 1, none⟩ = some (.int .u64 (x2 : Nat)) ∧ w'.cell? ⟨g, c * 2, none⟩ = some (.int .i64 y1) ∧ w'.cell? ⟨g, c * 2 + 1, none⟩ = some (.int .u64 (y2 : Nat)))
            ((go_split_ands; first | exact ⟨by assumption, Cm.cells (by assumption)⟩ | exact ⟨Cm.drew (by assumption), Cm.cells (Cm.drew (by assumption))⟩))
            (first | (go_at_call 76; go_split_ands; refine (cm_cmp (by assumption)).mono ?_; rintro e w8 ⟨rfl, hC8⟩))
          have O8 := Lib.hid (O'.out.trans hC8.only)
          clear hC8
          go_wp2_with fail
          go_roundw
          case rel => exact ⟨c + 1, r, by go_num, rfl, by omega, by omega, i3, sm_lo ham hmb dd1 dd2 HM.out ha'.out hb'.out (by omega) i1 c1 (by have f1 : (f q).1 = x1 := (by rw [Hx.out]); have f2 : (f c).1 = y1 := (by rw [Hy.out]); have := hxy'.out; rw [Hq.out] at f1; omega), L2.out, O8.out⟩
          case measure => simp [intOf]; omega
      · obtain rfl : s = r := by omega
        obtain ⟨e, he⟩ : ∃ e, e = d + m - s := ⟨_, rfl⟩
        have hes : e + s = d + m := by omega
        have hei : (d : Int) + m - s = (e : Int) := by omega
        clear he
        obtain ⟨hK, hds⟩ := mid_cut ham hmb dd1 dd2 HM.out ha'.out hb'.out i1 i3 hes L1.out L2.out
        have hds' := Lib.hid hds
        clear hds
        have K1 := hK.h1
        have K2 := hK.h2
        have K3 := hK.h3
        have K4 := hK.h4
        have HK := Lib.hid hK
        clear hK
        obtain ⟨W1, W2, W3, W4⟩ := cut_wins HK.out hds'.out ha'.out hb'.out
        have W1' := Lib.hid W1
        have W2' := Lib.hid W2
        have W3' := Lib.hid W3
        have W4' := Lib.hid W4
        clear W1 W2 W3 W4
        have sd : s ≤ d := by have := hds'.out; omega
        have de : d ≤ e := by omega
        have hR := Lib.hid (hA'.out.only O id)
        have O' := Lib.hid (O.mono (T := (· = g)) (fun _ _ h => h.elim))
        clear O
        have hde := hds'.out
        have e1 : m ≤ e → e - m + m = e := by omega
        by_cases hrot : s < m ∧ m < e
        · have t1 : decide ((s : Int) < m) = true := by simp; omega
          have t2 : decide ((m : Int) < e) = true := by simp; omega
          have sd2 : s < d := by omega
          have de2 : d < e := by omega
          clear hde e1
          go_wp2_with fail
          refine (rot_calls g n cap s m e _ _ _ _ f wr rfl rfl rfl hn hrot.1 hrot.2 (by omega) hR.out).mono ?_
          rintro e3 w3 ⟨rfl, O3, R3⟩
          have R3' := Lib.hid R3
          have O3' := Lib.hid (O'.out.trans O3)
          clear R3 O3
          by_cases hl : a < s
          · have l1 : decide ((a : Int) < s) = true := by simp; omega
            have l2 : decide ((s : Int) < d) = true := by simp; omega
            go_wp2_with fail
            refine ((IH'.out a s d (rot f s m e) w3 (by omega) (by omega) (by omega) (by omega)) R3'.out W1'.out W2'.out).mono ?_
            rintro e4 w4 ⟨rfl, O4, g4, R4, N4, S4⟩
            have R4' := Lib.hid R4
            have N4' := Lib.hid N4
            have S4' := Lib.hid S4
            have O4' := Lib.hid (O3'.out.trans O4)
            clear R4 N4 S4 O4
            have V3 := Lib.hid (show Sorted (win g4 d e) by rw [N4'.out.same (.inr (Nat.le_refl _))]; exact W3'.out)
            have V4 := Lib.hid (show Sorted (win g4 e b) by rw [N4'.out.same (.inr de)]; exact W4'.out)
            by_cases hr : e < b
            · skip
              have r1 : decide ((d : Int) < e) = true := by simp; omega
              have r2 : decide ((e : Int) < b) = true := by simp; omega
              go_wp2_with fail
              refine ((IH'.out d e b g4 w4 (by omega) (by omega) (by omega) (by omega)) R4'.out V3.out V4.out).mono ?_
              rintro e5 w5 ⟨rfl, O5, g5, R5, N5, S5⟩
              have R5' := Lib.hid R5
              have N5' := Lib.hid N5
              have S5' := Lib.hid S5
              have O5' := Lib.hid (O4'.out.trans O5)
              clear R5 N5 S5 O5
              go_wp2_with fail
              go_end0
              exact ⟨rfl, O5'.out, _, R5'.out, merged ha'.out hb'.out HK.out hds'.out N4'.out S4'.out N5'.out S5'.out⟩
            · skip
              have V5 := Lib.hid (half_r (by omega) de K4 V3.out V4.out)
              have r1 : decide ((d : Int) < e) = true := by simp; omega
              have r2 : decide ((e : Int) < b) = false := by simp; omega
              go_wp2_with fail
              go_end0
              exact ⟨rfl, O4'.out, _, R4'.out, merged ha'.out hb'.out HK.out hds'.out N4'.out S4'.out (Anew.refl _ _ _) V5.out⟩
          · have l1 : decide ((a : Int) < s) = false := by simp; omega
            have S4' := Lib.hid (half_l (by omega) K1 sd W1'.out W2'.out)
            have N4' := Lib.hid (Anew.refl (rot f s m e) a d)
            have V3 := Lib.hid (show Sorted (win (rot f s m e) d e) by rw [N4'.out.same (.inr (Nat.le_refl _))]; exact W3'.out)
            have V4 := Lib.hid (show Sorted (win (rot f s m e) e b) by rw [N4'.out.same (.inr de)]; exact W4'.out)
            by_cases hr : e < b
            · skip
              have r1 : decide ((d : Int) < e) = true := by simp; omega
              have r2 : decide ((e : Int) < b) = true := by simp; omega
              go_wp2_with fail
              refine ((IH'.out d e b (rot f s m e) w3 (by omega) (by omega) (by omega) (by omega)) R3'.out V3.out V4.out).mono ?_
              rintro e5 w5 ⟨rfl, O5, g5, R5, N5, S5⟩
              have R5' := Lib.hid R5
              have N5' := Lib.hid N5
              have S5' := Lib.hid S5
              have O5' := Lib.hid (O3'.out.trans O5)
              clear R5 N5 S5 O5
              go_wp2_with fail
              go_end0
              exact ⟨rfl, O5'.out, _, R5'.out, merged ha'.out hb'.out HK.out hds'.out N4'.out S4'.out N5'.out S5'.out⟩
            · skip
              have V5 := Lib.hid (half_r (by omega) de K4 V3.out V4.out)
              have r1 : decide ((d : Int) < e) = true := by simp; omega
              have r2 : decide ((e : Int) < b) = false := by simp; omega
              go_wp2_with fail
              go_end0
              exact ⟨rfl, O3'.out, _, R3'.out, merged ha'.out hb'.out HK.out hds'.out N4'.out S4'.out (Anew.refl _ _ _) V5.out⟩
        · have R3' := Lib.hid (show Arr wr g n (rot f s m e) by rw [rot_triv f hrot K2 K3]; exact hR.out)
          by_cases hrot1 : s < m
          · have t1 : decide ((s : Int) < m) = true := by simp; omega
            have t2 : decide ((m : Int) < e) = false := by simp; omega
            have sd2 : d ≤ s := by omega
            have em : e ≤ m := by omega
            have hl : a < s := by omega
            clear hde e1
            have l1 : decide ((a : Int) < s) = true := by simp; omega
            have l2 : decide ((s : Int) < d) = false := by simp; omega
            have S4' := Lib.hid (half_l (by omega) K1 sd W1'.out W2'.out)
            have N4' := Lib.hid (Anew.refl (rot f s m e) a d)
            have V3 := Lib.hid (show Sorted (win (rot f s m e) d e) by rw [N4'.out.same (.inr (Nat.le_refl _))]; exact W3'.out)
            have V4 := Lib.hid (show Sorted (win (rot f s m e) e b) by rw [N4'.out.same (.inr de)]; exact W4'.out)
            have r1 : decide ((d : Int) < e) = true := by simp; omega
            have r2 : decide ((e : Int) < b) = true := by simp; omega
            go_wp2_with fail
            refine ((IH'.out d e b (rot f s m e) wr (by omega) (by omega) (by omega) (by omega)) R3'.out V3.out V4.out).mono ?_
            rintro e5 w5 ⟨rfl, O5, g5, R5, N5, S5⟩
            have R5' := Lib.hid R5
            have N5' := Lib.hid N5
            have S5' := Lib.hid S5
            have O5' := Lib.hid (O'.out.trans O5)
            clear R5 N5 S5 O5
            go_wp2_with fail
            go_end0
            exact ⟨rfl, O5'.out, _, R5'.out, merged ha'.out hb'.out HK.out hds'.out N4'.out S4'.out N5'.out S5'.out⟩
          · exfalso; omega
  · have kd : decide ((m : Int) > d) = false := by simp; omega
    have HM : Hid (Mid a m b d a m) := Lib.hid (.inr ⟨by omega, rfl, rfl⟩)
    have h01 : a ≤ m := by omega
    have r0n : m ≤ n := by omega
    have r0p : m ≤ p := by omega
    unfold cmpf
    go_enter Try.func112, Try.ntmps112
    go_wp2_with fail
    go_loopw [20, 21] (fun u v wr => SM w d m a m f u v wr) (fun u v _ => (intOf v).toNat - (intOf u).toNat)
    case atStart => exact ⟨a, m, rfl, rfl, Nat.le_refl _, h01, Nat.le_refl _, fun k q1 q2 => by omega, fun k q1 q2 => by omega, Only.refl _ _⟩
    case round =>
      obtain ⟨s, r, rfl, rfl, i1, i2, i3, l1, l2, O⟩ := hrel
      have L1 := Lib.hid l1
      have L2 := Lib.hid l2
      clear l1 l2
      by_cases hlt : s < r
      · obtain ⟨c, hc⟩ : ∃ c, c = (s + r) / 2 := ⟨_, rfl⟩
        have hc2 : (((s : Int) + r) / 2) = (c : Int) := by omega
        have c1 : s ≤ c := by omega
        have c2 : c < r := by omega
        clear hc
        obtain ⟨q, hq⟩ : ∃ q, q = p - c := ⟨_, rfl⟩
        have cp : c ≤ p := by omega
        have wq : IntKind.i64.wrap ((p : Int) - c) = (q : Int) := i64_of q (by omega) (by omega)
        have hqn : q < n := by omega
        have hcn : c < n := by omega
        have hqd : q = d + m - 1 - c := by omega
        have Hq := Lib.hid hqd
        clear hqd hq
        have hR := hA'.out.only O id
        have hC := Cm.start hR (i := q) (j := c) (hqn) (hcn)
        rcases hx : f q with ⟨x1, x2⟩
        rcases hy : f c with ⟨y1, y2⟩
        rw [hx, hy] at hC
        have Hx := Lib.hid hx
        have Hy := Lib.hid hy
        clear hx hy
        obtain ⟨d0, d1, d2, d3⟩ := hC.cells
        have O' := Lib.hid O
        clear O hR
        by_cases hxy : x1 < y1
        · have kc := cmpN_lt (x := (x1, x2)) (y := (y1, y2)) hxy
          have hxy' := Lib.hid hxy
          clear hxy
          go_wp2_with fail
          go_region_held3 (fun w' => Cm wr g q c (x1, x2) (y1, y2) w' ∧ w'.cell? ⟨g, q * 2, none⟩ = some (.int .i64 x1) ∧ w'.cell? ⟨g, q * 2 + 1, none⟩ = some (.int .u64 (x2 : Nat)) ∧ w'.cell? ⟨g, c * 2, none⟩ = some (.int .i64 y1) ∧ w'.cell? ⟨g, c * 2 + 1, none⟩ = some (.int .u64 (y2 : Nat)))
            ((go_split_ands; first | exact ⟨by assumption, Cm.cells (by assumption)⟩ | exact ⟨Cm.drew (by assumption), Cm.cells (Cm.drew (by assumption))⟩))
            (first | (go_at_call 76; go_split_ands; refine (cm_cmp (by assumption)).mono ?_; rintro e w8 ⟨rfl, hC8⟩))
          have O8 := Lib.hid (O'.out.trans hC8.only)
          clear hC8
          go_wp2_with fail
          go_roundw
          case rel => exact ⟨s, c, rfl, rfl, i1, c1, by omega, L1.out, sm_hi ham hmb dd1 dd2 HM.out ha'.out hb'.out (by omega) (by have f1 : (f q).1 = x1 := (by rw [Hx.out]); have f2 : (f c).1 = y1 := (by rw [Hy.out]); have := hxy'.out; rw [Hq.out] at f1; omega), O8.out⟩
          case measure => simp [intOf]; omega
        · have kc := cmpN_ge (x := (x1, x2)) (y := (y1, y2)) hxy
          have hxy' := Lib.hid hxy
          clear hxy
          go_wp2_with fail
          go_region_held3 (fun w' => Cm wr g q c (x1, x2) (y1, y2) w' ∧ w'.cell? ⟨g, q * 2, none⟩ = some (.int .i64 x1) ∧ w'.cell? ⟨g, q * 2 + 1, none⟩ = some (.int .u64 (x2 : Nat)) ∧ w'.cell? ⟨g, c * 2, none⟩ = some (.int .i64 y1) ∧ w'.cell? ⟨g, c * 2 + 1, none⟩ = some (.int .u64 (y2 : Nat)))
            ((go_split_ands; first | exact ⟨by assumption, Cm.cells (by assumption)⟩ | exact ⟨Cm.drew (by assumption), Cm.cells (Cm.drew (by assumption))⟩))
            (first | (go_at_call 76; go_split_ands; refine (cm_cmp (by assumption)).mono ?_; rintro e w8 ⟨rfl, hC8⟩))
          have O8 := Lib.hid (O'.out.trans hC8.only)
          clear hC8
          go_wp2_with fail
          go_roundw
          case rel => exact ⟨c + 1, r, by go_num, rfl, by omega, by omega, i3, sm_lo ham hmb dd1 dd2 HM.out ha'.out hb'.out (by omega) i1 c1 (by have f1 : (f q).1 = x1 := (by rw [Hx.out]); have f2 : (f c).1 = y1 := (by rw [Hy.out]); have := hxy'.out; rw [Hq.out] at f1; omega), L2.out, O8.out⟩
          case measure => simp [intOf]; omega
      · obtain rfl : s = r := by omega
        obtain ⟨e, he⟩ : ∃ e, e = d + m - s := ⟨_, rfl⟩
        have hes : e + s = d + m := by omega
        have hei : (d : Int) + m - s = (e : Int) := by omega
        clear he
        obtain ⟨hK, hds⟩ := mid_cut ham hmb dd1 dd2 HM.out ha'.out hb'.out i1 i3 hes L1.out L2.out
        have hds' := Lib.hid hds
        clear hds
        have K1 := hK.h1
        have K2 := hK.h2
        have K3 := hK.h3
        have K4 := hK.h4
        have HK := Lib.hid hK
        clear hK
        obtain ⟨W1, W2, W3, W4⟩ := cut_wins HK.out hds'.out ha'.out hb'.out
        have W1' := Lib.hid W1
        have W2' := Lib.hid W2
        have W3' := Lib.hid W3
        have W4' := Lib.hid W4
        clear W1 W2 W3 W4
        have sd : s ≤ d := by have := hds'.out; omega
        have de : d ≤ e := by omega
        have hR := Lib.hid (hA'.out.only O id)
        have O' := Lib.hid (O.mono (T := (· = g)) (fun _ _ h => h.elim))
        clear O
        have hde := hds'.out
        have e1 : m ≤ e → e - m + m = e := by omega
        by_cases hrot : s < m ∧ m < e
        · have t1 : decide ((s : Int) < m) = true := by simp; omega
          have t2 : decide ((m : Int) < e) = true := by simp; omega
          have sd2 : s < d := by omega
          have de2 : d < e := by omega
          clear hde e1
          go_wp2_with fail
          refine (rot_calls g n cap s m e _ _ _ _ f wr rfl rfl rfl hn hrot.1 hrot.2 (by omega) hR.out).mono ?_
          rintro e3 w3 ⟨rfl, O3, R3⟩
          have R3' := Lib.hid R3
          have O3' := Lib.hid (O'.out.trans O3)
          clear R3 O3
          by_cases hl : a < s
          · have l1 : decide ((a : Int) < s) = true := by simp; omega
            have l2 : decide ((s : Int) < d) = true := by simp; omega
            go_wp2_with fail
            refine ((IH'.out a s d (rot f s m e) w3 (by omega) (by omega) (by omega) (by omega)) R3'.out W1'.out W2'.out).mono ?_
            rintro e4 w4 ⟨rfl, O4, g4, R4, N4, S4⟩
            have R4' := Lib.hid R4
            have N4' := Lib.hid N4
            have S4' := Lib.hid S4
            have O4' := Lib.hid (O3'.out.trans O4)
            clear R4 N4 S4 O4
            have V3 := Lib.hid (show Sorted (win g4 d e) by rw [N4'.out.same (.inr (Nat.le_refl _))]; exact W3'.out)
            have V4 := Lib.hid (show Sorted (win g4 e b) by rw [N4'.out.same (.inr de)]; exact W4'.out)
            by_cases hr : e < b
            · skip
              have r1 : decide ((d : Int) < e) = true := by simp; omega
              have r2 : decide ((e : Int) < b) = true := by simp; omega
              go_wp2_with fail
              refine ((IH'.out d e b g4 w4 (by omega) (by omega) (by omega) (by omega)) R4'.out V3.out V4.out).mono ?_
              rintro e5 w5 ⟨rfl, O5, g5, R5, N5, S5⟩
              have R5' := Lib.hid R5
              have N5' := Lib.hid N5
              have S5' := Lib.hid S5
              have O5' := Lib.hid (O4'.out.trans O5)
              clear R5 N5 S5 O5
              go_wp2_with fail
              go_end0
              exact ⟨rfl, O5'.out, _, R5'.out, merged ha'.out hb'.out HK.out hds'.out N4'.out S4'.out N5'.out S5'.out⟩
            · skip
              have V5 := Lib.hid (half_r (by omega) de K4 V3.out V4.out)
              have r1 : decide ((d : Int) < e) = true := by simp; omega
              have r2 : decide ((e : Int) < b) = false := by simp; omega
              go_wp2_with fail
              go_end0
              exact ⟨rfl, O4'.out, _, R4'.out, merged ha'.out hb'.out HK.out hds'.out N4'.out S4'.out (Anew.refl _ _ _) V5.out⟩
          · have l1 : decide ((a : Int) < s) = false := by simp; omega
            have S4' := Lib.hid (half_l (by omega) K1 sd W1'.out W2'.out)
            have N4' := Lib.hid (Anew.refl (rot f s m e) a d)
            have V3 := Lib.hid (show Sorted (win (rot f s m e) d e) by rw [N4'.out.same (.inr (Nat.le_refl _))]; exact W3'.out)
            have V4 := Lib.hid (show Sorted (win (rot f s m e) e b) by rw [N4'.out.same (.inr de)]; exact W4'.out)
            by_cases hr : e < b
            · skip
              have r1 : decide ((d : Int) < e) = true := by simp; omega
              have r2 : decide ((e : Int) < b) = true := by simp; omega
              go_wp2_with fail
              refine ((IH'.out d e b (rot f s m e) w3 (by omega) (by omega) (by omega) (by omega)) R3'.out V3.out V4.out).mono ?_
              rintro e5 w5 ⟨rfl, O5, g5, R5, N5, S5⟩
              have R5' := Lib.hid R5
              have N5' := Lib.hid N5
              have S5' := Lib.hid S5
              have O5' := Lib.hid (O3'.out.trans O5)
              clear R5 N5 S5 O5
              go_wp2_with fail
              go_end0
              exact ⟨rfl, O5'.out, _, R5'.out, merged ha'.out hb'.out HK.out hds'.out N4'.out S4'.out N5'.out S5'.out⟩
            · skip
              have V5 := Lib.hid (half_r (by omega) de K4 V3.out V4.out)
              have r1 : decide ((d : Int) < e) = true := by simp; omega
              have r2 : decide ((e : Int) < b) = false := by simp; omega
              go_wp2_with fail
              go_end0
              exact ⟨rfl, O3'.out, _, R3'.out, merged ha'.out hb'.out HK.out hds'.out N4'.out S4'.out (Anew.refl _ _ _) V5.out⟩
        · have R3' := Lib.hid (show Arr wr g n (rot f s m e) by rw [rot_triv f hrot K2 K3]; exact hR.out)
          by_cases hrot1 : s < m
          · exfalso; omega
          · have t1 : decide ((s : Int) < m) = false := by simp; omega
            have em : e ≤ d := by omega
            have l1 : decide ((a : Int) < s) = true := by simp; omega
            clear hde e1
            by_cases hl : s < d
            · have l2 : decide ((s : Int) < d) = true := by simp; omega
              go_wp2_with fail
              refine ((IH'.out a s d (rot f s m e) wr (by omega) (by omega) (by omega) (by omega)) R3'.out W1'.out W2'.out).mono ?_
              rintro e4 w4 ⟨rfl, O4, g4, R4, N4, S4⟩
              have R4' := Lib.hid R4
              have N4' := Lib.hid N4
              have S4' := Lib.hid S4
              have O4' := Lib.hid (O'.out.trans O4)
              clear R4 N4 S4 O4
              have V3 := Lib.hid (show Sorted (win g4 d e) by rw [N4'.out.same (.inr (Nat.le_refl _))]; exact W3'.out)
              have V4 := Lib.hid (show Sorted (win g4 e b) by rw [N4'.out.same (.inr de)]; exact W4'.out)
              have V5 := Lib.hid (half_r (by omega) de K4 V3.out V4.out)
              have r1 : decide ((d : Int) < e) = false := by simp; omega
              go_wp2_with fail
              go_end0
              exact ⟨rfl, O4'.out, _, R4'.out, merged ha'.out hb'.out HK.out hds'.out N4'.out S4'.out (Anew.refl _ _ _) V5.out⟩
            · have l2 : decide ((s : Int) < d) = false := by simp; omega
              have S4' := Lib.hid (half_l (by omega) K1 sd W1'.out W2'.out)
              have N4' := Lib.hid (Anew.refl (rot f s m e) a d)
              have V3 := Lib.hid (show Sorted (win (rot f s m e) d e) by rw [N4'.out.same (.inr (Nat.le_refl _))]; exact W3'.out)
              have V4 := Lib.hid (show Sorted (win (rot f s m e) e b) by rw [N4'.out.same (.inr de)]; exact W4'.out)
              have V5 := Lib.hid (half_r (by omega) de K4 V3.out V4.out)
              have r1 : decide ((d : Int) < e) = false := by simp; omega
              go_wp2_with fail
              go_end0
              exact ⟨rfl, O'.out, _, R3'.out, merged ha'.out hb'.out HK.out hds'.out N4'.out S4'.out (Anew.refl _ _ _) V5.out⟩
end Go.Proofs.Ytimiojckinpfdaa

/- The walks of the stable sort. -/
namespace Go.Proofs.Ytimiojckinpfdaa
open Go.RowKit Srt

theorem symm_all (g n cap : Nat) (hn : n ≤ 9007199254740992) : ∀ k a m b f w, b - a ≤ k → a < m → m < b → b ≤ n → SymAt g n cap a m b f w
  | 0, a, m, b, f, w, h, h1, h2, h3 => by omega
  | k + 1, a, m, b, f, w, h, h1, h2, h3 => fun hA ha hb => by
    by_cases e1 : m = a + 1
    · exact symm_left g n cap a m b f w hn e1 h2 h3 hA hb
    · by_cases e2 : b = m + 1
      · exact symm_right g n cap a m b f w hn (by omega) e2 h3 hA ha
      · exact symm_main g n cap a m b f w hn (by omega) (by omega) h3 hA ha hb fun a' m' b' f' w' hlt => symm_all g n cap hn k a' m' b' f' w' (by omega)
theorem symm_calls (g n cap a m b : Nat) (A M B : Int) (f : Nat → Cn) (w : World) (ea : A = a) (em : M = m) (eb : B = b) (hn : n ≤ 9007199254740992) (h1 : a < m) (h2 : m < b) (h3 : b ≤ n) (hA : Arr w g n f) (ha : Sorted (win f a m)) (hb : Sorted (win f m b)) :
    Calls Try.prog 112 #[hv g n cap, .int .i64 A, .int .i64 M, .int .i64 B, cmpf] w (SymRes w g n a b f) := by
  subst ea; subst em; subst eb
  exact symm_all g n cap hn (b - a) a m b f w (Nat.le_refl _) h1 h2 h3 hA ha hb

/-- each stretch of t is sorted, as far as a -/
def BS (f : Nat → Cn) (a t : Nat) : Prop := ∀ x y, x < y → y < a → x / t = y / t → (f x).1 ≤ (f y).1
/-- each stretch of s is sorted, from a on -/
def Up (f : Nat → Cn) (a n s : Nat) : Prop := ∀ x y, a ≤ x → x < y → y < n → x / s = y / s → (f x).1 ≤ (f y).1
theorem BS.next {f g : Nat → Cn} {a b t c : Nat} (h : BS f a t) (ha : a = c * t) (ht : 0 < t) (hN : Anew f g a b) (hS : Sorted (win g a b)) : BS g b t := by
  intro x y h1 h2 h3
  by_cases hy : y < a
  · rw [hN.out x (by omega), hN.out y (by omega)]; exact h x y h1 hy h3
  · have q1 : c ≤ y / t := (Nat.le_div_iff_mul_le ht).2 (by omega)
    have q2 : c * t ≤ x := (Nat.le_div_iff_mul_le ht).1 (by omega)
    exact sorted_le hS (by omega) (by omega) h2
theorem Up.next {f g : Nat → Cn} {a b n s : Nat} (h : Up f a n s) (hab : a ≤ b) (hN : Anew f g a b) : Up g b n s := by
  intro x y h1 h2 h3 h4
  rw [hN.out x (by omega), hN.out y (by omega)]
  exact h x y (by omega) h2 h3 h4
theorem Up.win {f : Nat → Cn} {a n s q l r : Nat} (h : Up f a n s) (h1 : a ≤ l) (h2 : q * s ≤ l) (h3 : r ≤ (q + 1) * s) (h4 : r ≤ n) : Sorted (win f l r) :=
  sorted_win.2 fun x y p1 p2 p3 => h x y (by omega) p2 (by omega) (by rw [Nat.div_eq_of_lt_le (by omega) (by omega : x < (q + 1) * s), Nat.div_eq_of_lt_le (by omega) (by omega : y < (q + 1) * s)])
theorem BS.up {f : Nat → Cn} {n s : Nat} (h : BS f n s) : Up f 0 n s := fun x y _ h2 h3 h4 => h x y h2 h3 h4
theorem BS.zero (f : Nat → Cn) (t : Nat) : BS f 0 t := fun x y _ h2 => by omega
theorem BS.all {f : Nat → Cn} {n s : Nat} (h : BS f n s) (hs : n ≤ s) : Sorted (win f 0 n) :=
  sorted_win.2 fun x y _ h2 h3 => h x y h2 h3 (by rw [Nat.div_eq_of_lt (by omega), Nat.div_eq_of_lt (by omega)])
def St1 (w : World) (g n : Nat) (f : Nat → Cn) (p q : Value) (wr : World) : Prop := ∃ c a : Nat, ∃ h, p = .int .i64 a ∧ q = .int .i64 ((a : Int) + 20) ∧ a = c * 20 ∧ a ≤ n ∧ Anew f h 0 n ∧ BS h a 20 ∧ Only (· = g) w wr ∧ Arr wr g n h
def St2 (w : World) (g n : Nat) (f : Nat → Cn) (p : Value) (wr : World) : Prop := ∃ s : Nat, ∃ h, p = .int .i64 s ∧ 20 ≤ s ∧ s ≤ 2 * n + 20 ∧ Anew f h 0 n ∧ BS h n s ∧ Only (· = g) w wr ∧ Arr wr g n h
def St3 (w : World) (g n s : Nat) (f : Nat → Cn) (p q : Value) (wr : World) : Prop := ∃ c a : Nat, ∃ h, p = .int .i64 a ∧ q = .int .i64 ((a : Int) + 2 * s) ∧ a = c * (2 * s) ∧ a ≤ n ∧ Anew f h 0 n ∧ BS h a (2 * s) ∧ Up h a n s ∧ Only (· = g) w wr ∧ Arr wr g n h
set_option maxHeartbeats 4000000 in
set_option maxRecDepth 100000 in
theorem stable_calls (g n cap : Nat) (f : Nat → Cn) (w : World) (hn : n ≤ 9007199254740992) (hA : Arr w g n f) :
    Calls Try.prog 102 #[hv g n cap, .int .i64 n, cmpf] w (SymRes w g n 0 n f) := by
  have hA' := Lib.hid hA; clear hA
  unfold cmpf
  go_enter Try.func102, Try.ntmps102
  go_wp2_with fail
  go_loopw [7, 8] (fun p q wr => St1 w g n f p q wr) (fun p _ _ => n - (intOf p).toNat)
  case atStart => exact ⟨0, 0, f, rfl, rfl, by omega, Nat.zero_le _, Anew.refl _ _ _, BS.zero _ _, Only.refl _ _, hA'.out⟩
  case round =>
    obtain ⟨c, a, h, rfl, rfl, ha, han, hN, hB, O, hR⟩ := hrel
    have Ha := Lib.hid ha
    have N1 := Lib.hid hN
    have B1 := Lib.hid hB
    have O1 := Lib.hid O
    have R1 := Lib.hid hR
    clear ha hN hB O hR
    by_cases hlt : a + 20 ≤ n
    · have kt : decide ((a : Int) + 20 ≤ n) = true := by simp; omega
      go_wp2_with fail
      refine (insert_calls g n cap a (a + 20) h wr hn (by omega) hlt R1.out).mono ?_
      rintro e1 w1 ⟨rfl, O2, h2, R2, N2, S2⟩
      have X := Lib.hid (show St1 w g n f (.int .i64 ((a : Int) + 20)) (.int .i64 ((a : Int) + 20 + 20)) w1 from ⟨c + 1, a + 20, h2, by go_num, by go_num, by have := Ha.out; omega, hlt, N1.out.trans (N2.wide (by omega) (by omega) hlt), B1.out.next Ha.out (by decide) N2 S2, O1.out.trans O2, R2⟩)
      clear O2 R2 N2 S2
      go_wp2_with fail
      go_roundw
      case rel => exact X.out
      case measure => simp [intOf]; omega
    · have kt : decide ((a : Int) + 20 ≤ n) = false := by simp; omega
      go_wp2_with fail
      refine (insert_calls g n cap a n h wr hn (by omega) (Nat.le_refl _) R1.out).mono ?_
      rintro e1 w1 ⟨rfl, O2, h2, R2, N2, S2⟩
      have X := Lib.hid (show St2 w g n f (.int .i64 (20 : Nat)) w1 from ⟨20, h2, rfl, Nat.le_refl _, by omega, N1.out.trans (N2.wide (by omega) (by omega) (Nat.le_refl _)), B1.out.next Ha.out (by decide) N2 S2, O1.out.trans O2, R2⟩)
      clear O2 R2 N2 S2
      go_wp2_with fail
      go_loopw [6] (fun p wr => St2 w g n f p wr) (fun p _ => n - (intOf p).toNat)
      case atStart => exact X.out
      case round =>
        obtain ⟨s, h3, rfl, s1, s2, hN3, hB3, O3, hR3⟩ := hrel
        have N3 := Lib.hid hN3
        have B3 := Lib.hid hB3
        have P3 := Lib.hid O3
        have R3 := Lib.hid hR3
        clear hN3 hB3 O3 hR3
        by_cases hsn : s < n
        · go_wp2_with fail
          go_loopw [7, 8] (fun p q wr => St3 w g n s f p q wr) (fun p _ _ => n - (intOf p).toNat)
          case atStart => exact ⟨0, 0, h3, rfl, by congr 1 <;> omega, by omega, Nat.zero_le _, N3.out, BS.zero _ _, B3.out.up, P3.out, R3.out⟩
          case round =>
            obtain ⟨c4, a4, h4, rfl, rfl, ha4, han4, hN4, hB4, hU4, O4, hR4⟩ := hrel
            have hq : a4 = 2 * c4 * s := by rw [ha4, Nat.mul_comm 2 c4, Nat.mul_assoc]
            have hq1 : (2 * c4 + 1) * s = a4 + s := by rw [Nat.add_mul, ← hq]; omega
            have hq2 : (2 * c4 + 1 + 1) * s = a4 + s + s := by rw [Nat.add_mul, hq1]; omega
            have hq3 : (c4 + 1) * (2 * s) = a4 + 2 * s := by rw [Nat.add_mul, ← ha4]; omega
            have Q0 := Lib.hid hq
            have Q1 := Lib.hid hq1
            have Q2 := Lib.hid hq2
            have Q3 := Lib.hid hq3
            have Ha4 := Lib.hid ha4
            have N4 := Lib.hid hN4
            have B4 := Lib.hid hB4
            have U4 := Lib.hid hU4
            have P4 := Lib.hid O4
            have R4 := Lib.hid hR4
            clear hq hq1 hq2 hq3 ha4 hN4 hB4 hU4 O4 hR4
            by_cases hlt4 : a4 + 2 * s ≤ n
            · have kt : decide ((a4 : Int) + 2 * s ≤ n) = true := by simp; omega
              go_wp2_with fail
              refine (symm_calls g n cap a4 (a4 + s) (a4 + 2 * s) _ _ _ h4 _ (by omega) (by omega) (by omega) hn (by omega) (by omega) hlt4 R4.out (U4.out.win (q := 2 * c4) (Nat.le_refl _) (Nat.le_of_eq Q0.out.symm) (Nat.le_of_eq Q1.out.symm) (by omega)) (U4.out.win (q := 2 * c4 + 1) (by omega) (Nat.le_of_eq Q1.out) (by have := Q2.out; omega) hlt4)).mono ?_
              rintro e5 w5 ⟨rfl, O5, h5, R5, N5, S5⟩
              have X := Lib.hid (show St3 w g n s f (.int .i64 ((a4 : Int) + 2 * s)) (.int .i64 ((a4 : Int) + 2 * s + 2 * s)) w5 from ⟨c4 + 1, a4 + 2 * s, h5, by go_num, by congr 1 <;> omega, Q3.out.symm, hlt4, N4.out.trans (N5.wide (by omega) (by omega) hlt4), B4.out.next Ha4.out (by omega) N5 S5, U4.out.next (by omega) N5, P4.out.trans O5, R5⟩)
              clear O5 R5 N5 S5
              go_wp2_with fail
              go_roundw
              case rel => exact X.out
              case measure => simp [intOf]; omega
            · have kt : decide ((a4 : Int) + 2 * s ≤ n) = false := by simp; omega
              by_cases hm : a4 + s < n
              · have km : decide ((a4 : Int) + s < n) = true := by simp; omega
                go_wp2_with fail
                refine (symm_calls g n cap a4 (a4 + s) n _ _ _ h4 _ (by omega) (by omega) (by omega) hn (by omega) hm (Nat.le_refl _) R4.out (U4.out.win (q := 2 * c4) (Nat.le_refl _) (Nat.le_of_eq Q0.out.symm) (Nat.le_of_eq Q1.out.symm) (by omega)) (U4.out.win (q := 2 * c4 + 1) (by omega) (Nat.le_of_eq Q1.out) (by have := Q2.out; omega) (Nat.le_refl _))).mono ?_
                rintro e5 w5 ⟨rfl, O5, h5, R5, N5, S5⟩
                have X := Lib.hid (show St2 w g n f (.int .i64 ((s : Int) * 2)) w5 from ⟨2 * s, h5, by congr 1 <;> omega, by omega, by omega, N4.out.trans (N5.wide (by omega) (by omega) (Nat.le_refl _)), B4.out.next Ha4.out (by omega) N5 S5, P4.out.trans O5, R5⟩)
                clear O5 R5 N5 S5
                go_wp2_with fail
                go_roundw
                case rel => exact X.out
                case measure => simp [intOf]; omega
              · have km : decide ((a4 : Int) + s < n) = false := by simp; omega
                have X := Lib.hid (show St2 w g n f (.int .i64 ((s : Int) * 2)) wr from ⟨2 * s, h4, by congr 1 <;> omega, by omega, by omega, N4.out, B4.out.next Ha4.out (by omega) (Anew.refl h4 a4 n) (U4.out.win (q := 2 * c4) (Nat.le_refl _) (Nat.le_of_eq Q0.out.symm) (by have := Q1.out; omega) (Nat.le_refl _)), P4.out, R4.out⟩)
                go_wp2_with fail
                go_roundw
                case rel => exact X.out
                case measure => simp [intOf]; omega
        · go_wp2_with fail
          go_end0
          exact ⟨rfl, P3.out, h3, R3.out, N3.out, B3.out.all (by omega)⟩
theorem sort_calls (g n cap : Nat) (f : Nat → Cn) (w : World) (hn : n ≤ 9007199254740992) (hA : Arr w g n f) :
    Calls Try.prog 75 #[hv g n cap, cmpf] w (SymRes w g n 0 n f) := by
  have K := Lib.hid (stable_calls g n cap f w hn hA)
  clear hA
  go_enter Try.func75, Try.ntmps75
  go_wp2_with fail
  refine K.out.mono ?_
  rintro e1 w1 ⟨rfl, O1, h, R1, N1, S1⟩
  have X := Lib.hid (show SymRes w g n 0 n f (.returned (.tuple #[])) w1 from ⟨rfl, O1, h, R1, N1, S1⟩)
  clear O1 R1 N1 S1
  go_wp2_with fail
  go_end0
  exact X.out
end Go.Proofs.Ytimiojckinpfdaa

/- Plain facts: how the counts of one index come together, one behind the other. -/
namespace Go.Proofs.Ytimiojckinpfdaa.Srt

/-- the sums of L by rising index, some of them perhaps 0 -/
structure Pre (L R : List Cn) : Prop where
  up : Strict R
  lt : ∀ x ∈ R, x.2 < 18446744073709551616
  sum : ∀ k, sumK k R % 18446744073709551616 = sumK k L % 18446744073709551616
  key : ∀ x ∈ R, ∃ y ∈ L, y.1 = x.1
theorem pre_nil : Pre [] [] := ⟨List.Pairwise.nil, fun x hx => (by cases hx), fun _ => rfl, fun x hx => (by cases hx)⟩
theorem Pre.push {L R : List Cn} {c : Cn} (h : Pre L R) (hc : c.2 < 18446744073709551616) (hk : ∀ x ∈ L, x.1 < c.1) : Pre (L ++ [c]) (R ++ [c]) := by
  refine ⟨?_, ?_, ?_, ?_⟩
  · unfold Strict
    rw [List.pairwise_append]
    refine ⟨h.up, by simp, fun x hx y hy => ?_⟩
    simp at hy; subst hy
    obtain ⟨z, hz, e⟩ := h.key x hx
    have := hk z hz; omega
  · intro x hx
    rcases List.mem_append.1 hx with hx | hx
    · exact h.lt x hx
    · simp at hx; subst hx; exact hc
  · intro k
    rw [sumK_app, sumK_app, Nat.add_mod, h.sum, ← Nat.add_mod]
  · intro x hx
    rcases List.mem_append.1 hx with hx | hx
    · obtain ⟨z, hz, e⟩ := h.key x hx; exact ⟨z, by simp [hz], e⟩
    · exact ⟨x, by simp at hx; simp [hx], rfl⟩
theorem Pre.add {L R : List Cn} {y c : Cn} (h : Pre L (R ++ [y])) (hk : y.1 = c.1) : Pre (L ++ [c]) (R ++ [(y.1, (y.2 + c.2) % 18446744073709551616)]) := by
  have hu := h.up
  unfold Strict at hu
  rw [List.pairwise_append] at hu
  refine ⟨?_, ?_, ?_, ?_⟩
  · unfold Strict
    rw [List.pairwise_append]
    refine ⟨hu.1, by simp, fun x hx z hz => ?_⟩
    simp at hz; subst hz
    exact hu.2.2 x hx y (by simp)
  · intro x hx
    rcases List.mem_append.1 hx with hx | hx
    · exact h.lt x (by simp [hx])
    · simp at hx; subst hx; exact Nat.mod_lt _ (by omega)
  · intro k
    have e := h.sum k
    rw [sumK_app] at e
    rw [sumK_app, sumK_app]
    simp only [sumK] at e ⊢
    by_cases hy : y.1 = k
    · rw [if_pos hy] at e; rw [if_pos hy, if_pos (by omega)]; omega
    · rw [if_neg hy] at e; rw [if_neg hy, if_neg (by omega)]; omega
  · intro x hx
    rcases List.mem_append.1 hx with hx | hx
    · obtain ⟨z, hz, e⟩ := h.key x (by simp [hx]); exact ⟨z, by simp [hz], e⟩
    · simp at hx; subst hx; exact ⟨c, by simp, hk.symm⟩
theorem sumK_filter (k : Int) (l : List Cn) : sumK k (l.filter fun x => x.2 != 0) = sumK k l := by
  induction l with
  | nil => rfl
  | cons x t ih =>
    by_cases h : x.2 = 0
    · rw [List.filter_cons_of_neg (by simp [h]), ih]; simp [sumK, h]
    · rw [List.filter_cons_of_pos (by simp [h])]; simp only [sumK, ih]
theorem Pre.norm {L R : List Cn} (h : Pre L R) : Norm L (R.filter fun x => x.2 != 0) := by
  refine ⟨h.up.filter _, fun x hx => ?_, fun k => ?_⟩
  · obtain ⟨h1, h2⟩ := List.mem_filter.1 hx
    exact ⟨by simpa using h2, h.lt x h1⟩
  · rw [sumK_filter, h.sum]
theorem norm_nil : Norm [] [] := ⟨List.Pairwise.nil, fun x hx => (by cases hx), fun _ => rfl⟩
theorem Norm.key {L R : List Cn} (h : Norm L R) {x : Cn} (hx : x ∈ R) : ∃ y ∈ L, y.1 = x.1 := by
  by_cases hh : ∃ y ∈ L, y.1 = x.1
  · exact hh
  · exfalso
    have e : sumK x.1 L = 0 := sumK_none (fun y hy hk => hh ⟨y, hy, hk⟩)
    have h1 := h.sum x.1
    rw [e] at h1
    have h2 : sumK x.1 R = x.2 := by
      have : ∀ (l : List Cn), Strict l → x ∈ l → sumK x.1 l = x.2 := by
        intro l
        induction l with
        | nil => intro _ hx; cases hx
        | cons y t ih =>
          intro hs hx
          rcases List.mem_cons.1 hx with rfl | hx
          · exact strict_sum hs
          · have := (List.pairwise_cons.1 hs).1 x hx
            simp only [sumK]
            rw [if_neg (by omega), ih (List.pairwise_cons.1 hs).2 hx]; omega
      exact this R h.up hx
    rw [h2] at h1
    have := h.pos x hx
    rw [Nat.mod_eq_of_lt this.2] at h1
    simp at h1; omega
/-- how many, in all -/
def sumN : List Cn → Nat
  | [] => 0
  | x :: r => x.2 + sumN r
theorem sumN_app (l r : List Cn) : sumN (l ++ r) = sumN l + sumN r := by
  induction l with
  | nil => simp [sumN]
  | cons x t ih => simp only [List.cons_append, sumN, ih]; omega
theorem sumK_all {l : List Cn} {k : Int} (h : ∀ x ∈ l, x.1 = k) : sumK k l = sumN l := by
  induction l with
  | nil => rfl
  | cons x t ih => simp only [sumK, sumN]; rw [if_pos (h x (by simp)), ih (fun y hy => h y (by simp [hy]))]
/-- a row of one index is done -/
theorem Norm.group {L R G : List Cn} {k : Int} {s : Nat} (h : Norm L R) (hG : ∀ x ∈ G, x.1 = k) (hL : ∀ x ∈ L, x.1 < k) (hs : s = sumN G % 18446744073709551616) :
    Norm (L ++ G) (if s = 0 then R else R ++ [(k, s)]) := by
  have hR : ∀ x ∈ R, x.1 < k := fun x hx => by obtain ⟨y, hy, e⟩ := h.key hx; have := hL y hy; omega
  have sG : ∀ j, sumK j G = if j = k then sumN G else 0 := fun j => by
    split
    · rename_i e; subst e; exact sumK_all hG
    · rename_i e; exact sumK_none (fun x hx => by have := hG x hx; omega)
  split
  · rename_i e
    refine ⟨h.up, h.pos, fun j => ?_⟩
    rw [sumK_app, sG, h.sum]
    split
    · omega
    · rfl
  · rename_i e
    refine ⟨?_, ?_, fun j => ?_⟩
    · unfold Strict
      rw [List.pairwise_append]
      refine ⟨h.up, by simp, fun x hx z hz => ?_⟩
      simp at hz; subst hz; exact hR x hx
    · intro x hx
      rcases List.mem_append.1 hx with hx | hx
      · exact h.pos x hx
      · simp at hx; subst hx; exact ⟨e, by rw [hs]; exact Nat.mod_lt _ (by omega)⟩
    · rw [sumK_app, sumK_app, sG]
      have := h.sum j
      simp only [sumK]
      by_cases hj : j = k
      · rw [if_pos hj.symm, if_pos hj]; omega
      · rw [if_neg (fun e => hj e.symm), if_neg hj]; omega
theorem Norm.of_perm {L L' R : List Cn} (h : Norm L R) (p : L'.Perm L) : Norm L' R := ⟨h.up, h.pos, fun k => by rw [h.sum, sumK_perm p]⟩
end Go.Proofs.Ytimiojckinpfdaa.Srt
