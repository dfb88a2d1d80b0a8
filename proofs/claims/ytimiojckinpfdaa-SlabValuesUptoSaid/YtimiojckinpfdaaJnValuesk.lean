/-
  SlabValues (the second form): for every description and every raw part the law returns true, and both read behind the call as before, where what they hold is of bulk at most 1048576. No other condition.
-/
import Derived.Test.YtimiojckinpfdaaRows
import Derived.Conc.LeavingOf
import Derived.JoinedCond
import Derived.Test.YtimiojckinpfdaaJnValuesj
/- The walk of sameValue: two values held against each other. -/
namespace Go.Proofs.Ytimiojckinpfdaa
open Go.RowKit Srt

theorem run_ne66s (s t : ByteArray) (w : World) : Sem.run Try.prog (binOp .neq 66 (.agg #[.string s, .string t]) (.agg #[.string s, .string t])) w = .ok (.bool false) w := by
  have u4 := Try.underlying9
  have hS : Try.prog.underlying 66 = some (.struct (Try.prog.fieldsOf 66)) := by kernel_rfl
  have hp : Try.prog.stoodInHeld 66 = false := by kernel_rfl
  rw [run_neq_struct, show (10000 : Nat) = 9999 + 1 from rfl, run_equalIn_struct w 9999 66 _ _ hS hp]
  simp only [Program.fieldsOf, Try.underlying66]
  go_simp
theorem run_nei35s (h l : Int) (w : World) : Sem.run Try.prog (binOp .neq 35 (.agg #[.int .i64 h, .int .u64 l]) (.agg #[.int .i64 h, .int .u64 l])) w = .ok (.bool false) w := by
  have u3 := Try.underlying2
  have u4 := Try.underlying33
  have hS : Try.prog.underlying 35 = some (.struct (Try.prog.fieldsOf 35)) := by kernel_rfl
  have hp : Try.prog.stoodInHeld 35 = false := by kernel_rfl
  rw [run_neq_struct, show (10000 : Nat) = 9999 + 1 from rfl, run_equalIn_struct w 9999 35 _ _ hS hp]
  simp only [Program.fieldsOf, Try.underlying35]
  go_simp
theorem same_true (S S' : Nat) (w : World) (h : S < 18446744073709551616) (h' : S' < 18446744073709551616) (e : Pq.sameW S S' = true) : Calls Try.prog 51 #[.int .u64 (S : Nat), .int .u64 (S' : Nat)] w fun e w' => e = .returned (.bool true) ∧ w' = w := by
  have := Pq.sameW_any S S' w h h'
  rw [e] at this
  exact this.mono fun e w' ⟨q, r⟩ => ⟨q, by first | exact r | exact r.symm⟩
def ls (x : Nat → ByteArray) : Nat → Value := fun i => .string (x i)
structure LoopL (w : World) (n : Nat) (i : Value) (k : Nat) (wr : World) : Prop where
  le : k ≤ n
  eq : i = .int .i64 k
  st : Still w wr
set_option maxRecDepth 100000 in
set_option maxHeartbeats 8000000 in
theorem same_value (k hi lo N : Int) (nm hp : ByteArray) (lp lq : Option Addr) (ln lc ld : Nat) (p q : Option Addr) (n k1 k2 : Nat) (c : Nat → Cn) (x y : Nat → ByteArray) (S S' mn mx : Nat) (w : World) (hn : n ≤ 9223372036854775807) (hl : ln ≤ 9223372036854775807)
    (hc : Cnts w p n c) (hd : Cnts w q n c) (h1 : Two w lp ln (ls x) (ls y)) (h2 : Two w lq ln (ls x) (ls y))
    (b : S < 18446744073709551616 ∧ S' < 18446744073709551616 ∧ mn < 18446744073709551616 ∧ mx < 18446744073709551616) (s1 : Pq.Sim S S') :
    Calls Try.prog 24 #[valv k nm hp lp ln lc hi lo p n k1 N S mn mx, valv k nm hp lq ln ld hi lo q n k2 N S' mn mx] w fun e w' => e = .returned (.bool true) ∧ Only (fun _ => False) w w' := by
  unfold valv
  have ks1 := run_stf
  have ke := run_nei35s hi lo
  have kn := run_ne66s
  have KS := Lib.hid (fun w1 O => same_counts p q n k1 k2 c w1 hn (hc.only (S := fun _ => False) O (fun _ _ h => h)) (hd.only (S := fun _ => False) O (fun _ _ h => h)))
  have B := Lib.hid b; have T1 := Lib.hid (Pq.sameW_of s1); have H1 := Lib.hid h1; have H2 := Lib.hid h2
  clear hc hd h1 h2 b s1
  go_enter Try.func24, Try.ntmps24
  go_wp2_with fail
  have O0 := Lib.hid (((Only.refl (fun _ => False) w).alloc (.cells #[.int .i64 k, .string nm, .string hp, .slice lp ln lc, .int .i64 hi, .int .u64 lo, .slice p n k1, .int .u64 N, .float .f64 S, .float .f64 mn, .float .f64 mx] 68)).alloc (.cells #[.int .i64 k, .string nm, .string hp, .slice lq ln ld, .int .i64 hi, .int .u64 lo, .slice q n k2, .int .u64 N, .float .f64 S', .float .f64 mn, .float .f64 mx] 68))
  have hA := blk_alloc (blk_new w (.cells #[.int .i64 k, .string nm, .string hp, .slice lp ln lc, .int .i64 hi, .int .u64 lo, .slice p n k1, .int .u64 N, .float .f64 S, .float .f64 mn, .float .f64 mx] 68)) (.cells #[.int .i64 k, .string nm, .string hp, .slice lq ln ld, .int .i64 hi, .int .u64 lo, .slice q n k2, .int .u64 N, .float .f64 S', .float .f64 mn, .float .f64 mx] 68)
  have hB := blk_new (w.alloc (.cells #[.int .i64 k, .string nm, .string hp, .slice lp ln lc, .int .i64 hi, .int .u64 lo, .slice p n k1, .int .u64 N, .float .f64 S, .float .f64 mn, .float .f64 mx] 68)) (.cells #[.int .i64 k, .string nm, .string hp, .slice lq ln ld, .int .i64 hi, .int .u64 lo, .slice q n k2, .int .u64 N, .float .f64 S', .float .f64 mn, .float .f64 mx] 68)
  rw [show (w.alloc (.cells #[.int .i64 k, .string nm, .string hp, .slice lp ln lc, .int .i64 hi, .int .u64 lo, .slice p n k1, .int .u64 N, .float .f64 S, .float .f64 mn, .float .f64 mx] 68)).heap.size = w.heap.size + 1 by simp] at hB
  generalize (w.alloc (.cells #[.int .i64 k, .string nm, .string hp, .slice lp ln lc, .int .i64 hi, .int .u64 lo, .slice p n k1, .int .u64 N, .float .f64 S, .float .f64 mn, .float .f64 mx] 68)).alloc (.cells #[.int .i64 k, .string nm, .string hp, .slice lq ln ld, .int .i64 hi, .int .u64 lo, .slice q n k2, .int .u64 N, .float .f64 S', .float .f64 mn, .float .f64 mx] 68) = W0 at *
  refine (KS.out _ O0.out).mono ?_
  rintro e w1 ⟨rfl, st⟩
  have O1 := Lib.hid (O0.out.trans (st.only _))
  rw [← st.heap] at hA hB
  have hA' := Lib.hid hA; have hB' := Lib.hid hB
  obtain ⟨a0, a1, a2, a3, a4, a5, a6, a7, a8, a9, a10, _, _, _, _, _, _, _, _, _, _, _⟩ := eleven hA
  obtain ⟨g0, g1, g2, g3, g4, g5, g6, g7, g8, g9, g10, _, _, _, _, _, _, _, _, _, _, _⟩ := eleven hB
  clear hA hB st
  go_wp2_with fail
  go_quiet ((first | (go_at_call 52; exact Calls.quiet_of_same (lbits_still _ _)) | (go_at_call 51; first | exact Calls.quiet_of_same (same_true _ _ _ B.out.1 B.out.2.1 T1.out) | exact Calls.quiet_of_same (same_true _ _ _ B.out.2.2.1 B.out.2.2.1 (Pq.sameW_of (Pq.Sim.refl _))) | exact Calls.quiet_of_same (same_true _ _ _ B.out.2.2.2 B.out.2.2.2 (Pq.sameW_of (Pq.Sim.refl _))))))
  go_wp2_with fail
  go_loopw [7] (fun i wr => ∃ k : Nat, LoopL w1 ln i k wr) (fun i _ => ln - (intOf i).toNat)
  case atStart => exact ⟨0, Nat.zero_le _, rfl, (Still.refl w1).drewN _⟩
  case round =>
    obtain ⟨j, hj, rfl, hst⟩ := hrel
    have ST := Lib.hid hst
    have qa := eleven (show wr.heap[w.heap.size]? = _ by rw [ST.out.heap]; exact hA'.out)
    have qb := eleven (show wr.heap[w.heap.size + 1]? = _ by rw [ST.out.heap]; exact hB'.out)
    obtain ⟨a0, a1, a2, a3, a4, a5, a6, a7, a8, a9, a10, _, _, _, _, _, _, _, _, _, _, _⟩ := qa
    obtain ⟨g0, g1, g2, g3, g4, g5, g6, g7, g8, g9, g10, _, _, _, _, _, _, _, _, _, _, _⟩ := qb
    by_cases hlt : j < ln
    · obtain ⟨b1, o1, rfl, m1, d1, e1⟩ := (H1.out.only (O1.out.trans (ST.out.only (fun _ => False))) (fun _ _ h => h)) j hlt
      obtain ⟨b2, o2, rfl, m2, d2, e2⟩ := (H2.out.only (O1.out.trans (ST.out.only (fun _ => False))) (fun _ _ h => h)) j hlt
      unfold ls at d1 d2 e1 e2
      clear hst
      go_wp2_with fail
      go_quiet (fail)
      go_wp2_with fail
      go_roundw
      case rel => exact ⟨j + 1, by omega, by go_num, ST.out.drewN _⟩
      case measure => simp [intOf]; omega
    · obtain rfl : ln = j := by omega
      clear hst
      go_wp2_with fail
      go_ret
      exact ⟨rfl, O1.out.trans (ST.out.only _)⟩
end Go.Proofs.Ytimiojckinpfdaa

/- What the walk of SlabValues carries along. -/
namespace Go.Proofs.Ytimiojckinpfdaa
open Go.RowKit Srt

theorem run_make66 (n : Nat) (h2 : n ≤ 4398046511000) (W : World) : Sem.run Try.prog (Instr.makeSlice 62 (.int .i64 ((n : Int) + 1)) (.int .i64 ((n : Int) + 1))) W = .ok (.slice (some ⟨W.heap.size, 0, none⟩) (n + 1) (n + 1)) (W.alloc (.cells (madeCells #[.string ByteArray.empty, .string ByteArray.empty] ((n + 1) * 2)) 66)) := by
  obtain ⟨i4, hi4, hz4, hs4, hb4⟩ := info_parts info66
  have hmk := run_make (P := Try.prog) (w := W) 62 66 i4 (.agg #[.string ByteArray.empty, .string ByteArray.empty]) Try.underlying62 hi4 hz4 .i64 .i64 ((n : Int) + 1) ((n : Int) + 1) (by omega) (by omega) (by rw [hb4]; omega) (by omega)
  rw [hs4, show ((n : Int) + 1).toNat = n + 1 by omega] at hmk
  exact hmk
def behind : ByteArray := { data := #[98, 101, 104, 105, 110, 100] }
def nostr : ByteArray := { data := #[] }
def mx (x : Nat → ByteArray) (n i : Nat) : ByteArray := if i < n then x i else behind
def my (y : Nat → ByteArray) (n i : Nat) : ByteArray := if i < n then y i else nostr
theorem mine_copied {w3 : World} {g n : Nat} {x y : Nat → Value} (hn : n + 1 ≤ 9223372036854775807) (h : w3.heap[g]? = some (.cells (ll x y n ++ (madeCells #[Value.string ByteArray.empty, .string ByteArray.empty] ((n + 1) * 2)).toList.drop (ll x y n).length).toArray 66 (0, 0))) : Row2 66 w3 g n (n + 1) x y := by
  refine ⟨_, h, ?_, by omega, hn, fun k hk => ?_⟩
  · rw [List.size_toArray, List.length_append, ll_len, List.length_drop, Array.length_toList, size_madeCells]; omega
  · constructor
    · rw [List.getElem?_toArray, List.getElem?_append_left (by rw [ll_len]; omega), ll_at _ _ _ _ (by omega), if_pos (by omega), show k * 2 / 2 = k by omega]
    · rw [List.getElem?_toArray, List.getElem?_append_left (by rw [ll_len]; omega), ll_at _ _ _ _ (by omega), if_neg (by omega), show (k * 2 + 1) / 2 = k by omega]
theorem mine_row {w : World} {g n : Nat} {x y : Nat → ByteArray} (h : Row2 66 w g n (n + 1) (ls x) (ls y)) : Row2 66 ((w.setCell ⟨g, n * 2, none⟩ (.string { data := #[98, 101, 104, 105, 110, 100] })).setCell ⟨g, n * 2 + 1, none⟩ (.string { data := #[] })) g (n + 1) (n + 1) (ls (mx x n)) (ls (my y n)) := by
  obtain ⟨X, h1, h2, h3, h4, h5⟩ := h
  refine ⟨_, blk_set (blk_set h1 _ _) _ _, by simpa using h2, Nat.le_refl _, h4, fun k hk => ?_⟩
  unfold ls mx my
  by_cases e1 : k < n
  · obtain ⟨q1, q2⟩ := h5 k e1
    rw [if_pos e1, if_pos e1]
    constructor
    · rw [Array.getElem?_setIfInBounds_ne (by omega), Array.getElem?_setIfInBounds_ne (by omega), q1]; rfl
    · rw [Array.getElem?_setIfInBounds_ne (by omega), Array.getElem?_setIfInBounds_ne (by omega), q2]; rfl
  · obtain rfl : k = n := by omega
    rw [if_neg e1, if_neg e1]
    constructor
    · rw [Array.getElem?_setIfInBounds_ne (by omega), Array.getElem?_setIfInBounds_self_of_lt (by omega)]; rfl
    · rw [Array.getElem?_setIfInBounds_self_of_lt (by simp; omega)]; rfl
structure MineRoom (w3 : World) (g n : Nat) : Prop where
  y0 : ∃ v, w3.cell? ⟨g, n * 2, none⟩ = some v
  y1 : ∃ v, w3.cell? ⟨g, n * 2 + 1, none⟩ = some v
  z0 : w3.frozen? ⟨g, n * 2, none⟩ = false
  z1 : w3.frozen? ⟨g, n * 2 + 1, none⟩ = false
theorem mine_room {w3 : World} {g n : Nat} {x y : Nat → Value} (h : Row2 66 w3 g n (n + 1) x y) : MineRoom w3 g n := by
  obtain ⟨X, h1, h2, _⟩ := h
  refine ⟨⟨X[n * 2]'(by omega), ?_⟩, ⟨X[n * 2 + 1]'(by omega), ?_⟩, blk_free h1 _, blk_free h1 _⟩ <;> rw [blk_cell h1, Array.getElem?_eq_getElem]
structure Blks3 (w : World) (o1 o2 o3 : Obj) (w4 : World) : Prop where
  b1 : w4.heap[w.heap.size]? = some o1
  b2 : w4.heap[w.heap.size + 1]? = some o2
  b3 : w4.heap[w.heap.size + 1 + 1]? = some o3
  only : Only (fun _ => False) w w4
  lt : w4.heap.size = w.heap.size + 1 + 1 + 1
theorem blks3 (w : World) (o1 o2 o3 : Obj) : Blks3 w o1 o2 o3 (((w.alloc o1).alloc o2).alloc o3) := by
  have e1 : (w.alloc o1).heap.size = w.heap.size + 1 := by simp
  have e2 : ((w.alloc o1).alloc o2).heap.size = w.heap.size + 1 + 1 := by simp
  refine ⟨blk_alloc (blk_alloc (blk_new _ _) _) _, ?_, ?_, (((Only.refl _ w).alloc _).alloc _).alloc _, by simp⟩
  · rw [← e1]; exact blk_alloc (blk_new _ _) _
  · rw [← e2]; exact blk_new _ _
/-- what came in: a description, a raw part -/
structure In (w : World) (hi lo N : Int) (lp : Option Addr) (ln lc : Nat) (p : Option Addr) (n cap S C mn mx : Nat) (x y : Nat → ByteArray) (c : Nat → Cn) : Prop where
  hl : ln ≤ 1048576
  hn : n ≤ 1048576
  hlab : Two w lp ln (ls x) (ls y)
  hnil : lp = none → ln = 0 ∧ lc = 0
  hc : Cnts w p n c
  hpn : p = none → n = 0 ∧ cap = 0
  ok : Pq.Ok2 (S, C)
  bm : mn < 18446744073709551616 ∧ mx < 18446744073709551616
  sz : ∀ i, i < ln → (y i).size ≤ 1048576
structure Fresh11 (W0 W : World) (g : Nat) : Prop where
  hb : W.heap[g]? = some (.cells #[.int .i64 0, .string { data := #[] }, .string { data := #[] }, .slice none 0 0, .int .i64 0, .int .u64 0, .slice none 0 0, .int .u64 0, .float .f64 0, .float .f64 0, .float .f64 0] 68 (0, 0))
  hg : W0.heap.size ≤ g
theorem Fresh11.only {W0 W w3 : World} {g : Nat} (h : Fresh11 W0 W g) (O : Only (fun _ => False) W w3) : Fresh11 W0 w3 g := ⟨O.blk h.hb id, h.hg⟩
theorem fresh11_new {W0 X w3 : World} (O0 : Only (fun _ => False) W0 X) (O : Only (fun _ => False) (X.alloc (.cells #[.int .i64 0, .string { data := #[] }, .string { data := #[] }, .slice none 0 0, .int .i64 0, .int .u64 0, .slice none 0 0, .int .u64 0, .float .f64 0, .float .f64 0, .float .f64 0] 68)) w3) : Fresh11 W0 w3 X.heap.size := ⟨O.blk (blk_new _ _) id, O0.size⟩
theorem fresh11_new0 {W0 w3 : World} (O : Only (fun _ => False) (W0.drew.alloc (.cells #[.int .i64 0, .string { data := #[] }, .string { data := #[] }, .slice none 0 0, .int .i64 0, .int .u64 0, .slice none 0 0, .int .u64 0, .float .f64 0, .float .f64 0, .float .f64 0] 68)) w3) : Fresh11 W0 w3 W0.heap.size := fresh11_new (X := W0.drew) (Only.refl _ W0).drew O
theorem Only.chain11 {S : Nat → Prop} {a w : World} (h : Only S a w) {b : Nat} (hb : a.heap.size ≤ b) (v0 v1 v2 v3 v4 v5 v6 v7 v8 v9 v10 : Value) :
    Only S a (((((((((((w.setCell ⟨b, 0, none⟩ v0).setCell ⟨b, 1, none⟩ v1).setCell ⟨b, 2, none⟩ v2).setCell ⟨b, 3, none⟩ v3).setCell ⟨b, 4, none⟩ v4).setCell ⟨b, 5, none⟩ v5).setCell ⟨b, 6, none⟩ v6).setCell ⟨b, 7, none⟩ v7).setCell ⟨b, 8, none⟩ v8).setCell ⟨b, 9, none⟩ v9).setCell ⟨b, 10, none⟩ v10) := h.put11 (.inl hb) v0 v1 v2 v3 v4 v5 v6 v7 v8 v9 v10
theorem own_chain11 {w : World} {base n b : Nat} {v : Value} {xs : List Value} {cs : Array Value} (h : w.ownsRow base 55 2 v n xs) (F : w.heap[b]? = some (.cells cs 68 (0, 0))) (v0 v1 v2 v3 v4 v5 v6 v7 v8 v9 v10 : Value) : (put11 w b v0 v1 v2 v3 v4 v5 v6 v7 v8 v9 v10).ownsRow base 55 2 v n xs :=
  own_sub h ((Only.refl (· = b) w).put11 (.inr rfl) v0 v1 v2 v3 v4 v5 v6 v7 v8 v9 v10) (fun g hg e => by obtain ⟨_, cur, q⟩ := own_tag h hg; subst e; exact tag_ne q F (by decide))
section
variable (w : World) (k hi lo N : Int) (nm hp : ByteArray) (lp : Option Addr) (ln lc : Nat) (p : Option Addr) (n cap S C mn mx : Nat) (ba bb z gm gl ga : Nat) (X Y : Nat → ByteArray) (c : Nat → Cn)
/-- what stands when both have been laid down -/
structure SV (wr : World) : Prop where
  only : Only (fun _ => False) w wr
  A : wr.heap[ba]? = some (.cells #[.int .i64 k, .string nm, .string hp, .slice lp ln lc] 64 (0, 0))
  B : wr.heap[bb]? = some (.cells #[.int .i64 hi, .int .u64 lo, .slice p n cap, .int .u64 N, .int .u64 (S : Nat), .int .u64 (C : Nat), .int .u64 (mn : Nat), .int .u64 (mx : Nat)] 38 (0, 0))
  P : wr.heap[z]? = some (.cells #[.int .i64 hi, .int .u64 lo, .slice (some ⟨ga, 0, none⟩) n (n + 2), .int .u64 N, .complex .f64 S C, .float .f64 mn, .float .f64 mx] 42 (0, 0))
  M : wr.heap[gm]? = some (.cells #[.int .i64 k, .string nm, .string hp, .slice (some ⟨gl, 0, none⟩) ln (ln + 1)] 64 (0, 0))
  L : Row2 66 wr gl (ln + 1) (ln + 1) (ls X) (ls Y)
  R : RowC wr ga (n + 2) (n + 2) (ofc c n)
  low : w.heap.size ≤ gl ∧ w.heap.size ≤ ga ∧ w.heap.size ≤ ba ∧ w.heap.size ≤ bb ∧ w.heap.size ≤ z ∧ w.heap.size ≤ gm
end
theorem SV.next {w : World} {k hi lo N : Int} {nm hp : ByteArray} {lp : Option Addr} {ln lc : Nat} {p : Option Addr} {n cap S C mn mx : Nat} {ba bb z gm gl ga : Nat} {X Y : Nat → ByteArray} {c : Nat → Cn} {wr w' : World}
    (h : SV w k hi lo N nm hp lp ln lc p n cap S C mn mx ba bb z gm gl ga X Y c wr) (O : Only (fun _ => False) wr w') : SV w k hi lo N nm hp lp ln lc p n cap S C mn mx ba bb z gm gl ga X Y c w' :=
  ⟨h.only.trans O, O.blk h.A id, O.blk h.B id, O.blk h.P id, O.blk h.M id, h.L.only O id, h.R.only O id, h.low⟩
section
variable (B : Nat) (k hi lo N : Int) (nm hp : ByteArray) (lp : Option Addr) (ln lc n : Nat) (c : Nat → Cn) (T mn mx : Nat) (pw : Option Addr) (cw sw b : Nat)
/-- a value of the document's in memory -/
structure WV (wx : World) : Prop where
  blk : wx.heap[b]? = some (.cells #[.int .i64 k, .string nm, .string hp, .slice lp ln lc, .int .i64 (i12 k hi), .int .u64 (i12 k lo), .slice pw (n2 k n) cw, .int .u64 (i23 k N), .float .f64 sw, .float .f64 (n3 k mn), .float .f64 (n3 k mx)] 68 (0, 0))
  sim : Pq.Sim sw (n3 k T)
  lt : sw < 18446744073709551616
  cnt : wx.ownsRow B 55 2 (.slice pw (n2 k n) cw) (n2 k n) (cl c (n2 k n))
  hb : B ≤ b
/-- a value of the program's in memory: its labels and counts are its own -/
structure UV (x y : Nat → ByteArray) (wx : World) : Prop extends WV B k hi lo N nm hp lp ln lc n c T mn mx pw cw sw b wx where
  lab : wx.ownsRow B 66 2 (.slice lp ln lc) ln (ll (ls x) (ls y) ln)
  up : ∀ g, (Value.slice lp ln lc).ownBlock = some g ∨ (Value.slice pw (n2 k n) cw).ownBlock = some g → g < b
end
section
variable {B : Nat} {k hi lo N : Int} {nm hp : ByteArray} {lp : Option Addr} {ln lc n : Nat} {c : Nat → Cn} {T mn mx : Nat} {pw : Option Addr} {cw sw b : Nat} {x y : Nat → ByteArray} {wx w' : World} {S : Nat → Prop}
theorem WV.off (h : WV B k hi lo N nm hp lp ln lc n c T mn mx pw cw sw b wx) (O : Only S wx w') (hs : ∀ g, B ≤ g → ¬ S g) : WV B k hi lo N nm hp lp ln lc n c T mn mx pw cw sw b w' :=
  ⟨O.blk h.blk (hs b h.hb), h.sim, h.lt, own_off h.cnt O hs, h.hb⟩
theorem UV.off (h : UV B k hi lo N nm hp lp ln lc n c T mn mx pw cw sw b x y wx) (O : Only S wx w') (hs : ∀ g, B ≤ g → ¬ S g) : UV B k hi lo N nm hp lp ln lc n c T mn mx pw cw sw b x y w' :=
  ⟨h.toWV.off O hs, own_off h.lab O hs, h.up⟩
theorem own_two {base n c : Nat} {p : Option Addr} {f g : Nat → Value} {t : TypeId} (h : wx.ownsRow base t 2 (.slice p n c) n (ll f g n)) : Two wx p n f g := by
  rcases own_row2 h with ⟨e, e0⟩ | ⟨g', cap, e, _, R⟩
  · subst e0; intro i hi; omega
  · simp [hv] at e
    obtain ⟨rfl, rfl⟩ := e
    exact R.two (Nat.le_refl _)
theorem n3_lt (k : Int) {x : Nat} (h : x < 18446744073709551616) : n3 k x < 18446744073709551616 := by unfold n3; split; exact h; decide
theorem n2_le (k : Int) (n : Nat) : n2 k n ≤ n := by unfold n2; split <;> omega
/-- sameValue of a value of the program's and one of the document's -/
theorem uv_same {B' : Nat} {lq : Option Addr} {ld : Nat} {pq : Option Addr} {cq sq bq : Nat} (h : UV B k hi lo N nm hp lp ln lc n c T mn mx pw cw sw b x y wx) (h' : WV B' k hi lo N nm hp lq ln ld n c T mn mx pq cq sq bq wx) (ht : Two wx lq ln (ls x) (ls y))
    (hn : n ≤ 1048576) (hl : ln ≤ 1048576) (bm : mn < 18446744073709551616 ∧ mx < 18446744073709551616) :
    Calls Try.prog 24 #[.agg #[.int .i64 k, .string nm, .string hp, .slice lp ln lc, .int .i64 (i12 k hi), .int .u64 (i12 k lo), .slice pw (n2 k n) cw, .int .u64 (i23 k N), .float .f64 sw, .float .f64 (n3 k mn), .float .f64 (n3 k mx)],
      .agg #[.int .i64 k, .string nm, .string hp, .slice lq ln ld, .int .i64 (i12 k hi), .int .u64 (i12 k lo), .slice pq (n2 k n) cq, .int .u64 (i23 k N), .float .f64 sq, .float .f64 (n3 k mn), .float .f64 (n3 k mx)]] wx fun e w' => e = .returned (.bool true) ∧ Only (fun _ => False) wx w' :=
  same_value k (i12 k hi) (i12 k lo) (i23 k N) nm hp lp lq ln lc ld pw pq (n2 k n) cw cq c x y sw sq (n3 k mn) (n3 k mx) wx (by have := n2_le k n; omega) (by omega) (own_two h.cnt) (own_two h'.cnt) (own_two h.lab) ht ⟨h.lt, h'.lt, n3_lt k bm.1, n3_lt k bm.2⟩ (h.sim.trans h'.sim.symm)
end
/-- behind j rounds of the loop that writes on mine -/
structure LX (w : World) (gl ln : Nat) (x y : Nat → ByteArray) (j : Nat) (i : Value) (wr : World) : Prop where
  eq : i = .int .i64 j
  le : j ≤ ln
  only : Only (· = gl) w wr
  row : Row2 66 wr gl (ln + 1) (ln + 1) (ls x) (fun i => if i < j then .string (y i ++ { data := #[120] }) else ls y i)
theorem LX.next {w wr : World} {gl ln j : Nat} {x y : Nat → ByteArray} {v : ByteArray} (hO : Only (· = gl) w wr) (hR : Row2 66 wr gl (ln + 1) (ln + 1) (ls x) (fun i => if i < j then .string (y i ++ { data := #[120] }) else ls y i)) (hj : j < ln) (nq : Nat) (hv : v = y j) :
    LX w gl ln x y (j + 1) (.int .i64 ((j : Int) + 1)) ((wr.drewN nq).setCell ⟨gl, j * 2 + 1, none⟩ (.string (v ++ { data := #[120] }))) := by
  subst hv
  refine ⟨by go_num, hj, (hO.drewN nq).set _ _, ?_⟩
  have h1 := hR.only ((Only.refl (fun _ => False) wr).drewN nq) id
  have h2 := h1.put2 j (.string (y j ++ { data := #[120] }))
  refine h2.congr fun i _ => ⟨rfl, ?_⟩
  by_cases e : i = j
  · subst e; rw [if_pos rfl, if_pos (by omega)]
  · rw [if_neg e]
    by_cases e' : i < j
    · rw [if_pos e', if_pos (by omega)]
    · rw [if_neg e', if_neg (by omega)]
theorem own_only_keep {w w' : World} {base e size n : Nat} {v : Value} {xs : List Value} {t : TypeId} (O : Only (fun k => v.ownBlock = some k) w w') (h : w.ownsRow base e size v n xs) (hne : e ≠ t) : Keep t w w' :=
  fun k cs f q => O.blk q (fun hk => by obtain ⟨_, cur, q'⟩ := own_tag h hk; exact tag_ne q' q hne)
theorem own_keepT {w w' : World} {base e size n : Nat} {v : Value} {xs : List Value} (h : w.ownsRow base e size v n xs) (K : Keep e w w') : w'.ownsRow base e size v n xs :=
  own_block h fun g hg => by obtain ⟨_, cur, q⟩ := own_tag h hg; rw [K _ _ _ q, q]
theorem RowC.keepT {w w' : World} {g n cap : Nat} {f : Nat → Cn} (h : RowC w g n cap f) (K : Keep 55 w w') : RowC w' g n cap f := by
  obtain ⟨X, h1, h2⟩ := h
  exact ⟨X, K _ _ _ h1, h2⟩
/-- what labels answers, its parts -/
structure LabAt (w : World) (p : Option Addr) (m c : Nat) (s : ByteArray) (p' : Option Addr) (c' : Nat) (w' : World) : Prop where
  only : Only (fun k => (Value.slice p m c).ownBlock = some k) w w'
  own : w'.ownsRow 0 66 2 (.slice p' (m + 20) c') (m + 20) (ll (ms s) me (m + 20))
  which : ∀ g, (Value.slice p' (m + 20) c').ownBlock = some g → (Value.slice p m c).ownBlock = some g ∨ w.heap.size ≤ g
  two : Two w' p m (ms s) me
  at0 : ∀ a, p = some a → (Value.slice p m c).ownBlock = some a.block
theorem ApL.at {w w' : World} {p : Option Addr} {m c : Nat} {s : ByteArray} {p' : Option Addr} {c' : Nat} (h : ApL w (.slice p m c) m s 20 (.slice p' (m + 20) c') w') : LabAt w p m c s p' c' w' := by
  obtain ⟨q, d, e, h2, h3, h4⟩ := h.old
  injection e with e1 e2 e3
  subst e1; subst e3
  refine ⟨h.only, h.own, fun g hg => ?_, h2, fun a ha => ?_⟩
  · rcases h.which with e | ⟨g', e, hge⟩
    · exact .inl (by rw [← e]; exact hg)
    · rw [e] at hg; injection hg with hg; subst hg; exact .inr hge
  · obtain ⟨g, rfl⟩ := h4 a ha
    subst ha; rfl
def WCut (W0 : World) (k hi lo N : Int) (nm hp : ByteArray) (lp : Option Addr) (ln lc n : Nat) (c : Nat → Cn) (T mn mx : Nat) (v : Value) (wx : World) : Prop :=
  ∃ b pw cw sw, v = .pointer (some ⟨b, 0, none⟩) ∧ Only (fun _ => False) W0 wx ∧ WV W0.heap.size k hi lo N nm hp lp ln lc n c T mn mx pw cw sw b wx
end Go.Proofs.Ytimiojckinpfdaa

/- A description that came in, opened to cells. -/
namespace Go.Proofs.Ytimiojckinpfdaa.raw
open Go.ChangeShapes Go.WideShapes Go.ChangeAt Go.RowKit Go.Deep Srt
theorem fields66 : Try.prog.fieldsOf 66 = #[{ name := "Name", type := 9, offset := 0, embedded := false, tag := "", pkgPath := "", byteOffset := 0 }, { name := "Value", type := 9, offset := 1, embedded := false, tag := "", pkgPath := "", byteOffset := 16 }] := by kernel_rfl
theorem one66 : oneCellFields Try.prog (Try.prog.fieldsOf 66) = true := by kernel_rfl
theorem cells66 : Try.prog.cellsOf 66 = 2 := by kernel_rfl
theorem cells64 : Try.prog.cellsOf 64 = 4 := by kernel_rfl
theorem cells62 : Try.prog.cellsOf 62 = 1 := by kernel_rfl
theorem cells9 : Try.prog.cellsOf 9 = 1 := by kernel_rfl
theorem cells3 : Try.prog.cellsOf 3 = 1 := by kernel_rfl
section
variable {H : Type} {enc : TypeId × Value → H} {w : World} {spare : Nat → Bool} {held : Bool}
/-- a list of labels that came in -/
theorem open_labels {fuel : Nat} {cs : List Value} {x : DataW H × List MemPlace} (h : DataW.trod enc Try.prog w 0 spare held fuel 62 cs = some x) :
    ∃ p n k f g, cs = [.slice p n k] ∧ Two w p n (ls f) (ls g) ∧ (p = none → n = 0 ∧ k = 0) ∧ (∀ i, i < n → (g i).size ≤ Rows.uptoBulk x.1) ∧ n + 1 ≤ Rows.uptoBulk x.1 := by
  rcases open_slice_fields Try.underlying62 Try.underlying66 (by rw [← fields66]; exact one66) cells66 h with ⟨rfl, rfl⟩ | ⟨a, len, cap, m, D, Pl, rfl, _, hl, hm, hmm, hx, hi⟩
  · exact ⟨none, 0, 0, fun _ => ByteArray.empty, fun _ => ByteArray.empty, rfl, fun i hi => by omega, fun _ => ⟨rfl, rfl⟩, fun i hi => by omega, by simp [Rows.uptoBulk]⟩
  · have hlm : len ≤ m := by rw [hmm]; split <;> omega
    have key : ∀ i, ∃ c : ByteArray × ByteArray, i < len → a.spot = none ∧ a.block < w.heap.size ∧ w.cell? ⟨a.block, a.off + i * 2, none⟩ = some (.string c.1) ∧ w.cell? ⟨a.block, a.off + i * 2 + 1, none⟩ = some (.string c.2) ∧ c.2.size ≤ Rows.uptoBulk (D i) := by
      intro i
      by_cases hil : i < len
      · obtain ⟨ys, n, hD, _, hyl, hf⟩ := hi i (by omega)
        obtain ⟨v0, y0, c0, _, t0⟩ := hf 0 _ rfl
        obtain ⟨v1, y1, c1, hy1, t1⟩ := hf 1 _ rfl
        obtain ⟨a0, e0, _, _⟩ := DataW.trod_string Try.underlying9 t0
        obtain ⟨a1, e1, e1', _⟩ := DataW.trod_string Try.underlying9 t1
        simp at e0 e1
        subst e0 e1
        obtain ⟨ys', n', _, _, _, hf'⟩ := hi 0 (by omega)
        obtain ⟨v2, y2, c2, _, t2⟩ := hf' 0 _ rfl
        have hsp : a.spot = none := spot_none (x := a) (by simpa [Addr.add] using c2)
        have hbk : a.block < w.heap.size := World.block_lt_of_cell? w a (by simpa [Addr.add] using c2)
        have hb : a1.size ≤ Rows.uptoBulk (D i) := by
          rw [hD]
          have h1 := bulks.part_le (d := y1.1) (l := ys.map (·.1)) (List.mem_map.2 ⟨y1, List.mem_of_getElem? hy1, rfl⟩)
          rw [e1'] at h1
          simp only [bulks.string_eq] at h1
          simp only [Rows.uptoBulk]
          have : a1.data.toList.length = a1.size := Array.length_toList
          omega
        exact ⟨(a0, a1), fun _ => ⟨hsp, hbk, by have := add_at hsp c0; simpa using this, by have := add_at hsp c1; rw [← Nat.add_assoc] at this; simpa using this, hb⟩⟩
      · exact ⟨(ByteArray.empty, ByteArray.empty), fun h => absurd h hil⟩
    refine ⟨some a, len, cap, fun i => (Classical.choose (key i)).1, fun i => (Classical.choose (key i)).2, rfl, fun i hi => ?_, fun h => (by cases h), fun i hi => ?_, ?_⟩
    · obtain ⟨h1, h2, h3, h4, _⟩ := Classical.choose_spec (key i) hi
      exact ⟨a.block, a.off, by rw [← addr_eq h1], h2, h3, h4⟩
    · have h1 := (Classical.choose_spec (key i) hi).2.2.2.2
      rw [hx]
      have h2 := bulks.slice_elems ((List.range len).map D) ((List.range (m - len)).map fun j => D (len + j))
      have h3 := bulks.part_le (d := D i) (l := (List.range len).map D) (List.mem_map.2 ⟨i, List.mem_range.2 hi, rfl⟩)
      dsimp only
      omega
    · rw [hx]
      have := bulks.slice_le ((List.range len).map D) ((List.range (m - len)).map fun j => D (len + j))
      simp only [List.length_map, List.length_range] at this
      dsimp only
      omega
structure DescIn (w : World) (v : Value) (B : Nat) (k : Int) (nm hp : ByteArray) (p : Option Addr) (n c : Nat) (f g : Nat → ByteArray) : Prop where
  eq : v = descv k nm hp p n c
  lab : Two w p n (ls f) (ls g)
  nil : p = none → n = 0 ∧ c = 0
  sz : ∀ i, i < n → (g i).size ≤ B
  bulk : n + 1 ≤ B
set_option maxRecDepth 100000 in
theorem open_desc {r : Reach} {b0 : Nat} {v : Value} {d : DataW H} {q : List MemPlace} (hv : Value.okWide Try.prog w r b0 64 v) (h : DataW.Trod enc Try.prog w 0 spare held 64 v d q) :
    ∃ k nm hp p n c f g, DescIn w v (Rows.uptoBulk d) k nm hp p n c f g := by
  obtain ⟨cs, rfl, hsz⟩ := okWide_struct Try.underlying64 hv
  obtain ⟨l⟩ := cs
  match l, hsz.trans cells64 with
  | [c0, c1, c2, c3], _ =>
    obtain ⟨fuel, hf⟩ := h
    obtain ⟨xs, n, _, hx, _, hlen, hg⟩ := DataW.trod_struct Try.underlying64 hf
    match xs, hlen with
    | [y0, y1, y2, y3], _ =>
      simp only [Prod.mk.injEq] at hx
      have g0 := hg 0 _ rfl
      have g1 := hg 1 _ rfl
      have g2 := hg 2 _ rfl
      have g3 := hg 3 _ rfl
      simp [Value.cells, cells3, cells9, cells62] at g0 g1 g2 g3
      obtain ⟨a0, e0, _, _⟩ := DataW.trod_int Try.underlying3 g0
      obtain ⟨a1, e1, _, _⟩ := DataW.trod_string Try.underlying9 g1
      obtain ⟨a2, e2, _, _⟩ := DataW.trod_string Try.underlying9 g2
      obtain ⟨p, n1, k, f, g, e3, q1, q2, q3, q4⟩ := open_labels g3
      simp at e0 e1 e2 e3
      subst e0 e1 e2 e3
      have hb := bulks.part_le (d := y3.1) (l := [y0, y1, y2, y3].map (·.1)) (by simp)
      refine ⟨a0, a1, a2, p, n1, k, f, g, rfl, q1, q2, fun i hi => ?_, ?_⟩
      · rw [hx.1]
        have := q3 i hi
        simp only [Rows.uptoBulk]
        omega
      · rw [hx.1]
        simp only [Rows.uptoBulk]
        omega
end
end Go.Proofs.Ytimiojckinpfdaa.raw

/- The walk of SlabValues. -/
namespace Go.Proofs.Ytimiojckinpfdaa
open Go.RowKit Srt

set_option maxRecDepth 100000 in
set_option maxHeartbeats 16000000 in
theorem valuesl (k hi lo N : Int) (nm hp : ByteArray) (lp : Option Addr) (ln lc : Nat) (p : Option Addr) (n cap S C mn mx : Nat) (x y : Nat → ByteArray) (c : Nat → Cn) (w : World) (h : In w hi lo N lp ln lc p n cap S C mn mx x y c) :
    Calls Try.prog 5 #[descv k nm hp lp ln lc, partr hi lo p n cap N S C mn mx] w fun e w' => e = .returned (.bool true) ∧ Only (fun _ => False) w w' := by
  have hl := h.hl
  have hn := h.hn
  have I := Lib.hid h
  clear h
  unfold descv partr
  have hmk := run_make66 ln (by omega)
  go_enter Try.func5, Try.ntmps5
  go_wp2_with fail
  have hA := blk_alloc (blk_new w (.cells #[.int .i64 k, .string nm, .string hp, .slice lp ln lc] 64)) (.cells #[.int .i64 hi, .int .u64 lo, .slice p n cap, .int .u64 N, .int .u64 (S : Nat), .int .u64 (C : Nat), .int .u64 (mn : Nat), .int .u64 (mx : Nat)] 38)
  have hB := blk_new2 w (.cells #[.int .i64 k, .string nm, .string hp, .slice lp ln lc] 64) (.cells #[.int .i64 hi, .int .u64 lo, .slice p n cap, .int .u64 N, .int .u64 (S : Nat), .int .u64 (C : Nat), .int .u64 (mn : Nat), .int .u64 (mx : Nat)] 38)
  have O0 := ((Only.refl (fun _ => False) w).alloc (.cells #[.int .i64 k, .string nm, .string hp, .slice lp ln lc] 64)).alloc (.cells #[.int .i64 hi, .int .u64 lo, .slice p n cap, .int .u64 N, .int .u64 (S : Nat), .int .u64 (C : Nat), .int .u64 (mn : Nat), .int .u64 (mx : Nat)] 38)
  have A0 := Lib.hid hA; have B0 := Lib.hid hB; have P0 := Lib.hid O0
  clear hA hB O0
  refine (fixed_calls _).mono ?_
  rintro e w1 ⟨rfl, O1⟩
  have P1 := Lib.hid (P0.out.trans O1)
  have A1 := Lib.hid (O1.blk A0.out id)
  have B1 := Lib.hid (O1.blk B0.out id)
  clear O1 P0 A0 B0
  generalize hba : w.heap.size = ba at *
  generalize hbb : ba + 1 = bb at *
  have HBA := Lib.hid hba; have HBB := Lib.hid hbb
  clear hba hbb
  obtain ⟨b0, b1, b2, b3, b4, b5, b6, b7, _, _, _, _, _, _, _, _⟩ := eight B1.out
  go_wp2_with fail
  refine (of_calls hi lo N p n cap S C mn mx c w1 (by omega) (I.out.hc.only P1.out (fun _ _ => id)) I.out.hpn).mono ?_
  rintro e w2 ⟨ga, he, hga, O2, RA⟩
  unfold partv at he; subst he
  have ks1 := run_stf
  have ks2 := run_stc
  have HR := Lib.hid RA; have HG := Lib.hid (Nat.le_trans P1.out.size hga)
  have P2 := Lib.hid (P1.out.trans O2)
  have A2 := Lib.hid (O2.blk A1.out id); have B2 := Lib.hid (O2.blk B1.out id)
  have la := blk_lt A2.out
  have lb' := blk_lt B2.out
  obtain ⟨a0, a1, a2, a3, _, _, _, _⟩ := four A2.out
  clear RA hga O2 b0 b1 b2 b3 b4 b5 b6 b7 A1 B1 P1
  go_upto_region 5 with fail
  have B := blks3 w2 (.cells #[.int .i64 hi, .int .u64 lo, .slice (some ⟨ga, 0, none⟩) n (n + 2), .int .u64 N, .complex .f64 S C, .float .f64 mn, .float .f64 mx] 42) (.cells #[.int .i64 k, .string nm, .string hp, .slice lp ln lc] 64) (.cells (madeCells #[.string ByteArray.empty, .string ByteArray.empty] ((ln + 1) * 2)) 66)
  generalize ((w2.alloc (.cells #[.int .i64 hi, .int .u64 lo, .slice (some ⟨ga, 0, none⟩) n (n + 2), .int .u64 N, .complex .f64 S C, .float .f64 mn, .float .f64 mx] 42)).alloc (.cells #[.int .i64 k, .string nm, .string hp, .slice lp ln lc] 64)).alloc (.cells (madeCells #[.string ByteArray.empty, .string ByteArray.empty] ((ln + 1) * 2)) 66) = W0 at *
  have C3 := Lib.hid B.b1; have M3 := Lib.hid B.b2; have L3 := Lib.hid B.b3; have P3 := Lib.hid (P2.out.trans B.only)
  have R3 := Lib.hid (HR.out.only B.only id)
  have A3 := Lib.hid (B.only.blk A2.out id); have B3 := Lib.hid (B.only.blk B2.out id)
  have H2w := P2.out.size
  have hga : ga < w2.heap.size := by obtain ⟨X, q, _⟩ := HR.out; exact blk_lt q
  have LT3 := Lib.hid B.lt
  clear B HR P2 A2 B2 a0 a1 a2 a3 hmk
  generalize w2.heap.size = z at *
  have lb := blk_lt B3.out
  obtain ⟨a0, a1, a2, a3, _, _, _, _⟩ := four A3.out
  obtain ⟨gl, hgl⟩ : ∃ gl, gl = z + 1 + 1 := ⟨_, rfl⟩
  obtain ⟨gm, hgm⟩ : ∃ gm, gm = z + 1 := ⟨_, rfl⟩
  have hal : ba ≠ gl := by omega
  have hml : gm ≠ gl := by omega
  have hml' : ¬ gl = gm := by omega
  rw [← hgl] at L3 ⊢
  rw [← hgm] at M3 ⊢
  have HGL := Lib.hid hgl; have HGM := Lib.hid hgm
  clear hgl hgm
  go_wp2_with (with_reducible refine wpList_copy_rows rfl (.tmp 33) (.tmp 35) 62 62 rfl 66 2 ln Try.underlying62 size66 gl (ln + 1) (ln + 1) ln lc lp (by simp [Act.eval]) (by simp [Act.eval]) I.out.hnil (madeCells #[.string ByteArray.empty, .string ByteArray.empty] ((ln + 1) * 2)).toList 66 (by simpa using L3.out) (ll (ls x) (ls y) ln) (Nat.min_eq_left (by omega)) (ll_len _ _ _) (fun ad j u hp hj => ll_src (I.out.hlab.only P3.out (fun _ _ h => h)) ad j u hp hj) (by rw [ll_len, Array.length_toList, size_madeCells]; omega) (ll_one (fun _ _ => ⟨rfl, rfl⟩)) ?_; intro w3 hb3 O3; have X := Lib.hid (mine_copied (by omega) hb3); have O3' := Lib.hid O3; clear hb3 O3; obtain ⟨⟨v0, y0⟩, ⟨v1, y1⟩, z0, z1⟩ := mine_room X.out; have a3' := O3'.out.cel a3 hal; clear a0 a1 a2 a3; obtain ⟨m0, m1, m2, m3, n0, n1, n2, n3⟩ := four (O3'.out.blk M3.out hml))
  have R5 := Lib.hid (mine_row X.out)
  have Q5 : Only (fun g => g = gl ∨ g = gm) W0 (((w3.setCell ⟨gl, ln * 2, none⟩ (.string { data := #[98, 101, 104, 105, 110, 100] })).setCell ⟨gl, ln * 2 + 1, none⟩ (.string { data := #[] })).setCell ⟨gm, 3, none⟩ (.slice (some ⟨gl, 0, none⟩) ln (ln + 1))) :=
    ((((O3'.out.mono (fun _ _ => .inl))).setCell (p := ⟨gl, _, none⟩) (.inr (.inl rfl)) _).setCell (p := ⟨gl, _, none⟩) (.inr (.inl rfl)) _).setCell (p := ⟨gm, 3, none⟩) (.inr (.inr rfl)) _
  have M5 := blk_set (blk_set_ne (blk_set_ne (O3'.out.blk M3.out hml) ⟨gl, ln * 2, none⟩ (.string { data := #[98, 101, 104, 105, 110, 100] }) hml) ⟨gl, ln * 2 + 1, none⟩ (.string { data := #[] }) hml) 3 (.slice (some ⟨gl, 0, none⟩) ln (ln + 1))
  have L5 := R5.out.only (w' := ((w3.setCell ⟨gl, ln * 2, none⟩ (.string { data := #[98, 101, 104, 105, 110, 100] })).setCell ⟨gl, ln * 2 + 1, none⟩ (.string { data := #[] })).setCell ⟨gm, 3, none⟩ (.slice (some ⟨gl, 0, none⟩) ln (ln + 1))) ((Only.refl (· = gm) _).setCell (p := ⟨gm, 3, none⟩) (.inr rfl) _) (fun e => hml e.symm)
  clear y0 y1 z0 z1 a3' m0 m1 m2 m3 n0 n1 n2 n3 R5 O3' X
  generalize ((w3.setCell ⟨gl, ln * 2, none⟩ (.string { data := #[98, 101, 104, 105, 110, 100] })).setCell ⟨gl, ln * 2 + 1, none⟩ (.string { data := #[] })).setCell ⟨gm, 3, none⟩ (.slice (some ⟨gl, 0, none⟩) ln (ln + 1)) = w5 at *
  have V5 : SV w k hi lo N nm hp lp ln lc p n cap S C mn mx ba bb z gm gl ga (Ytimiojckinpfdaa.mx x ln) (my y ln) c w5 := by
    have e1 := P3.out.size
    have e2 := HG.out
    have e3 := HGL.out
    have e4 := HGM.out
    have e5 := HBA.out
    have e6 := HBB.out
    have nb : ∀ g, g < z → ¬ (g = gl ∨ g = gm) := fun g _ => by omega
    exact ⟨P3.out.seq2 Q5 (by rintro i (rfl | rfl); exact .inl (by omega); exact .inl (by omega)), Q5.blk A3.out (nb _ la), Q5.blk B3.out (nb _ lb'), Q5.blk C3.out (by omega), M5, L5, R3.out.only Q5 (nb _ hga), by omega⟩
  have VH := Lib.hid V5
  have LGL := Lib.hid (show gl < w5.heap.size by obtain ⟨X, q, _⟩ := VH.out.L; exact blk_lt q)
  have LGA := Lib.hid (show ga < w5.heap.size by obtain ⟨X, q, _⟩ := VH.out.R; exact blk_lt q)
  have K22 := Lib.hid (fun w1 (O : Only (fun _ => False) w5 w1) => rval k hi lo N nm hp lp ln lc p n cap S C mn mx c w1 (by omega) (I.out.hc.only (VH.out.only.trans O) (fun _ _ => id)) (fun e => (I.out.hpn e).1) I.out.ok)
  clear V5 Q5 M5 L5 P3 R3 A3 B3 C3 M3 L3 la lb lb' H2w hga HG hal hml hml' HGL HGM LT3 HBA HBB
  generalize ht : Pq.Flt.radd S C = T at *
  have HT := Lib.hid ht
  clear ht
  go_cut [9] (fun v wx => WCut w5 k hi lo N nm hp lp ln lc n c T mn mx v wx)
  case first =>
    have hs2 : Hid (∀ w', Only (fun _ => False) w5 w' → Only (fun _ => False) w5 w' ∧ w'.cell? ⟨ba, 0, none⟩ = some (.int .i64 k) ∧ w'.cell? ⟨ba, 1, none⟩ = some (.string nm) ∧ w'.cell? ⟨ba, 2, none⟩ = some (.string hp) ∧ w'.cell? ⟨ba, 3, none⟩ = some (.slice lp ln lc) ∧ w'.cell? ⟨bb, 0, none⟩ = some (.int .i64 hi) ∧ w'.cell? ⟨bb, 1, none⟩ = some (.int .u64 lo) ∧ w'.cell? ⟨bb, 2, none⟩ = some (.slice p n cap) ∧ w'.cell? ⟨bb, 3, none⟩ = some (.int .u64 N) ∧ w'.cell? ⟨bb, 4, none⟩ = some (.int .u64 (S : Nat)) ∧ w'.cell? ⟨bb, 5, none⟩ = some (.int .u64 (C : Nat)) ∧ w'.cell? ⟨bb, 6, none⟩ = some (.int .u64 (mn : Nat)) ∧ w'.cell? ⟨bb, 7, none⟩ = some (.int .u64 (mx : Nat))) := Lib.hid fun w' O => by
      have qa := four (O.blk VH.out.A id)
      have qb := eight (O.blk VH.out.B id)
      exact ⟨O, qa.d0, qa.d1, qa.d2, qa.d3, qb.d0, qb.d1, qb.d2, qb.d3, qb.d4, qb.d5, qb.d6, qb.d7⟩
    have N0 : Only (fun _ => False) w5 w5.drew := (Only.refl _ _).drew
    go_region_held3 (fun w' => Only (fun _ => False) w5 w' ∧ w'.cell? ⟨ba, 0, none⟩ = some (.int .i64 k) ∧ w'.cell? ⟨ba, 1, none⟩ = some (.string nm) ∧ w'.cell? ⟨ba, 2, none⟩ = some (.string hp) ∧ w'.cell? ⟨ba, 3, none⟩ = some (.slice lp ln lc) ∧ w'.cell? ⟨bb, 0, none⟩ = some (.int .i64 hi) ∧ w'.cell? ⟨bb, 1, none⟩ = some (.int .u64 lo) ∧ w'.cell? ⟨bb, 2, none⟩ = some (.slice p n cap) ∧ w'.cell? ⟨bb, 3, none⟩ = some (.int .u64 N) ∧ w'.cell? ⟨bb, 4, none⟩ = some (.int .u64 (S : Nat)) ∧ w'.cell? ⟨bb, 5, none⟩ = some (.int .u64 (C : Nat)) ∧ w'.cell? ⟨bb, 6, none⟩ = some (.int .u64 (mn : Nat)) ∧ w'.cell? ⟨bb, 7, none⟩ = some (.int .u64 (mx : Nat)))
      ((go_split_ands; first | (with_reducible exact hs2.out _ N0) | (with_reducible exact hs2.out _ N3) | (with_reducible exact hs2.out _ (Only.chain11 N3 F3.hg _ _ _ _ _ _ _ _ _ _ _)) | (with_reducible exact hs2.out _ (Only.alloc (by assumption) _))))
      (first
        | (go_at_call 15; go_split_ands; refine (ref_calls _ _ _ _ _ _ _ _ _ _ _).mono ?_; rintro e w3 ⟨he, O3⟩; unfold partr at he; subst he; have N3 := Only.trans (show Only (fun _ => False) w5 _ by assumption) O3; first | (obtain ⟨d0, d1, d2, d3, d4, d5, d6, d7, d8, d9, d10, f0, f1, f2, f3, f4, f5, f6, f7, f8, f9, f10⟩ := eleven (Fresh11.only (W0 := w5) (by assumption) O3).hb; have F3 := Fresh11.only (W0 := w5) (by assumption) O3) | (have F3 := fresh11_new0 (W0 := w5) O3; obtain ⟨d0, d1, d2, d3, d4, d5, d6, d7, d8, d9, d10, f0, f1, f2, f3, f4, f5, f6, f7, f8, f9, f10⟩ := eleven F3.hb) | (have F3 := fresh11_new (W0 := w5) (by assumption) O3; obtain ⟨d0, d1, d2, d3, d4, d5, d6, d7, d8, d9, d10, f0, f1, f2, f3, f4, f5, f6, f7, f8, f9, f10⟩ := eleven F3.hb) | skip)
        | (go_at_call 22; go_split_ands; refine (K22.out _ (show Only (fun _ => False) w5 _ by assumption)).mono ?_; rintro e w3 ⟨pv, cv, sv, he, hq1, hq2, hq3, O3⟩; unfold valv at he; subst he; have hq4 := own_base hq3 (show w5.heap.size ≤ _ from Only.size (show Only (fun _ => False) w5 _ by assumption)); clear hq3; have N3 := Only.trans (show Only (fun _ => False) w5 _ by assumption) O3; first | (obtain ⟨d0, d1, d2, d3, d4, d5, d6, d7, d8, d9, d10, f0, f1, f2, f3, f4, f5, f6, f7, f8, f9, f10⟩ := eleven (Fresh11.only (W0 := w5) (by assumption) O3).hb; have F3 := Fresh11.only (W0 := w5) (by assumption) O3) | (have F3 := fresh11_new0 (W0 := w5) O3; obtain ⟨d0, d1, d2, d3, d4, d5, d6, d7, d8, d9, d10, f0, f1, f2, f3, f4, f5, f6, f7, f8, f9, f10⟩ := eleven F3.hb) | (have F3 := fresh11_new (W0 := w5) (by assumption) O3; obtain ⟨d0, d1, d2, d3, d4, d5, d6, d7, d8, d9, d10, f0, f1, f2, f3, f4, f5, f6, f7, f8, f9, f10⟩ := eleven F3.hb) | skip))
    all_goals (go_wp2_with fail; go_meet)
    all_goals first
      | (have hfin : WCut w5 k hi lo N nm hp lp ln lc n c T mn mx (.pointer (some ⟨w3.heap.size, 0, none⟩)) _ := ⟨_, pv, cv, sv, rfl, N3.alloc _, blk_new _ _, hq1, hq2, own_keep hq4 ((Only.refl _ _).alloc _), N3.size⟩; exact hfin)
      | exact ⟨_, pv, cv, sv, rfl, Only.chain11 N3 F3.hg _ _ _ _ _ _ _ _ _ _ _, put11_blk F3.hb _ _ _ _ _ _ _ _ _ _ _, hq1, hq2, own_chain11 hq4 F3.hb _ _ _ _ _ _ _ _ _ _ _, F3.hg⟩
  case rest =>
    obtain ⟨bw, pw, cw, sw, rfl, N6, W6⟩ := hcut
    generalize wc = w6 at *
    have V6 := Lib.hid (VH.out.next N6); have WH6 := Lib.hid W6; have SZ6 := Lib.hid N6.size
    clear VH K22 N6 W6
    obtain ⟨a0, a1, a2, a3, _, _, _, _⟩ := four V6.out.M
    obtain ⟨q0, q1, q2, q3, q4, q5, q6, _, _, _, _, _, _, _⟩ := seven V6.out.P
    go_wp2_with fail
    have K23 := Lib.hid (fun w1 (O : Only (fun _ => False) w6 w1) => pval k hi lo N nm hp (some ⟨gl, 0, none⟩) ln (ln + 1) (some ⟨ga, 0, none⟩) n (n + 2) S C mn mx (ls x) (ls y) c w1 (by omega) (((V6.out.L.only O id).two (m := ln) (by omega)).congr (fun i hi => by unfold ls Ytimiojckinpfdaa.mx; rw [if_pos hi]) (fun i hi => by unfold ls my; rw [if_pos hi])) (fun _ _ => ⟨rfl, rfl⟩) (fun e => by cases e) (by omega) (((V6.out.R.only O id).cnts (m := n) (by omega)).congr (fun i hi => by unfold ci ofc; rw [if_pos hi]) (fun i hi => by unfold cn ofc; rw [if_pos hi])) (fun e => by cases e))
    clear a0 a1 a2 a3 q0 q1 q2 q3 q4 q5 q6
    refine (K23.out _ (Only.refl _ _)).mono ?_
    rintro e w7 ⟨lu, cu, pu, du, su, he, X1, X2, X3, X4, O7⟩
    unfold valv at he; subst he
    have N7 := Lib.hid (O7)
    have Fu := Lib.hid (show WV w6.heap.size k hi lo N nm hp lu ln cu n c T mn mx pu du su w7.heap.size (w7.alloc (.cells #[.int .i64 k, .string nm, .string hp, .slice lu ln cu, .int .i64 (i12 k hi), .int .u64 (i12 k lo), .slice pu (n2 k n) du, .int .u64 (i23 k N), .float .f64 su, .float .f64 (n3 k mn), .float .f64 (n3 k mx)] 68)) from ⟨blk_new _ _, by rw [HT.out] at X1; exact X1, X2, own_keep X4 ((Only.refl _ _).alloc _), O7.size⟩)
    have Gu := Lib.hid (show UV w6.heap.size k hi lo N nm hp lu ln cu n c T mn mx pu du su w7.heap.size x y (w7.alloc (.cells #[.int .i64 k, .string nm, .string hp, .slice lu ln cu, .int .i64 (i12 k hi), .int .u64 (i12 k lo), .slice pu (n2 k n) du, .int .u64 (i23 k N), .float .f64 su, .float .f64 (n3 k mn), .float .f64 (n3 k mx)] 68)) from ⟨Fu.out, own_keep X3 ((Only.refl _ _).alloc _), fun g hg => by rcases hg with hg | hg; exact (X3.lt g hg).2; exact (X4.lt g hg).2⟩)
    have Q7 := Lib.hid ((Only.refl (fun _ => False) w7).alloc (.cells #[.int .i64 k, .string nm, .string hp, .slice lu ln cu, .int .i64 (i12 k hi), .int .u64 (i12 k lo), .slice pu (n2 k n) du, .int .u64 (i23 k N), .float .f64 su, .float .f64 (n3 k mn), .float .f64 (n3 k mx)] 68))
    have V7 := Lib.hid (V6.out.next O7); have WH7 := Lib.hid (WH6.out.off O7 (fun _ _ => id))
    clear X1 X2 X3 X4 O7 V6 WH6 Fu
    obtain ⟨a0, a1, a2, a3, _, _, _, _⟩ := four V7.out.M
    obtain ⟨q0, q1, q2, q3, q4, q5, q6, _, _, _, _, _, _, _⟩ := seven V7.out.P
    have lm := blk_lt V7.out.M; have lz := blk_lt V7.out.P
    go_wp2_with fail
    generalize hbu : w7.heap.size = bu at *
    generalize w7.alloc (.cells #[.int .i64 k, .string nm, .string hp, .slice lu ln cu, .int .i64 (i12 k hi), .int .u64 (i12 k lo), .slice pu (n2 k n) du, .int .u64 (i23 k N), .float .f64 su, .float .f64 (n3 k mn), .float .f64 (n3 k mx)] 68) = w8 at *
    have HBu := Lib.hid hbu
    have LTu := Lib.hid (blk_lt Gu.out.blk)
    have N8 := Lib.hid (N7.out.trans Q7.out); have V8 := Lib.hid (V7.out.next Q7.out); have WH8 := Lib.hid (WH7.out.off Q7.out (fun _ _ => id))
    clear hbu N7 Q7 V7 WH7 lm lz
    clear a0 a1 a2 a3 q0 q1 q2 q3 q4 q5 q6
    refine (K23.out _ (N8.out)).mono ?_
    rintro e w9 ⟨lv, cv, pv, dv, sv, he, X1, X2, X3, X4, O9⟩
    unfold valv at he; subst he
    have N9 := Lib.hid (N8.out.trans O9)
    have Fv := Lib.hid (show WV w8.heap.size k hi lo N nm hp lv ln cv n c T mn mx pv dv sv w9.heap.size (w9.alloc (.cells #[.int .i64 k, .string nm, .string hp, .slice lv ln cv, .int .i64 (i12 k hi), .int .u64 (i12 k lo), .slice pv (n2 k n) dv, .int .u64 (i23 k N), .float .f64 sv, .float .f64 (n3 k mn), .float .f64 (n3 k mx)] 68)) from ⟨blk_new _ _, by rw [HT.out] at X1; exact X1, X2, own_keep X4 ((Only.refl _ _).alloc _), O9.size⟩)
    have Gv := Lib.hid (show UV w8.heap.size k hi lo N nm hp lv ln cv n c T mn mx pv dv sv w9.heap.size x y (w9.alloc (.cells #[.int .i64 k, .string nm, .string hp, .slice lv ln cv, .int .i64 (i12 k hi), .int .u64 (i12 k lo), .slice pv (n2 k n) dv, .int .u64 (i23 k N), .float .f64 sv, .float .f64 (n3 k mn), .float .f64 (n3 k mx)] 68)) from ⟨Fv.out, own_keep X3 ((Only.refl _ _).alloc _), fun g hg => by rcases hg with hg | hg; exact (X3.lt g hg).2; exact (X4.lt g hg).2⟩)
    have Q9 := Lib.hid ((Only.refl (fun _ => False) w9).alloc (.cells #[.int .i64 k, .string nm, .string hp, .slice lv ln cv, .int .i64 (i12 k hi), .int .u64 (i12 k lo), .slice pv (n2 k n) dv, .int .u64 (i23 k N), .float .f64 sv, .float .f64 (n3 k mn), .float .f64 (n3 k mx)] 68))
    have V9 := Lib.hid (V8.out.next O9); have WH9 := Lib.hid (WH8.out.off O9 (fun _ _ => id)); have Gu9 := Lib.hid (Gu.out.off O9 (fun _ _ => id))
    clear X1 X2 X3 X4 O9 V8 WH8 Fv Gu
    obtain ⟨a0, a1, a2, a3, _, _, _, _⟩ := four V9.out.M
    obtain ⟨q0, q1, q2, q3, q4, q5, q6, _, _, _, _, _, _, _⟩ := seven V9.out.P
    have lm := blk_lt V9.out.M; have lz := blk_lt V9.out.P; have lu' := blk_lt Gu9.out.blk; have lw' := blk_lt WH9.out.blk
    obtain ⟨g0, g1, g2, g3, g4, g5, g6, g7, g8, g9, g10, _, _, _, _, _, _, _, _, _, _, _⟩ := eleven Gu9.out.blk
    obtain ⟨r0, r1, r2, r3, r4, r5, r6, r7, r8, r9, r10, _, _, _, _, _, _, _, _, _, _, _⟩ := eleven WH9.out.blk
    go_wp2_with fail
    generalize hbv : w9.heap.size = bv at *
    generalize w9.alloc (.cells #[.int .i64 k, .string nm, .string hp, .slice lv ln cv, .int .i64 (i12 k hi), .int .u64 (i12 k lo), .slice pv (n2 k n) dv, .int .u64 (i23 k N), .float .f64 sv, .float .f64 (n3 k mn), .float .f64 (n3 k mx)] 68) = w10 at *
    have HBv := Lib.hid hbv
    have N10 := Lib.hid (N9.out.trans Q9.out); have V10 := Lib.hid (V9.out.next Q9.out); have WH10 := Lib.hid (WH9.out.off Q9.out (fun _ _ => id)); have Gu10 := Lib.hid (Gu9.out.off Q9.out (fun _ _ => id))
    clear hbv N9 Q9 V9 WH9 lm lz Gu9 lu' lw' g0 g1 g2 g3 g4 g5 g6 g7 g8 g9 g10 r0 r1 r2 r3 r4 r5 r6 r7 r8 r9 r10 a0 a1 a2 a3 q0 q1 q2 q3 q4 q5 q6
    have K24u := Lib.hid (fun w1 (O : Only (fun _ => False) w10 w1) => uv_same (Gu10.out.off O (fun _ _ => id)) (WH10.out.off O (fun _ _ => id)) (I.out.hlab.only (V10.out.only.trans O) (fun _ _ => id)) hn hl I.out.bm)
    have K24v := Lib.hid (fun w1 (O : Only (fun _ => False) w10 w1) => uv_same (Gv.out.off O (fun _ _ => id)) (WH10.out.off O (fun _ _ => id)) (I.out.hlab.only (V10.out.only.trans O) (fun _ _ => id)) hn hl I.out.bm)
    have K19 := Lib.hid (fun w1 (O : Only (fun _ => False) w10 w1) => kept_calls hi lo N hi lo N p ga n cap S C mn mx S C mn mx c w1 (by omega) (I.out.hc.only (V10.out.only.trans O) (fun _ _ => id)) (V10.out.R.only O id))
    clear N10 K23
    refine (K24u.out _ (Only.refl _ _)).mono ?_
    rintro e w11 ⟨rfl, O11⟩
    have N11 := Lib.hid O11
    clear O11
    obtain ⟨g0, g1, g2, g3, g4, g5, g6, g7, g8, g9, g10, _, _, _, _, _, _, _, _, _, _, _⟩ := eleven (N11.out.blk Gv.out.blk id)
    obtain ⟨r0, r1, r2, r3, r4, r5, r6, r7, r8, r9, r10, _, _, _, _, _, _, _, _, _, _, _⟩ := eleven (N11.out.blk WH10.out.blk id)
    go_wp2_with fail
    refine (K24v.out _ N11.out).mono ?_
    rintro e w12 ⟨rfl, O12⟩
    have N12 := Lib.hid (N11.out.trans O12)
    clear O12 N11 g0 g1 g2 g3 g4 g5 g6 g7 g8 g9 g10 r0 r1 r2 r3 r4 r5 r6 r7 r8 r9 r10
    obtain ⟨q0, q1, q2, q3, q4, q5, q6, _, _, _, _, _, _, _⟩ := seven (N12.out.blk V10.out.P id)
    obtain ⟨b0, b1, b2, b3, b4, b5, b6, b7, _, _, _, _, _, _, _, _⟩ := eight (N12.out.blk V10.out.B id)
    go_wp2_with fail
    have K19' := K19.out w12 N12.out
    unfold partv partr at K19'
    refine K19'.mono ?_
    clear K19'
    rintro e w13 ⟨rfl, O13⟩
    have N13 := Lib.hid (N12.out.trans O13)
    clear O13 N12 q0 q1 q2 q3 q4 q5 q6 b0 b1 b2 b3 b4 b5 b6 b7
    obtain ⟨a0, a1, a2, a3, _, _, _, _⟩ := four (N13.out.blk V10.out.A id)
    obtain ⟨x0, x1, _, _⟩ := (V10.out.L.only N13.out id).get (i := ln) (by omega)
    unfold ls Ytimiojckinpfdaa.mx behind at x0
    rw [if_neg (Nat.lt_irrefl ln)] at x0
    go_wp2_with fail
    have nA : ba ≠ gl := by rintro rfl; obtain ⟨X, q, _⟩ := V10.out.L; exact tag_ne q V10.out.A (by decide)
    clear a0 a1 a2 a3 x0 x1
    go_loopw [15] (fun i wr => ∃ j : Nat, LX w13 gl ln (Ytimiojckinpfdaa.mx x ln) (my y ln) j i wr) (fun i _ => ln - (intOf i).toNat)
    case atStart => exact ⟨0, rfl, Nat.zero_le _, Only.refl _ _, (V10.out.L.only N13.out id).congr (fun i _ => ⟨rfl, by rw [if_neg (by omega)]⟩)⟩
    case round =>
      obtain ⟨j, rfl, hj, hO, hR⟩ := hrel
      have HO := Lib.hid hO; have HRR := Lib.hid hR
      clear hO hR
      obtain ⟨a0, a1, a2, a3, _, _, _, _⟩ := four (HO.out.blk (N13.out.blk V10.out.A id) nA)
      by_cases hlt : j < ln
      · obtain ⟨b1, o1, rfl, m1, d1, e1⟩ := (I.out.hlab.only ((V10.out.only.trans N13.out).seq2 HO.out (by rintro i rfl; exact .inl V10.out.low.1)) (fun _ _ h => h)) j hlt
        obtain ⟨x0, x1, f0, f1⟩ := HRR.out.get (i := j) (by omega)
        rw [if_neg (Nat.lt_irrefl j)] at x1
        unfold ls at d1 e1
        unfold ls Ytimiojckinpfdaa.mx at x0
        unfold ls my at x1
        rw [if_pos hlt] at x0 x1
        have hsz := I.out.sz j hlt
        go_wp2_with fail
        go_quiet (fail)
        go_wp2_with fail
        exact ⟨⟨j + 1, LX.next HO.out HRR.out hlt _ (by unfold my; rw [if_pos hlt])⟩, by simp [intOf]; omega⟩
      · obtain rfl : ln = j := by omega
        have e1 := N8.out.size
        have e2 := SZ6.out
        have e3 := LGL.out
        have Gu14 := Lib.hid ((Gu10.out.off N13.out (fun _ _ => id)).off HO.out (fun g hg e => by omega))
        have Gv14 := Lib.hid ((Gv.out.off N13.out (fun _ _ => id)).off HO.out (fun g hg e => by omega))
        have WH14 := Lib.hid ((WH10.out.off N13.out (fun _ _ => id)).off HO.out (fun g hg e => by omega))
        have O14 := Lib.hid (show Only (fun _ => False) w wr from (V10.out.only.trans N13.out).seq2 HO.out (by rintro i rfl; exact .inl V10.out.low.1))
        have BP := HO.out.blk (N13.out.blk V10.out.P id) (by rintro rfl; obtain ⟨X, q, _⟩ := V10.out.L; exact tag_ne q V10.out.P (by decide))
        have BB := HO.out.blk (N13.out.blk V10.out.B id) (by rintro rfl; obtain ⟨X, q, _⟩ := V10.out.L; exact tag_ne q V10.out.B (by decide))
        have RG := (V10.out.R.only N13.out id).only HO.out (by rintro rfl; obtain ⟨X, q, _⟩ := V10.out.L; obtain ⟨X', q', _⟩ := V10.out.R; exact tag_ne q q' (by decide))
        have HBP := Lib.hid BP; have HBB := Lib.hid BB; have HRG := Lib.hid RG
        clear BP BB RG e1 e2 e3 K24u K24v K19
        generalize wr = w14 at *
        obtain ⟨g0, g1, g2, g3, g4, g5, g6, g7, g8, g9, g10, _, _, _, _, _, _, _, _, _, _, _⟩ := eleven Gu14.out.blk
        obtain ⟨r0, r1, r2, r3, r4, r5, r6, r7, r8, r9, r10, _, _, _, _, _, _, _, _, _, _, _⟩ := eleven WH14.out.blk
        go_wp2_with fail
        refine (uv_same Gu14.out WH14.out (I.out.hlab.only O14.out (fun _ _ => id)) hn hl I.out.bm).mono ?_
        rintro e w15 ⟨rfl, O15⟩
        have Gu15 := Lib.hid (Gu14.out.off O15 (fun _ _ => id)); have Gv15 := Lib.hid (Gv14.out.off O15 (fun _ _ => id)); have N15 := Lib.hid (O14.out.trans O15)
        have BP15 := Lib.hid (O15.blk HBP.out id); have BB15 := Lib.hid (O15.blk HBB.out id); have RG15 := Lib.hid (HRG.out.only O15 id)
        clear O15 Gu14 Gv14 WH14 O14 HBP HBB HRG HO HRR a0 a1 a2 a3 g0 g1 g2 g3 g4 g5 g6 g7 g8 g9 g10 r0 r1 r2 r3 r4 r5 r6 r7 r8 r9 r10
        obtain ⟨g0, g1, g2, g3, g4, g5, g6, g7, g8, g9, g10, _, _, _, _, _, _, _, _, _, _, _⟩ := eleven Gu15.out.blk
        go_wp2_with fail
        refine (labels_calls w15 lu ln cu _ (ls x) (ls y) (by omega) (own_base Gu15.out.lab (Nat.zero_le _))).mono ?_
        rintro e w16 ⟨m1, mc1, rfl, hL16⟩
        have L16 := Lib.hid hL16.at
        have f1 : ∀ g, (Value.slice lu ln cu).ownBlock = some g → w6.heap.size ≤ g ∧ g < bu := fun g e => ⟨(own_tag Gu15.out.lab e).1, Gu15.out.up g (.inl e)⟩
        have f2 : ∀ g, (Value.slice pu (n2 k n) du).ownBlock = some g → w6.heap.size ≤ g ∧ g < bu := fun g e => ⟨(own_tag Gu15.out.cnt e).1, Gu15.out.up g (.inr e)⟩
        have f3 : ∀ g, (Value.slice lv ln cv).ownBlock = some g → w8.heap.size ≤ g ∧ g < bv := fun g e => ⟨(own_tag Gv15.out.lab e).1, Gv15.out.up g (.inl e)⟩
        have f4 : ∀ g, (Value.slice pv (n2 k n) dv).ownBlock = some g → w8.heap.size ≤ g ∧ g < bv := fun g e => ⟨(own_tag Gv15.out.cnt e).1, Gv15.out.up g (.inr e)⟩
        have f5 : ∀ g, (Value.slice lu ln cu).ownBlock = some g → ¬ (Value.slice pu (n2 k n) du).ownBlock = some g := fun g e e' => by
          obtain ⟨_, c1, q1⟩ := own_tag Gu15.out.lab e
          obtain ⟨_, c2, q2⟩ := own_tag Gu15.out.cnt e'
          exact tag_ne q1 q2 (by decide)
        have f6 : ∀ g, (Value.slice lv ln cv).ownBlock = some g → ¬ (Value.slice pv (n2 k n) dv).ownBlock = some g := fun g e e' => by
          obtain ⟨_, c1, q1⟩ := own_tag Gv15.out.lab e
          obtain ⟨_, c2, q2⟩ := own_tag Gv15.out.cnt e'
          exact tag_ne q1 q2 (by decide)
        have f7 := LTu.out
        have f8 : bv < w15.heap.size := blk_lt Gv15.out.blk
        have f9 := L16.out.only.size
        have F1 := Lib.hid f1; have F2 := Lib.hid f2; have F3 := Lib.hid f3; have F4 := Lib.hid f4; have F5 := Lib.hid f5; have F6 := Lib.hid f6; have F7 := Lib.hid f7; have F8 := Lib.hid f8; have F9 := Lib.hid f9
        have k16 : ∀ t, (66 : TypeId) ≠ t → Keep t w15 w16 := fun t ht => own_only_keep L16.out.only Gu15.out.lab ht
        have K16 := Lib.hid k16
        have lv16 := own_off Gv15.out.lab L16.out.only (fun g hg e => by have := f1 g e; omega)
        have LV16 := Lib.hid lv16
        obtain ⟨r0, r1, r2, r3, r4, r5, r6, r7, r8, r9, r10, _, _, _, _, _, _, _, _, _, _, _⟩ := eleven (k16 68 (by decide) _ _ _ Gv15.out.blk)
        clear hL16 f1 f2 f3 f4 f5 f6 f7 f8 f9 k16 lv16 g0 g1 g2 g3 g4 g5 g6 g7 g8 g9 g10
        go_wp2_with fail
        refine (labels_calls w16 lv ln cv _ (ls x) (ls y) (by omega) (own_base LV16.out (Nat.zero_le _))).mono ?_
        rintro e w17 ⟨m2, mc2, rfl, hL17⟩
        have L17 := Lib.hid hL17.at
        have k17 : ∀ t, (66 : TypeId) ≠ t → Keep t w15 w17 := fun t ht => (K16.out t ht).trans (own_only_keep L17.out.only LV16.out ht)
        have K17 := Lib.hid k17
        have f10 := L17.out.only.size
        have F10 := Lib.hid f10
        have o18 := (Only.refl (fun _ => False) w17).alloc (.cells #[.slice none 0 0, .slice none 0 0, .int .i64 0, .bool false] 59)
        have O18 := Lib.hid o18
        have B0 := Lib.hid (book_new w17)
        obtain ⟨g0, g1, g2, g3, g4, g5, g6, g7, g8, g9, g10, _, _, _, _, _, _, _, _, _, _, _⟩ := eleven (o18.blk (k17 68 (by decide) _ _ _ Gu15.out.blk) id)
        clear hL17 k17 f10 o18 r0 r1 r2 r3 r4 r5 r6 r7 r8 r9 r10
        go_wp2_with fail
        generalize hbk : w17.heap.size = bk at *
        generalize w17.alloc (.cells #[.slice none 0 0, .slice none 0 0, .int .i64 0, .bool false] 59) = w18 at *
        have HBK := Lib.hid hbk
        clear hbk
        have k18 : ∀ t, (66 : TypeId) ≠ t → Keep t w15 w18 := fun t ht => (K17.out t ht).trans (O18.out.keep t)
        have cu18 := own_base (own_keepT Gu15.out.cnt (k18 55 (by decide))) (Nat.zero_le _)
        have cv18 := own_base (own_keepT Gv15.out.cnt (k18 55 (by decide))) (Nat.zero_le _)
        have CU := Lib.hid cu18; have CV := Lib.hid cv18; have K18 := Lib.hid k18
        have HN2 := n2_le k n
        clear cu18 cv18 k18
        have fb : bu < bk ∧ bv < bk ∧ bu < w8.heap.size ∧ bv < w15.heap.size ∧ w15.heap.size ≤ bk ∧ w16.heap.size ≤ bk := by
          have h2 := F7.out; have h3 := F8.out; have h4 := F9.out; have h5 := F10.out; have h6 := HBK.out; have h8 := Gv15.out.hb
          omega
        have FB := Lib.hid fb
        clear fb
        refine (badd_calls w18 bk _ B0.out pu (n2 k n) du c (by omega) CU.out (fun g hg e => by have h1 := F2.out g hg; have h2 := FB.out; omega)).mono ?_
        rintro e w19 ⟨rfl, B19, O19⟩
        have BK19 := Lib.hid B19; have OH19 := Lib.hid O19
        have hno : ∀ g, g < w18.heap.size → ¬ g = bk → ¬ (Value.slice pu (n2 k n) du).ownBlock = some g → ∀ cs t, w18.heap[g]? = some (.cells cs t (0, 0)) → w19.heap[g]? = some (.cells cs t (0, 0)) := fun g _ h1 h2 cs t q => O19.blk q (by rintro (e | e); exact h1 e; exact h2 e)
        have sv19 : ∀ g, (Value.slice pv (n2 k n) dv).ownBlock = some g → ¬ (g = bk ∨ (Value.slice pu (n2 k n) du).ownBlock = some g) := fun g hg e => by
          have h1 := F4.out g hg; have h2 := FB.out
          rcases e with e | e
          · omega
          · have := F2.out g e; omega
        have CV19 := Lib.hid (own_sub CV.out O19 sv19)
        have vb := hno bv (blk_lt (K18.out 68 (by decide) _ _ _ Gv15.out.blk)) (by have h2 := FB.out; omega) (fun e => by have := F2.out _ e; have := FB.out; have := Gv15.out.hb; omega) _ _ (K18.out 68 (by decide) _ _ _ Gv15.out.blk)
        obtain ⟨r0, r1, r2, r3, r4, r5, r6, r7, r8, r9, r10, _, _, _, _, _, _, _, _, _, _, _⟩ := eleven vb
        clear hno sv19 vb B19 O19 g0 g1 g2 g3 g4 g5 g6 g7 g8 g9 g10
        go_wp2_with fail
        refine (badd_calls w19 bk _ BK19.out pv (n2 k n) dv c (by omega) CV19.out (fun g hg e => by
          have h1 := F4.out g hg; have h2 := FB.out
          rcases e with e | e | e
          · omega
          · have := F2.out g e; omega
          · have h4 : g < w17.heap.size := by have := HBK.out; omega
            have h5 := O18.out.size
            omega)).mono ?_
        rintro e w20 ⟨rfl, B20, O20⟩
        have T20 := Lib.hid (show Only (fun k' => k' = bk ∨ (Value.slice pu (n2 k n) du).ownBlock = some k' ∨ (Value.slice pv (n2 k n) dv).ownBlock = some k') w18 w20 from
          (OH19.out.mono (T := fun k' => k' = bk ∨ (Value.slice pu (n2 k n) du).ownBlock = some k' ∨ (Value.slice pv (n2 k n) dv).ownBlock = some k') (by rintro i _ (e | e); exact .inl e; exact .inr (.inl e))).seq2 O20 (by rintro i ((e | e | e) | e); exact .inr (.inl e); exact .inr (.inr (.inl e)); exact .inl e; exact .inr (.inr (.inr e))))
        have BK20 := Lib.hid B20
        clear B20 O20 OH19 BK19 CV19 CU CV r0 r1 r2 r3 r4 r5 r6 r7 r8 r9 r10
        have fw : w.heap.size ≤ w6.heap.size ∧ ga < w6.heap.size ∧ w6.heap.size ≤ w8.heap.size ∧ w8.heap.size ≤ bv := by
          have h1 := V10.out.low.1; have h2 := LGL.out; have h3 := LGA.out; have h4 := SZ6.out; have h5 := N8.out.size; have h6 := Gv15.out.hb
          omega
        have FW := Lib.hid fw
        have m1s : ∀ g, (Value.slice m1 (ln + 20) mc1).ownBlock = some g → ¬ (Value.slice lv ln cv).ownBlock = some g := fun g hg e => by
          have h1 := F3.out g e; have h2 := FB.out; have h3 := FW.out
          rcases L16.out.which g hg with h | h
          · have := F1.out g h; omega
          · omega
        have m1t : ∀ g, (Value.slice m1 (ln + 20) mc1).ownBlock = some g → ¬ (g = bk ∨ (Value.slice pu (n2 k n) du).ownBlock = some g ∨ (Value.slice pv (n2 k n) dv).ownBlock = some g) := fun g hg e => by
          have h2 := FB.out; have h3 := FW.out; have h4 := (L16.out.own.lt g hg).2
          rcases e with e | e | e
          · omega
          · have h5 := F2.out g e
            rcases L16.out.which g hg with h | h
            · exact F5.out g h e
            · omega
          · have h5 := F4.out g e
            rcases L16.out.which g hg with h | h
            · have := F1.out g h; omega
            · omega
        have m2t : ∀ g, (Value.slice m2 (ln + 20) mc2).ownBlock = some g → ¬ (g = bk ∨ (Value.slice pu (n2 k n) du).ownBlock = some g ∨ (Value.slice pv (n2 k n) dv).ownBlock = some g) := fun g hg e => by
          have h2 := FB.out; have h3 := FW.out; have h4 := (L17.out.own.lt g hg).2; have h6 := HBK.out; have h7 := F9.out
          rcases e with e | e | e
          · omega
          · have h5 := F2.out g e
            rcases L17.out.which g hg with h | h
            · have := F3.out g h; omega
            · omega
          · have h5 := F4.out g e
            rcases L17.out.which g hg with h | h
            · exact F6.out g h e
            · omega
        have tm1 := own_two (own_sub (own_keep (own_sub L16.out.own L17.out.only m1s) O18.out) T20.out m1t)
        have tm2 := own_two (own_sub (own_keep L17.out.own O18.out) T20.out m2t)
        have tu := ((L16.out.two.only L17.out.only (fun a ha e => by have h1 := F1.out _ (L16.out.at0 a ha); have h2 := F3.out _ e; have h3 := FB.out; omega)).only O18.out (fun _ _ => id)).only T20.out (fun a ha e => by
          have h1 := F1.out _ (L16.out.at0 a ha); have h3 := FB.out; have h4 := FW.out
          rcases e with e | e | e
          · omega
          · exact F5.out _ (L16.out.at0 a ha) e
          · have := F4.out _ e; omega)
        have tv := (L17.out.two.only O18.out (fun _ _ => id)).only T20.out (fun a ha e => by
          have h1 := F3.out _ (L17.out.at0 a ha); have h3 := FB.out; have h4 := FW.out
          rcases e with e | e | e
          · omega
          · have := F2.out _ e; omega
          · exact F6.out _ (L17.out.at0 a ha) e)
        have TM1 := Lib.hid tm1; have TM2 := Lib.hid tm2; have TU := Lib.hid tu; have TV := Lib.hid tv
        have ub := T20.out.blk (K18.out 68 (by decide) _ _ _ Gu15.out.blk) (fun e => by
          have h3 := FB.out; have h4 := FW.out
          rcases e with e | e | e
          · omega
          · have := F2.out _ e; omega
          · have := F4.out _ e; omega)
        have vb := T20.out.blk (K18.out 68 (by decide) _ _ _ Gv15.out.blk) (fun e => by
          have h3 := FB.out; have h4 := FW.out
          rcases e with e | e | e
          · omega
          · have := F2.out _ e; omega
          · have := F4.out _ e; omega)
        obtain ⟨g0, g1, g2, g3, g4, g5, g6, g7, g8, g9, g10, _, _, _, _, _, _, _, _, _, _, _⟩ := eleven ub
        obtain ⟨r0, r1, r2, r3, r4, r5, r6, r7, r8, r9, r10, _, _, _, _, _, _, _, _, _, _, _⟩ := eleven vb
        clear fw m1s m1t m2t tm1 tm2 tu tv ub vb
        go_wp2_with fail
        refine (named_calls w20 m1 (ln + 20) mc1 _ (by omega) TM1.out).mono ?_
        rintro e w21 ⟨rfl, hw⟩
        rw [hw]
        clear hw w21
        go_wp2_with fail
        refine (named_calls w20 lu ln cu _ (by omega) TU.out).mono ?_
        rintro e w21 ⟨rfl, hw⟩
        rw [hw]
        clear hw w21
        go_wp2_with fail
        refine (named_calls w20 m2 (ln + 20) mc2 _ (by omega) TM2.out).mono ?_
        rintro e w21 ⟨rfl, hw⟩
        rw [hw]
        clear hw w21
        go_wp2_with fail
        refine (named_calls w20 lv ln cv _ (by omega) TV.out).mono ?_
        rintro e w21 ⟨rfl, hw⟩
        rw [hw]
        clear hw w21 g0 g1 g2 g3 g4 g5 g6 g7 g8 g9 g10 r0 r1 r2 r3 r4 r5 r6 r7 r8 r9 r10
        go_wp2_with fail
        refine (stays_calls w20 bk _ BK20.out).mono ?_
        rintro e w21 ⟨rfl, O21⟩
        have pb := O21.blk (T20.out.blk (K18.out 42 (by decide) _ _ _ BP15.out) (fun e => by
          have h3 := FB.out; have h5 := blk_lt BP15.out
          rcases e with e | e | e
          · omega
          · obtain ⟨_, c1, q1⟩ := own_tag Gu15.out.cnt e; exact tag_ne q1 BP15.out (by decide)
          · obtain ⟨_, c1, q1⟩ := own_tag Gv15.out.cnt e; exact tag_ne q1 BP15.out (by decide))) id
        have rb := O21.blk (T20.out.blk (K18.out 38 (by decide) _ _ _ BB15.out) (fun e => by
          have h3 := FB.out; have h5 := blk_lt BB15.out
          rcases e with e | e | e
          · omega
          · obtain ⟨_, c1, q1⟩ := own_tag Gu15.out.cnt e; exact tag_ne q1 BB15.out (by decide)
          · obtain ⟨_, c1, q1⟩ := own_tag Gv15.out.cnt e; exact tag_ne q1 BB15.out (by decide))) id
        have rg := ((RG15.out.keepT (K18.out 55 (by decide))).only T20.out (fun e => by
          have h3 := FB.out; have h4 := FW.out
          rcases e with e | e | e
          · omega
          · have := F2.out _ e; omega
          · have := F4.out _ e; omega)).only O21 id
        have RG := Lib.hid rg
        have on := ((((N15.out.seq2 L16.out.only (by intro i e; have := F1.out _ e; have := FW.out; exact .inl (by omega))).seq2 L17.out.only (by intro i e; have := F3.out _ e; have := FW.out; exact .inl (by omega))).trans O18.out).seq2 T20.out (by
          have h3 := FB.out; have h4 := FW.out
          rintro i (e | e | e)
          · exact .inl (by omega)
          · have := F2.out _ e; exact .inl (by omega)
          · have := F4.out _ e; exact .inl (by omega))).trans O21
        have ON := Lib.hid on
        obtain ⟨q0, q1, q2, q3, q4, q5, q6, _, _, _, _, _, _, _⟩ := seven pb
        obtain ⟨b0, b1, b2, b3, b4, b5, b6, b7, _, _, _, _, _, _, _, _⟩ := eight rb
        clear pb rb rg on O21
        go_wp2_with fail
        have K19 := kept_calls hi lo N hi lo N p ga n cap S C mn mx S C mn mx c w21 (by omega) (I.out.hc.only ON.out (fun _ _ => id)) RG.out
        unfold partv partr at K19
        refine K19.mono ?_
        clear K19
        rintro e w22 ⟨rfl, O22⟩
        have O23 := Lib.hid (ON.out.trans O22)
        clear O22 q0 q1 q2 q3 q4 q5 q6 b0 b1 b2 b3 b4 b5 b6 b7
        go_wp2_with fail
        go_ret
        exact ⟨rfl, O23.out⟩
end Go.Proofs.Ytimiojckinpfdaa

/-
  A call of one goroutine is a call at whose return every other goroutine has ended: the bridge from the form 'alone' to the form 'leaving'. No condition.
-/
namespace Go.Proofs.Ytimiojckinpfdaa
open Go

theorem leaving_of_alone {P : Program} {last : Machine} {w : World} {t : Trace} (h : aloneAtReturn P last w t) : leavingAtReturn P last w t := by
  obtain ⟨⟨h1, h2⟩, h3, h4⟩ := h
  refine ⟨h3, ⟨?_, h2⟩, h4⟩
  intro g hg
  refine ⟨0, ?_⟩
  unfold Goroutine.LeavesIn
  unfold Machine.othersDone at h1
  have := List.all_eq_true.1 h1 g hg
  simpa using this

theorem ReturnsInHanded.leaving {a : Assume} {C : Checked} {os : Os} {f : FuncId} {Pre : World → Array Value → Prop} {Post : World → Array Value → Value → World → Prop}
    (h : ReturnsInHanded a C os f .any Pre Post) : ReturnsInLeavingWide a C os f .any Pre Post := fun enter =>
  ReturnsInOpen.mono (fun _ _ _ x => leaving_of_alone x) (fun _ x => x) (h enter)
end Go.Proofs.Ytimiojckinpfdaa

/-
  A row that says 'leaving', proved as the row that says that nobody else goes at the return. No condition but the row's own cells.
-/
namespace Go.Proofs.Ytimiojckinpfdaa
open Go

theorem to_leaving {p : Pinned} {s : OpenSpec} {c c' : OpenClaim} (hc : c = { c' with leaving := true }) (hl : c'.leaving = false) (hs : c'.start = .entering) (ht : c'.stops = []) (hw : c.wf s = true) (h : c'.holds p s) : c.holds p s := by
  subst hc
  obtain ⟨h1, h2, h3, h4, h5, h6, h7, h8, f, fn, k1, k2, k3, k4, k5, k6, k7, k8, k9, k10, k11, k12, k13, k14, k15, k16, k17, k18, k19, k20, k21, L, hL, z⟩ := h
  refine ⟨?_, h2, h3, h4, h5, h6, h7, h8, f, fn, k1, k2, k3, k4, k5, k6, k7, k8, k9, k10, k11, k12, k13, k14, k15, k16, k17, k18, k19, k20, k21, L, hL, fun os a b H enc inj => ?_⟩
  · exact hw
  · have y := z os a b H enc inj
    unfold OpenClaim.form at y ⊢
    simp only [hs, ht] at y ⊢
    intro F
    have e : c'.atReturn p.checked.prog = aloneAtReturn p.checked.prog := by unfold OpenClaim.atReturn; rw [hl]
    have y2 := y F
    rw [e] at y2
    exact ReturnsInOpen.mono (fun _ _ _ x => leaving_of_alone x) (fun _ x => x) y2
end Go.Proofs.Ytimiojckinpfdaa

namespace Go.Proofs.Ytimiojckinpfdaa.slabValues
open Go.ChangeShapes Go.WideShapes Go.ChangeAt Go.RowKit Srt raw

set_option maxRecDepth 100000 in
theorem contract (H : Type) (enc : TypeId × Value → H) (W : World) (base : Nat) (args : Array Value) (ds gs : List (DataW H)) (before : List MemPlace)
    (hval : ∀ (j : Nat) t v, Try.f5.params[j]? = some t → args[j]? = some v → Value.okWide Try.prog W .any base t v)
    (hW : DataW.Whole enc Try.prog Try.f5.params.toList Rows.slabValuesSpec.vars false W args.toList ds gs before) (hk : Rows.uptoSmall H (ds ++ gs) = true) :
    Calls Try.prog 5 args W fun e W' => ∃ v, e = .returned v ∧ Rows.slabValuesSpec.post enc Try.prog Try.f5 false true false false W args v W' := by
  have hW' := hW
  obtain ⟨p, q, hA0, hV, rfl, hfz, hnd⟩ := hW
  have hA : DataW.TrodAll enc Try.prog W 0 (fun _ => true) true Try.f5.params.toList args.toList ds p := hA0
  rw [Try.params5] at hA hval
  obtain ⟨v0, vs0, d0, ds0, p0, q0, hargs, rfl, rfl, h0, r0⟩ := trodAll_cons hA
  obtain ⟨v1, vs1, d1, ds1, p1, q1, rfl, rfl, rfl, h1, r1⟩ := trodAll_cons r0
  obtain ⟨rfl, rfl, rfl⟩ := trodAll_nil r1
  obtain rfl : args = #[v0, v1] := by cases args; simp_all
  obtain ⟨rfl, rfl⟩ := trodVars_none hV
  have k0 := h0
  have k1 := h1
  have lt0 : ∀ x ∈ p0, x.block < W.heap.size := by obtain ⟨m, hm⟩ := k0; exact DataW.trod_lt m _ _ _ hm
  have lt1 : ∀ x ∈ p1, x.block < W.heap.size := by obtain ⟨m, hm⟩ := k1; exact DataW.trod_lt m _ _ _ hm
  have hbk := bulks.bound hk
  have b0 := bulks.part_le (d := d0) (l := [d0, d1] ++ []) (by simp)
  have b1 := bulks.part_le (d := d1) (l := [d0, d1] ++ []) (by simp)
  obtain ⟨k, nm, hp, lp, ln, lc, f, g, D⟩ := open_desc (hval 0 64 v0 rfl rfl) h0
  obtain ⟨xh, xl, px, nx, kx, xN, xs, xc, xm, xg, fx, X⟩ := open_raw (hval 1 38 v1 rfl rfl) h1
  have n0 := D.bulk
  have n1 := X.bulk
  clear hA0
  have e0 := D.eq
  have e1 := X.eq
  subst e0 e1
  simp only [List.cons_append, List.nil_append] at hbk b0 b1
  refine (valuesl k xh xl xN nm hp lp ln lc px nx kx xs xc xm xg f g fx W ⟨by omega, by omega, D.lab, D.nil, X.cnt, X.nil, X.ok, X.bm, fun i hi => Nat.le_trans (D.sz i hi) (by omega)⟩).mono fun e W' ⟨he, ho⟩ => ?_
  subst he
  have bel := below_only ho
  exact ⟨_, rfl, _, _, _, [], _, [], hW', trodAll_mk1 (shut_bool Try.underlying4 _), (trodAll_cons_mk (Below.trod laidOut (by kernel_rfl) (of_decide_eq_true (by kernel_rfl)) k0 bel lt0) (trodAll_cons_mk (Below.trod laidOut (by kernel_rfl) (of_decide_eq_true (by kernel_rfl)) k1 bel lt1) trodAll_mk0)), rfl, bel.frame _, fun h => by cases h⟩

set_option maxRecDepth 100000 in
theorem lifted (os : Os) (started : os.Started) (H : Type) (enc : TypeId × Value → H) (F : Stop.Interp) :
    ReturnsInHanded {} Try.checked os 5 .any ((Rows.OpenSpec.upto Rows.slabValuesSpec).pre6 enc Try.prog Try.f5 Rows.slabValuesUptoRow.domain false) (((Rows.OpenSpec.upto Rows.slabValuesSpec).at F).post enc Try.prog Try.f5 false true false false) := by
  refine returnsInHanded_of_cond (C := Try.checked) (s := Rows.OpenSpec.upto Rows.slabValuesSpec) (k := Rows.uptoSmall) rfl own started (by kernel_rfl) Try.func5
    (OpenSpec.witness (enc := enc) (C := Try.checked) (s := Rows.OpenSpec.upto Rows.slabValuesSpec) (k := Rows.uptoSmall) rfl false ⟨#[], #[descv 0 ByteArray.empty ByteArray.empty none 0 0, partr 0 0 none 0 0 0 0 0 0 0], []⟩ 8 (by kernel_rfl) (by kernel_rfl) (by kernel_rfl)
      (x := ([.agg [.lit (.int .i64 0), .lit (.string []), .lit (.string []), .nil], .agg [.agg [.lit (.int .i64 0), .lit (.int .u64 0)], .nil, .lit (.int .u64 0), .lit (.int .u64 0), .lit (.int .u64 0), .lit (.int .u64 0), .lit (.int .u64 0)]], [], [])) (by kernel_rfl) rfl (by kernel_rfl)) ?_
  intro W base args ds gs before hval hW _ hk _
  exact contract H enc W base args ds gs before hval hW hk

def row : OpenClaim := { Rows.slabValuesUptoRow with leaving := false }
theorem over : row.holds Try.pinned (Rows.OpenSpec.upto Rows.slabValuesSpec) :=
  OpenClaim.holds_of_cond 5 Try.f5 rfl rfl rfl rfl rfl rfl rfl ⟨rfl, rfl, rfl, rfl, rfl⟩ rfl rfl rfl rfl rfl (by kernel_rfl) Try.func5 (by kernel_rfl)
    (of_decide_eq_true (by kernel_rfl)) (by unfold Func.isWrapper; first | (rw [if_pos (by decide +kernel)]; kernel_rfl) | (rw [if_neg (by decide +kernel)]; exact ⟨rfl, rfl⟩))
    (fun os started H enc _ F => lifted os started H enc F)

theorem proved : Rows.SlabValuesUptoSaid := to_leaving (c' := row) rfl rfl rfl rfl (by kernel_rfl) over
#print axioms proved
end Go.Proofs.Ytimiojckinpfdaa.slabValues
