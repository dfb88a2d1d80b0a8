/- The walks of snap.holds at a counter. -/
import Derived.Test.YtiijgghholhcnaaGreatDoorJL04
import Derived.Lib.AppendStr
namespace Go.Proofs.YtiijgghholhcnaaGreatDoor
open Go.RowKit
set_option maxRecDepth 1000000
theorem run_tobits (x : Nat) (w : World) : Sem.run Tryz.prog (callFunc 84 #[.float .f64 x]) w = .ok (.value (.int .u64 x)) w := by kernel_rfl
theorem zero_x (w : World) : Calls Tryz.prog 96 #[.float .f64 0] w fun e w' => e = .returned (.bool false) ∧ w' = w := by
  have k := run_tobits 0
  go_enter Tryz.func96, Tryz.ntmps96
  go_wp2_with fail
  go_ret
  exact ⟨rfl, rfl⟩
theorem index_0 (b : Nat) (w : World) (h0 : w.cell? ⟨b, 0, none⟩ = some (.float .f64 0)) (h1 : w.cell? ⟨b, 1, none⟩ = some (.float .f64 0)) (h2 : w.cell? ⟨b, 2, none⟩ = some (.float .f64 0)) :
    Calls Tryz.prog 136 #[.slice (some ⟨b, 0, none⟩) 3 3, .func (Fn.func 96) #[] #[]] w fun e w' => e = .returned (.int .i64 (-1)) ∧ w' = w := by
  go_enter Tryz.func136, Tryz.ntmps136
  go_wp2_with fail
  refine wp_loop_rounds 4 ?_
  rw [rounds_succ]
  go_wp2_with fail
  refine (zero_x w).mono ?_
  rintro e w1 ⟨rfl, hw⟩; rw [hw]; clear hw w1
  go_wp2_with fail
  rw [rounds_succ]
  go_wp2_with fail
  refine (zero_x w).mono ?_
  rintro e w1 ⟨rfl, hw⟩; rw [hw]; clear hw w1
  go_wp2_with fail
  rw [rounds_succ]
  go_wp2_with fail
  refine (zero_x w).mono ?_
  rintro e w1 ⟨rfl, hw⟩; rw [hw]; clear hw w1
  go_wp2_with fail
  rw [rounds_succ]
  go_wp2_with fail
  go_ret
  exact ⟨rfl, rfl⟩
theorem contains_0 (b : Nat) (w : World) (h0 : w.cell? ⟨b, 0, none⟩ = some (.float .f64 0)) (h1 : w.cell? ⟨b, 1, none⟩ = some (.float .f64 0)) (h2 : w.cell? ⟨b, 2, none⟩ = some (.float .f64 0)) :
    Calls Tryz.prog 95 #[.slice (some ⟨b, 0, none⟩) 3 3, .func (Fn.func 96) #[] #[]] w fun e w' => e = .returned (.bool false) ∧ w' = w := by
  have K := Lib.hid (index_0 b w h0 h1 h2)
  clear h0 h1 h2
  go_enter Tryz.func95, Tryz.ntmps95
  go_wp2_with fail
  refine K.out.mono ?_
  rintro e w1 ⟨rfl, hw⟩; rw [hw]; clear hw w1
  go_wp2_with fail
  go_ret
  exact ⟨rfl, rfl⟩
theorem zeros_0 (b : Nat) (w : World) (h0 : w.cell? ⟨b, 0, none⟩ = some (.float .f64 0)) (h1 : w.cell? ⟨b, 1, none⟩ = some (.float .f64 0)) (h2 : w.cell? ⟨b, 2, none⟩ = some (.float .f64 0)) :
    Calls Tryz.prog 53 #[.slice (some ⟨b, 0, none⟩) 3 3] w fun e w' => e = .returned (.bool true) ∧ w' = w := by
  have K := Lib.hid (contains_0 b w h0 h1 h2)
  clear h0 h1 h2
  go_enter Tryz.func53, Tryz.ntmps53
  go_wp2_with fail
  refine K.out.mono ?_
  rintro e w1 ⟨rfl, hw⟩; rw [hw]; clear hw w1
  go_wp2_with fail
  go_ret
  exact ⟨rfl, rfl⟩
/-- a number of 128 bits -/
def intV (hi lo : Int) : Value := .agg #[.int .i64 hi, .int .u64 lo]
theorem compare_7 (w : World) : Calls Tryz.prog 97 #[intV 0 7, intV 0 0] w fun e w' => e = .returned (.int .i64 1) ∧ Only (fun _ => False) w w' := by
  unfold intV
  go_enter Tryz.func97, Tryz.ntmps97
  go_wp2_with fail
  go_ret
  exact ⟨rfl, ((Only.refl _ w).alloc _).alloc _⟩
theorem sign_7 (w : World) : Calls Tryz.prog 54 #[intV 0 7] w fun e w' => e = .returned (.int .i64 1) ∧ Only (fun _ => False) w w' := by
  have K := Lib.hid (fun w => compare_7 w)
  unfold intV at *
  go_enter Tryz.func54, Tryz.ntmps54
  go_wp2_with fail
  refine (K.out _).mono ?_
  rintro e w1 ⟨rfl, hO⟩
  have HO := Lib.hid (((Only.refl (fun _ => False) w).alloc _).trans hO); clear hO
  go_wp2_with fail
  go_ret
  exact ⟨rfl, HO.out⟩
theorem two_cell (w : World) (A : Obj) (c : Array Value) (t : TypeId) (i : Nat) : ((w.alloc A).alloc (.cells c t)).cell? ⟨w.heap.size + 1, i, none⟩ = c[i]? := by
  have h := blk_new (w.alloc A) (.cells c t)
  rw [show (w.alloc A).heap.size = w.heap.size + 1 from Array.size_push ..] at h
  exact blk_cell h i
/-- the counter "a" of 7 -/
def valA : Value := .agg #[.int .i64 1, .string ⟨#[97]⟩, .string ⟨#[]⟩, .slice none 0 0, .int .i64 0, .int .u64 7, .slice none 0 0, .int .u64 0, .float .f64 0, .float .f64 0, .float .f64 0]
theorem holds_a (w : World) : Calls Tryz.prog 27 #[.int .i64 1, valA] w fun e w' => e = .returned (.bool true) ∧ Only (fun _ => False) w w' := by
  unfold valA
  go_enter Tryz.func27, Tryz.ntmps27
  go_wp2_with fail
  refine (zeros_0 _ _ (by rw [two_cell]; rfl) (by rw [two_cell]; rfl) (by rw [two_cell]; rfl)).mono ?_
  rintro e w1 ⟨rfl, hw⟩; rw [hw]; clear hw w1
  go_wp2_with fail
  refine (sign_7 _).mono ?_
  rintro e w1 ⟨rfl, hO⟩
  have HO := Lib.hid ((((Only.refl (fun _ => False) w).alloc _).alloc _).trans hO); clear hO
  go_wp2_with fail
  go_ret
  exact ⟨rfl, HO.out⟩
end Go.Proofs.YtiijgghholhcnaaGreatDoor

/- The walks of snap.Check at the two snapshots. -/
namespace Go.Proofs.YtiijgghholhcnaaGreatDoor
open Go.RowKit
set_option maxRecDepth 1000000
def cellsA : Array Value := #[.int .i64 1, .string ⟨#[97]⟩, .string ⟨#[]⟩, .slice none 0 0, .int .i64 0, .int .u64 7, .slice none 0 0, .int .u64 0, .float .f64 0, .float .f64 0, .float .f64 0]
def snapA (b : Nat) : Value := .agg #[.int .i64 1, .slice (some ⟨b, 0, none⟩) 1 1, .int .u64 0]
theorem run_stf (a : Addr) (x : Nat) (w : World) : (store a (.float .f64 x)).run Tryz.prog w = stored Tryz.prog w a (.float .f64 x) .plain := run_store Tryz.prog w a _ _ rfl
theorem check_e (w : World) : Calls Tryz.prog 14 #[.agg #[.int .i64 0, .slice none 0 0, .int .u64 0]] w fun e w' => e = .returned (.tuple #[.int .i64 1, .int .i64 0]) ∧ Only (fun _ => False) w w' := by
  go_enter Tryz.func14, Tryz.ntmps14
  go_wp2_with fail
  go_ret2
  exact ⟨rfl, (Only.refl _ w).alloc _⟩
theorem check_s (b : Nat) (w : World) (hb : w.heap[b]? = some (.cells cellsA 42)) : Calls Tryz.prog 14 #[snapA b] w fun e w' => e = .returned (.tuple #[.int .i64 0, .int .i64 0]) ∧ Only (fun _ => False) w w' := by
  have K1 := Lib.hid (fun w => check_c w)
  have K2 := Lib.hid (fun w => holds_a w)
  have ks1 := run_stf
  unfold cellsA at hb
  unfold descC at K1
  unfold valA at K2
  unfold snapA
  go_enter Tryz.func14, Tryz.ntmps14
  go_wp2_with fail
  have hO := (Only.refl (fun _ => False) w).alloc (.cells #[.int .i64 1, .slice (some ⟨b, 0, none⟩) 1 1, .int .u64 0] 26)
  have hb1 := hO.blk hb (by simp)
  have hs := blk_new w (.cells #[.int .i64 1, .slice (some ⟨b, 0, none⟩) 1 1, .int .u64 0] 26)
  generalize w.alloc (.cells #[.int .i64 1, .slice (some ⟨b, 0, none⟩) 1 1, .int .u64 0] 26) = w1 at *
  have HO := Lib.hid hO; clear hO hb
  have c0 : w1.cell? ⟨w.heap.size, 0, none⟩ = some (.int .i64 1) := by rw [blk_cell hs]; rfl
  have e0 : w1.cell? ⟨b, 0, none⟩ = some (.int .i64 1) := by rw [blk_cell hb1]; rfl
  have e1 : w1.cell? ⟨b, 1, none⟩ = some (.string ⟨#[97]⟩) := by rw [blk_cell hb1]; rfl
  have e2 : w1.cell? ⟨b, 2, none⟩ = some (.string ⟨#[]⟩) := by rw [blk_cell hb1]; rfl
  have e3 : w1.cell? ⟨b, 3, none⟩ = some (.slice none 0 0) := by rw [blk_cell hb1]; rfl
  have e4 : w1.cell? ⟨b, 4, none⟩ = some (.int .i64 0) := by rw [blk_cell hb1]; rfl
  have e5 : w1.cell? ⟨b, 5, none⟩ = some (.int .u64 7) := by rw [blk_cell hb1]; rfl
  have e6 : w1.cell? ⟨b, 6, none⟩ = some (.slice none 0 0) := by rw [blk_cell hb1]; rfl
  have e7 : w1.cell? ⟨b, 7, none⟩ = some (.int .u64 0) := by rw [blk_cell hb1]; rfl
  have e8 : w1.cell? ⟨b, 8, none⟩ = some (.float .f64 0) := by rw [blk_cell hb1]; rfl
  have e9 : w1.cell? ⟨b, 9, none⟩ = some (.float .f64 0) := by rw [blk_cell hb1]; rfl
  have e10 : w1.cell? ⟨b, 10, none⟩ = some (.float .f64 0) := by rw [blk_cell hb1]; rfl
  clear hb1
  refine wp_loop_rounds 2 ?_
  rw [rounds_succ]
  go_wp2_with fail
  have hv := blk_new w1 (.cells #[.int .i64 1, .string ⟨#[97]⟩, .string ⟨#[]⟩, .slice none 0 0, .int .i64 0, .int .u64 7, .slice none 0 0, .int .u64 0, .float .f64 0, .float .f64 0, .float .f64 0] 42)
  have hs2 := ((Only.refl (fun _ => False) w1).alloc (.cells #[.int .i64 1, .string ⟨#[97]⟩, .string ⟨#[]⟩, .slice none 0 0, .int .i64 0, .int .u64 7, .slice none 0 0, .int .u64 0, .float .f64 0, .float .f64 0, .float .f64 0] 42)).blk hs (by simp)
  have hO2 := Lib.hid (HO.out.trans ((Only.refl (fun _ => False) w1).alloc (.cells #[.int .i64 1, .string ⟨#[97]⟩, .string ⟨#[]⟩, .slice none 0 0, .int .i64 0, .int .u64 7, .slice none 0 0, .int .u64 0, .float .f64 0, .float .f64 0, .float .f64 0] 42)))
  generalize w1.alloc (.cells #[.int .i64 1, .string ⟨#[97]⟩, .string ⟨#[]⟩, .slice none 0 0, .int .i64 0, .int .u64 7, .slice none 0 0, .int .u64 0, .float .f64 0, .float .f64 0, .float .f64 0] 42) = w2 at *
  clear e0 e1 e2 e3 e4 e5 e6 e7 e8 e9 e10 c0 hs HO
  refine (K1.out _).mono ?_
  rintro e w3 ⟨rfl, hO3⟩
  have hv3 := hO3.blk hv (by simp)
  have hs3 := hO3.blk hs2 (by simp)
  have HO3 := Lib.hid (hO2.out.trans hO3)
  clear hO3 hO2 hv hs2
  have f0 : w3.cell? ⟨w1.heap.size, 0, none⟩ = some (.int .i64 1) := by rw [blk_cell hv3]; rfl
  have f1 : w3.cell? ⟨w1.heap.size, 1, none⟩ = some (.string ⟨#[97]⟩) := by rw [blk_cell hv3]; rfl
  have f2 : w3.cell? ⟨w1.heap.size, 2, none⟩ = some (.string ⟨#[]⟩) := by rw [blk_cell hv3]; rfl
  have f3 : w3.cell? ⟨w1.heap.size, 3, none⟩ = some (.slice none 0 0) := by rw [blk_cell hv3]; rfl
  have f4 : w3.cell? ⟨w1.heap.size, 4, none⟩ = some (.int .i64 0) := by rw [blk_cell hv3]; rfl
  have f5 : w3.cell? ⟨w1.heap.size, 5, none⟩ = some (.int .u64 7) := by rw [blk_cell hv3]; rfl
  have f6 : w3.cell? ⟨w1.heap.size, 6, none⟩ = some (.slice none 0 0) := by rw [blk_cell hv3]; rfl
  have f7 : w3.cell? ⟨w1.heap.size, 7, none⟩ = some (.int .u64 0) := by rw [blk_cell hv3]; rfl
  have f8 : w3.cell? ⟨w1.heap.size, 8, none⟩ = some (.float .f64 0) := by rw [blk_cell hv3]; rfl
  have f9 : w3.cell? ⟨w1.heap.size, 9, none⟩ = some (.float .f64 0) := by rw [blk_cell hv3]; rfl
  have f10 : w3.cell? ⟨w1.heap.size, 10, none⟩ = some (.float .f64 0) := by rw [blk_cell hv3]; rfl
  have c0 : w3.cell? ⟨w.heap.size, 0, none⟩ = some (.int .i64 1) := by rw [blk_cell hs3]; rfl
  clear hv3 hs3
  go_wp2_with fail
  refine (K2.out _).mono ?_
  rintro e w4 ⟨rfl, hO4⟩
  have HO4 := Lib.hid (HO3.out.trans hO4)
  clear hO4 HO3
  go_wp2_with fail
  rw [rounds_succ]
  go_wp2_with fail
  go_ret2
  exact ⟨rfl, HO4.out⟩
end Go.Proofs.YtiijgghholhcnaaGreatDoor

/- The walk of (*page).line at any pieces. -/
namespace Go.Proofs.YtiijgghholhcnaaGreatDoor
open Go.RowKit
set_option maxRecDepth 1000000
theorem hi5 : Tryz.prog.info? 5 = some Tryz.t5 := by kernel_rfl
theorem hz5 : Tryz.t5.zero = some (.int .u8 0) := by kernel_rfl
theorem hs5 : Tryz.t5.size = 1 := by kernel_rfl
theorem hb5 : Tryz.t5.bytes = 1 := by kernel_rfl
/-- the page in block pb, its row at or behind block B -/
structure Pg (w : World) (pb B : Nat) (prec : Int) (v : Value) (l : List UInt8) : Prop where
  blk : w.heap[pb]? = some (.cells #[v, .int .i64 prec] 52)
  own : w.ownsRow B 5 1 v l.length (Go.Lib.strCells ⟨l.toArray⟩)
  lt : pb < B
  le : B ≤ w.heap.size
theorem Pg.alloc {w : World} {pb B : Nat} {prec : Int} {v : Value} {l : List UInt8} (h : Pg w pb B prec v l) (o : Obj) : Pg (w.alloc o) pb B prec v l :=
  ⟨by have := ((Only.refl (fun _ => False) w).alloc o).blk h.blk (by simp); exact this, h.own.alloc o, h.lt, Nat.le_trans h.le ((Only.refl (fun _ => False) w).alloc o).size⟩
theorem sc_len (l : List UInt8) : (Go.Lib.strCells ⟨l.toArray⟩).length = l.length := by simp [Go.Lib.strCells]
theorem sc_app (l m : List UInt8) : Go.Lib.strCells ⟨(l ++ m).toArray⟩ = Go.Lib.strCells ⟨l.toArray⟩ ++ Go.Lib.strCells ⟨m.toArray⟩ := by simp [Go.Lib.strCells]
/-- what was written -/
structure Wrote (w0 : World) (pb : Nat) (v0 v : Value) (w : World) : Prop where
  only : Only (fun k => k = pb ∨ v0.ownBlock = some k) w0 w
  which : v.ownBlock = v0.ownBlock ∨ ∃ g, v.ownBlock = some g ∧ w0.heap.size ≤ g
theorem Wrote.refl (w : World) (pb : Nat) (v : Value) : Wrote w pb v v w := ⟨Only.refl _ w, .inl rfl⟩
theorem Wrote.trans {w0 w1 w2 : World} {pb : Nat} {v0 v1 v2 : Value} (h : Wrote w0 pb v0 v1 w1) (k : Wrote w1 pb v1 v2 w2) : Wrote w0 pb v0 v2 w2 := by
  refine ⟨h.only.seq2 k.only (fun i hi => ?_), ?_⟩
  · rcases hi with rfl | hi
    · exact .inr (.inl rfl)
    · rcases h.which with e | ⟨g, e, hg⟩
      · exact .inr (.inr (by rw [← e]; exact hi))
      · rw [e] at hi; cases hi; exact .inl hg
  · rcases k.which with e | ⟨g, e, hg⟩
    · rw [e]; exact h.which
    · exact .inr ⟨g, e, Nat.le_trans h.only.size hg⟩
theorem str_which {w w' : World} {base : Nat} {v v' : Value} {n : Nat} {xs : List Value} {ty : TypeId} {S : ByteArray} (hown : w.ownsRow base 5 1 v n xs) (hb : n + S.size ≤ 140737488355328)
    (hr : (Builtin.append_ #[27, 9] ty #[v, .string S]).run Tryz.prog w = .ok v' w') (h4 : v' = .slice none 0 0 ↔ v = .slice none 0 0 ∧ S.size = 0) : v'.ownBlock = v.ownBlock ∨ ∃ g, v'.ownBlock = some g ∧ w.heap.size ≤ g := by
  have hx := hown.1
  rcases hown.2 with ⟨rfl, rfl⟩ | ⟨g, cap, cur, rfl, hbg, hg, hnc, hcm, hcs, htake⟩
  · by_cases hm : S.size = 0
    · left; rw [h4.2 ⟨rfl, hm⟩]
    · right
      have h2 := run_append_nil_string (P := Tryz.prog) w 27 9 ty 5 Tryz.t5 (.int .u8 0) Tryz.underlying27 Tryz.underlying9 hi5 hz5 S (by omega) (by omega) (by rw [hb5]; omega)
      rw [hr] at h2
      injection h2 with h3 _
      exact ⟨w.heap.size, by rw [h3]; rfl, Nat.le_refl _⟩
  · by_cases hroom : n + S.size ≤ cap
    · left
      have h2 := Go.Lib.run_append_room_string (P := Tryz.prog) w 27 9 ty 5 Tryz.t5 Tryz.underlying27 Tryz.underlying9 hi5 hs5 g n cap cur hg S hroom (by omega)
      rw [hr] at h2
      injection h2 with h3 _
      rw [h3]; rfl
    · right
      have holds : ∀ j u, xs[j]? = some u → w.cell? ((⟨g, 0, none⟩ : Addr).add j) = some u := hown.cells (g := g) rfl
      have h2 := Go.Lib.run_append_grow_string (P := Tryz.prog) w 27 9 ty 5 Tryz.t5 (.int .u8 0) Tryz.underlying27 Tryz.underlying9 hi5 hz5 ⟨g, 0, none⟩ n cap xs (by rw [hs5]; simpa using hx) holds S (by omega) (by omega) (by rw [hb5]; exact growslice_fits (by omega) (by omega))
      rw [hr] at h2
      injection h2 with h3 _
      exact ⟨w.heap.size, by rw [h3]; rfl, Nat.le_refl _⟩
theorem own_slice {w : World} {B e z n : Nat} {v : Value} {xs : List Value} (h : w.ownsRow B e z v n xs) : ∃ p m c, v = .slice p m c := by
  rcases h.2 with ⟨rfl, _⟩ | ⟨g, cap, cur, rfl, _⟩
  · exact ⟨_, _, _, rfl⟩
  · exact ⟨_, _, _, rfl⟩
theorem wp_str {ops : Array Oper} {rest : List Oper} {o : Oper} {a : Act} {Q : Exit → Act → World → Prop} {w : World} {B : Nat} {v : Value} {l m : List UInt8}
    (hown : w.ownsRow B 5 1 v l.length (Go.Lib.strCells ⟨l.toArray⟩)) (hB : B ≤ w.heap.size) (hgd : o.guard = none) (sl x : Operand) (ho : o.op = .call { callee := .builtin .append, args := #[sl, x], argTypes := #[27, 9] })
    (hs : a.eval sl = v) (hx : a.eval x = .string ⟨m.toArray⟩) (hb : l.length + m.length ≤ 140737488355328)
    (h : ∀ p n c w', w'.ownsRow B 5 1 (.slice p n c) (l ++ m).length (Go.Lib.strCells ⟨(l ++ m).toArray⟩) → w.grownBy w' v.ownBlock → ((Value.slice p n c).ownBlock = v.ownBlock ∨ ∃ g, (Value.slice p n c).ownBlock = some g ∧ w.heap.size ≤ g) → wpList Tryz.prog ops Q rest (a.put o.dst (.slice p n c)) w') : wpList Tryz.prog ops Q (o :: rest) a w := by
  have hz : (⟨m.toArray⟩ : ByteArray).size = m.length := rfl
  refine wpList_plain hgd fun K hK => ?_
  obtain ⟨v', w', hr, h2, h3, h4⟩ := Go.Lib.run_append_own_string (P := Tryz.prog) w B 27 9 o.type 5 Tryz.t5 Tryz.underlying27 Tryz.underlying9 hi5 hz5 hs5 hb5 v l.length _ hown ⟨m.toArray⟩ (by rw [hz]; unfold maxLen; omega) (by rw [hz]; exact hb) hB
  have hw := str_which hown (by rw [hz]; exact hb) hr h4
  rw [hz, ← sc_app, ← List.length_append] at h2
  obtain ⟨p, n, c, rfl⟩ := own_slice h2
  unfold Oper.wp execOp
  simp only [ho, resolve, invoke, builtin, Sem.run_bind, Sem.run_pure, Result.andThen_ok, List.map_toArray, List.map_cons, List.map_nil, hs, hx, hr]
  exact hK _ _ (h p n c w' h2 h3 hw)
end Go.Proofs.YtiijgghholhcnaaGreatDoor

/- The walk of (*page).line at any pieces: it. -/
namespace Go.Proofs.YtiijgghholhcnaaGreatDoor
open Go.RowKit
set_option maxRecDepth 1000000
theorem own_keepS {S : Nat → Prop} {w w' : World} {base e size n : Nat} {v : Value} {xs : List Value} (h : w.ownsRow base e size v n xs) (O : Only S w w') (hS : ∀ k, v.ownBlock = some k → ¬ S k) : w'.ownsRow base e size v n xs := by
  refine ⟨h.1, ?_⟩
  rcases h.2 with h | ⟨g, cap, cur, e1, e2, e3, r⟩
  · exact .inl h
  · exact .inr ⟨g, cap, cur, e1, e2, O.blk e3 (hS g (by rw [e1]; rfl)), r⟩
/-- the first pieces joined -/
def jn (ss : Nat → List UInt8) : Nat → List UInt8
  | 0 => []
  | k + 1 => jn ss k ++ ss k
theorem Pg.store {w : World} {pb B : Nat} {prec : Int} {v v' : Value} {l l' : List UInt8} (h : Pg w pb B prec v l) {w' : World} (hg : w.grownBy w' v.ownBlock) (ho : w'.ownsRow B 5 1 v' l'.length (Go.Lib.strCells ⟨l'.toArray⟩))
    (hw : v'.ownBlock = v.ownBlock ∨ ∃ g, v'.ownBlock = some g ∧ w.heap.size ≤ g) : Pg (w'.setCell ⟨pb, 0, none⟩ v') pb B prec v' l' ∧ Wrote w pb v v' (w'.setCell ⟨pb, 0, none⟩ v') := by
  have hpb : pb < w.heap.size := Nat.lt_of_lt_of_le h.lt h.le
  have hne : ∀ k, v.ownBlock = some k → k ≠ pb := fun k hk => by have := (h.own.lt k hk).1; have := h.lt; omega
  have hne' : ∀ k, v'.ownBlock = some k → k ≠ pb := fun k hk => by have := (ho.lt k hk).1; have := h.lt; omega
  have O1 : Only (fun k => k = pb ∨ v.ownBlock = some k) w w' := (Only.refl _ w).grown hg (fun k hk => .inr (.inr hk))
  have hb1 : w'.heap[pb]? = some (.cells #[v, .int .i64 prec] 52) := by
    rw [hg.block pb hpb (fun e => hne pb e.symm rfl)]; exact h.blk
  have O2 : Only (fun k => k = pb) w' (w'.setCell ⟨pb, 0, none⟩ v') := (Only.refl (fun k => k = pb) w').setCell (p := ⟨pb, 0, none⟩) (.inr rfl) v'
  refine ⟨⟨?_, own_keepS ho O2 (fun k hk e => hne' k hk e), h.lt, Nat.le_trans h.le (Nat.le_trans O1.size O2.size)⟩, O1.trans (O2.mono (fun k _ e => .inl e)), hw⟩
  have := blk_set hb1 0 v'
  simpa using this
theorem Pg.kept {w : World} {pb B : Nat} {prec : Int} {v : Value} {l : List UInt8} (h : Pg w pb B prec v l) {w' : World} (hg : w.grownBy w' v.ownBlock) : w'.heap[pb]? = some (.cells #[v, .int .i64 prec] 52) := by
  have hpb : pb < w.heap.size := Nat.lt_of_lt_of_le h.lt h.le
  rw [hg.block pb hpb (fun e => by have := (h.own.lt pb e.symm).1; have := h.lt; omega)]; exact h.blk
theorem Pg.freez {w : World} {pb B : Nat} {prec : Int} {v : Value} {l : List UInt8} (h : Pg w pb B prec v l) {w' : World} (hg : w.grownBy w' v.ownBlock) : w'.frozen? ⟨pb, 0, none⟩ = false := blk_free (h.kept hg) 0
theorem Pg.both {w : World} {pb B : Nat} {prec : Int} {v : Value} {l : List UInt8} (h : Pg w pb B prec v l) {w' : World} (hg : w.grownBy w' v.ownBlock) : w'.cell? ⟨pb, 0, none⟩ = some v ∧ w'.frozen? ⟨pb, 0, none⟩ = false := ⟨by rw [blk_cell (h.kept hg)]; rfl, h.freez hg⟩
theorem wp_nl {ops : Array Oper} {rest : List Oper} {o : Oper} {a : Act} {Q : Exit → Act → World → Prop} {w : World} {B : Nat} {v : Value} {l : List UInt8}
    (hown : w.ownsRow B 5 1 v l.length (Go.Lib.strCells ⟨l.toArray⟩)) (hB : B ≤ w.heap.size) (hgd : o.guard = none) (sl x : Operand) (ho : o.op = .call { callee := .builtin .append, args := #[sl, x], argTypes := #[27, 27] })
    (hs : a.eval sl = v) (hx : a.eval x = .slice (some ⟨w.heap.size, 0, none⟩) 1 1) (hb : l.length + 1 ≤ 140737488355328)
    (h : ∀ p n c w', w'.ownsRow B 5 1 (.slice p n c) (l ++ [10]).length (Go.Lib.strCells ⟨(l ++ [10]).toArray⟩) → (w.alloc (.cells #[.int .u8 10] 5)).grownBy w' v.ownBlock → ((Value.slice p n c).ownBlock = v.ownBlock ∨ ∃ g, (Value.slice p n c).ownBlock = some g ∧ (w.alloc (.cells #[.int .u8 10] 5)).heap.size ≤ g) → wpList Tryz.prog ops Q rest (a.put o.dst (.slice p n c)) w') :
    wpList Tryz.prog ops Q (o :: rest) a (w.alloc (.cells #[.int .u8 10] 5)) := by
  have hsz : w.heap.size ≤ (w.alloc (.cells #[.int .u8 10] 5)).heap.size := ((Only.refl (fun _ => False) w).alloc _).size
  refine wpList_append_kept (w.alloc (.cells #[.int .u8 10] 5)) hgd sl x 27 ho 5 Tryz.t5 (.int .u8 0) 1 1 Tryz.underlying27 hi5 hz5 hs5 hb5 rfl (by decide) B l.length v _ hs (hown.alloc _) (Nat.le_trans hB hsz) ⟨w.heap.size, 0, none⟩ 1 1 [.int .u8 10] hx rfl ?_ (by simp [Value.oneCell']) (by decide) (by unfold maxLen; omega) (by omega) ?_
  · intro j u hu
    have ha : (⟨w.heap.size, 0, none⟩ : Addr).add j = ⟨w.heap.size, j, none⟩ := by unfold Addr.add; split <;> simp_all
    rw [ha, blk_cell (blk_new w _)]
    simpa using hu
  · intro v' w' hg ho'
    obtain ⟨p, n, c, rfl⟩ := own_slice ho'
    refine h p n c w' ?_ hg.grown hg.which
    rw [sc_app, List.length_append]; exact ho'
theorem Wrote.ofAlloc {w w' : World} {o : Obj} {pb : Nat} {v v' : Value} (h : Wrote (w.alloc o) pb v v' w') : Wrote w pb v v' w' := by
  have O := (Only.refl (fun k => k = pb ∨ v.ownBlock = some k) w).alloc o
  refine ⟨O.trans h.only, ?_⟩
  rcases h.which with e | ⟨g, e, hg⟩
  · exact .inl e
  · exact .inr ⟨g, e, Nat.le_trans O.size hg⟩
theorem Pg.both' {w : World} {pb B : Nat} {prec : Int} {v : Value} {l : List UInt8} (h : Pg w pb B prec v l) {o : Obj} {w' : World} (hg : (w.alloc o).grownBy w' v.ownBlock) : w'.cell? ⟨pb, 0, none⟩ = some v ∧ w'.frozen? ⟨pb, 0, none⟩ = false := (h.alloc o).both hg
/-- pieces that came in -/
structure Pcs (w : World) (sb k : Nat) (ss : Nat → List UInt8) : Prop where
  at' : ∀ i, i < k → w.cell? ⟨sb, i, none⟩ = some (.string ⟨(ss i).toArray⟩)
  lt : sb < w.heap.size
def LnR (w0 : World) (pb B k : Nat) (prec : Int) (v : Value) (l : List UInt8) (ss : Nat → List UInt8) (v8 : Value) (w : World) : Prop :=
  ∃ (i : Nat) (v1 : Value), v8 = .int .i64 (i : Int) ∧ i ≤ k ∧ Pg w pb B prec v1 (l ++ jn ss i) ∧ Wrote w0 pb v v1 w
theorem jn_le {ss : Nat → List UInt8} {k : Nat} : ∀ {i : Nat}, i ≤ k → (jn ss i).length ≤ (jn ss k).length := by
  induction k with
  | zero => intro i hi; rw [show i = 0 by omega]; exact Nat.le_refl _
  | succ k ih =>
    intro i hi
    rcases Nat.lt_or_ge k i with g | g
    · rw [show i = k + 1 by omega]; exact Nat.le_refl _
    · have := ih g
      rw [jn, List.length_append]; omega
set_option maxHeartbeats 4000000 in
theorem line_calls (pb B sb k cap : Nat) (prec : Int) (v : Value) (l : List UInt8) (ss : Nat → List UInt8) (w : World) (hk : k ≤ 1000000) (hP : Pg w pb B prec v l) (hS : Pcs w sb k ss) (h1 : sb ≠ pb) (h2 : v.ownBlock ≠ some sb)
    (hb : l.length + (jn ss k).length + 1 ≤ 140737488355328) :
    Calls Tryz.prog 15 #[.pointer (some ⟨pb, 0, none⟩), .slice (some ⟨sb, 0, none⟩) k cap] w fun en w' => en = .returned (.tuple #[]) ∧ ∃ v', Pg w' pb B prec v' (l ++ jn ss k ++ [10]) ∧ Wrote w pb v v' w' := by
  have HP := Lib.hid hP; have HS := Lib.hid hS
  clear hP hS
  go_enter Tryz.func15, Tryz.ntmps15
  go_wp2_with fail
  go_loopw [8] (fun v8 wr => LnR w pb B k prec v l ss v8 wr) (fun v8 _ => k - (intOf v8).toNat)
  case atStart => exact ⟨0, v, rfl, Nat.zero_le _, by rw [jn, List.append_nil]; exact HP.out, Wrote.refl _ _ _⟩
  case round =>
    obtain ⟨i, v1, rfl, hi, hP1, hW1⟩ := hrel
    obtain ⟨p1, n1, c1, rfl⟩ := own_slice hP1.own
    have HP1 := Lib.hid hP1; have HW1 := Lib.hid hW1
    have c0 : wr.cell? ⟨pb, 0, none⟩ = some (.slice p1 n1 c1) := by rw [blk_cell hP1.blk]; rfl
    have f0 : wr.frozen? ⟨pb, 0, none⟩ = false := blk_free hP1.blk 0
    by_cases h : i < k
    · have t1 : decide ((i : Int) < (k : Int)) = true := decide_eq_true (by omega)
      have cs : wr.cell? ⟨sb, i, none⟩ = some (.string ⟨(ss i).toArray⟩) := by
        rw [hW1.only.cellAt HS.out.lt (by rintro (e | e); exact h1 e; exact h2 e)]; exact HS.out.at' i h
      have hle : (jn ss (i + 1)).length ≤ (jn ss k).length := jn_le (by omega)
      rw [jn, List.length_append] at hle
      have hlb : (l ++ jn ss i).length + (ss i).length ≤ 140737488355328 := by rw [List.length_append]; omega
      clear hP1 hW1 hle
      go_wp2_with (at_builtin; (refine wp_str HP1.out.own (Nat.le_trans HP1.out.le (Nat.le_refl _)) rfl _ _ rfl (by simp [Act.eval]) (by simp [Act.eval]) hlb ?_; intro p4 n4 c4 w4 ho4 hg4 hw4; have FC := HP1.out.both hg4; have FD := FC.1; have FE := FC.2; have HO4 := Lib.hid ho4; have HG4 := Lib.hid hg4; have HW4 := Lib.hid hw4; clear FC ho4 hg4 hw4))
      have HQ := Lib.hid (HP1.out.store HG4.out HO4.out HW4.out)
      refine ⟨⟨i + 1, .slice p4 n4 c4, congrArg (Value.int .i64) (by omega), by omega, ?_, HW1.out.trans HQ.out.2⟩, by simp only [intOf]; omega⟩
      have := HQ.out.1
      rw [List.append_assoc] at this
      exact this
    · obtain rfl : i = k := by omega
      have t1 : decide ((i : Int) < (i : Int)) = false := decide_eq_false (by omega)
      have hlb : (l ++ jn ss i).length + 1 ≤ 140737488355328 := by rw [List.length_append]; omega
      clear hP1 hW1
      go_wp2_with (at_builtin; (refine wp_nl HP1.out.own HP1.out.le rfl _ _ rfl (by simp [Act.eval]) (by simp [Act.eval]) hlb ?_; intro p4 n4 c4 w4 ho4 hg4 hw4; have FC := HP1.out.both' hg4; have FD := FC.1; have FE := FC.2; have HO4 := Lib.hid ho4; have HG4 := Lib.hid hg4; have HW4 := Lib.hid hw4; clear FC ho4 hg4 hw4))
      have HQ := Lib.hid ((HP1.out.alloc (.cells #[.int .u8 10] 5)).store HG4.out HO4.out HW4.out)
      go_end0
      exact ⟨rfl, .slice p4 n4 c4, HQ.out.1, HW1.out.trans HQ.out.2.ofAlloc⟩
end Go.Proofs.YtiijgghholhcnaaGreatDoor
