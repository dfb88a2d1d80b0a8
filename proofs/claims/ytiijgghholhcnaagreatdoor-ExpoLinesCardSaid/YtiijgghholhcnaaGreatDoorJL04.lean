/- strings.Builder.WriteByte and WriteString at this cut (after the shelf's layings). -/
import Derived.Test.YtiijgghholhcnaaGreatDoorJL03
import Derived.Test.YtiijgghholhcnaaGreatDoorRows
import Derived.WalkKit
import Derived.WalkSpells
import Derived.WalkLawsBesides
import Derived.Lib.Hide
import Derived.WalkMore
import Derived.LoopN
import Derived.Laws.RangeString
namespace Go.Proofs
open Go.Shelf
def Tryz.wb_ren : Go.Shelf.Ren := ⟨fun | 167 => 148 | 240 => 177 | 276 => 203 | n => n, fun | 37 => 27 | 70 => 161 | 72 => 163 | 75 => 165 | 80 => 169 | 164 => 230 | n => n, fun | n => n⟩
theorem Tryz.wb_lays : Go.Proofs.Lays.n167 Tryz.prog Tryz.wb_ren := {
  mixed := by kernel_rfl
  f167 := Tryz.func148.trans (congrArg some (by kernel_rfl))
  f240 := Tryz.func177.trans (congrArg some (by kernel_rfl))
  f276 := Tryz.func203.trans (congrArg some (by kernel_rfl))
  t0 := Tryz.underlying0
  a0 := Tryz.isAgg0
  z0 := Tryz.sizeOf0
  v0 := Tryz.zeroValue0
  t4 := Tryz.underlying4
  a4 := Tryz.isAgg4
  z4 := Tryz.sizeOf4
  v4 := Tryz.zeroValue4
  t5 := Tryz.underlying5
  a5 := Tryz.isAgg5
  z5 := Tryz.sizeOf5
  v5 := Tryz.zeroValue5
  t9 := Tryz.underlying9
  a9 := Tryz.isAgg9
  z9 := Tryz.sizeOf9
  v9 := Tryz.zeroValue9
  t20 := Tryz.underlying20
  a20 := Tryz.isAgg20
  z20 := Tryz.sizeOf20
  v20 := Tryz.zeroValue20
  t37 := Tryz.underlying27
  a37 := Tryz.isAgg27
  z37 := Tryz.sizeOf27
  v37 := Tryz.zeroValue27
  t70 := Tryz.underlying161
  a70 := Tryz.isAgg161
  z70 := Tryz.sizeOf161
  v70 := Tryz.zeroValue161
  t72 := Tryz.underlying163
  a72 := Tryz.isAgg163
  z72 := Tryz.sizeOf163
  v72 := Tryz.zeroValue163
  t75 := Tryz.underlying165
  a75 := Tryz.isAgg165
  z75 := Tryz.sizeOf165
  v75 := Tryz.zeroValue165
  t164 := Tryz.underlying230
  a164 := Tryz.isAgg230
  z164 := Tryz.sizeOf230
  v164 := Tryz.zeroValue230 }
theorem Tryz.wb_Extra : Builder.Extra Tryz.prog Tryz.wb_ren := {
  sizeBuilder := by kernel_rfl
  liesBuilder := by kernel_rfl
  t5 := Tryz.underlying5
  a5 := Tryz.isAgg5
  z5 := Tryz.sizeOf5
  v5 := Tryz.zeroValue5
  infoByte := by kernel_rfl
  cellsByte := by kernel_rfl
  sizeByte := by kernel_rfl
  neB5 := by decide }
open Go.RowKit in
theorem Tryz.write_byte (B b : Nat) (bs : List Value) (c : Int) (w : World) (h : Lib.IsBuilder 163 5 B b bs w) (hlen : bs.length + 1 ≤ 140737488355328) (hBw : B ≤ w.heap.size) :
    Calls Tryz.prog 148 #[.pointer (some ⟨b, 0, none⟩), .int .u8 c] w fun e w' => e = .returned .nilIface ∧ (Lib.BuilderAt 163 5 B b (.pointer (some ⟨b, 0, none⟩)) (bs ++ [.int .u8 c]) w' ∧ Below B w w') := Any.Builder_WriteByte Tryz.wb_lays Tryz.wb_Extra B b bs c w h hlen hBw
open Go.RowKit in
theorem Tryz.write_string (B b : Nat) (bs : List Value) (s : ByteArray) (w : World) (h : Lib.IsBuilder 163 5 B b bs w) (hlen : bs.length + s.size ≤ 140737488355328) (hBw : B ≤ w.heap.size) :
    Calls Tryz.prog 147 #[.pointer (some ⟨b, 0, none⟩), .string s] w fun e w' => e = .returned (.tuple #[.int .i64 s.size, .nilIface]) ∧ (Lib.BuilderAt 163 5 B b (.pointer (some ⟨b, 0, none⟩)) (bs ++ Lib.strCells s) w' ∧ Below B w w') := Any.Builder_WriteString { Tryz.lays105 with } Tryz.Builder_Extra_105 B b bs s w h hlen hBw
end Go.Proofs

/- A frame for calls: which blocks a call may have changed, and what stays; small facts on blocks. -/
namespace Go.Proofs.YtiijgghholhcnaaGreatDoor
open Go.RowKit

/-- Of the blocks that were there, only those in S may have changed. -/
structure Only (S : Nat → Prop) (w w' : World) : Prop where
  os : w'.os = w.os
  tape : w'.tape = w.tape
  output : w'.output = w.output
  size : w.heap.size ≤ w'.heap.size
  block : ∀ k, k < w.heap.size → ¬ S k → w'.heap[k]? = w.heap[k]?

theorem Only.refl (S : Nat → Prop) (w : World) : Only S w w := ⟨rfl, rfl, rfl, Nat.le_refl _, fun _ _ _ => rfl⟩
theorem Only.trans {S : Nat → Prop} {a b c : World} (h : Only S a b) (k : Only S b c) : Only S a c :=
  ⟨k.os.trans h.os, k.tape.trans h.tape, k.output.trans h.output, Nat.le_trans h.size k.size, fun i hi hs => (k.block i (Nat.lt_of_lt_of_le hi h.size) hs).trans (h.block i hi hs)⟩
theorem Only.mono {S T : Nat → Prop} {w w' : World} (h : Only S w w') (hs : ∀ k, k < w.heap.size → S k → T k) : Only T w w' :=
  ⟨h.os, h.tape, h.output, h.size, fun k hk ht => h.block k hk (fun hh => ht (hs k hk hh))⟩
theorem Only.blk {S : Nat → Prop} {w w' : World} (h : Only S w w') {k : Nat} {o : Obj} (hk : w.heap[k]? = some o) (hs : ¬ S k) : w'.heap[k]? = some o := by
  have hl : k < w.heap.size := by
    rcases Nat.lt_or_ge k w.heap.size with h | h
    · exact h
    · simp [Array.getElem?_eq_none h] at hk
  rw [h.block k hl hs, hk]
theorem Only.drew {S : Nat → Prop} {a w : World} (h : Only S a w) : Only S a w.drew := ⟨h.os, h.tape, h.output, h.size, h.block⟩
theorem Only.drewN {S : Nat → Prop} {a w : World} (h : Only S a w) (n : Nat) : Only S a (w.drewN n) := ⟨h.os, h.tape, h.output, h.size, h.block⟩
theorem Only.alloc {S : Nat → Prop} {a w : World} (h : Only S a w) (o : Obj) : Only S a (w.alloc o) :=
  ⟨h.os, h.tape, h.output, by have := h.size; simp; omega, fun k hk hs => (Below.heap_alloc _ _ _ (Nat.lt_of_lt_of_le hk h.size)).trans (h.block k hk hs)⟩
theorem Only.setCell {S : Nat → Prop} {a w : World} (h : Only S a w) {p : Addr} (hp : a.heap.size ≤ p.block ∨ S p.block) (u : Value) : Only S a (w.setCell p u) :=
  ⟨h.os, h.tape, h.output, by have := h.size; simp [World.setCell]; omega, fun k hk hs => (Below.heap_setCell _ _ _ _ (by rintro rfl; rcases hp with hp | hp; omega; exact hs hp)).trans (h.block k hk hs)⟩
theorem Only.set1 (b : Nat) (w : World) (i : Nat) (u : Value) : Only (· = b) w (w.setCell ⟨b, i, none⟩ u) := (Only.refl (· = b) w).setCell (p := ⟨b, i, none⟩) (.inr rfl) u
theorem Only.grown {S : Nat → Prop} {a w w' : World} {row : Option Nat} (h : Only S a w) (hg : w.grownBy w' row) (hr : ∀ k, row = some k → a.heap.size ≤ k ∨ S k) : Only S a w' :=
  ⟨hg.os.trans h.os, hg.tape.trans h.tape, hg.output.trans h.output, Nat.le_trans h.size hg.size, fun k hk hs =>
    (hg.block k (Nat.lt_of_lt_of_le hk h.size) (fun e => by rcases hr k e.symm with hr | hr; omega; exact hs hr)).trans (h.block k hk hs)⟩
theorem Only.below {B : Nat} {w w' : World} (h : Only (fun k => B ≤ k) w w') (hB : B ≤ w.heap.size) : Below B w w' :=
  ⟨h.os, h.tape, h.output, h.size, fun k hk => h.block k (Nat.lt_of_lt_of_le hk hB) (by omega)⟩
/-- What a callee may have changed among blocks that this call made. -/
theorem Only.seq2 {S T : Nat → Prop} {a b c : World} (h : Only S a b) (k : Only T b c) (ht : ∀ i, T i → a.heap.size ≤ i ∨ S i) : Only S a c :=
  ⟨k.os.trans h.os, k.tape.trans h.tape, k.output.trans h.output, Nat.le_trans h.size k.size, fun i hi hs =>
    (k.block i (Nat.lt_of_lt_of_le hi h.size) (fun hh => by rcases ht i hh with q | q; omega; exact hs q)).trans (h.block i hi hs)⟩

theorem Only.cellAt {S : Nat → Prop} {w w' : World} (h : Only S w w') {b : Nat} (hb : b < w.heap.size) (hs : ¬ S b) (o : Nat) : w'.cell? ⟨b, o, none⟩ = w.cell? ⟨b, o, none⟩ := World.cell?_of_block (w := w) (h.block b hb hs)
/-- Only draws were made: the memory is as it was. -/
structure Still (w w' : World) : Prop where
  os : w'.os = w.os
  tape : w'.tape = w.tape
  output : w'.output = w.output
  heap : w'.heap = w.heap
theorem Still.refl (w : World) : Still w w := ⟨rfl, rfl, rfl, rfl⟩
theorem Still.trans {a b c : World} (h : Still a b) (k : Still b c) : Still a c := ⟨k.os.trans h.os, k.tape.trans h.tape, k.output.trans h.output, k.heap.trans h.heap⟩
theorem Still.drew {a w : World} (h : Still a w) : Still a w.drew := ⟨h.os, h.tape, h.output, h.heap⟩
theorem Still.drewN {a w : World} (h : Still a w) (n : Nat) : Still a (w.drewN n) := ⟨h.os, h.tape, h.output, h.heap⟩
theorem Still.only {w w' : World} (h : Still w w') (S : Nat → Prop) : Only S w w' := ⟨h.os, h.tape, h.output, by rw [h.heap]; exact Nat.le_refl _, fun _ _ _ => by rw [h.heap]⟩
theorem Still.cell {w w' : World} (h : Still w w') (a : Addr) : w'.cell? a = w.cell? a := by simp only [World.cell?, h.heap]
theorem Still.frozen {w w' : World} (h : Still w w') (a : Addr) : w'.frozen? a = w.frozen? a := by simp only [World.frozen?, h.heap]
theorem Still.grown {w w' : World} (h : Still w w') (row : Option Nat) : w.grownBy w' row := ⟨h.os, h.tape, h.output, by rw [h.heap]; exact Nat.le_refl _, fun _ _ _ => by rw [h.heap]⟩
theorem blk_lt {w : World} {k : Nat} {o : Obj} (hk : w.heap[k]? = some o) : k < w.heap.size := by
  rcases Nat.lt_or_ge k w.heap.size with h | h
  · exact h
  · simp [Array.getElem?_eq_none h] at hk
theorem blk_cell {w : World} {b : Nat} {c : Array Value} {t : TypeId} {f : Nat × Nat} (h : w.heap[b]? = some (.cells c t f)) (i : Nat) : w.cell? ⟨b, i, none⟩ = c[i]? := by simp [World.cell?, h]
theorem blk_free {w : World} {b : Nat} {c : Array Value} {t : TypeId} (h : w.heap[b]? = some (.cells c t (0, 0))) (i : Nat) : w.frozen? ⟨b, i, none⟩ = false := by simp [World.frozen?, h]
theorem blk_set {w : World} {b : Nat} {c : Array Value} {t : TypeId} {f : Nat × Nat} (h : w.heap[b]? = some (.cells c t f)) (i : Nat) (v : Value) : (w.setCell ⟨b, i, none⟩ v).heap[b]? = some (.cells (c.setIfInBounds i v) t f) := by
  simp [World.setCell, Array.getElem?_modify, h]
theorem blk_set_ne {w : World} {b : Nat} {o : Obj} (h : w.heap[b]? = some o) (p : Addr) (v : Value) (hne : b ≠ p.block) : (w.setCell p v).heap[b]? = some o := by
  rw [Below.heap_setCell _ _ _ _ hne, h]
theorem cell_set_ne {w : World} {b o : Nat} {x : Option Value} (h : w.cell? ⟨b, o, none⟩ = x) (p : Addr) (v : Value) (hne : b ≠ p.block) : (w.setCell p v).cell? ⟨b, o, none⟩ = x := by
  rw [← h]; exact World.cell?_of_block (w := w) (Below.heap_setCell _ _ _ _ hne)
theorem blk_alloc {w : World} {b : Nat} {o : Obj} (h : w.heap[b]? = some o) (o' : Obj) : (w.alloc o').heap[b]? = some o := by
  rw [Below.heap_alloc _ _ _ (blk_lt h), h]
theorem blk_new (w : World) (o : Obj) : (w.alloc o).heap[w.heap.size]? = some o := by
  show (w.heap.push o)[w.heap.size]? = _
  simp
theorem blk_drew {w : World} {b : Nat} {o : Obj} (h : w.heap[b]? = some o) : w.drew.heap[b]? = some o := h
theorem ret_eq {a b : Value} (h : a = b) : Ending.returned a = Ending.returned b := by rw [h]

end Go.Proofs.YtiijgghholhcnaaGreatDoor

/- The walks of label.Check at the counter "c". -/
namespace Go.Proofs.YtiijgghholhcnaaGreatDoor
open Go.RowKit
set_option maxRecDepth 1000000
theorem hs_c1 (w : World) : Calls Tryz.prog 134 #[.string ⟨#[97]⟩, .string ⟨#[95, 98, 117, 99, 107, 101, 116]⟩] w fun e w' => e = .returned (.bool false) ∧ w' = w := by
  go_enter Tryz.func134, Tryz.ntmps134
  go_wp2_with fail
  go_ret
  exact ⟨rfl, rfl⟩
theorem hs_c2 (w : World) : Calls Tryz.prog 134 #[.string ⟨#[97]⟩, .string ⟨#[95, 115, 117, 109]⟩] w fun e w' => e = .returned (.bool false) ∧ w' = w := by
  go_enter Tryz.func134, Tryz.ntmps134
  go_wp2_with fail
  go_ret
  exact ⟨rfl, rfl⟩
theorem hs_c3 (w : World) : Calls Tryz.prog 134 #[.string ⟨#[97]⟩, .string ⟨#[95, 99, 111, 117, 110, 116]⟩] w fun e w' => e = .returned (.bool false) ∧ w' = w := by
  go_enter Tryz.func134, Tryz.ntmps134
  go_wp2_with fail
  go_ret
  exact ⟨rfl, rfl⟩
theorem hsx_c (t : ByteArray) (w : World) (K : Calls Tryz.prog 134 #[.string ⟨#[97]⟩, .string t] w fun e w' => e = .returned (.bool false) ∧ w' = w) : Calls Tryz.prog 91 #[.string ⟨#[97]⟩, .string t] w fun e w' => e = .returned (.bool false) ∧ w' = w := by
  have HK := Lib.hid K; clear K
  go_enter Tryz.func91, Tryz.ntmps91
  go_wp2_with fail
  refine HK.out.mono ?_
  rintro e w1 ⟨rfl, hw⟩; rw [hw]; clear hw w1
  go_wp2_with fail
  go_ret
  exact ⟨rfl, rfl⟩
theorem first_c (w : World) : Calls Tryz.prog 90 #[.string ⟨#[97]⟩] w fun e w' => e = .returned (.bool true) ∧ w' = w := by
  have b0 : ((⟨#[97]⟩ : ByteArray)[0]'(by decide)).toNat = 97 := rfl
  go_enter Tryz.func90, Tryz.ntmps90
  go_wp2_with fail
  go_ret
  exact ⟨rfl, rfl⟩
theorem letter_c (w : World) : Calls Tryz.prog 92 #[.int .u8 97] w fun e w' => e = .returned (.bool true) ∧ w' = w := by
  go_enter Tryz.func92, Tryz.ntmps92
  go_wp2_with fail
  go_ret
  exact ⟨rfl, rfl⟩
theorem name_c (w : World) : Calls Tryz.prog 49 #[.string ⟨#[97]⟩] w fun e w' => e = .returned (.bool true) ∧ w' = w := by
  have b0 : ((⟨#[97]⟩ : ByteArray)[0]'(by decide)).toNat = 97 := rfl
  go_enter Tryz.func49, Tryz.ntmps49
  go_wp2_with fail
  refine (first_c w).mono ?_
  rintro e w1 ⟨rfl, hw⟩; rw [hw]; clear hw w1
  go_wp2_with fail
  refine (hsx_c _ w (hs_c1 w)).mono ?_
  rintro e w1 ⟨rfl, hw⟩; rw [hw]; clear hw w1
  go_wp2_with fail
  refine (hsx_c _ w (hs_c2 w)).mono ?_
  rintro e w1 ⟨rfl, hw⟩; rw [hw]; clear hw w1
  go_wp2_with fail
  refine (hsx_c _ w (hs_c3 w)).mono ?_
  rintro e w1 ⟨rfl, hw⟩; rw [hw]; clear hw w1
  go_wp2_with fail
  refine wp_loop_rounds 2 ?_
  rw [rounds_succ]
  go_wp2_with fail
  refine (letter_c w).mono ?_
  rintro e w1 ⟨rfl, hw⟩; rw [hw]; clear hw w1
  go_wp2_with fail
  rw [rounds_succ]
  go_wp2_with fail
  go_ret
  exact ⟨rfl, rfl⟩
theorem right_nil (w : World) : Calls Tryz.prog 93 #[.string ⟨#[]⟩] w fun e w' => e = .returned (.bool true) ∧ Only (fun _ => False) w w' := by
  have hn := run_next_end (P := Tryz.prog) w ⟨#[]⟩ 0 0 (by decide)
  go_enter Tryz.func93, Tryz.ntmps93
  go_wp2_with fail
  refine wp_loop_rounds 1 ?_
  rw [rounds_succ]
  go_wp2_with fail
  go_ret
  exact ⟨rfl, (Only.refl _ w).alloc _⟩
theorem value_nil (w : World) : Calls Tryz.prog 50 #[.string ⟨#[]⟩] w fun e w' => e = .returned (.int .i64 0) ∧ Only (fun _ => False) w w' := by
  go_enter Tryz.func50, Tryz.ntmps50
  go_wp2_with fail
  refine (right_nil w).mono ?_
  rintro e w1 ⟨rfl, hO⟩
  have HO := Lib.hid hO; clear hO
  go_wp2_with fail
  go_ret
  exact ⟨rfl, HO.out⟩
/-- the description of the counter "c" -/
def descC : Value := .agg #[.int .i64 1, .string ⟨#[97]⟩, .string ⟨#[]⟩, .slice none 0 0]
theorem check_c (w : World) : Calls Tryz.prog 26 #[descC] w fun e w' => e = .returned (.int .i64 0) ∧ Only (fun _ => False) w w' := by
  unfold descC
  go_enter Tryz.func26, Tryz.ntmps26
  go_wp2_with fail
  refine (name_c _).mono ?_
  rintro e w1 ⟨rfl, hw⟩; rw [hw]; clear hw w1
  go_wp2_with fail
  have hb := blk_new w (.cells #[.int .i64 1, .string ⟨#[97]⟩, .string ⟨#[]⟩, .slice none 0 0] 36)
  have hO := (Only.refl (fun _ => False) w).alloc (.cells #[.int .i64 1, .string ⟨#[97]⟩, .string ⟨#[]⟩, .slice none 0 0] 36)
  generalize w.alloc (.cells #[.int .i64 1, .string ⟨#[97]⟩, .string ⟨#[]⟩, .slice none 0 0] 36) = w1 at *
  have Hb := Lib.hid hb; have HO := Lib.hid hO; clear hb hO
  refine (value_nil _).mono ?_
  rintro e w2 ⟨rfl, hO2⟩
  have Hb2 := hO2.blk Hb.out (by simp)
  have HO2 := Lib.hid (HO.out.trans hO2); clear hO2
  have c3 : w2.cell? ⟨w.heap.size, 3, none⟩ = some (.slice none 0 0) := by rw [blk_cell Hb2]; rfl
  clear Hb2
  go_wp2_with fail
  refine wp_loop_rounds 1 ?_
  rw [rounds_succ]
  go_wp2_with fail
  go_ret
  exact ⟨rfl, HO2.out⟩
end Go.Proofs.YtiijgghholhcnaaGreatDoor

/- Append to a row of the call's own: what stays is told exactly (the old cells, every other block, where the new row lies). -/
namespace Go.Proofs.YtiijgghholhcnaaGreatDoor
open Go.RowKit

/-- w' came of w by an append to v, which gave v': 'keep' cells of v's block stay, all other blocks stay. -/
structure Grew (w w' : World) (v v' : Value) (keep : Nat) : Prop where
  grown : w.grownBy w' v.ownBlock
  cells : ∀ g j, v.ownBlock = some g → j < keep → w'.cell? ⟨g, j, none⟩ = w.cell? ⟨g, j, none⟩
  froz : ∀ a : Addr, a.block < w.heap.size → w'.frozen? a = w.frozen? a
  which : v'.ownBlock = v.ownBlock ∨ ∃ g, v'.ownBlock = some g ∧ w.heap.size ≤ g
  tag : ∀ g cur t, v.ownBlock = some g → w.heap[g]? = some (.cells cur t (0, 0)) → ∃ cur', w'.heap[g]? = some (.cells cur' t (0, 0))

theorem grownBy_setCells (b : Nat) : ∀ (vs : List Value) (o : Nat) (w : World), w.grownBy (w.setCells b o vs) (some b)
  | [], _, w => ⟨rfl, rfl, rfl, Nat.le_refl _, fun _ _ _ => rfl⟩
  | v :: r, o, w => by
    have h := grownBy_setCells b r (o + 1) (w.setCell ⟨b, o, none⟩ v)
    have hs : (w.setCell ⟨b, o, none⟩ v).heap.size = w.heap.size := by simp [World.setCell]
    refine ⟨h.os, h.tape, h.output, by rw [← hs]; exact h.size, fun k hk hne => ?_⟩
    have h1 := h.block k (by rw [hs]; exact hk) hne
    rw [Below.heap_setCell _ _ _ _ (by rintro rfl; exact hne rfl)] at h1
    exact h1

theorem block_setCells (b : Nat) (e : TypeId) : ∀ (vs : List Value) (o : Nat) (w : World) (cur : Array Value), w.heap[b]? = some (.cells cur e (0, 0)) → o + vs.length ≤ cur.size →
    ∃ cur', (w.setCells b o vs).heap[b]? = some (.cells cur' e (0, 0)) ∧ cur'.size = cur.size ∧ cur'.toList.take (o + vs.length) = cur.toList.take o ++ vs
  | [], o, w, cur, h, _ => ⟨cur, h, rfl, by simp⟩
  | v :: r, o, w, cur, h, hl => by
    simp only [List.length_cons] at hl
    obtain ⟨cur', h1, h2, h3⟩ := block_setCells b e r (o + 1) (w.setCell ⟨b, o, none⟩ v) (cur.setIfInBounds o v) (blk_set h o v) (by simp; omega)
    refine ⟨cur', h1, by simpa using h2, ?_⟩
    rw [show o + (v :: r).length = o + 1 + r.length by simp; omega, h3]
    have : (cur.setIfInBounds o v).toList.take (o + 1) = cur.toList.take o ++ [v] := by
      rw [Array.toList_setIfInBounds]
      have hlo : o < (cur.toList.set o v).length := by simp; omega
      rw [List.take_succ_eq_append_getElem hlo, List.take_set_of_le (Nat.le_refl _)]
      simp
    rw [this]; simp

theorem wpList_append_kept {P : Program} (w : World) {ops : Array Oper} {rest : List Oper} {o : Oper} {a : Act} {Q : Exit → Act → World → Prop}
    (hg : o.guard = none) (s x : Operand) (t : TypeId) (hop : o.op = Op.call { callee := Callee.builtin Builtin.append, args := #[s, x], argTypes := #[t, t] })
    (e : TypeId) (i : TypeInfo) (z : Value) (size bytes : Nat) (h1 : P.underlying t = some (.slice e)) (h2 : P.info? e = some i) (h3 : i.zero = some z) (h4 : i.size = size) (h5 : i.bytes = bytes) (h6 : z.cells.size = size) (h7 : 0 < size)
    (base n : Nat) (v : Value) (xs : List Value) (hs : a.eval s = v) (ho : w.ownsRow base e size v n xs) (hbase : base ≤ w.heap.size)
    (ad : Addr) (m c : Nat) (news : List Value) (hx : a.eval x = .slice (some ad) m c) (hn : news.length = m * size) (hc : ∀ j u, news[j]? = some u → w.cell? (ad.add j) = some u) (h1c : ∀ u ∈ news, u.oneCell' = true)
    (hm : 0 < m) (b1 : n + m ≤ maxLen) (b2 : (n + m) * bytes ≤ 140737488355328)
    (hK : ∀ v' w', Grew w w' v v' (n * size) → w'.ownsRow base e size v' (n + m) (xs ++ news) → wpList P ops Q rest (a.put o.dst v') w') :
    wpList P ops Q (o :: rest) a w := by
  have grew : ∀ v' w', w'.ownsRow w.heap.size e size v' (n + m) (xs ++ news) → w.grownBy w' none → Grew w w' v v' (n * size) ∧ w'.ownsRow base e size v' (n + m) (xs ++ news) := by
    intro v' w' r1 r2
    refine ⟨⟨⟨r2.os, r2.tape, r2.output, r2.size, fun k hk _ => r2.block k hk (by simp)⟩, fun g j hgv hj => ?_, fun a ha => World.frozen?_of_block (w := w) (r2.block _ ha (by simp)), ?_, fun g cur t hgv hq => ⟨cur, by rw [r2.block _ (ho.lt g hgv).2 (by simp), hq]⟩⟩, ?_⟩
    · have hlt : g < w.heap.size := (ho.lt g hgv).2
      exact World.cell?_of_block (w := w) (r2.block _ hlt (by simp))
    · rcases r1.2 with ⟨rfl, h0⟩ | ⟨g, cap, cur, rfl, hg2, _⟩
      · omega
      · exact .inr ⟨g, rfl, hg2⟩
    · refine ⟨r1.1, ?_⟩
      rcases r1.2 with h | ⟨g, cap, cur, hv, hg2, r⟩
      · exact .inl h
      · exact .inr ⟨g, cap, cur, hv, by omega, r⟩
  rcases ho.2 with ⟨rfl, rfl⟩ | ⟨g, cap, cur, rfl, hg2, hblk, hnc, hcm, hcs, htake⟩
  · have hx0 : xs = [] := by have := ho.1; simpa using this
    subst hx0
    refine wpList_append_grows w hg s x t hop e i z size bytes h1 h2 h3 h4 h5 h6 h7 none 0 0 [] hs (fun _ => ⟨rfl, rfl⟩) (by simp) (fun b hb => by cases hb) ad m c news hx hn hc h1c (by omega) b1 b2 ?_
    intro v' w' r1 r2
    obtain ⟨q1, q2⟩ := grew v' w' r1 r2
    exact hK v' w' q1 q2
  · have hcell : ∀ j u, xs[j]? = some u → w.cell? ⟨g, 0 + j, none⟩ = some u := by
      intro j u hj
      rw [blk_cell hblk, Nat.zero_add, ← hj, ← htake]
      have hjl : j < xs.length := by
        rcases Nat.lt_or_ge j xs.length with q | q
        · exact q
        · rw [List.getElem?_eq_none q] at hj; cases hj
      rw [List.getElem?_take, if_pos (by have := ho.1; omega)]
      simp
    refine wpList_append_arg w hg s x t hop e i z size bytes h1 h2 h3 h4 h5 h6 h7 g 0 n cap xs hs ho.1 hcell ad m c news hx hn hc h1c ?_ b1 b2 ?_ ?_
    · intro hroom j hj
      have hlt : 0 + n * size + j < cur.size := by
        have : (n + m) * size ≤ cap * size := Nat.mul_le_mul_right _ hroom
        rw [Nat.add_mul] at this; omega
      refine ⟨?_, blk_free hblk _⟩
      rw [blk_cell hblk, Array.getElem?_eq_getElem hlt]; rfl
    · intro hroom
      have hsz : 0 + n * size + news.length ≤ cur.size := by
        have : (n + m) * size ≤ cap * size := Nat.mul_le_mul_right _ hroom
        rw [Nat.add_mul] at this; omega
      obtain ⟨cur', e1, e2, e3⟩ := block_setCells g e news (0 + n * size) w cur hblk hsz
      refine hK _ _ ⟨grownBy_setCells g news _ w, fun g' j hv hj => ?_, fun y _ => World.frozen?_setCells g news _ w y, .inl rfl, fun g' cu t hv hq => by
        have : g = g' := by simpa [Value.ownBlock] using hv
        subst this
        rw [hblk] at hq; injection hq with hq; injection hq with _ q _; subst q; exact ⟨cur', e1⟩⟩ ⟨?_, .inr ⟨g, cap, cur', rfl, hg2, e1, hroom, hcm, by omega, ?_⟩⟩
      · have : g = g' := by simpa [Value.ownBlock] using hv
        subst this
        exact World.cell?_setCells_out g news _ w _ (fun _ _ => .inl (by dsimp only; omega))
      · rw [List.length_append, ho.1, hn, Nat.add_mul]
      · rw [Nat.add_mul, ← hn, ← Nat.zero_add (n * size), e3, Nat.zero_add, htake]
    · intro hfull v' w' r1 r2
      obtain ⟨q1, q2⟩ := grew v' w' r1 r2
      exact hK v' w' q1 q2
end Go.Proofs.YtiijgghholhcnaaGreatDoor
