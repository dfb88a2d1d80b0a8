/- strings.Builder with exact frames: WriteString, WriteByte, String. -/
import Derived.Test.YtiijgghholhcnaaGreatDoorJL04
import Derived.Test.YtiijgghholhcnaaGreatDoorJL05
import Derived.BigQuiet
import Derived.Deep.QuietTactic
import Derived.Tactics
import Derived.Tactics2
import Derived.Defers
import Derived.Laws.Pointers
import Derived.Laws.LoneSync
import Derived.RegionTactic
import Derived.RegionCalls
namespace Go.Proofs.YtiijgghholhcnaaGreatDoor
open Go.RowKit
set_option maxRecDepth 1000000
theorem cc_used (b : Nat) (w : World) (h : w.cell? ⟨b, 0, none⟩ = some (.pointer (some ⟨b, 0, none⟩))) : Calls Tryz.prog 177 #[.pointer (some ⟨b, 0, none⟩)] w fun e w' => e = .returned (.tuple #[]) ∧ w' = w :=
  Any.Builder_copyCheck_used { Tryz.wb_lays with } Tryz.wb_Extra.toX72 b w h
theorem cc_fresh (b : Nat) (w : World) (h : w.cell? ⟨b, 0, none⟩ = some (.pointer none)) (hs : w.shape? b = some (163, 2)) (hf : w.frozen? ⟨b, 0, none⟩ = false) : Calls Tryz.prog 177 #[.pointer (some ⟨b, 0, none⟩)] w fun e w' => e = .returned (.tuple #[]) ∧ w' = w.setCell ⟨b, 0, none⟩ (.pointer (some ⟨b, 0, none⟩)) :=
  Any.Builder_copyCheck_fresh { Tryz.wb_lays with } Tryz.wb_Extra.toX72 b w h hs hf
/-- the builder in block sb holds l -/
structure Bd (w : World) (sb : Nat) (v : Value) (l : List UInt8) : Prop where
  blk : w.heap[sb]? = some (.cells #[.pointer (some ⟨sb, 0, none⟩), v] 163)
  own : w.ownsRow (sb + 1) 5 1 v l.length (Go.Lib.strCells ⟨l.toArray⟩)
theorem Bd.le {w : World} {sb : Nat} {v : Value} {l : List UInt8} (h : Bd w sb v l) : sb + 1 ≤ w.heap.size := blk_lt h.blk
theorem Bd.only {S : Nat → Prop} {w w' : World} {sb : Nat} {v : Value} {l : List UInt8} (h : Bd w sb v l) (O : Only S w w') (h1 : ¬ S sb) (h2 : ∀ k, v.ownBlock = some k → ¬ S k) : Bd w' sb v l := ⟨O.blk h.blk h1, own_keepS h.own O h2⟩
theorem Bd.still {w w' : World} {sb : Nat} {v : Value} {l : List UInt8} (h : Bd w sb v l) (O : Only (fun _ => False) w w') : Bd w' sb v l := h.only O (fun e => e) (fun _ _ e => e)
theorem Bd.store {w : World} {sb : Nat} {v v' : Value} {l l' : List UInt8} (h : Bd w sb v l) {w' : World} (hg : w.grownBy w' v.ownBlock) (ho : w'.ownsRow (sb + 1) 5 1 v' l'.length (Go.Lib.strCells ⟨l'.toArray⟩))
    (hw : v'.ownBlock = v.ownBlock ∨ ∃ g, v'.ownBlock = some g ∧ w.heap.size ≤ g) : Bd (w'.setCell ⟨sb, 1, none⟩ v') sb v' l' ∧ Wrote w sb v v' (w'.setCell ⟨sb, 1, none⟩ v') := by
  have hpb : sb < w.heap.size := h.le
  have hne : ∀ k, v.ownBlock = some k → k ≠ sb := fun k hk => by have := (h.own.lt k hk).1; omega
  have hne' : ∀ k, v'.ownBlock = some k → k ≠ sb := fun k hk => by have := (ho.lt k hk).1; omega
  have O1 : Only (fun k => k = sb ∨ v.ownBlock = some k) w w' := (Only.refl _ w).grown hg (fun k hk => .inr (.inr hk))
  have hb1 : w'.heap[sb]? = some (.cells #[.pointer (some ⟨sb, 0, none⟩), v] 163) := by
    rw [hg.block sb hpb (fun e => hne sb e.symm rfl)]; exact h.blk
  have O2 : Only (fun k => k = sb) w' (w'.setCell ⟨sb, 1, none⟩ v') := (Only.refl (fun k => k = sb) w').setCell (p := ⟨sb, 1, none⟩) (.inr rfl) v'
  refine ⟨⟨?_, own_keepS ho O2 (fun k hk e => hne' k hk e)⟩, O1.trans (O2.mono (fun k _ e => .inl e)), hw⟩
  have := blk_set hb1 1 v'
  simpa using this
theorem Bd.kept {w : World} {sb : Nat} {v : Value} {l : List UInt8} (h : Bd w sb v l) {w' : World} (hg : w.grownBy w' v.ownBlock) : w'.cell? ⟨sb, 1, none⟩ = some v ∧ w'.frozen? ⟨sb, 1, none⟩ = false := by
  have hb : w'.heap[sb]? = some (.cells #[.pointer (some ⟨sb, 0, none⟩), v] 163) := by
    rw [hg.block sb h.le (fun e => by have := (h.own.lt sb e.symm).1; omega)]; exact h.blk
  exact ⟨by rw [blk_cell hb]; rfl, blk_free hb 1⟩
theorem Bd.alloc {w : World} {sb : Nat} {v : Value} {l : List UInt8} (h : Bd w sb v l) (o : Obj) : Bd (w.alloc o) sb v l := h.still ((Only.refl _ w).alloc o)
theorem wp_byte {ops : Array Oper} {rest : List Oper} {o : Oper} {a : Act} {Q : Exit → Act → World → Prop} {w : World} {B : Nat} {v : Value} {l : List UInt8} (y : UInt8)
    (hown : w.ownsRow B 5 1 v l.length (Go.Lib.strCells ⟨l.toArray⟩)) (hB : B ≤ w.heap.size) (hgd : o.guard = none) (sl x : Operand) (ho : o.op = .call { callee := .builtin .append, args := #[sl, x], argTypes := #[27, 27] })
    (hs : a.eval sl = v) (hx : a.eval x = .slice (some ⟨w.heap.size, 0, none⟩) 1 1) (hb : l.length + 1 ≤ 140737488355328)
    (h : ∀ p n c w', w'.ownsRow B 5 1 (.slice p n c) (l ++ [y]).length (Go.Lib.strCells ⟨(l ++ [y]).toArray⟩) → (w.alloc (.cells #[.int .u8 (y.toNat : Int)] 5)).grownBy w' v.ownBlock → ((Value.slice p n c).ownBlock = v.ownBlock ∨ ∃ g, (Value.slice p n c).ownBlock = some g ∧ (w.alloc (.cells #[.int .u8 (y.toNat : Int)] 5)).heap.size ≤ g) → wpList Tryz.prog ops Q rest (a.put o.dst (.slice p n c)) w') :
    wpList Tryz.prog ops Q (o :: rest) a (w.alloc (.cells #[.int .u8 (y.toNat : Int)] 5)) := by
  have hsz : w.heap.size ≤ (w.alloc (.cells #[.int .u8 (y.toNat : Int)] 5)).heap.size := ((Only.refl (fun _ => False) w).alloc _).size
  refine wpList_append_kept (w.alloc (.cells #[.int .u8 (y.toNat : Int)] 5)) hgd sl x 27 ho 5 Tryz.t5 (.int .u8 0) 1 1 Tryz.underlying27 hi5 hz5 hs5 hb5 rfl (by decide) B l.length v _ hs (hown.alloc _) (Nat.le_trans hB hsz) ⟨w.heap.size, 0, none⟩ 1 1 [.int .u8 (y.toNat : Int)] hx rfl ?_ (by simp [Value.oneCell']) (by decide) (by unfold maxLen; omega) (by omega) ?_
  · intro j u hu
    have ha : (⟨w.heap.size, 0, none⟩ : Addr).add j = ⟨w.heap.size, j, none⟩ := by unfold Addr.add; split <;> simp_all
    rw [ha, blk_cell (blk_new w _)]
    simpa using hu
  · intro v' w' hg ho'
    obtain ⟨p, n, c, rfl⟩ := own_slice ho'
    refine h p n c w' ?_ hg.grown hg.which
    rw [sc_app, List.length_append]
    have e : Go.Lib.strCells ⟨[y].toArray⟩ = [.int .u8 (y.toNat : Int)] := by simp [Go.Lib.strCells]
    rw [e]; exact ho'
theorem bd_string (sb : Nat) (v : Value) (l m : List UInt8) (w : World) (hP : Bd w sb v l) (hb : l.length + m.length ≤ 140737488355328) :
    Calls Tryz.prog 147 #[.pointer (some ⟨sb, 0, none⟩), .string ⟨m.toArray⟩] w fun e w' => (∃ r, e = .returned r) ∧ ∃ v', Bd w' sb v' (l ++ m) ∧ Wrote w sb v v' w' := by
  have HP := Lib.hid hP
  have KC := Lib.hid (cc_used sb w (by rw [blk_cell hP.blk]; rfl))
  have c1 : w.cell? ⟨sb, 1, none⟩ = some v := by rw [blk_cell hP.blk]; rfl
  obtain ⟨p1, n1, k1, rfl⟩ := own_slice hP.own
  clear hP
  go_enter Tryz.func147, Tryz.ntmps147
  go_wp2_with fail
  refine KC.out.mono ?_
  rintro e w1 ⟨rfl, hw⟩; rw [hw]; clear hw w1
  go_wp2_with (at_builtin; (refine wp_str HP.out.own HP.out.le rfl _ _ rfl (by simp [Act.eval]) (by simp [Act.eval]) hb ?_; intro p4 n4 c4 w4 ho4 hg4 hw4; have FC := HP.out.kept hg4; have FD := FC.1; have FE := FC.2; have HO4 := Lib.hid ho4; have HG4 := Lib.hid hg4; have HW4 := Lib.hid hw4; clear FC ho4 hg4 hw4))
  have HQ := Lib.hid (HP.out.store HG4.out HO4.out HW4.out)
  go_ret2
  exact ⟨⟨_, rfl⟩, _, HQ.out.1, HQ.out.2⟩
theorem bd_byte (sb : Nat) (v : Value) (l : List UInt8) (y : UInt8) (w : World) (hP : Bd w sb v l) (hb : l.length + 1 ≤ 140737488355328) :
    Calls Tryz.prog 148 #[.pointer (some ⟨sb, 0, none⟩), .int .u8 (y.toNat : Int)] w fun e w' => (∃ r, e = .returned r) ∧ ∃ v', Bd w' sb v' (l ++ [y]) ∧ Wrote w sb v v' w' := by
  have HP := Lib.hid hP
  have KC := Lib.hid (cc_used sb w (by rw [blk_cell hP.blk]; rfl))
  have c1 : w.cell? ⟨sb, 1, none⟩ = some v := by rw [blk_cell hP.blk]; rfl
  obtain ⟨p1, n1, k1, rfl⟩ := own_slice hP.own
  clear hP
  go_enter Tryz.func148, Tryz.ntmps148
  go_wp2_with fail
  refine KC.out.mono ?_
  rintro e w1 ⟨rfl, hw⟩; rw [hw]; clear hw w1
  go_wp2_with (at_builtin; (refine wp_byte y HP.out.own HP.out.le rfl _ _ rfl (by simp [Act.eval]) (by simp [Act.eval]) hb ?_; intro p4 n4 c4 w4 ho4 hg4 hw4; have FC := (HP.out.alloc (.cells #[.int .u8 (y.toNat : Int)] 5)).kept hg4; have FD := FC.1; have FE := FC.2; have HO4 := Lib.hid ho4; have HG4 := Lib.hid hg4; have HW4 := Lib.hid hw4; clear FC ho4 hg4 hw4))
  have HQ := Lib.hid ((HP.out.alloc (.cells #[.int .u8 (y.toNat : Int)] 5)).store HG4.out HO4.out HW4.out)
  go_ret
  exact ⟨⟨_, rfl⟩, _, HQ.out.1, HQ.out.2.ofAlloc⟩
/-- the first text of a new builder -/
theorem bd_first (w0 : World) (m : List UInt8) (w : World) (hw : w = w0.alloc (.cells #[.pointer none, .slice none 0 0] 163)) (hb : m.length ≤ 140737488355328) :
    Calls Tryz.prog 147 #[.pointer (some ⟨w0.heap.size, 0, none⟩), .string ⟨m.toArray⟩] w fun e w' => (∃ r, e = .returned r) ∧ ∃ v', Bd w' w0.heap.size v' m ∧ Only (fun _ => False) w0 w' := by
  have hq := blk_new w0 (.cells #[.pointer none, .slice none 0 0] 163)
  rw [← hw] at hq
  have hO : Only (fun _ => False) w0 w := by rw [hw]; exact (Only.refl _ _).alloc _
  have KC := Lib.hid (cc_fresh w0.heap.size w (by rw [blk_cell hq]; rfl) (by simp [World.shape?, hq]) (blk_free hq 0))
  have hq2 := blk_set hq 0 (.pointer (some ⟨w0.heap.size, 0, none⟩))
  have hP : Bd (w.setCell ⟨w0.heap.size, 0, none⟩ (.pointer (some ⟨w0.heap.size, 0, none⟩))) w0.heap.size (.slice none 0 0) [] := ⟨by simpa using hq2, rfl, .inl ⟨rfl, rfl⟩⟩
  have hO1 := Lib.hid (hO.setCell (p := ⟨w0.heap.size, 0, none⟩) (.inl (Nat.le_refl _)) (.pointer (some ⟨w0.heap.size, 0, none⟩)))
  clear hq hq2 hO hw
  generalize hsb : w0.heap.size = sb at *
  have HSB := Lib.hid hsb; clear hsb
  generalize w.setCell ⟨sb, 0, none⟩ (.pointer (some ⟨sb, 0, none⟩)) = wq at *
  have HP := Lib.hid hP
  have c1 : wq.cell? ⟨sb, 1, none⟩ = some (.slice none 0 0) := by rw [blk_cell hP.blk]; rfl
  have hb' : ([] : List UInt8).length + m.length ≤ 140737488355328 := by simpa using hb
  clear hP hb
  go_enter Tryz.func147, Tryz.ntmps147
  go_wp2_with fail
  refine KC.out.mono ?_
  rintro e w1 ⟨rfl, hw⟩; rw [hw]; clear hw w1 KC
  go_wp2_with (at_builtin; (refine wp_str HP.out.own HP.out.le rfl _ _ rfl (by simp [Act.eval]) (by simp [Act.eval]) hb' ?_; intro p4 n4 c4 w4 ho4 hg4 hw4; have FC := HP.out.kept hg4; have FD := FC.1; have FE := FC.2; have HO4 := Lib.hid ho4; have HG4 := Lib.hid hg4; have HW4 := Lib.hid hw4; clear FC ho4 hg4 hw4))
  have HQ := Lib.hid (HP.out.store HG4.out HO4.out HW4.out)
  go_ret2
  exact ⟨⟨_, rfl⟩, _, by simpa using HQ.out.1, hO1.out.seq2 HQ.out.2.only (fun i hi => by
    rcases hi with rfl | hi
    · exact .inl (Nat.le_of_eq HSB.out)
    · cases hi)⟩
theorem bd_done (w0 : World) (sb : Nat) (v : Value) (l : List UInt8) (w : World) (hP : Bd w sb v l) (h0 : l ≠ []) (hO : Only (fun _ => False) w0 w) (hs : w0.heap.size ≤ sb) :
    Calls Tryz.prog 149 #[.pointer (some ⟨sb, 0, none⟩)] w fun e w' => e = .returned (.string ⟨l.toArray⟩) ∧ Only (fun _ => False) w0 w' := by
  have hne : v.ownBlock ≠ some sb := fun e => by have := (hP.own.lt sb e).1; omega
  refine (Tryz.Builder_String sb sb l w (.inr ⟨Nat.le_refl _, v, hP.blk, ?_, hne⟩) h0).mono ?_
  · have e : Lib.byteCells l = Go.Lib.strCells ⟨l.toArray⟩ := by simp [Lib.byteCells, Go.Lib.strCells]
    have e2 : (Lib.byteCells l).length = l.length := by simp [Lib.byteCells]
    rw [e2, e]
    refine ⟨hP.own.1, ?_⟩
    rcases hP.own.2 with q | ⟨g, cap, cur, q1, q2, q3⟩
    · exact .inl q
    · exact .inr ⟨g, cap, cur, q1, by omega, q3⟩
  · rintro e w' ⟨rfl, hB⟩
    exact ⟨rfl, hB.os.trans hO.os, hB.tape.trans hO.tape, hB.output.trans hO.output, Nat.le_trans hO.size hB.size, fun k hk _ => (hB.block k (by omega)).trans (hO.block k hk (fun e => e))⟩
end Go.Proofs.YtiijgghholhcnaaGreatDoor

/- The walks of small numbers' texts. -/
namespace Go.Proofs.YtiijgghholhcnaaGreatDoor
open Go.RowKit
set_option maxRecDepth 1000000
/-- one digit -/
def dgS (n : Nat) : ByteArray := ⟨#[UInt8.ofNat (48 + n)]⟩
theorem dgS_size (n : Nat) : (dgS n).size = 1 := rfl
theorem small_n (n : Nat) (h : n < 10) (w : World) : Calls Tryz.prog 108 #[.int .i64 (n : Int)] w fun e w' => e = .returned (.string (dgS n)) ∧ w' = w := by
  have t1 : decide ((n : Int) < 10) = true := decide_eq_true (by omega)
  have e1 : (⟨#[48, 49, 50, 51, 52, 53, 54, 55, 56, 57, 97, 98, 99, 100, 101, 102, 103, 104, 105, 106, 107, 108, 109, 110, 111, 112, 113, 114, 115, 116, 117, 118, 119, 120, 121, 122]⟩ : ByteArray).extract n (n + 1) = dgS n := by
    match n, h with
    | 0, _ => rfl
    | 1, _ => rfl
    | 2, _ => rfl
    | 3, _ => rfl
    | 4, _ => rfl
    | 5, _ => rfl
    | 6, _ => rfl
    | 7, _ => rfl
    | 8, _ => rfl
    | 9, _ => rfl
    | n + 10, h => omega
  have E1 := Lib.hid e1; clear e1
  go_enter Tryz.func108, Tryz.ntmps108
  go_wp2_with fail
  go_ret
  refine ⟨?_, rfl⟩
  show Ending.returned (Value.string _) = _
  rw [E1.out]
theorem formatUint_n (n : Nat) (h : n < 10) (w : World) : Calls Tryz.prog 62 #[.int .u64 (n : Int), .int .i64 10] w fun e w' => e = .returned (.string (dgS n)) ∧ Only (fun _ => False) w w' := by
  have K := Lib.hid (fun w => small_n n h w)
  have t1 : decide ((n : Int) < 100) = true := decide_eq_true (by omega)
  go_enter Tryz.func62, Tryz.ntmps62
  go_wp2_with fail
  refine (K.out _).mono ?_
  rintro e w1 ⟨rfl, hw⟩; rw [hw]; clear hw w1
  go_wp2_with fail
  go_ret
  exact ⟨rfl, Only.refl _ w⟩
theorem fmtUint_n (n : Nat) (h : n < 10) (w : World) : Calls Tryz.prog 31 #[.int .u64 (n : Int), .int .i64 10] w fun e w' => e = .returned (.string (dgS n)) ∧ Only (fun _ => False) w w' := by
  have K := Lib.hid (fun w => formatUint_n n h w)
  go_enter Tryz.func31, Tryz.ntmps31
  go_wp2_with fail
  refine (K.out _).mono ?_
  rintro e w1 ⟨rfl, hO⟩
  have HO := Lib.hid hO; clear hO
  go_wp2_with fail
  go_ret
  exact ⟨rfl, HO.out⟩
theorem digits_n (n : Nat) (h : n < 10) (w : World) : Calls Tryz.prog 17 #[.int .u64 (n : Int)] w fun e w' => e = .returned (.string (dgS n)) ∧ Only (fun _ => False) w w' := by
  have K := Lib.hid (fun w => fmtUint_n n h w)
  go_enter Tryz.func17, Tryz.ntmps17
  go_wp2_with fail
  refine (K.out _).mono ?_
  rintro e w1 ⟨rfl, hO⟩
  have HO := Lib.hid hO; clear hO
  go_wp2_with fail
  go_ret
  exact ⟨rfl, HO.out⟩
theorem formatInt_n (n : Nat) (h : n < 10) (w : World) : Calls Tryz.prog 61 #[.int .i64 (n : Int), .int .i64 10] w fun e w' => e = .returned (.string (dgS n)) ∧ Only (fun _ => False) w w' := by
  have K := Lib.hid (fun w => small_n n h w)
  have t1 : decide ((0 : Int) ≤ (n : Int)) = true := decide_eq_true (by omega)
  have t2 : decide ((n : Int) < 100) = true := decide_eq_true (by omega)
  go_enter Tryz.func61, Tryz.ntmps61
  go_wp2_with fail
  refine (K.out _).mono ?_
  rintro e w1 ⟨rfl, hw⟩; rw [hw]; clear hw w1
  go_wp2_with fail
  go_ret
  exact ⟨rfl, Only.refl _ w⟩
theorem itoaI_n (n : Nat) (h : n < 10) (w : World) : Calls Tryz.prog 30 #[.int .i64 (n : Int)] w fun e w' => e = .returned (.string (dgS n)) ∧ Only (fun _ => False) w w' := by
  have K := Lib.hid (fun w => formatInt_n n h w)
  go_enter Tryz.func30, Tryz.ntmps30
  go_wp2_with fail
  refine (K.out _).mono ?_
  rintro e w1 ⟨rfl, hO⟩
  have HO := Lib.hid hO; clear hO
  go_wp2_with fail
  go_ret
  exact ⟨rfl, HO.out⟩
theorem itoa_n (n : Nat) (h : n < 10) (w : World) : Calls Tryz.prog 16 #[.int .i64 (n : Int)] w fun e w' => e = .returned (.string (dgS n)) ∧ Only (fun _ => False) w w' := by
  have K := Lib.hid (fun w => itoaI_n n h w)
  go_enter Tryz.func16, Tryz.ntmps16
  go_wp2_with fail
  refine (K.out _).mono ?_
  rintro e w1 ⟨rfl, hO⟩
  have HO := Lib.hid hO; clear hO
  go_wp2_with fail
  go_ret
  exact ⟨rfl, HO.out⟩
theorem size_n (n : Nat) (h : n < 10) (w : World) : Calls Tryz.prog 114 #[intV 0 n] w fun e w' => e = .returned (.tuple #[.int .u64 0, .int .u64 (n : Int)]) ∧ Only (fun _ => False) w w' := by
  unfold intV
  go_enter Tryz.func114, Tryz.ntmps114
  go_wp2_with fail
  go_quiet (fail)
  go_wp2_with fail
  go_ret2
  exact ⟨rfl, ((Only.refl _ w).alloc _).drewN _⟩
theorem widePrint_n (n : Nat) (h : n < 10) (w : World) : Calls Tryz.prog 64 #[intV 0 n] w fun e w' => e = .returned (.string (dgS n)) ∧ Only (fun _ => False) w w' := by
  have K := Lib.hid (fun w => fmtUint_n n h w)
  have K2 := Lib.hid (fun w => size_n n h w)
  have e1 := (show (⟨#[]⟩ : ByteArray) ++ dgS n = dgS n by
    apply ByteArray.ext
    simp [ByteArray.data_append])
  have hz := dgS_size n
  unfold intV at *
  generalize dgS n = S at *
  go_enter Tryz.func64, Tryz.ntmps64
  go_wp2_with fail
  have hb := blk_new w (.cells #[.int .i64 0, .int .u64 (n : Int)] 38)
  have hO := Lib.hid ((Only.refl (fun _ => False) w).alloc (.cells #[.int .i64 0, .int .u64 (n : Int)] 38))
  generalize w.alloc (.cells #[.int .i64 0, .int .u64 (n : Int)] 38) = w1 at *
  refine (K2.out _).mono ?_
  rintro e w2 ⟨rfl, hO2⟩
  have hb2 := hO2.blk hb (by simp)
  have HO2 := Lib.hid (hO.out.trans hO2)
  clear hb hO2 hO
  have c0 : w2.cell? ⟨w.heap.size, 0, none⟩ = some (.int .i64 0) := by rw [blk_cell hb2]; rfl
  clear hb2
  go_wp2_with fail
  refine (K.out _).mono ?_
  rintro e w3 ⟨rfl, hO3⟩
  have HO3 := Lib.hid (HO2.out.trans hO3); clear hO3 HO2
  go_wp2_with fail
  go_ret
  exact ⟨rfl, HO3.out⟩
end Go.Proofs.YtiijgghholhcnaaGreatDoor

/- The walks of sync.Once's first call (after the guide's worked one). -/
namespace Go.Proofs.YtiijgghholhcnaaGreatDoor
open Go.RowKit
set_option maxRecDepth 1000000
theorem disable (w : World) : (callFunc 218 #[]).run Tryz.prog w = .ok (.value (.tuple #[])) w := run_call_mark0 Tryz.func218 (by kernel_rfl) (by kernel_rfl) (by kernel_rfl) .disable (by kernel_rfl) w
theorem enable (w : World) : (callFunc 220 #[]).run Tryz.prog w = .ok (.value (.tuple #[])) w := run_call_mark0 Tryz.func220 (by kernel_rfl) (by kernel_rfl) (by kernel_rfl) .enable (by kernel_rfl) w
theorem acquire (a : Addr) (w : World) : (callFunc 221 #[.pointer (some a)]).run Tryz.prog w = .ok (.value (.tuple #[])) w := run_call_marked Tryz.func221 (by kernel_rfl) (by kernel_rfl) (by kernel_rfl) .acquire (by kernel_rfl) a w
theorem releaseMerge (a : Addr) (w : World) : (callFunc 223 #[.pointer (some a)]).run Tryz.prog w = .ok (.value (.tuple #[])) w := run_call_marked Tryz.func223 (by kernel_rfl) (by kernel_rfl) (by kernel_rfl) .releaseMerge (by kernel_rfl) a w
theorem store_deferred (a : Addr) (x : Value) (u : FrameMode) (w : World) (hc : w.cell? a = some x) (hz : w.frozen? a = false) :
    CallsD Tryz.prog 164 #[.pointer (some a), .bool true] u w fun e u' w' => u' = u ∧ (e = .returned (.tuple #[]) ∧ w' = w.drew.setCell a (.int .u32 1)) := by
  have hc' : w.drew.cell? a = some x := by go_simp
  have hz' : w.drew.frozen? a = false := by go_simp
  have hst := run_call_store (P := Tryz.prog) Tryz.func190 (by kernel_rfl) (by kernel_rfl) (by kernel_rfl) (by kernel_rfl) (k := .u32) (y := 1) hc' hz'
  go_enter_d Tryz.func164, Tryz.ntmps164
  go_wp2
  go_region_calls
  all_goals (go_end0; exact ⟨rfl, rfl⟩)
theorem unlock_deferred (a : Addr) (u : FrameMode) (w : World) (hc : w.cell? a = some (.int .i32 1)) (hz : w.frozen? a = false) :
    CallsD Tryz.prog 163 #[.pointer (some a)] u w fun e u' w' => u' = u ∧ (e = .returned (.tuple #[]) ∧ w' = w.setCell a (.int .i32 0)) := by
  have hd := disable
  have he := enable
  have hr := releaseMerge
  have hadd := run_call_add (P := Tryz.prog) Tryz.func224 (by kernel_rfl) (by kernel_rfl) (by kernel_rfl) .i32 (by kernel_rfl) (y := -1) (s := 0) hc hz (by simp [go_sem]; rfl)
  have hcv := run_convert_to_unsafe (P := Tryz.prog) (src := 243) (dst := 230) Tryz.underlying243 Tryz.underlying230 (by kernel_rfl) hc
  go_enter_d Tryz.func163, Tryz.ntmps163
  go_wp2
  go_end0
  go_wp2
  go_end0
  exact ⟨rfl, rfl⟩
theorem lock_free (a : Addr) (w : World) (hc : w.cell? a = some (.int .i32 0)) (hz : w.frozen? a = false) :
    Calls Tryz.prog 162 #[.pointer (some a)] w fun e w' => e = .returned (.tuple #[]) ∧ w' = w.setCell a (.int .i32 1) := by
  have hd := disable
  have he := enable
  have ha := acquire
  have hcas := run_call_cas_hit (P := Tryz.prog) Tryz.func219 (by kernel_rfl) (by kernel_rfl) (by kernel_rfl) .i32 (by kernel_rfl) (y := 1) hc hz
  have hc' : (w.setCell a (.int .i32 1)).cell? a = some (.int .i32 1) := World.cell?_setCell_same w a _ hc
  have hcv := run_convert_to_unsafe (P := Tryz.prog) (src := 243) (dst := 230) Tryz.underlying243 Tryz.underlying230 (by kernel_rfl) hc'
  go_enter Tryz.func162, Tryz.ntmps162
  go_wp2
  first | go_end0 | (simp only [Exit.inBlock, Exit.then]; refine bodyPost_ret (results_none rfl _ _ _) rfl ?_) | refine bodyPost_ret (results_none rfl _ _ _) rfl ?_
  go_wp2
  go_end0
  exact ⟨rfl, rfl⟩
end Go.Proofs.YtiijgghholhcnaaGreatDoor

/- The walks of sync.Once's first call: doSlow, Do. -/
namespace Go.Proofs.YtiijgghholhcnaaGreatDoor
open Go.RowKit
set_option maxRecDepth 1000000
theorem load_0 (b : Nat) (w : World) (hc : w.cell? ⟨b, 0, none⟩ = some (.int .u32 0)) : Calls Tryz.prog 120 #[.pointer (some ⟨b, 0, none⟩)] w fun e w' => e = .returned (.bool false) ∧ w' = w := by
  have hl := run_call_load (P := Tryz.prog) Tryz.func161 (by kernel_rfl) (by kernel_rfl) (by kernel_rfl) .u32 (by kernel_rfl) hc
  go_enter Tryz.func120, Tryz.ntmps120
  go_wp2_with fail
  go_ret
  exact ⟨rfl, rfl⟩
/-- the function that is done once: it leaves the lock held, done not yet told -/
def Dn (b : Nat) (R : World → Prop) (e : Ending) (w : World) : Prop :=
  e = .returned (.tuple #[]) ∧ w.cell? ⟨b, 0, none⟩ = some (.int .u32 0) ∧ w.cell? ⟨b, 1, none⟩ = some (.int .i32 1) ∧ w.frozen? ⟨b, 0, none⟩ = false ∧ w.frozen? ⟨b, 1, none⟩ = false ∧ R w
def Ov (b : Nat) (R : World → Prop) (e : Ending) (w : World) : Prop :=
  e = .returned (.tuple #[]) ∧ ∃ w1, R w1 ∧ w = (w1.drew.setCell ⟨b, 0, none⟩ (.int .u32 1)).setCell ⟨b, 1, none⟩ (.int .i32 0)
set_option maxHeartbeats 1600000 in
theorem slow_calls (b : Nat) (R : World → Prop) (w : World) (h0 : w.cell? ⟨b, 0, none⟩ = some (.int .u32 0)) (h1 : w.cell? ⟨b, 1, none⟩ = some (.int .i32 0))
    (_f0 : w.frozen? ⟨b, 0, none⟩ = false) (f1 : w.frozen? ⟨b, 1, none⟩ = false)
    (K : Calls Tryz.prog 69 #[.pointer (some ⟨b, 0, none⟩)] (w.setCell ⟨b, 1, none⟩ (.int .i32 1)) (Dn b R)) :
    Calls Tryz.prog 121 #[.pointer (some ⟨b, 0, none⟩), .func (Fn.func 69) #[.pointer (some ⟨b, 0, none⟩)] #[]] w (Ov b R) := by
  have h01 : (w.setCell ⟨b, 1, none⟩ (.int .i32 1)).cell? ⟨b, 0, none⟩ = some (.int .u32 0) := (World.cell?_setCell_other _ ⟨b, 1, none⟩ ⟨b, 0, none⟩ _ (by simp)).trans h0
  have HK := Lib.hid K; clear K
  go_enter_defers Tryz.func121, Tryz.ntmps121
  go_wp2_with (go_at_call 162; refine (lock_free ⟨b, 1, none⟩ _ (by go_simp) (by go_simp)).mono ?_; rintro e w' ⟨rfl, rfl⟩)
  refine (load_0 b _ h01).mono ?_
  rintro e w1 ⟨rfl, hw⟩; rw [hw]; clear hw w1
  go_wp2_with fail
  refine HK.out.mono ?_
  rintro e w1 ⟨rfl, q0, q1, z0, z1, hR⟩
  have HRR := Lib.hid hR
  have Q0 := Lib.hid q0; have Q1 := Lib.hid q1; have Z0 := Lib.hid z0; have Z1 := Lib.hid z1
  clear hR HK q0 q1 z0 z1
  go_wp2_with fail
  refine leaves_cons (f := 164) (args := #[.pointer (some ⟨b, 0, none⟩), .bool true]) (by simp) (by simp [go_sem]) ?_
  refine (store_deferred ⟨b, 0, none⟩ (.int .u32 0) .returning _ Q0.out Z0.out).mono ?_
  rintro e u' w'' ⟨rfl, rfl, rfl⟩
  refine leaves_cons (f := 163) (args := #[.pointer (some ⟨b, 1, none⟩)]) (by simp [settle]) (by simp [go_sem]) ?_
  refine (unlock_deferred ⟨b, 1, none⟩ _ _ ((World.cell?_setCell_other _ ⟨b, 0, none⟩ ⟨b, 1, none⟩ _ (by simp)).trans (by rw [World.cell?_drew]; exact Q1.out)) (by simp [Z1.out])).mono ?_
  rintro e u' w'' ⟨rfl, rfl, rfl⟩
  have HO : Ov b R (.returned (.tuple #[])) ((w1.drew.setCell ⟨b, 0, none⟩ (.int .u32 1)).setCell ⟨b, 1, none⟩ (.int .i32 0)) := ⟨rfl, w1, HRR.out, rfl⟩
  simp [Leaves, settle, results, Tryz.results121]
  exact HO
set_option maxHeartbeats 1600000 in
theorem do_calls (b : Nat) (R : World → Prop) (w : World) (h0 : w.cell? ⟨b, 0, none⟩ = some (.int .u32 0)) (h1 : w.cell? ⟨b, 1, none⟩ = some (.int .i32 0))
    (_f0 : w.frozen? ⟨b, 0, none⟩ = false) (f1 : w.frozen? ⟨b, 1, none⟩ = false)
    (K : Calls Tryz.prog 69 #[.pointer (some ⟨b, 0, none⟩)] (w.setCell ⟨b, 1, none⟩ (.int .i32 1)) (Dn b R)) :
    Calls Tryz.prog 68 #[.pointer (some ⟨b, 0, none⟩), .func (Fn.func 69) #[.pointer (some ⟨b, 0, none⟩)] #[]] w (Ov b R) := by
  have S := Lib.hid (slow_calls b R w h0 h1 _f0 f1 K)
  have H0 := Lib.hid h0
  clear K h1 _f0 f1
  go_enter Tryz.func68, Tryz.ntmps68
  go_wp2_with fail
  refine (load_0 b _ H0.out).mono ?_
  rintro e w1 ⟨rfl, hw⟩; rw [hw]; clear hw w1
  go_wp2_with fail
  refine S.out.mono ?_
  rintro e w1 ⟨rfl, hR⟩
  have HR := Lib.hid hR; clear hR S
  go_wp2_with fail
  go_end0
  exact ⟨rfl, HR.out⟩
end Go.Proofs.YtiijgghholhcnaaGreatDoor
