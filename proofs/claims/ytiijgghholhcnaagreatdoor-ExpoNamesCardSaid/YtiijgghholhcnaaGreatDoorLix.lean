/- The walk of (*page).line at any pieces: it. -/
import Derived.Test.YtiijgghholhcnaaGreatDoorLin
namespace Go.Proofs.YtiijgghholhcnaaGreatDoor
open Go.RowKit
set_option maxRecDepth 1000000
theorem own_keepS {S : Nat → Prop} {w w' : World} {base e size n : Nat} {v : Value} {xs : List Value} (h : w.ownsRow base e size v n xs) (O : Only S w w') (hS : ∀ k, v.ownBlock = some k → ¬ S k) : w'.ownsRow base e size v n xs := by
  refine ⟨h.1, ?_⟩
  rcases h.2 with h | ⟨g, cap, cur, e1, e2, e3, r⟩
  · exact .inl h
  · exact .inr ⟨g, cap, cur, e1, e2, O.blk e3 (hS g (by rw [e1]; rfl)), r⟩
/-- the first pieces joined -/
def jn (ss : Nat → List UInt8) : Nat → List UInt8
  | 0 => []
  | k + 1 => jn ss k ++ ss k
theorem Pg.store {w : World} {pb B : Nat} {prec : Int} {v v' : Value} {l l' : List UInt8} (h : Pg w pb B prec v l) {w' : World} (hg : w.grownBy w' v.ownBlock) (ho : w'.ownsRow B 5 1 v' l'.length (Go.Lib.strCells ⟨l'.toArray⟩))
    (hw : v'.ownBlock = v.ownBlock ∨ ∃ g, v'.ownBlock = some g ∧ w.heap.size ≤ g) : Pg (w'.setCell ⟨pb, 0, none⟩ v') pb B prec v' l' ∧ Wrote w pb v v' (w'.setCell ⟨pb, 0, none⟩ v') := by
  have hpb : pb < w.heap.size := Nat.lt_of_lt_of_le h.lt h.le
  have hne : ∀ k, v.ownBlock = some k → k ≠ pb := fun k hk => by have := (h.own.lt k hk).1; have := h.lt; omega
  have hne' : ∀ k, v'.ownBlock = some k → k ≠ pb := fun k hk => by have := (ho.lt k hk).1; have := h.lt; omega
  have O1 : Only (fun k => k = pb ∨ v.ownBlock = some k) w w' := (Only.refl _ w).grown hg (fun k hk => .inr (.inr hk))
  have hb1 : w'.heap[pb]? = some (.cells #[v, .int .i64 prec] 52) := by
    rw [hg.block pb hpb (fun e => hne pb e.symm rfl)]; exact h.blk
  have O2 : Only (fun k => k = pb) w' (w'.setCell ⟨pb, 0, none⟩ v') := (Only.refl (fun k => k = pb) w').setCell (p := ⟨pb, 0, none⟩) (.inr rfl) v'
  refine ⟨⟨?_, own_keepS ho O2 (fun k hk e => hne' k hk e), h.lt, Nat.le_trans h.le (Nat.le_trans O1.size O2.size)⟩, O1.trans (O2.mono (fun k _ e => .inl e)), hw⟩
  have := blk_set hb1 0 v'
  simpa using this
theorem Pg.kept {w : World} {pb B : Nat} {prec : Int} {v : Value} {l : List UInt8} (h : Pg w pb B prec v l) {w' : World} (hg : w.grownBy w' v.ownBlock) : w'.heap[pb]? = some (.cells #[v, .int .i64 prec] 52) := by
  have hpb : pb < w.heap.size := Nat.lt_of_lt_of_le h.lt h.le
  rw [hg.block pb hpb (fun e => by have := (h.own.lt pb e.symm).1; have := h.lt; omega)]; exact h.blk
theorem Pg.freez {w : World} {pb B : Nat} {prec : Int} {v : Value} {l : List UInt8} (h : Pg w pb B prec v l) {w' : World} (hg : w.grownBy w' v.ownBlock) : w'.frozen? ⟨pb, 0, none⟩ = false := blk_free (h.kept hg) 0
theorem Pg.both {w : World} {pb B : Nat} {prec : Int} {v : Value} {l : List UInt8} (h : Pg w pb B prec v l) {w' : World} (hg : w.grownBy w' v.ownBlock) : w'.cell? ⟨pb, 0, none⟩ = some v ∧ w'.frozen? ⟨pb, 0, none⟩ = false := ⟨by rw [blk_cell (h.kept hg)]; rfl, h.freez hg⟩
theorem wp_nl {ops : Array Oper} {rest : List Oper} {o : Oper} {a : Act} {Q : Exit → Act → World → Prop} {w : World} {B : Nat} {v : Value} {l : List UInt8}
    (hown : w.ownsRow B 5 1 v l.length (Go.Lib.strCells ⟨l.toArray⟩)) (hB : B ≤ w.heap.size) (hgd : o.guard = none) (sl x : Operand) (ho : o.op = .call { callee := .builtin .append, args := #[sl, x], argTypes := #[27, 27] })
    (hs : a.eval sl = v) (hx : a.eval x = .slice (some ⟨w.heap.size, 0, none⟩) 1 1) (hb : l.length + 1 ≤ 140737488355328)
    (h : ∀ p n c w', w'.ownsRow B 5 1 (.slice p n c) (l ++ [10]).length (Go.Lib.strCells ⟨(l ++ [10]).toArray⟩) → (w.alloc (.cells #[.int .u8 10] 5)).grownBy w' v.ownBlock → ((Value.slice p n c).ownBlock = v.ownBlock ∨ ∃ g, (Value.slice p n c).ownBlock = some g ∧ (w.alloc (.cells #[.int .u8 10] 5)).heap.size ≤ g) → wpList Tryz.prog ops Q rest (a.put o.dst (.slice p n c)) w') :
    wpList Tryz.prog ops Q (o :: rest) a (w.alloc (.cells #[.int .u8 10] 5)) := by
  have hsz : w.heap.size ≤ (w.alloc (.cells #[.int .u8 10] 5)).heap.size := ((Only.refl (fun _ => False) w).alloc _).size
  refine wpList_append_kept (w.alloc (.cells #[.int .u8 10] 5)) hgd sl x 27 ho 5 Tryz.t5 (.int .u8 0) 1 1 Tryz.underlying27 hi5 hz5 hs5 hb5 rfl (by decide) B l.length v _ hs (hown.alloc _) (Nat.le_trans hB hsz) ⟨w.heap.size, 0, none⟩ 1 1 [.int .u8 10] hx rfl ?_ (by simp [Value.oneCell']) (by decide) (by unfold maxLen; omega) (by omega) ?_
  · intro j u hu
    have ha : (⟨w.heap.size, 0, none⟩ : Addr).add j = ⟨w.heap.size, j, none⟩ := by unfold Addr.add; split <;> simp_all
    rw [ha, blk_cell (blk_new w _)]
    simpa using hu
  · intro v' w' hg ho'
    obtain ⟨p, n, c, rfl⟩ := own_slice ho'
    refine h p n c w' ?_ hg.grown hg.which
    rw [sc_app, List.length_append]; exact ho'
theorem Wrote.ofAlloc {w w' : World} {o : Obj} {pb : Nat} {v v' : Value} (h : Wrote (w.alloc o) pb v v' w') : Wrote w pb v v' w' := by
  have O := (Only.refl (fun k => k = pb ∨ v.ownBlock = some k) w).alloc o
  refine ⟨O.trans h.only, ?_⟩
  rcases h.which with e | ⟨g, e, hg⟩
  · exact .inl e
  · exact .inr ⟨g, e, Nat.le_trans O.size hg⟩
theorem Pg.both' {w : World} {pb B : Nat} {prec : Int} {v : Value} {l : List UInt8} (h : Pg w pb B prec v l) {o : Obj} {w' : World} (hg : (w.alloc o).grownBy w' v.ownBlock) : w'.cell? ⟨pb, 0, none⟩ = some v ∧ w'.frozen? ⟨pb, 0, none⟩ = false := (h.alloc o).both hg
/-- pieces that came in -/
structure Pcs (w : World) (sb k : Nat) (ss : Nat → List UInt8) : Prop where
  at' : ∀ i, i < k → w.cell? ⟨sb, i, none⟩ = some (.string ⟨(ss i).toArray⟩)
  lt : sb < w.heap.size
def LnR (w0 : World) (pb B k : Nat) (prec : Int) (v : Value) (l : List UInt8) (ss : Nat → List UInt8) (v8 : Value) (w : World) : Prop :=
  ∃ (i : Nat) (v1 : Value), v8 = .int .i64 (i : Int) ∧ i ≤ k ∧ Pg w pb B prec v1 (l ++ jn ss i) ∧ Wrote w0 pb v v1 w
theorem jn_le {ss : Nat → List UInt8} {k : Nat} : ∀ {i : Nat}, i ≤ k → (jn ss i).length ≤ (jn ss k).length := by
  induction k with
  | zero => intro i hi; rw [show i = 0 by omega]; exact Nat.le_refl _
  | succ k ih =>
    intro i hi
    rcases Nat.lt_or_ge k i with g | g
    · rw [show i = k + 1 by omega]; exact Nat.le_refl _
    · have := ih g
      rw [jn, List.length_append]; omega
set_option maxHeartbeats 4000000 in
theorem line_calls (pb B sb k cap : Nat) (prec : Int) (v : Value) (l : List UInt8) (ss : Nat → List UInt8) (w : World) (hk : k ≤ 1000000) (hP : Pg w pb B prec v l) (hS : Pcs w sb k ss) (h1 : sb ≠ pb) (h2 : v.ownBlock ≠ some sb)
    (hb : l.length + (jn ss k).length + 1 ≤ 140737488355328) :
    Calls Tryz.prog 15 #[.pointer (some ⟨pb, 0, none⟩), .slice (some ⟨sb, 0, none⟩) k cap] w fun en w' => en = .returned (.tuple #[]) ∧ ∃ v', Pg w' pb B prec v' (l ++ jn ss k ++ [10]) ∧ Wrote w pb v v' w' := by
  have HP := Lib.hid hP; have HS := Lib.hid hS
  clear hP hS
  go_enter Tryz.func15, Tryz.ntmps15
  go_wp2_with fail
  go_loopw [8] (fun v8 wr => LnR w pb B k prec v l ss v8 wr) (fun v8 _ => k - (intOf v8).toNat)
  case atStart => exact ⟨0, v, rfl, Nat.zero_le _, by rw [jn, List.append_nil]; exact HP.out, Wrote.refl _ _ _⟩
  case round =>
    obtain ⟨i, v1, rfl, hi, hP1, hW1⟩ := hrel
    obtain ⟨p1, n1, c1, rfl⟩ := own_slice hP1.own
    have HP1 := Lib.hid hP1; have HW1 := Lib.hid hW1
    have c0 : wr.cell? ⟨pb, 0, none⟩ = some (.slice p1 n1 c1) := by rw [blk_cell hP1.blk]; rfl
    have f0 : wr.frozen? ⟨pb, 0, none⟩ = false := blk_free hP1.blk 0
    by_cases h : i < k
    · have t1 : decide ((i : Int) < (k : Int)) = true := decide_eq_true (by omega)
      have cs : wr.cell? ⟨sb, i, none⟩ = some (.string ⟨(ss i).toArray⟩) := by
        rw [hW1.only.cellAt HS.out.lt (by rintro (e | e); exact h1 e; exact h2 e)]; exact HS.out.at' i h
      have hle : (jn ss (i + 1)).length ≤ (jn ss k).length := jn_le (by omega)
      rw [jn, List.length_append] at hle
      have hlb : (l ++ jn ss i).length + (ss i).length ≤ 140737488355328 := by rw [List.length_append]; omega
      clear hP1 hW1 hle
      go_wp2_with (at_builtin; (refine wp_str HP1.out.own (Nat.le_trans HP1.out.le (Nat.le_refl _)) rfl _ _ rfl (by simp [Act.eval]) (by simp [Act.eval]) hlb ?_; intro p4 n4 c4 w4 ho4 hg4 hw4; have FC := HP1.out.both hg4; have FD := FC.1; have FE := FC.2; have HO4 := Lib.hid ho4; have HG4 := Lib.hid hg4; have HW4 := Lib.hid hw4; clear FC ho4 hg4 hw4))
      have HQ := Lib.hid (HP1.out.store HG4.out HO4.out HW4.out)
      refine ⟨⟨i + 1, .slice p4 n4 c4, congrArg (Value.int .i64) (by omega), by omega, ?_, HW1.out.trans HQ.out.2⟩, by simp only [intOf]; omega⟩
      have := HQ.out.1
      rw [List.append_assoc] at this
      exact this
    · obtain rfl : i = k := by omega
      have t1 : decide ((i : Int) < (i : Int)) = false := decide_eq_false (by omega)
      have hlb : (l ++ jn ss i).length + 1 ≤ 140737488355328 := by rw [List.length_append]; omega
      clear hP1 hW1
      go_wp2_with (at_builtin; (refine wp_nl HP1.out.own HP1.out.le rfl _ _ rfl (by simp [Act.eval]) (by simp [Act.eval]) hlb ?_; intro p4 n4 c4 w4 ho4 hg4 hw4; have FC := HP1.out.both' hg4; have FD := FC.1; have FE := FC.2; have HO4 := Lib.hid ho4; have HG4 := Lib.hid hg4; have HW4 := Lib.hid hw4; clear FC ho4 hg4 hw4))
      have HQ := Lib.hid ((HP1.out.alloc (.cells #[.int .u8 10] 5)).store HG4.out HO4.out HW4.out)
      go_end0
      exact ⟨rfl, .slice p4 n4 c4, HQ.out.1, HW1.out.trans HQ.out.2.ofAlloc⟩
end Go.Proofs.YtiijgghholhcnaaGreatDoor
