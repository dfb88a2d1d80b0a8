/- The walk of (*page).line at any pieces. -/
import Derived.Test.YtiijgghholhcnaaGreatDoorChs
import Derived.Lib.AppendStr
namespace Go.Proofs.YtiijgghholhcnaaGreatDoor
open Go.RowKit
set_option maxRecDepth 1000000
theorem hi5 : Tryz.prog.info? 5 = some Tryz.t5 := by kernel_rfl
theorem hz5 : Tryz.t5.zero = some (.int .u8 0) := by kernel_rfl
theorem hs5 : Tryz.t5.size = 1 := by kernel_rfl
theorem hb5 : Tryz.t5.bytes = 1 := by kernel_rfl
/-- the page in block pb, its row at or behind block B -/
structure Pg (w : World) (pb B : Nat) (prec : Int) (v : Value) (l : List UInt8) : Prop where
  blk : w.heap[pb]? = some (.cells #[v, .int .i64 prec] 52)
  own : w.ownsRow B 5 1 v l.length (Go.Lib.strCells ⟨l.toArray⟩)
  lt : pb < B
  le : B ≤ w.heap.size
theorem Pg.alloc {w : World} {pb B : Nat} {prec : Int} {v : Value} {l : List UInt8} (h : Pg w pb B prec v l) (o : Obj) : Pg (w.alloc o) pb B prec v l :=
  ⟨by have := ((Only.refl (fun _ => False) w).alloc o).blk h.blk (by simp); exact this, h.own.alloc o, h.lt, Nat.le_trans h.le ((Only.refl (fun _ => False) w).alloc o).size⟩
theorem sc_len (l : List UInt8) : (Go.Lib.strCells ⟨l.toArray⟩).length = l.length := by simp [Go.Lib.strCells]
theorem sc_app (l m : List UInt8) : Go.Lib.strCells ⟨(l ++ m).toArray⟩ = Go.Lib.strCells ⟨l.toArray⟩ ++ Go.Lib.strCells ⟨m.toArray⟩ := by simp [Go.Lib.strCells]
/-- what was written -/
structure Wrote (w0 : World) (pb : Nat) (v0 v : Value) (w : World) : Prop where
  only : Only (fun k => k = pb ∨ v0.ownBlock = some k) w0 w
  which : v.ownBlock = v0.ownBlock ∨ ∃ g, v.ownBlock = some g ∧ w0.heap.size ≤ g
theorem Wrote.refl (w : World) (pb : Nat) (v : Value) : Wrote w pb v v w := ⟨Only.refl _ w, .inl rfl⟩
theorem Wrote.trans {w0 w1 w2 : World} {pb : Nat} {v0 v1 v2 : Value} (h : Wrote w0 pb v0 v1 w1) (k : Wrote w1 pb v1 v2 w2) : Wrote w0 pb v0 v2 w2 := by
  refine ⟨h.only.seq2 k.only (fun i hi => ?_), ?_⟩
  · rcases hi with rfl | hi
    · exact .inr (.inl rfl)
    · rcases h.which with e | ⟨g, e, hg⟩
      · exact .inr (.inr (by rw [← e]; exact hi))
      · rw [e] at hi; cases hi; exact .inl hg
  · rcases k.which with e | ⟨g, e, hg⟩
    · rw [e]; exact h.which
    · exact .inr ⟨g, e, Nat.le_trans h.only.size hg⟩
theorem str_which {w w' : World} {base : Nat} {v v' : Value} {n : Nat} {xs : List Value} {ty : TypeId} {S : ByteArray} (hown : w.ownsRow base 5 1 v n xs) (hb : n + S.size ≤ 140737488355328)
    (hr : (Builtin.append_ #[27, 9] ty #[v, .string S]).run Tryz.prog w = .ok v' w') (h4 : v' = .slice none 0 0 ↔ v = .slice none 0 0 ∧ S.size = 0) : v'.ownBlock = v.ownBlock ∨ ∃ g, v'.ownBlock = some g ∧ w.heap.size ≤ g := by
  have hx := hown.1
  rcases hown.2 with ⟨rfl, rfl⟩ | ⟨g, cap, cur, rfl, hbg, hg, hnc, hcm, hcs, htake⟩
  · by_cases hm : S.size = 0
    · left; rw [h4.2 ⟨rfl, hm⟩]
    · right
      have h2 := run_append_nil_string (P := Tryz.prog) w 27 9 ty 5 Tryz.t5 (.int .u8 0) Tryz.underlying27 Tryz.underlying9 hi5 hz5 S (by omega) (by omega) (by rw [hb5]; omega)
      rw [hr] at h2
      injection h2 with h3 _
      exact ⟨w.heap.size, by rw [h3]; rfl, Nat.le_refl _⟩
  · by_cases hroom : n + S.size ≤ cap
    · left
      have h2 := Go.Lib.run_append_room_string (P := Tryz.prog) w 27 9 ty 5 Tryz.t5 Tryz.underlying27 Tryz.underlying9 hi5 hs5 g n cap cur hg S hroom (by omega)
      rw [hr] at h2
      injection h2 with h3 _
      rw [h3]; rfl
    · right
      have holds : ∀ j u, xs[j]? = some u → w.cell? ((⟨g, 0, none⟩ : Addr).add j) = some u := hown.cells (g := g) rfl
      have h2 := Go.Lib.run_append_grow_string (P := Tryz.prog) w 27 9 ty 5 Tryz.t5 (.int .u8 0) Tryz.underlying27 Tryz.underlying9 hi5 hz5 ⟨g, 0, none⟩ n cap xs (by rw [hs5]; simpa using hx) holds S (by omega) (by omega) (by rw [hb5]; exact growslice_fits (by omega) (by omega))
      rw [hr] at h2
      injection h2 with h3 _
      exact ⟨w.heap.size, by rw [h3]; rfl, Nat.le_refl _⟩
theorem own_slice {w : World} {B e z n : Nat} {v : Value} {xs : List Value} (h : w.ownsRow B e z v n xs) : ∃ p m c, v = .slice p m c := by
  rcases h.2 with ⟨rfl, _⟩ | ⟨g, cap, cur, rfl, _⟩
  · exact ⟨_, _, _, rfl⟩
  · exact ⟨_, _, _, rfl⟩
theorem wp_str {ops : Array Oper} {rest : List Oper} {o : Oper} {a : Act} {Q : Exit → Act → World → Prop} {w : World} {B : Nat} {v : Value} {l m : List UInt8}
    (hown : w.ownsRow B 5 1 v l.length (Go.Lib.strCells ⟨l.toArray⟩)) (hB : B ≤ w.heap.size) (hgd : o.guard = none) (sl x : Operand) (ho : o.op = .call { callee := .builtin .append, args := #[sl, x], argTypes := #[27, 9] })
    (hs : a.eval sl = v) (hx : a.eval x = .string ⟨m.toArray⟩) (hb : l.length + m.length ≤ 140737488355328)
    (h : ∀ p n c w', w'.ownsRow B 5 1 (.slice p n c) (l ++ m).length (Go.Lib.strCells ⟨(l ++ m).toArray⟩) → w.grownBy w' v.ownBlock → ((Value.slice p n c).ownBlock = v.ownBlock ∨ ∃ g, (Value.slice p n c).ownBlock = some g ∧ w.heap.size ≤ g) → wpList Tryz.prog ops Q rest (a.put o.dst (.slice p n c)) w') : wpList Tryz.prog ops Q (o :: rest) a w := by
  have hz : (⟨m.toArray⟩ : ByteArray).size = m.length := rfl
  refine wpList_plain hgd fun K hK => ?_
  obtain ⟨v', w', hr, h2, h3, h4⟩ := Go.Lib.run_append_own_string (P := Tryz.prog) w B 27 9 o.type 5 Tryz.t5 Tryz.underlying27 Tryz.underlying9 hi5 hz5 hs5 hb5 v l.length _ hown ⟨m.toArray⟩ (by rw [hz]; unfold maxLen; omega) (by rw [hz]; exact hb) hB
  have hw := str_which hown (by rw [hz]; exact hb) hr h4
  rw [hz, ← sc_app, ← List.length_append] at h2
  obtain ⟨p, n, c, rfl⟩ := own_slice h2
  unfold Oper.wp execOp
  simp only [ho, resolve, invoke, builtin, Sem.run_bind, Sem.run_pure, Result.andThen_ok, List.map_toArray, List.map_cons, List.map_nil, hs, hx, hr]
  exact hK _ _ (h p n c w' h2 h3 hw)
end Go.Proofs.YtiijgghholhcnaaGreatDoor
