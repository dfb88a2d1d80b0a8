/- Bytes that are appended to a row of the caller's. -/
import Derived.Test.YthjfdhkahmlolaaGreatDoorGrow
import Derived.Test.YthjfdhkahmlolaaGreatDoorDig
namespace Go.Proofs.YthjfdhkahmlolaaGreatDoor
open Go.RowKit

structure Ap (w0 : World) (B : Nat) (d0 v : Value) (l : List Value) (wr : World) : Prop where
  only : Only (fun k => d0.ownBlock = some k) w0 wr
  own : wr.ownsRow B 5 1 v l.length l
  which : v.ownBlock = d0.ownBlock ∨ ∃ g, v.ownBlock = some g ∧ w0.heap.size ≤ g
theorem own_keepS {S : Nat → Prop} {w w' : World} {base e size n : Nat} {v : Value} {xs : List Value} (h : w.ownsRow base e size v n xs) (O : Only S w w') (hS : ∀ k, v.ownBlock = some k → ¬ S k) : w'.ownsRow base e size v n xs := by
  refine ⟨h.1, ?_⟩
  rcases h.2 with h | ⟨g, cap, cur, e1, e2, e3, r⟩
  · exact .inl h
  · exact .inr ⟨g, cap, cur, e1, e2, O.blk e3 (hS g (by rw [e1]; rfl)), r⟩
theorem Ap.start {w0 : World} {B : Nat} {d0 : Value} (h : w0.ownsRow B 5 1 d0 0 []) : Ap w0 B d0 d0 [] w0 := ⟨Only.refl _ _, h, .inl rfl⟩
theorem Ap.alloc {w0 : World} {B : Nat} {d0 v : Value} {l : List Value} {wr : World} (h : Ap w0 B d0 v l wr) (o : Obj) : Ap w0 B d0 v l (wr.alloc o) :=
  ⟨h.only.alloc o, h.own.alloc o, h.which⟩
theorem Ap.drew {w0 : World} {B : Nat} {d0 v : Value} {l : List Value} {wr : World} (h : Ap w0 B d0 v l wr) : Ap w0 B d0 v l wr.drew :=
  ⟨h.only.drew, h.own, h.which⟩
theorem Ap.next {w0 : World} {B : Nat} {d0 v v' : Value} {l news : List Value} {wr w' : World} {k m : Nat} (h : Ap w0 B d0 v l wr) (hg : Grew wr w' v v' k) (hm : news.length = m) (ho : w'.ownsRow B 5 1 v' (l.length + m) (l ++ news)) : Ap w0 B d0 v' (l ++ news) w' := by
  refine ⟨h.only.grown hg.grown (fun k hk => ?_), by rw [List.length_append, hm]; exact ho, ?_⟩
  · rcases h.which with e | ⟨g, e, hl⟩
    · exact .inr (by rw [← e, hk])
    · rw [e] at hk; cases hk; exact .inl hl
  · rcases hg.which with e | ⟨g, e, hl⟩
    · rw [e]; exact h.which
    · exact .inr ⟨g, e, Nat.le_trans h.only.size hl⟩

theorem box_cells (w : World) (c : Array Value) (t : TypeId) : ∀ j u, c.toList[j]? = some u → (w.alloc (.cells c t)).cell? ((⟨w.heap.size, 0, none⟩ : Addr).add j) = some u := by
  intro j u hu
  have hb := blk_new w (.cells c t)
  have ha : (⟨w.heap.size, 0, none⟩ : Addr).add j = ⟨w.heap.size, j, none⟩ := by unfold Addr.add; split <;> simp_all
  rw [ha, blk_cell hb]; simpa using hu

theorem hi5 : Tryz.prog.info? 5 = some Tryz.t5 := by kernel_rfl
theorem hz5 : Tryz.t5.zero = some (.int .u8 0) := by kernel_rfl
theorem hs5 : Tryz.t5.size = 1 := by kernel_rfl
theorem hb5 : Tryz.t5.bytes = 1 := by kernel_rfl

theorem wp_appS {ops : Array Oper} {rest : List Oper} {o : Oper} {a : Act} {Q : Exit → Act → World → Prop} {w0 : World} {B : Nat} {d0 v : Value} {l : List Value} {wr : World}
    (H : Ap w0 B d0 v l wr) (hB : B ≤ w0.heap.size) (hg : o.guard = none) (s x : Operand) (hop : o.op = Op.call { callee := Callee.builtin Builtin.append, args := #[s, x], argTypes := #[67, 67] })
    (hs : a.eval s = v) (ad : Addr) (m c : Nat) (news : List Value) (hx : a.eval x = .slice (some ad) m c) (hn : news.length = m) (hc : ∀ j u, news[j]? = some u → wr.cell? (ad.add j) = some u) (h1c : ∀ u ∈ news, u.oneCell' = true)
    (hm : 0 < m) (hl : l.length ≤ 1000000) (hm1 : m ≤ 1000000)
    (hK : ∀ v' w', Ap w0 B d0 v' (l ++ news) w' → wpList Tryz.prog ops Q rest (a.put o.dst v') w') : wpList Tryz.prog ops Q (o :: rest) a wr := by
  refine wpList_append_kept wr hg s x 67 hop 5 Tryz.t5 (.int .u8 0) 1 1 Tryz.underlying67 hi5 hz5 hs5 hb5 rfl (by decide) B l.length v l hs H.own (Nat.le_trans hB H.only.size) ad m c news hx (by omega) hc h1c hm (by unfold maxLen; omega) (by omega) ?_
  intro v' w' hgr ho
  exact hK v' w' (H.next hgr hn ho)
theorem wp_app {ops : Array Oper} {rest : List Oper} {o : Oper} {a : Act} {Q : Exit → Act → World → Prop} {w0 : World} {B : Nat} {d0 v : Value} {l : List Value} {wr : World}
    (H : Ap w0 B d0 v l wr) (hB : B ≤ w0.heap.size) (hg : o.guard = none) (s x : Operand) (hop : o.op = Op.call { callee := Callee.builtin Builtin.append, args := #[s, x], argTypes := #[67, 67] })
    (c : Array Value) (m : Nat) (hs : a.eval s = v) (hx : a.eval x = .slice (some ⟨wr.heap.size, 0, none⟩) m m) (hn : c.toList.length = m) (h1c : ∀ u ∈ c.toList, u.oneCell' = true)
    (hm : 0 < m) (hl : l.length ≤ 1000000) (hm1 : m ≤ 1000000)
    (hK : ∀ v' w', Ap w0 B d0 v' (l ++ c.toList) w' → wpList Tryz.prog ops Q rest (a.put o.dst v') w') : wpList Tryz.prog ops Q (o :: rest) a (wr.alloc (.cells c 5)) :=
  wp_appS (H.alloc _) hB hg s x hop hs ⟨wr.heap.size, 0, none⟩ m m c.toList hx hn (box_cells wr c 5) h1c hm hl hm1 hK
end Go.Proofs.YthjfdhkahmlolaaGreatDoor
