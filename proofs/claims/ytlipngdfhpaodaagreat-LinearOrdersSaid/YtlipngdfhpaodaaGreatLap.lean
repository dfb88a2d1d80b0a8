/- Appends to a row of the call's own, of any slice; what stays. -/
import Derived.Test.YtlipngdfhpaodaaGreatGrow
import Derived.Test.YtlipngdfhpaodaaGreatCells
namespace Go.Proofs.YtlipngdfhpaodaaGreat.Lo
open Go.RowKit

theorem run_append_own_zero {P : Program} {w : World} (base : Nat) (t ty e : TypeId) (i : TypeInfo) (size : Nat) (ht : P.underlying t = some (.slice e)) (hi : P.info? e = some i)
    (v : Value) (n : Nat) (xs : List Value) (hown : w.ownsRow base e size v n xs) (p : Option Addr) (c : Nat) :
    (Builtin.append_ #[t, t] ty #[v, .slice p 0 c]).run P w = .ok v w := by
  have h0 : ∀ a : Addr, (loadCells a 0).run P w = .ok #[] w := fun a => rfl
  rcases hown.2 with ⟨rfl, rfl⟩ | ⟨g, cap, cur, rfl, _, _, hnc, _⟩
  · cases p <;> simp [Builtin.append_, run_underlying ht, sizeOf, typeInfo, hi, Builtin.lenOf, Builtin.firstCells, h0]
  · cases p <;> simp [Builtin.append_, run_underlying ht, sizeOf, typeInfo, hi, Builtin.lenOf, Builtin.firstCells, hnc, storeCells, h0]
theorem Grew.refl {w : World} {base e size n : Nat} {v : Value} {xs : List Value} (_h : w.ownsRow base e size v n xs) (keep : Nat) : Grew w w v v keep :=
  ⟨⟨rfl, rfl, rfl, Nat.le_refl _, fun _ _ _ => rfl⟩, fun _ _ _ _ => rfl, fun _ _ => rfl, .inl rfl, fun _ cur _ _ h => ⟨cur, h⟩⟩
theorem wpList_append_any {P : Program} (w : World) {ops : Array Oper} {rest : List Oper} {o : Oper} {a : Act} {Q : Exit → Act → World → Prop}
    (hg : o.guard = none) (s x : Operand) (t : TypeId) (hop : o.op = Op.call { callee := Callee.builtin Builtin.append, args := #[s, x], argTypes := #[t, t] })
    (e : TypeId) (i : TypeInfo) (z : Value) (size bytes : Nat) (h1 : P.underlying t = some (.slice e)) (h2 : P.info? e = some i) (h3 : i.zero = some z) (h4 : i.size = size) (h5 : i.bytes = bytes) (h6 : z.cells.size = size) (h7 : 0 < size)
    (base n : Nat) (v : Value) (xs : List Value) (hs : a.eval s = v) (ho : w.ownsRow base e size v n xs) (hbase : base ≤ w.heap.size)
    (p : Option Addr) (m c : Nat) (news : List Value) (hx : a.eval x = .slice p m c) (hnil : p = none → m = 0) (hn : news.length = m * size) (hc : ∀ ad j u, p = some ad → news[j]? = some u → w.cell? (ad.add j) = some u) (h1c : ∀ u ∈ news, u.oneCell' = true)
    (b1 : n + m ≤ maxLen) (b2 : (n + m) * bytes ≤ 140737488355328)
    (hK : ∀ v' w', Grew w w' v v' (n * size) → w'.ownsRow base e size v' (n + m) (xs ++ news) → wpList P ops Q rest (a.put o.dst v') w') :
    wpList P ops Q (o :: rest) a w := by
  by_cases hm : m = 0
  · subst hm
    have hnews : news = [] := List.eq_nil_of_length_eq_zero (by simpa using hn)
    subst hnews
    refine wpList_plain hg fun K hK' => ?_
    have hrun := run_append_own_zero (P := P) (w := w) base t o.type e i size h1 h2 v n xs ho p c
    unfold Oper.wp
    simp [execOp, hop, resolve, invoke, builtin, hs, hx, hrun, Result.andThen]
    exact hK' _ _ (hK v w (Grew.refl ho _) (by simpa using ho))
  · cases p with
    | none => exact absurd (hnil rfl) hm
    | some ad => exact wpList_append_kept w hg s x t hop e i z size bytes h1 h2 h3 h4 h5 h6 h7 base n v xs hs ho hbase ad m c news hx hn (fun j u hj => hc ad j u rfl hj) h1c (by omega) b1 b2 hK
theorem own_keep {w w' : World} {base e size n : Nat} {v : Value} {xs : List Value} (h : w.ownsRow base e size v n xs) (O : Only (fun _ => False) w w') : w'.ownsRow base e size v n xs :=
  own_block h fun g hg => by obtain ⟨_, cur, q⟩ := own_tag h hg; rw [O.blk q id, q]
theorem own_only {S : Nat → Prop} {w wr w' : World} {base e size n keep : Nat} {v v' : Value} {xs : List Value} (O : Only S w wr) (ho : wr.ownsRow base e size v n xs) (hb : w.heap.size ≤ base) (hg : Grew wr w' v v' keep) : Only S w w' :=
  O.grown hg.grown fun k hk => .inl (by obtain ⟨q, _⟩ := own_tag ho hk; omega)
theorem own_low {base base' : Nat} {w : World} {e size n : Nat} {v : Value} {xs : List Value} (h : w.ownsRow base e size v n xs) (hb : base' ≤ base) : w.ownsRow base' e size v n xs := by
  refine ⟨h.1, ?_⟩
  rcases h.2 with q | ⟨g, cap, cur, q1, q2, q3⟩
  · exact .inl q
  · exact .inr ⟨g, cap, cur, q1, Nat.le_trans hb q2, q3⟩
theorem box_src (t : TypeId) (w : World) (x y : Value) : ∀ (ad : Addr) j u, some (⟨w.heap.size, 0, none⟩ : Addr) = some ad → [x, y][j]? = some u → (w.alloc (.cells #[x, y] t)).cell? (ad.add j) = some u := by
  intro ad j u h hu
  injection h with h; subst h
  have hb := blk_new w (.cells #[x, y] t)
  have ha : (⟨w.heap.size, 0, none⟩ : Addr).add j = ⟨w.heap.size, j, none⟩ := by unfold Addr.add; split <;> simp_all
  rw [ha, blk_cell hb]; simpa using hu
theorem info72 : (Tryz.prog.info? 72).map (fun i => (i.zero, i.size, i.bytes)) = some (some (.agg #[.int .i64 0, .int .i64 0]), 2, 16) := by kernel_rfl
end Go.Proofs.YtlipngdfhpaodaaGreat.Lo
