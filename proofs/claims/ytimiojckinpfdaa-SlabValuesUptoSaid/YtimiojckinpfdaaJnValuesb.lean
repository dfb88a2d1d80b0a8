/- The walks of what a cell is at first, and of the kinds. -/
import Derived.Test.YtimiojckinpfdaaRows
import Derived.Deep.RegionLawGrows
import Derived.Lib.AppendZeros
import Derived.Test.YtimiojckinpfdaaJnValuesa
namespace Go.Proofs.Ytimiojckinpfdaa
open Go.RowKit

theorem run_tobits (x : Nat) (w : World) : Sem.run Try.prog (callFunc 83 #[.float .f64 x]) w = .ok (.value (.int .u64 (x : Nat))) w := by kernel_rfl
theorem run_frombits (x : Nat) (w : World) : Sem.run Try.prog (callFunc 41 #[.int .u64 (x : Nat)]) w = .ok (.value (.float .f64 x)) w := by kernel_rfl

/-- what a cell is at first -/
def first (kind k : Int) : Int := if kind = 3 ∧ k = 3 then 9218868437227405312 else if kind = 3 ∧ k = 4 then -4503599627370496 else 0

theorem rfirst_calls (kind k : Int) (w : World) : Calls Try.prog 40 #[.int .i64 kind, .int .i64 k] w fun e w' => e = .returned (.int .i64 (first kind k)) ∧ w' = w := by
  by_cases h : kind = 3
  · by_cases h3 : k = 3
    · subst h; subst h3
      go_enter Try.func40, Try.ntmps40
      go_wp2_with fail
      go_ret
      exact ⟨rfl, rfl⟩
    · have g3 : (k == 3) = false := by simpa using h3
      by_cases h4 : k = 4
      · subst h; subst h4
        go_enter Try.func40, Try.ntmps40
        go_wp2_with fail
        go_ret
        exact ⟨by kernel_rfl, rfl⟩
      · have g4 : (k == 4) = false := by simpa using h4
        subst h
        have e1 : first 3 k = 0 := by unfold first; rw [if_neg (by omega), if_neg (by omega)]
        rw [e1]
        go_enter Try.func40, Try.ntmps40
        go_wp2_with fail
        go_ret
        exact ⟨rfl, rfl⟩
  · have g : (kind == 3) = false := by simpa using h
    have e1 : first kind k = 0 := by unfold first; rw [if_neg (by omega), if_neg (by omega)]
    rw [e1]
    go_enter Try.func40, Try.ntmps40
    go_wp2_with fail
    go_ret
    exact ⟨rfl, rfl⟩

theorem run_inf (w : World) : Sem.run Try.prog (callFunc 41 #[.int .u64 9218868437227405312]) w = .ok (.value (.float .f64 9218868437227405312)) w := by kernel_rfl
theorem run_ninf (w : World) : Sem.run Try.prog (callFunc 41 #[.int .u64 18442240474082181120]) w = .ok (.value (.float .f64 18442240474082181120)) w := by kernel_rfl
theorem inf_pos (w : World) : Calls Try.prog 149 #[.int .i64 1] w fun e w' => e = .returned (.float .f64 9218868437227405312) ∧ w' = w := by
  have k := run_inf
  go_enter Try.func149, Try.ntmps149
  go_wp2_with fail
  go_ret
  exact ⟨rfl, rfl⟩
theorem inf_neg (w : World) : Calls Try.prog 149 #[.int .i64 (-1)] w fun e w' => e = .returned (.float .f64 18442240474082181120) ∧ w' = w := by
  have k := run_ninf
  go_enter Try.func149, Try.ntmps149
  go_wp2_with fail
  go_ret
  exact ⟨rfl, rfl⟩
/-- the bits of a float, as an int64 -/
def sbits (x : Nat) : Int := wrap64 (x : Int)
theorem sbits_calls (x : Nat) (w : World) : Calls Try.prog 148 #[.float .f64 x] w fun e w' => e = .returned (.int .i64 (sbits x)) ∧ w' = w := by
  have k := run_tobits x w
  go_enter Try.func148, Try.ntmps148
  go_wp2_with fail
  go_ret
  exact ⟨rfl, rfl⟩

theorem first_counter (v : Value) (k : Int) (w : World) : Calls Try.prog 138 #[.agg #[v], .int .i64 k] w fun e w' => e = .returned (.int .i64 0) ∧ Only (fun _ => False) w w' := by
  go_enter Try.func138, Try.ntmps138
  go_wp2_with fail
  go_ret
  exact ⟨rfl, (Only.refl _ w).alloc _⟩
theorem first_hist (v u : Value) (k : Int) (w : World) : Calls Try.prog 142 #[.agg #[v, u], .int .i64 k] w fun e w' => e = .returned (.int .i64 0) ∧ Only (fun _ => False) w w' := by
  go_enter Try.func142, Try.ntmps142
  go_wp2_with fail
  go_ret
  exact ⟨rfl, (Only.refl _ w).alloc _⟩
theorem first_summary (v : Value) (k : Int) (w : World) : Calls Try.prog 145 #[.agg #[v], .int .i64 k] w fun e w' => e = .returned (.int .i64 (first 3 k)) ∧ Only (fun _ => False) w w' := by
  by_cases h3 : k = 3
  · subst h3
    go_enter Try.func145, Try.ntmps145
    go_wp2_with fail
    refine (inf_pos _).mono ?_
    rintro e w1 ⟨rfl, rfl⟩
    go_wp2_with fail
    refine (sbits_calls _ _).mono ?_
    rintro e w1 ⟨rfl, rfl⟩
    go_wp2_with fail
    go_ret
    exact ⟨by kernel_rfl, (Only.refl _ w).alloc _⟩
  · have g3 : (k == 3) = false := by simpa using h3
    by_cases h4 : k = 4
    · subst h4
      go_enter Try.func145, Try.ntmps145
      go_wp2_with fail
      refine (inf_neg _).mono ?_
      rintro e w1 ⟨rfl, rfl⟩
      go_wp2_with fail
      refine (sbits_calls _ _).mono ?_
      rintro e w1 ⟨rfl, rfl⟩
      go_wp2_with fail
      go_ret
      exact ⟨by kernel_rfl, (Only.refl _ w).alloc _⟩
    · have g4 : (k == 4) = false := by simpa using h4
      have e1 : first 3 k = 0 := by unfold first; rw [if_neg (by omega), if_neg (by omega)]
      rw [e1]
      go_enter Try.func145, Try.ntmps145
      go_wp2_with fail
      go_ret
      exact ⟨rfl, (Only.refl _ w).alloc _⟩
theorem kind_counter (v : Value) (w : World) : Calls Try.prog 139 #[.agg #[v]] w fun e w' => e = .returned (.int .i64 1) ∧ Only (fun _ => False) w w' := by
  go_enter Try.func139, Try.ntmps139
  go_wp2_with fail
  go_ret
  exact ⟨rfl, (Only.refl _ w).alloc _⟩
theorem kind_hist (v u : Value) (w : World) : Calls Try.prog 143 #[.agg #[v, u]] w fun e w' => e = .returned (.int .i64 2) ∧ Only (fun _ => False) w w' := by
  go_enter Try.func143, Try.ntmps143
  go_wp2_with fail
  go_ret
  exact ⟨rfl, (Only.refl _ w).alloc _⟩
theorem kind_summary (v : Value) (w : World) : Calls Try.prog 146 #[.agg #[v]] w fun e w' => e = .returned (.int .i64 3) ∧ Only (fun _ => False) w w' := by
  go_enter Try.func146, Try.ntmps146
  go_wp2_with fail
  go_ret
  exact ⟨rfl, (Only.refl _ w).alloc _⟩

/-- the instrument of a kind, over the cells at an address -/
def inst (kind : Int) (c : Nat) (p : Int) : Value :=
  if kind = 1 then .iface 99 (.agg #[.pointer (some ⟨c, 0, none⟩)]) else if kind = 2 then .iface 101 (.agg #[.pointer (some ⟨c, 0, none⟩), .int .i64 p]) else .iface 102 (.agg #[.pointer (some ⟨c, 0, none⟩)])

set_option maxRecDepth 200000 in
theorem kind_calls (a : Nat) (kind : Int) (c : Nat) (p : Int) (w : World) (hk : kind = 1 ∨ kind = 2 ∨ kind = 3) (h : w.heap[a]? = some (.cells #[inst kind c p] 97 (0, 0))) :
    Calls Try.prog 12 #[.pointer (some ⟨a, 0, none⟩)] w fun e w' => e = .returned (.int .i64 kind) ∧ Only (fun _ => False) w w' := by
  have hc : w.cell? ⟨a, 0, none⟩ = some (inst kind c p) := by rw [blk_cell h]; rfl
  clear h
  rcases hk with rfl | rfl | rfl
  · change w.cell? _ = some (.iface 99 (.agg #[.pointer (some ⟨c, 0, none⟩)])) at hc
    go_enter Try.func12, Try.ntmps12
    go_wp2_with fail
    refine (kind_counter _ _).mono ?_
    rintro e w1 ⟨rfl, O1⟩
    go_wp2_with fail
    go_ret
    exact ⟨rfl, O1⟩
  · change w.cell? _ = some (.iface 101 (.agg #[.pointer (some ⟨c, 0, none⟩), .int .i64 p])) at hc
    go_enter Try.func12, Try.ntmps12
    go_wp2_with fail
    refine (kind_hist _ _ _).mono ?_
    rintro e w1 ⟨rfl, O1⟩
    go_wp2_with fail
    go_ret
    exact ⟨rfl, O1⟩
  · change w.cell? _ = some (.iface 102 (.agg #[.pointer (some ⟨c, 0, none⟩)])) at hc
    go_enter Try.func12, Try.ntmps12
    go_wp2_with fail
    refine (kind_summary _ _).mono ?_
    rintro e w1 ⟨rfl, O1⟩
    go_wp2_with fail
    go_ret
    exact ⟨rfl, O1⟩
end Go.Proofs.Ytimiojckinpfdaa

/- The program's cells in memory: two lists of rows of words; what writes and appends leave of them. No program in sight but its types' numbers. -/
namespace Go.Proofs.Ytimiojckinpfdaa
open Go.RowKit

theorem info114 : (Try.prog.info? 114).map (fun i => (i.zero, i.size, i.bytes)) = some (some (.agg #[.int .i64 0]), 1, 8) := by kernel_rfl
theorem info103 : (Try.prog.info? 103).map (fun i => (i.zero, i.size, i.bytes)) = some (some (.slice none 0 0), 1, 24) := by kernel_rfl

def upd {α : Type} (f : Nat → α) (b : Nat) (x : α) : Nat → α := fun k => if k = b then x else f k
theorem upd_same {α : Type} (f : Nat → α) (b : Nat) (x : α) : upd f b x b = x := if_pos rfl
theorem upd_ne {α : Type} (f : Nat → α) {b k : Nat} (x : α) (h : k ≠ b) : upd f b x k = f k := if_neg h
def upd2 {α : Type} (f : Nat → Nat → α) (b i : Nat) (x : α) : Nat → Nat → α := fun k j => if k = b ∧ j = i then x else f k j
theorem upd2_same {α : Type} (f : Nat → Nat → α) (b i : Nat) (x : α) : upd2 f b i x b i = x := if_pos ⟨rfl, rfl⟩
theorem upd2_ne {α : Type} (f : Nat → Nat → α) {b i k j : Nat} (x : α) (h : ¬ (k = b ∧ j = i)) : upd2 f b i x k j = f k j := if_neg h

/-- a slice over a whole block of n words -/
def slv (b n : Nat) : Value := .slice (some ⟨b, 0, none⟩) n n
def sl (R : Nat → Nat) (wd n : Nat) : List Value := (List.range n).map fun i => slv (R i) wd
theorem sl_len (R : Nat → Nat) (wd n : Nat) : (sl R wd n).length = n := by simp [sl]
theorem sl_succ (R : Nat → Nat) (wd n : Nat) : sl R wd (n + 1) = sl R wd n ++ [slv (R n) wd] := by simp [sl, List.range_succ]
theorem sl_congr {R R' : Nat → Nat} (wd n : Nat) (h : ∀ i, i < n → R i = R' i) : sl R wd n = sl R' wd n := by
  unfold sl; apply List.map_congr_left; intro i hi; rw [h i (by simpa using hi)]
theorem sl_get (R : Nat → Nat) (wd n i : Nat) (h : i < n) : (sl R wd n)[i]? = some (slv (R i) wd) := by simp [sl, h]

/-- a block of n words that hold these numbers -/
def Words (w : World) (b : Nat) (V : Nat → Int) (n : Nat) : Prop := ∃ cs : Array Value, w.heap[b]? = some (.cells cs 114 (0, 0)) ∧ cs.size = n ∧ ∀ k, k < n → cs[k]? = some (.int .i64 (V k))
theorem Words.cell {w : World} {b n : Nat} {V : Nat → Int} (h : Words w b V n) {k : Nat} (hk : k < n) : w.cell? ⟨b, k, none⟩ = some (.int .i64 (V k)) := by
  obtain ⟨cs, h1, h2, h3⟩ := h; rw [blk_cell h1, h3 k hk]
theorem Words.free {w : World} {b n : Nat} {V : Nat → Int} (h : Words w b V n) (k : Nat) : w.frozen? ⟨b, k, none⟩ = false := by
  obtain ⟨cs, h1, h2, h3⟩ := h; exact blk_free h1 k
theorem Words.of_block {w w' : World} {b n : Nat} {V : Nat → Int} (h : Words w b V n) (e : w'.heap[b]? = w.heap[b]?) : Words w' b V n := by
  obtain ⟨cs, h1, h2, h3⟩ := h; exact ⟨cs, by rw [e, h1], h2, h3⟩
theorem Words.store {w : World} {b n : Nat} {V : Nat → Int} (h : Words w b V n) (k : Nat) (x : Int) : Words (w.setCell ⟨b, k, none⟩ (.int .i64 x)) b (upd V k x) n := by
  obtain ⟨cs, h1, h2, h3⟩ := h
  refine ⟨_, blk_set h1 k _, by simpa using h2, fun j hj => ?_⟩
  by_cases e : j = k
  · subst e; rw [upd_same, Array.getElem?_setIfInBounds_self_of_lt (by omega)]
  · rw [upd_ne _ _ e, Array.getElem?_setIfInBounds_ne (by omega), h3 j hj]
theorem Words.congr {w : World} {b n : Nat} {V V' : Nat → Int} (h : Words w b V n) (e : ∀ k, k < n → V k = V' k) : Words w b V' n := by
  obtain ⟨cs, h1, h2, h3⟩ := h; exact ⟨cs, h1, h2, fun k hk => by rw [h3 k hk, e k hk]⟩
theorem Words.lt {w : World} {b n : Nat} {V : Nat → Int} (h : Words w b V n) : b < w.heap.size := by obtain ⟨cs, h1, _⟩ := h; exact blk_lt h1
theorem Words.made (w : World) (n : Nat) : Words (w.alloc (.cells (madeCells #[.int .i64 0] n) 114)) w.heap.size (fun _ => 0) n := by
  refine ⟨_, blk_new w _, ?_, fun k hk => ?_⟩
  · simp [madeCells]
  · rw [← Array.getElem?_toList, toList_madeCells_one]; simp [hk]

structure Held (base c wd : Nat) (u : Nat → Value) (L : Nat → Nat) (R : Nat → Nat → Nat) (V : Nat → Nat → Nat → Int) (w : World) : Prop where
  cge : base ≤ c
  obj : w.heap[c]? = some (.cells #[u 0, u 1] 107 (0, 0))
  own : ∀ b, b < 2 → w.ownsRow base 103 1 (u b) (L b) (sl (R b) wd (L b))
  wrd : ∀ b, b < 2 → ∀ i, i < L b → Words w (R b i) (V b i) wd
  rge : ∀ b, b < 2 → ∀ i, i < L b → base ≤ R b i
  inj : ∀ b i b' i', b < 2 → b' < 2 → i < L b → i' < L b' → R b i = R b' i' → b = b' ∧ i = i'
  heads : ∀ g, (u 0).ownBlock = some g → (u 1).ownBlock ≠ some g

theorem own_block {w w' : World} {base e size n : Nat} {v : Value} {xs : List Value} (h : w.ownsRow base e size v n xs) (hb : ∀ g, v.ownBlock = some g → w'.heap[g]? = w.heap[g]?) : w'.ownsRow base e size v n xs := by
  refine ⟨h.1, ?_⟩
  rcases h.2 with ⟨r1, r2⟩ | ⟨g, cap, cur, rfl, r2, r3, r⟩
  · exact .inl ⟨r1, r2⟩
  · exact .inr ⟨g, cap, cur, rfl, r2, by rw [hb g rfl, r3], r⟩
theorem own_tag {w : World} {base e size n : Nat} {v : Value} {xs : List Value} (h : w.ownsRow base e size v n xs) {g : Nat} (hg : v.ownBlock = some g) : base ≤ g ∧ ∃ cur, w.heap[g]? = some (.cells cur e (0, 0)) := by
  rcases h.2 with ⟨rfl, _⟩ | ⟨g', cap, cur, rfl, r2, r3, _⟩
  · cases hg
  · have : g' = g := by simpa [Value.ownBlock] using hg
    subst this; exact ⟨r2, cur, r3⟩

section
variable {base c wd : Nat} {u : Nat → Value} {L : Nat → Nat} {R : Nat → Nat → Nat} {V : Nat → Nat → Nat → Int} {w w' : World}

theorem Held.keep (h : Held base c wd u L R V w) (hk : ∀ k o, w.heap[k]? = some o → base ≤ k → w'.heap[k]? = some o) : Held base c wd u L R V w' := by
  refine ⟨h.cge, hk _ _ h.obj h.cge, fun b hb => own_block (h.own b hb) fun g hg => ?_, fun b hb i hi => ?_, h.rge, h.inj, h.heads⟩
  · obtain ⟨q1, cur, q2⟩ := own_tag (h.own b hb) hg
    rw [hk _ _ q2 q1, q2]
  · obtain ⟨cs, r1, r2⟩ := h.wrd b hb i hi
    exact ⟨cs, hk _ _ r1 (h.rge b hb i hi), r2⟩
theorem Held.only {S : Nat → Prop} (h : Held base c wd u L R V w) (O : Only S w w') (hS : ∀ k, base ≤ k → k < w.heap.size → ¬ S k) : Held base c wd u L R V w' :=
  h.keep fun k _ hk hb => O.blk hk (hS k hb (blk_lt hk))
/-- a number is laid into a word -/
theorem Held.store (h : Held base c wd u L R V w) {b i : Nat} (hb : b < 2) (hi : i < L b) (k : Nat) (x : Int) :
    Held base c wd u L R (upd2 V b i (upd (V b i) k x)) (w.setCell ⟨R b i, k, none⟩ (.int .i64 x)) := by
  have hw := h.wrd b hb i hi
  obtain ⟨cs, q1, q2⟩ := hw
  have tag : ∀ g cur t, w.heap[g]? = some (.cells cur t (0, 0)) → t ≠ 114 → g ≠ R b i := by
    intro g cur t hg ht e
    rw [e, q1] at hg
    injection hg with hg; injection hg with _ hg _; exact ht hg.symm
  refine ⟨h.cge, blk_set_ne h.obj _ _ (tag _ _ _ h.obj (by decide)), fun b' hb' => own_block (h.own b' hb') fun g hg => ?_, fun b' hb' i' hi' => ?_, h.rge, h.inj, h.heads⟩
  · obtain ⟨_, cur, q2⟩ := own_tag (h.own b' hb') hg
    rw [blk_set_ne q2 _ _ (tag _ _ _ q2 (by decide)), q2]
  · by_cases e : b' = b ∧ i' = i
    · obtain ⟨rfl, rfl⟩ := e
      rw [upd2_same]; exact (h.wrd _ hb' _ hi').store k x
    · rw [upd2_ne _ _ e]
      refine (h.wrd b' hb' i' hi').of_block ?_
      have hne : R b' i' ≠ R b i := fun er => e (h.inj b' i' b i hb' hb hi' hi er)
      rw [Below.heap_setCell _ _ _ _ hne]
end
end Go.Proofs.Ytimiojckinpfdaa

/- Append to a row of the call's own, as one step of a region that draws its order: what stays is told exactly. -/
namespace Go.Proofs.Ytimiojckinpfdaa
open Go.RowKit

theorem step_append_kept {P : Program} {ops : Array Oper} {o : Oper} {a : Act} {w : World} {K : Act → World → Prop} {Q : Exit → Act → World → Prop} {E : Prop}
    (hg : o.guard = none) (s x : Operand) (t : TypeId) (hop : o.op = Op.call { callee := Callee.builtin Builtin.append, args := #[s, x], argTypes := #[t, t] })
    (e : TypeId) (i : TypeInfo) (z : Value) (size bytes : Nat) (h1 : P.underlying t = some (.slice e)) (h2 : P.info? e = some i) (h3 : i.zero = some z) (h4 : i.size = size) (h5 : i.bytes = bytes) (h6 : z.cells.size = size) (h7 : 0 < size)
    (base n : Nat) (v : Value) (xs : List Value) (hs : a.eval s = v) (ho : w.ownsRow base e size v n xs) (hbase : base ≤ w.heap.size)
    (ad : Addr) (m c : Nat) (news : List Value) (hx : a.eval x = .slice (some ad) m c) (hn : news.length = m * size) (hc : ∀ j u, news[j]? = some u → w.cell? (ad.add j) = some u) (h1c : ∀ u ∈ news, u.oneCell' = true)
    (hm : 0 < m) (b1 : n + m ≤ maxLen) (b2 : (n + m) * bytes ≤ 140737488355328)
    (hK : ∀ v' w', Grew w w' v v' (n * size) → w'.ownsRow base e size v' (n + m) (xs ++ news) → K (a.put o.dst v') w') :
    if Region.wanted o (yielded ops a.tmps) = true then Oper.wp P o a w K Q else E := by
  have grew : ∀ v' w', w'.ownsRow w.heap.size e size v' (n + m) (xs ++ news) → w.grownBy w' none → Grew w w' v v' (n * size) ∧ w'.ownsRow base e size v' (n + m) (xs ++ news) := by
    intro v' w' r1 r2
    refine ⟨⟨⟨r2.os, r2.tape, r2.output, r2.size, fun k hk _ => r2.block k hk (by simp)⟩, fun g j hgv hj => ?_, fun a ha => World.frozen?_of_block (w := w) (r2.block _ ha (by simp)), ?_, fun g cur t hgv hq => ⟨cur, by rw [r2.block _ (ho.lt g hgv).2 (by simp), hq]⟩⟩, ?_⟩
    · have hlt : g < w.heap.size := (ho.lt g hgv).2
      exact World.cell?_of_block (w := w) (r2.block _ hlt (by simp))
    · rcases r1.2 with ⟨rfl, h0⟩ | ⟨g, cap, cur, rfl, hg2, _⟩
      · omega
      · exact .inr ⟨g, rfl, hg2⟩
    · refine ⟨r1.1, ?_⟩
      rcases r1.2 with h | ⟨g, cap, cur, hv, hg2, r⟩
      · exact .inl h
      · exact .inr ⟨g, cap, cur, hv, by omega, r⟩
  rcases ho.2 with ⟨rfl, rfl⟩ | ⟨g, cap, cur, rfl, hg2, hblk, hnc, hcm, hcs, htake⟩
  · have hx0 : xs = [] := by have := ho.1; simpa using this
    subst hx0
    refine step_append_grows hg s x t hop e i z size bytes h1 h2 h3 h4 h5 h6 h7 none 0 0 [] hs (fun _ => ⟨rfl, rfl⟩) (by simp) (fun b hb => by cases hb) ad m c news hx hn hc h1c (by omega) b1 b2 ?_
    intro v' w' r1 r2
    obtain ⟨q1, q2⟩ := grew v' w' r1 r2
    exact hK v' w' q1 q2
  · have hcell : ∀ j u, xs[j]? = some u → w.cell? ⟨g, 0 + j, none⟩ = some u := by
      intro j u hj
      rw [blk_cell hblk, Nat.zero_add, ← hj, ← htake]
      have hjl : j < xs.length := by
        rcases Nat.lt_or_ge j xs.length with q | q
        · exact q
        · rw [List.getElem?_eq_none q] at hj; cases hj
      rw [List.getElem?_take, if_pos (by have := ho.1; omega)]
      simp
    by_cases hroom : n + m ≤ cap
    · refine step_append_room hg s x t hop e i size h1 h2 h4 g 0 n cap hs ad m c news hx hn hc h1c hroom ?_ ?_
      · intro j hj
        have hlt : 0 + n * size + j < cur.size := by
          have : (n + m) * size ≤ cap * size := Nat.mul_le_mul_right _ hroom
          rw [Nat.add_mul] at this; omega
        refine ⟨?_, blk_free hblk _⟩
        rw [blk_cell hblk, Array.getElem?_eq_getElem hlt]; rfl
      · have hsz : 0 + n * size + news.length ≤ cur.size := by
          have : (n + m) * size ≤ cap * size := Nat.mul_le_mul_right _ hroom
          rw [Nat.add_mul] at this; omega
        obtain ⟨cur', e1, e2, e3⟩ := block_setCells g e news (0 + n * size) w cur hblk hsz
        refine hK _ _ ⟨grownBy_setCells g news _ w, fun g' j hv hj => ?_, fun y _ => World.frozen?_setCells g news _ w y, .inl rfl, fun g' cu t hv hq => by
          have : g = g' := by simpa [Value.ownBlock] using hv
          subst this
          rw [hblk] at hq; injection hq with hq; injection hq with _ q _; subst q; exact ⟨cur', e1⟩⟩ ⟨?_, .inr ⟨g, cap, cur', rfl, hg2, e1, hroom, hcm, by omega, ?_⟩⟩
        · have : g = g' := by simpa [Value.ownBlock] using hv
          subst this
          exact World.cell?_setCells_out g news _ w _ (fun _ _ => .inl (by dsimp only; omega))
        · rw [List.length_append, ho.1, hn, Nat.add_mul]
        · rw [Nat.add_mul, ← hn, ← Nat.zero_add (n * size), e3, Nat.zero_add, htake]
    · refine step_append_grows hg s x t hop e i z size bytes h1 h2 h3 h4 h5 h6 h7 (some ⟨g, 0, none⟩) n cap xs hs (fun q => by cases q) ho.1 (fun b hb j u hj => by cases hb; (by_cases hj0 : j = 0 <;> simpa [Addr.add, hj0] using hcell j u hj)) ad m c news hx hn hc h1c (by omega) b1 b2 ?_
      intro v' w' r1 r2
      obtain ⟨q1, q2⟩ := grew v' w' r1 r2
      exact hK v' w' q1 q2
end Go.Proofs.Ytimiojckinpfdaa

/- The walk of made: the program's cells. -/
namespace Go.Proofs.Ytimiojckinpfdaa
open Go.RowKit

section
variable {base c wd : Nat} {u : Nat → Value} {L : Nat → Nat} {R : Nat → Nat → Nat} {V : Nat → Nat → Nat → Int} {w w' : World}

/-- a row is appended to the rows of a buffer -/
theorem Held.grow (h : Held base c wd u L R V w) {b n : Nat} (hb : b < 2) (hn : L b = n) {r : Nat} {w2 w3 : World} {v' : Value}
    (hk : ∀ (k : Nat) (o : Obj), w.heap[k]? = some o → w2.heap[k]? = some o) (hr : w.heap.size = r) (hw2 : Words w2 r (fun _ => 0) wd) (hbase : base ≤ r)
    (hg : Grew w2 w3 (u b) v' (n * 1)) (ho : w3.ownsRow base 103 1 v' (n + 1) (sl (R b) wd n ++ [slv r wd])) :
    Held base c wd (upd u b v') (upd L b (n + 1)) (upd2 R b n r) (upd2 V b n (fun _ => 0)) (w3.setCell ⟨c, b, none⟩ v') := by
  subst hn
  have h2 : Held base c wd u L R V w2 := h.keep fun k o q _ => hk k o q
  have hRlt : ∀ b', b' < 2 → ∀ i, i < L b' → R b' i < r := fun b' hb' i hi => by rw [← hr]; exact (h.wrd b' hb' i hi).lt
  have hclt : c < r := by rw [← hr]; exact blk_lt h.obj
  -- blocks that stay from w2 to w3
  have stay : ∀ (k : Nat) (cur : Array Value) (t : TypeId), w2.heap[k]? = some (.cells cur t (0, 0)) → t ≠ 103 → w3.heap[k]? = some (.cells cur t (0, 0)) := by
    intro k cur t hk2 ht
    rw [hg.grown.block k (blk_lt hk2) ?_, hk2]
    intro e
    obtain ⟨_, cur', q⟩ := own_tag (h2.own b hb) e.symm
    rw [hk2] at q
    injection q with q; injection q with _ q _; exact ht q
  have hc3 := stay _ _ _ h2.obj (by decide)
  have v'lt : ∀ g, v'.ownBlock = some g → g ≠ c := by
    intro g e ec
    obtain ⟨_, cur, q⟩ := own_tag ho e
    rw [ec, hc3] at q
    injection q with q; injection q with _ q _; exact absurd q (by decide)
  have hsize : ∀ i : Nat, i < 2 → (#[u 0, u 1] : Array Value).setIfInBounds b v' = #[upd u b v' 0, upd u b v' 1] := by
    intro _ _
    match b, hb with
    | 0, _ => rfl
    | 1, _ => rfl
  refine ⟨h.cge, ?_, fun b' hb' => ?_, fun b' hb' i hi => ?_, fun b' hb' i hi => ?_, fun b1 i1 b2 i2 hb1 hb2 hi1 hi2 e => ?_, ?_⟩
  · rw [blk_set hc3 b v', hsize 0 (by decide)]
  · by_cases eb : b' = b
    · subst eb
      rw [upd_same, upd_same, sl_succ, sl_congr (R' := R b') wd (L b') (fun i hi => upd2_ne _ _ (by omega)), upd2_same]
      refine own_block ho fun g hg' => ?_
      rw [Below.heap_setCell _ _ _ _ (v'lt g hg')]
    · rw [upd_ne _ _ eb, upd_ne _ _ eb, sl_congr (R' := R b') wd (L b') (fun i hi => upd2_ne _ _ (fun e => eb e.1))]
      refine own_block (h2.own b' hb') fun g hg' => ?_
      obtain ⟨_, cur, q⟩ := own_tag (h2.own b' hb') hg'
      have hne : g ≠ c := by
        intro e; rw [e, h2.obj] at q
        injection q with q; injection q with _ q _; exact absurd q (by decide)
      rw [Below.heap_setCell _ _ _ _ hne]
      refine hg.grown.block g (blk_lt q) fun e => ?_
      have hh := h.heads
      have hcs : (b = 0 ∧ b' = 1) ∨ (b = 1 ∧ b' = 0) := by omega
      rcases hcs with ⟨rfl, rfl⟩ | ⟨rfl, rfl⟩
      · exact hh g e.symm hg'
      · exact hh g hg' e.symm
  · have hlt : (upd2 R b (L b) r) b' i < w3.heap.size ∧ Words w3 ((upd2 R b (L b) r) b' i) ((upd2 V b (L b) (fun _ => 0)) b' i) wd := by
      by_cases e : b' = b ∧ i = L b
      · obtain ⟨rfl, rfl⟩ := e
        rw [upd2_same, upd2_same]
        obtain ⟨cs, q1, q2⟩ := hw2
        have := stay _ _ _ q1 (by decide)
        exact ⟨blk_lt this, cs, this, q2⟩
      · rw [upd2_ne _ _ e, upd2_ne _ _ e]
        have hi' : i < L b' := by
          by_cases eb : b' = b
          · subst eb; rw [upd_same] at hi; omega
          · rw [upd_ne _ _ eb] at hi; exact hi
        obtain ⟨cs, q1, q2⟩ := h2.wrd b' hb' i hi'
        have := stay _ _ _ q1 (by decide)
        exact ⟨blk_lt this, cs, this, q2⟩
    refine hlt.2.of_block ?_
    have hne : (upd2 R b (L b) r) b' i ≠ c := by
      obtain ⟨cs, q1, _⟩ := hlt.2
      intro e; rw [e, hc3] at q1
      injection q1 with q1; injection q1 with _ q1 _; exact absurd q1 (by decide)
    rw [Below.heap_setCell _ _ _ _ hne]
  · by_cases e : b' = b ∧ i = L b
    · obtain ⟨rfl, rfl⟩ := e; rw [upd2_same]; exact hbase
    · rw [upd2_ne _ _ e]
      refine h.rge b' hb' i ?_
      by_cases eb : b' = b
      · subst eb; rw [upd_same] at hi; omega
      · rw [upd_ne _ _ eb] at hi; exact hi
  · have down : ∀ b' i, b' < 2 → i < (upd L b (L b + 1)) b' → ¬ (b' = b ∧ i = L b) → i < L b' := by
      intro b' i _ hi e
      by_cases eb : b' = b
      · subst eb; rw [upd_same] at hi; omega
      · rw [upd_ne _ _ eb] at hi; exact hi
    by_cases e1 : b1 = b ∧ i1 = L b
    · by_cases e2 : b2 = b ∧ i2 = L b
      · exact ⟨e1.1.trans e2.1.symm, e1.2.trans e2.2.symm⟩
      · have l2 := hRlt b2 hb2 i2 (down b2 i2 hb2 hi2 e2)
        rw [e1.1, e1.2, upd2_same, upd2_ne _ _ e2] at e
        omega
    · have l1 := hRlt b1 hb1 i1 (down b1 i1 hb1 hi1 e1)
      by_cases e2 : b2 = b ∧ i2 = L b
      · rw [e2.1, e2.2, upd2_same, upd2_ne _ _ e1] at e
        omega
      · rw [upd2_ne _ _ e1, upd2_ne _ _ e2] at e
        exact h.inj _ _ _ _ hb1 hb2 (down b1 i1 hb1 hi1 e1) (down b2 i2 hb2 hi2 e2) e
  · intro g e0 e1
    have old : ∀ b', b' < 2 → ∀ g, (u b').ownBlock = some g → g < w2.heap.size := fun b' hb' g q => by
      obtain ⟨_, _, q2⟩ := own_tag (h2.own b' hb') q; exact blk_lt q2
    have hh := h.heads
    have hwh := hg.which
    match b, hb, hwh with
    | 0, _, hwh =>
      rw [upd_same] at e0
      rw [upd_ne _ _ (by decide)] at e1
      rcases hwh with q | ⟨g', q, q2⟩
      · rw [q] at e0; exact hh g e0 e1
      · rw [q] at e0; cases e0; have := old 1 (by decide) _ e1; omega
    | 1, _, hwh =>
      rw [upd_ne _ _ (by decide)] at e0
      rw [upd_same] at e1
      rcases hwh with q | ⟨g', q, q2⟩
      · rw [q] at e1; exact hh g e0 e1
      · rw [q] at e1; cases e1; have := old 0 (by decide) _ e0; omega

theorem Held.start (w : World) (wd : Nat) : Held w.heap.size w.heap.size wd (fun _ => .slice none 0 0) (fun _ => 0) (fun _ _ => 0) (fun _ _ _ => 0) (w.alloc (.cells #[.slice none 0 0, .slice none 0 0] 107)) := by
  refine ⟨Nat.le_refl _, blk_new w _, fun b _ => ⟨rfl, .inl ⟨rfl, rfl⟩⟩, fun b _ i hi => absurd hi (by omega), fun b _ i hi => absurd hi (by omega), fun b i b' i' _ _ hi => absurd hi (by omega), fun g h => by cases h⟩
end

/-- every number is 0 -/
def MadeRes (st wd : Nat) (w : World) (e : Ending) (w' : World) : Prop :=
  e = .returned (.pointer (some ⟨w.heap.size, 0, none⟩)) ∧ Only (fun _ => False) w w' ∧ ∃ u L R V, (∀ b, b < 2 → L b = st) ∧ Held w.heap.size w.heap.size wd u L R V w'
/-- so many rows of each buffer are there -/
structure MadeAt (base wd n0 n1 : Nat) (w wr : World) : Prop where
  only : Only (fun _ => False) w wr
  held : ∃ u L R V, L 0 = n0 ∧ L 1 = n1 ∧ Held base base wd u L R V wr
def MadeOut (base st wd : Nat) (w : World) (v : Value) (wr : World) : Prop := (v = .int .i64 0 ∧ MadeAt base wd 0 0 w wr) ∨ (v = .int .i64 1 ∧ MadeAt base wd st 0 w wr) ∨ (v = .int .i64 2 ∧ MadeAt base wd st st w wr)
def MadeIn (base st wd b : Nat) (w : World) (v : Value) (wr : World) : Prop := ∃ n : Nat, n ≤ st ∧ v = .int .i64 n ∧ MadeAt base wd (if b = 0 then n else st) (if b = 0 then 0 else n) w wr

theorem run_make114 (wd : Nat) (h2 : wd ≤ 1048576) (W : World) : Sem.run Try.prog (Instr.makeSlice 103 (.int .i64 wd) (.int .i64 wd)) W = .ok (.slice (some ⟨W.heap.size, 0, none⟩) wd wd) (W.alloc (.cells (madeCells #[.int .i64 0] wd) 114)) := by
  obtain ⟨i4, hi4, hz4, hs4, hb4⟩ := info_parts info114
  have hmk := run_make (P := Try.prog) (w := W) 103 114 i4 (.agg #[.int .i64 0]) Try.underlying103 hi4 hz4 .i64 .i64 wd wd (by omega) (by omega) (by rw [hb4]; omega) (by omega)
  rw [hs4] at hmk
  simp only [Int.toNat_natCast, Nat.mul_one] at hmk
  exact hmk

theorem made_app {base c wd b n : Nat} {u : Nat → Value} {L : Nat → Nat} {R : Nat → Nat → Nat} {V : Nat → Nat → Nat → Int} {wr w2 : World} (h : Held base c wd u L R V wr) (hb : b < 2) (hn : L b = n)
    (e : w2.heap = (wr.heap.push (.cells (madeCells #[.int .i64 0] wd) 114)).push (.cells #[slv wr.heap.size wd] 103)) : w2.ownsRow base 103 1 (u b) n (sl (R b) wd n) := by
  subst hn
  refine own_block (h.own b hb) fun g hg => ?_
  obtain ⟨_, cur, q⟩ := own_tag (h.own b hb) hg
  have := blk_lt q
  rw [e, Array.getElem?_push, if_neg (by simp; omega), Array.getElem?_push, if_neg (by omega)]
theorem made_size {x : Nat} {wr w2 : World} {wd : Nat} (h : x ≤ wr.heap.size) (e : w2.heap = (wr.heap.push (.cells (madeCells #[.int .i64 0] wd) 114)).push (.cells #[slv wr.heap.size wd] 103)) : x ≤ w2.heap.size := by
  rw [e]; simp; omega
theorem made_news {wr w2 : World} {wd : Nat} (e : w2.heap = (wr.heap.push (.cells (madeCells #[.int .i64 0] wd) 114)).push (.cells #[slv wr.heap.size wd] 103)) :
    ∀ (j : Nat) (x : Value), ([slv wr.heap.size wd] : List Value)[j]? = some x → w2.cell? ((⟨wr.heap.size + 1, 0, none⟩ : Addr).add j) = some x := by
  intro j x hx
  match j, hx with
  | 0, hx =>
    have : w2.heap[wr.heap.size + 1]? = some (.cells #[slv wr.heap.size wd] 103 (0, 0)) := by rw [e, Array.getElem?_push, if_pos (by simp)]
    show w2.cell? ⟨wr.heap.size + 1, 0, none⟩ = _
    rw [blk_cell this]; simpa using hx
  | j + 1, hx => simp at hx
structure After (w : World) (base c wd b n : Nat) (u : Nat → Value) (L : Nat → Nat) (R : Nat → Nat → Nat) (V : Nat → Nat → Nat → Int) (r : Nat) (v' : Value) (w3 : World) : Prop where
  cell : w3.cell? ⟨c, b, none⟩ = some (u b)
  free : w3.frozen? ⟨c, b, none⟩ = false
  held : Held base c wd (upd u b v') (upd L b (n + 1)) (upd2 R b n r) (upd2 V b n (fun _ => 0)) (w3.setCell ⟨c, b, none⟩ v')
  only : Only (fun _ => False) w (w3.setCell ⟨c, b, none⟩ v')
theorem made_after {c wd b n : Nat} {u : Nat → Value} {L : Nat → Nat} {R : Nat → Nat → Nat} {V : Nat → Nat → Nat → Int} {w wr w2 w3 : World} {v' : Value} (O : Only (fun _ => False) w wr) (h : Held w.heap.size c wd u L R V wr) (hb : b < 2) (hn : L b = n)
    (hg : Grew w2 w3 (u b) v' (n * 1)) (ho : w3.ownsRow w.heap.size 103 1 v' (n + 1) (sl (R b) wd n ++ [slv wr.heap.size wd]))
    (e : w2.heap = (wr.heap.push (.cells (madeCells #[.int .i64 0] wd) 114)).push (.cells #[slv wr.heap.size wd] 103)) (e1 : w2.os = wr.os) (e2 : w2.tape = wr.tape) (e3 : w2.output = wr.output) :
    ∃ g cap, v' = .slice (some ⟨g, 0, none⟩) (n + 1) cap ∧ After w w.heap.size c wd b n u L R V wr.heap.size v' w3 := by
  have hk : ∀ (k : Nat) (o : Obj), w.heap.size ≤ w.heap.size → wr.heap[k]? = some o → w2.heap[k]? = some o := by
    intro k o _ q
    have := blk_lt q
    rw [e, Array.getElem?_push, if_neg (by simp; omega), Array.getElem?_push, if_neg (by omega), q]
  have hsz : w2.heap.size = wr.heap.size + 2 := by rw [e]; simp
  have hOs := O.size
  have hW : Words w2 wr.heap.size (fun _ => 0) wd := by
    have q : Words (wr.alloc (.cells (madeCells #[.int .i64 0] wd) 114)) wr.heap.size (fun _ => 0) wd := Words.made wr wd
    refine q.of_block ?_
    rw [e, Array.getElem?_push, if_neg (by simp)]; rfl
  have hH := h.grow hb hn (fun k o q => hk k o (Nat.le_refl _) q) rfl hW hOs hg ho
  have hc2 := hk _ _ (Nat.le_refl _) h.obj
  have hc3 : w3.heap[c]? = some (.cells #[u 0, u 1] 107 (0, 0)) := by
    rw [hg.grown.block c (blk_lt hc2) ?_, hc2]
    intro q
    obtain ⟨_, cur, q2⟩ := own_tag (h.own b hb) q.symm
    rw [h.obj] at q2; injection q2 with q2; injection q2 with _ q2 _; exact absurd q2 (by decide)
  have hv : ∃ g cap, v' = .slice (some ⟨g, 0, none⟩) (n + 1) cap := by
    rcases ho.2 with ⟨_, q⟩ | ⟨g, cap, cur, q, _⟩
    · omega
    · exact ⟨g, cap, q⟩
  obtain ⟨g, cap, hv⟩ := hv
  refine ⟨g, cap, hv, ⟨?_, blk_free hc3 _, hH, ?_⟩⟩
  · rw [blk_cell hc3]
    have hcs : b = 0 ∨ b = 1 := by omega
    rcases hcs with rfl | rfl <;> rfl
  · have O2 : Only (fun _ => False) w w2 := ⟨e1.trans O.os, e2.trans O.tape, e3.trans O.output, by omega, fun k q _ => by
      have q2 : k < wr.heap.size := by omega
      rw [e, Array.getElem?_push, if_neg (by simp; omega), Array.getElem?_push, if_neg (by omega)]
      exact O.block k q (by simp)⟩
    refine (O2.grown hg.grown fun k q => .inl (own_tag (h.own b hb) q).1).setCell (.inl h.cge) _

set_option maxHeartbeats 1000000 in
theorem made_calls (st wd : Nat) (w : World) (h1 : st ≤ 16) (h2 : wd ≤ 1048576) : Calls Try.prog 38 #[.int .i64 st, .int .i64 wd] w (MadeRes st wd w) := by
  obtain ⟨i3, hi3, hz3, hs3, hb3⟩ := info_parts info103
  go_enter Try.func38, Try.ntmps38
  go_wp2_with fail
  go_loopw [9] (fun v wr => MadeOut w.heap.size st wd w v wr) (fun v _ => 2 - (intOf v).toNat)
  case atStart => exact .inl ⟨rfl, (Only.refl _ w).alloc _, fun _ => .slice none 0 0, fun _ => 0, fun _ _ => 0, fun _ _ _ => 0, rfl, rfl, Held.start w wd⟩
  case round =>
    rcases hrel with ⟨rfl, hM⟩ | ⟨rfl, hM⟩ | ⟨rfl, hM⟩
    · go_wp2_with fail
      go_loopw [13] (fun v wr => MadeIn w.heap.size st wd 0 w v wr) (fun v _ => st - (intOf v).toNat)
      case atStart => exact ⟨0, by omega, rfl, hM⟩
      case round =>
        obtain ⟨k, hk, rfl, hI⟩ := hrel
        clear hM
        by_cases hlt : k < st
        · obtain ⟨O1, u, L, R, V, E0, E1, hH⟩ := hI
          have e0 : L 0 = k := by simpa using E0
          have e1 : L 1 = 0 := by simpa using E1
          clear E0 E1
          have c0 : wr.cell? ⟨w.heap.size, 0, none⟩ = some (u 0) := by rw [blk_cell hH.obj]; rfl
          have c1 : wr.frozen? ⟨w.heap.size, 0, none⟩ = false := blk_free hH.obj _
          have hmk := run_make114 wd h2
          have hsz := Lib.hid O1.size
          have c2 : (wr.alloc (.cells (madeCells #[.int .i64 0] wd) 114)).cell? ⟨w.heap.size, 0, none⟩ = some (u 0) := by rw [blk_cell (blk_alloc hH.obj _)]; rfl
          have c3 : ((wr.alloc (.cells (madeCells #[.int .i64 0] wd) 114)).alloc (.cells #[.slice (some ⟨wr.heap.size, 0, none⟩) wd wd] 103)).cell? ⟨w.heap.size, 0, none⟩ = some (u 0) := by rw [blk_cell (blk_alloc (blk_alloc hH.obj _) _)]; rfl
          have hH' := Lib.hid hH; clear hH
          go_wp2_with fail
          go_region_law (refine step_append_kept rfl (.tmp 22) (.tmp 25) 104 rfl 103 i3 (.slice none 0 0) 1 24 Try.underlying104 hi3 hz3 hs3 hb3 rfl (by decide) w.heap.size k (u 0) (sl (R 0) wd k) (by simp [Act.eval]) (made_app hH'.out (by decide) e0 rfl) (made_size hsz.out rfl) ⟨wr.heap.size + 1, 0, none⟩ 1 1 [slv wr.heap.size wd] (by simp [Act.eval]) rfl (made_news rfl) (by simp [slv, Value.oneCell']) (by decide) (by unfold maxLen; omega) (by omega) ?_; intro v' w' hgr hown; obtain ⟨g, cap, rfl, hA⟩ := made_after O1 hH'.out (by decide) e0 hgr hown rfl rfl rfl rfl; have d0 := hA.cell; have d1 := hA.free; have hA' := Lib.hid hA; clear hA hgr hown)
          · clear c0 c1 c2 c3
            go_wp2_with fail
            go_roundw
            case rel => exact ⟨k + 1, by omega, by go_num, hA'.out.only, _, _, _, _, by simp [upd], by simpa [upd] using e1, hA'.out.held⟩
            case measure => simp [intOf]; omega
          · clear c0 c1 c2 c3
            go_wp2_with fail
            go_roundw
            case rel => exact ⟨k + 1, by omega, by go_num, hA'.out.only, _, _, _, _, by simp [upd], by simpa [upd] using e1, hA'.out.held⟩
            case measure => simp [intOf]; omega
          · clear c0 c1 c2 c3
            go_wp2_with fail
            go_roundw
            case rel => exact ⟨k + 1, by omega, by go_num, hA'.out.only, _, _, _, _, by simp [upd], by simpa [upd] using e1, hA'.out.held⟩
            case measure => simp [intOf]; omega
        · obtain rfl : k = st := by omega
          go_wp2_with fail
          go_roundw
          case rel => exact .inr (.inl ⟨rfl, by simpa [MadeAt] using hI⟩)
          case measure => simp [intOf]
    · go_wp2_with fail
      go_loopw [13] (fun v wr => MadeIn w.heap.size st wd 1 w v wr) (fun v _ => st - (intOf v).toNat)
      case atStart => exact ⟨0, by omega, rfl, hM⟩
      case round =>
        obtain ⟨k, hk, rfl, hI⟩ := hrel
        clear hM
        by_cases hlt : k < st
        · obtain ⟨O1, u, L, R, V, E0, E1, hH⟩ := hI
          have e0 : L 0 = st := by simpa using E0
          have e1 : L 1 = k := by simpa using E1
          clear E0 E1
          have c0 : wr.cell? ⟨w.heap.size, 1, none⟩ = some (u 1) := by rw [blk_cell hH.obj]; rfl
          have c1 : wr.frozen? ⟨w.heap.size, 1, none⟩ = false := blk_free hH.obj _
          have hmk := run_make114 wd h2
          have hsz := Lib.hid O1.size
          have c2 : (wr.alloc (.cells (madeCells #[.int .i64 0] wd) 114)).cell? ⟨w.heap.size, 1, none⟩ = some (u 1) := by rw [blk_cell (blk_alloc hH.obj _)]; rfl
          have c3 : ((wr.alloc (.cells (madeCells #[.int .i64 0] wd) 114)).alloc (.cells #[.slice (some ⟨wr.heap.size, 0, none⟩) wd wd] 103)).cell? ⟨w.heap.size, 1, none⟩ = some (u 1) := by rw [blk_cell (blk_alloc (blk_alloc hH.obj _) _)]; rfl
          have hH' := Lib.hid hH; clear hH
          go_wp2_with fail
          go_region_law (refine step_append_kept rfl (.tmp 22) (.tmp 25) 104 rfl 103 i3 (.slice none 0 0) 1 24 Try.underlying104 hi3 hz3 hs3 hb3 rfl (by decide) w.heap.size k (u 1) (sl (R 1) wd k) (by simp [Act.eval]) (made_app hH'.out (by decide) e1 rfl) (made_size hsz.out rfl) ⟨wr.heap.size + 1, 0, none⟩ 1 1 [slv wr.heap.size wd] (by simp [Act.eval]) rfl (made_news rfl) (by simp [slv, Value.oneCell']) (by decide) (by unfold maxLen; omega) (by omega) ?_; intro v' w' hgr hown; obtain ⟨g, cap, rfl, hA⟩ := made_after O1 hH'.out (by decide) e1 hgr hown rfl rfl rfl rfl; have d0 := hA.cell; have d1 := hA.free; have hA' := Lib.hid hA; clear hA hgr hown)
          · clear c0 c1 c2 c3
            go_wp2_with fail
            go_roundw
            case rel => exact ⟨k + 1, by omega, by go_num, hA'.out.only, _, _, _, _, by simpa [upd] using e0, by simp [upd], hA'.out.held⟩
            case measure => simp [intOf]; omega
          · clear c0 c1 c2 c3
            go_wp2_with fail
            go_roundw
            case rel => exact ⟨k + 1, by omega, by go_num, hA'.out.only, _, _, _, _, by simpa [upd] using e0, by simp [upd], hA'.out.held⟩
            case measure => simp [intOf]; omega
          · clear c0 c1 c2 c3
            go_wp2_with fail
            go_roundw
            case rel => exact ⟨k + 1, by omega, by go_num, hA'.out.only, _, _, _, _, by simpa [upd] using e0, by simp [upd], hA'.out.held⟩
            case measure => simp [intOf]; omega
        · obtain rfl : k = st := by omega
          go_wp2_with fail
          go_roundw
          case rel => exact .inr (.inr ⟨rfl, by simpa [MadeAt] using hI⟩)
          case measure => simp [intOf]
    · obtain ⟨O1, u, L, R, V, e0, e1, hH⟩ := hM
      go_wp2_with fail
      go_ret
      exact ⟨rfl, O1, u, L, R, V, fun b hb => by
        have hb' : b = 0 ∨ b = 1 := by omega
        rcases hb' with rfl | rfl
        · simpa using e0
        · simpa using e1, hH⟩
end Go.Proofs.Ytimiojckinpfdaa

/- The walks of stripes and row: how many stripes, and a stripe's words. -/
namespace Go.Proofs.Ytimiojckinpfdaa
open Go.RowKit

section
variable {base c wd : Nat} {u : Nat → Value} {L : Nat → Nat} {R : Nat → Nat → Nat} {V : Nat → Nat → Nat → Int} {w w' : World}
theorem Held.head (h : Held base c wd u L R V w) {b i : Nat} (hb : b < 2) (hi : i < L b) : ∃ g cap, u b = .slice (some ⟨g, 0, none⟩) (L b) cap ∧ w.cell? ⟨g, i, none⟩ = some (slv (R b i) wd) := by
  rcases (h.own b hb).2 with ⟨_, q⟩ | ⟨g, cap, cur, q1, q2, q3, q4, q5, q6, q7⟩
  · omega
  · refine ⟨g, cap, q1, ?_⟩
    rw [blk_cell q3]
    have : (cur.toList.take (L b * 1))[i]? = (sl (R b) wd (L b))[i]? := by rw [q7]
    rw [sl_get _ _ _ _ hi, List.getElem?_take, if_pos (by omega)] at this
    simpa using this
end

theorem stripes_calls {base c wd : Nat} {u : Nat → Value} {L : Nat → Nat} {R : Nat → Nat → Nat} {V : Nat → Nat → Nat → Int} (w : World) (h : Held base c wd u L R V w) (h0 : 0 < L 0) :
    Calls Try.prog 137 #[.pointer (some ⟨c, 0, none⟩)] w fun e w' => e = .returned (.int .i64 (L 0 : Nat)) ∧ w' = w := by
  obtain ⟨g, cap, q1, _⟩ := h.head (b := 0) (by decide) h0
  have c0 : w.cell? ⟨c, 0, none⟩ = some (.slice (some ⟨g, 0, none⟩) (L 0) cap) := by rw [blk_cell h.obj, ← q1]; rfl
  clear h q1
  generalize L 0 = n at *
  go_enter Try.func137, Try.ntmps137
  go_wp2_with fail
  go_ret
  exact ⟨rfl, rfl⟩
/-- a stripe's words; none, if there is no such stripe -/
theorem row_calls {base c wd st : Nat} {u : Nat → Value} {L : Nat → Nat} {R : Nat → Nat → Nat} {V : Nat → Nat → Nat → Int} (w : World) (h : Held base c wd u L R V w) (h0 : 0 < st) (hm : st ≤ 16) (e0 : L 0 = st) (e1 : L 1 = st) (b i : Int) :
    Calls Try.prog 136 #[.pointer (some ⟨c, 0, none⟩), .int .i64 b, .int .i64 i] w fun e w' => e = .returned (if 0 ≤ b ∧ b < 2 ∧ 0 ≤ i ∧ i < st then slv (R b.toNat i.toNat) wd else .slice none 0 0) ∧ w' = w := by
  by_cases b0 : b < 0
  · rw [if_neg (by omega)]
    have g0 : decide (b < 0) = true := decide_eq_true b0
    go_enter Try.func136, Try.ntmps136
    go_wp2_with fail
    go_ret
    exact ⟨rfl, rfl⟩
  have g0 : decide (b < 0) = false := decide_eq_false b0
  by_cases b2 : b ≥ 2
  · rw [if_neg (by omega)]
    have g1 : decide (b ≥ 2) = true := decide_eq_true b2
    go_enter Try.func136, Try.ntmps136
    go_wp2_with fail
    go_ret
    exact ⟨rfl, rfl⟩
  have g1 : decide (b ≥ 2) = false := decide_eq_false b2
  by_cases i0 : i < 0
  · rw [if_neg (by omega)]
    have g2 : decide (i < 0) = true := decide_eq_true i0
    go_enter Try.func136, Try.ntmps136
    go_wp2_with fail
    go_ret
    exact ⟨rfl, rfl⟩
  have g2 : decide (i < 0) = false := decide_eq_false i0
  have hst : 0 < L 0 := by omega
  by_cases i1 : i ≥ (st : Int)
  · rw [if_neg (by omega)]
    have g3 : decide (i ≥ (st : Int)) = true := decide_eq_true i1
    have k := stripes_calls w h hst
    rw [e0] at k
    have hk := Lib.hid k; clear k h
    go_enter Try.func136, Try.ntmps136
    go_wp2_with fail
    refine hk.out.mono ?_
    rintro e w1 ⟨rfl, rfl⟩
    go_wp2_with fail
    go_ret
    exact ⟨rfl, rfl⟩
  have g3 : decide (i ≥ (st : Int)) = false := decide_eq_false i1
  rw [if_pos (by omega)]
  have k := stripes_calls w h hst
  rw [e0] at k
  have hk := Lib.hid k; clear k
  obtain ⟨j, rfl⟩ : ∃ j : Nat, i = j := ⟨i.toNat, by omega⟩
  have hj : j < st := by omega
  have hb : b = 0 ∨ b = 1 := by omega
  rcases hb with rfl | rfl
  · obtain ⟨g, cap, q1, q2⟩ := h.head (b := 0) (i := j) (by decide) (by omega)
    have c0 : w.cell? ⟨c, 0, none⟩ = some (.slice (some ⟨g, 0, none⟩) st cap) := by rw [blk_cell h.obj, ← e0, ← q1]; rfl
    have q3 : w.cell? ⟨g, j, none⟩ = some (.slice (some ⟨R 0 j, 0, none⟩) wd wd) := q2
    clear h q1 q2 e0 e1 hst
    go_enter Try.func136, Try.ntmps136
    go_wp2_with fail
    refine hk.out.mono ?_
    rintro e w1 ⟨rfl, rfl⟩
    go_wp2_with fail
    go_ret
    exact ⟨rfl, rfl⟩
  · obtain ⟨g, cap, q1, q2⟩ := h.head (b := 1) (i := j) (by decide) (by omega)
    have c0 : w.cell? ⟨c, 1, none⟩ = some (.slice (some ⟨g, 0, none⟩) st cap) := by rw [blk_cell h.obj, ← e1, ← q1]; rfl
    have q3 : w.cell? ⟨g, j, none⟩ = some (.slice (some ⟨R 1 j, 0, none⟩) wd wd) := q2
    clear h q1 q2 e0 e1 hst
    go_enter Try.func136, Try.ntmps136
    go_wp2_with fail
    refine hk.out.mono ?_
    rintro e w1 ⟨rfl, rfl⟩
    go_wp2_with fail
    go_ret
    exact ⟨rfl, rfl⟩
end Go.Proofs.Ytimiojckinpfdaa

/- The walk of New: the program's slab. -/
namespace Go.Proofs.Ytimiojckinpfdaa
open Go.RowKit

/-- the error of New, 0: none -/
def newE (kind st p : Int) : Int := if wide kind 1 = 0 then 7 else if mayB st p = false then 1 else if cellsN kind st p > 1048576 then 13 else 0

theorem new_bad (kind st p : Int) (w : World) (h : newE kind st p ≠ 0) :
    Calls Try.prog 10 #[.int .i64 kind, .int .i64 st, .int .i64 p] w fun e w' => e = .returned (.tuple #[.pointer none, .int .i64 (newE kind st p)]) ∧ Only (fun _ => False) w w' := by
  unfold newE at h ⊢
  by_cases h1 : wide kind 1 = 0
  · rw [if_pos h1]
    have hw := Lib.hid h1
    clear h
    go_enter Try.func10, Try.ntmps10
    go_wp2_with fail
    refine (width_calls _ _ _).mono ?_
    rw [hw.out]
    rintro e w1 ⟨rfl, rfl⟩
    go_wp2_with fail
    go_ret2
    exact ⟨rfl, Only.refl _ _⟩
  rw [if_neg h1] at h ⊢
  have g1 : ((wide kind 1 : Nat) == 0) = false := by simpa using h1
  have g1' : (((wide kind 1 : Nat) : Int) == 0) = false := by simpa using h1
  clear h1
  cases hm : mayB st p with
  | false =>
    rw [hm] at h
    rw [if_pos rfl] at h ⊢
    clear h
    have hm' := Lib.hid hm; clear hm
    go_enter Try.func10, Try.ntmps10
    go_wp2_with fail
    refine (width_calls _ _ _).mono ?_
    rintro e w1 ⟨rfl, rfl⟩
    go_wp2_with fail
    refine (may_calls _ _ _).mono ?_
    rw [hm'.out]
    rintro e w1 ⟨rfl, rfl⟩
    go_wp2_with fail
    go_ret2
    exact ⟨rfl, Only.refl _ _⟩
  | true =>
    rw [hm] at h
    rw [if_neg (by decide)] at h ⊢
    by_cases h3 : cellsN kind st p > 1048576
    · rw [if_pos h3]
      have g3 : decide (cellsN kind st p > 1048576) = true := decide_eq_true h3
      have hm' := Lib.hid hm; clear hm h h3
      go_enter Try.func10, Try.ntmps10
      go_wp2_with fail
      refine (width_calls _ _ _).mono ?_
      rintro e w1 ⟨rfl, rfl⟩
      go_wp2_with fail
      refine (may_calls _ _ _).mono ?_
      rw [hm'.out]
      rintro e w1 ⟨rfl, rfl⟩
      go_wp2_with fail
      refine (cells_calls _ _ _ _).mono ?_
      rintro e w1 ⟨rfl, rfl⟩
      go_wp2_with fail
      go_ret2
      exact ⟨rfl, Only.refl _ _⟩
    · rw [if_neg h3] at h; exact absurd rfl h
end Go.Proofs.Ytimiojckinpfdaa

/- The walk of New: the program's slab, the good way. -/
namespace Go.Proofs.Ytimiojckinpfdaa
open Go.RowKit

/-- the program's slab in memory -/
structure SlabAt (base s c : Nat) (kind p : Int) (st wd : Nat) (u : Nat → Value) (L : Nat → Nat) (R : Nat → Nat → Nat) (V : Nat → Nat → Nat → Int) (w : World) : Prop where
  sge : base ≤ s
  obj : w.heap[s]? = some (.cells #[inst kind c p] 97 (0, 0))
  l0 : L 0 = st
  l1 : L 1 = st
  held : Held base c wd u L R V w
theorem SlabAt.only {base s c : Nat} {kind p : Int} {st wd : Nat} {u : Nat → Value} {L : Nat → Nat} {R : Nat → Nat → Nat} {V : Nat → Nat → Nat → Int} {w w' : World} (h : SlabAt base s c kind p st wd u L R V w) (O : Only (fun _ => False) w w') : SlabAt base s c kind p st wd u L R V w' :=
  ⟨h.sge, O.blk h.obj (by simp), h.l0, h.l1, h.held.only O (fun _ _ _ q => q)⟩
theorem SlabAt.store {base s c : Nat} {kind p : Int} {st wd : Nat} {u : Nat → Value} {L : Nat → Nat} {R : Nat → Nat → Nat} {V : Nat → Nat → Nat → Int} {w : World} (h : SlabAt base s c kind p st wd u L R V w) {b i : Nat} (hb : b < 2) (hi : i < st) (k : Nat) (x : Int) :
    SlabAt base s c kind p st wd u L R (upd2 V b i (upd (V b i) k x)) (w.setCell ⟨R b i, k, none⟩ (.int .i64 x)) := by
  have hl : i < L b := by
    have e0 := h.l0; have e1 := h.l1
    have hcs : b = 0 ∨ b = 1 := by omega
    rcases hcs with rfl | rfl <;> omega
  refine ⟨h.sge, ?_, h.l0, h.l1, h.held.store hb hl k x⟩
  obtain ⟨cs, q, _⟩ := h.held.wrd b hb i hl
  refine blk_set_ne h.obj _ _ ?_
  intro e
  have e' : s = R b i := e
  have ho := h.obj
  rw [e', q] at ho; injection ho with ho; injection ho with _ ho _; exact absurd ho (by decide)
/-- the cells ahead of (n, m, l) hold what they hold at first -/
structure NewAt (w : World) (s c : Nat) (kind p : Int) (st wd : Nat) (n m l : Nat) (wr : World) : Prop where
  only : Only (fun _ => False) w wr
  slab : ∃ u L R V, SlabAt w.heap.size s c kind p st wd u L R V wr ∧ ∀ b i k, b < 2 → i < st → k < wd → (b < n ∨ b = n ∧ (i < m ∨ i = m ∧ k < l)) → V b i k = first kind k
def NewRes (kind p : Int) (st : Nat) (w : World) (e : Ending) (w' : World) : Prop :=
  ∃ s c, e = .returned (.tuple #[.pointer (some ⟨s, 0, none⟩), .int .i64 0]) ∧ NewAt w s c kind p st (wide kind p) 2 0 0 w'

theorem NewAt.mono {w wr : World} {s c : Nat} {kind p : Int} {st wd n m l n' m' l' : Nat} (h : NewAt w s c kind p st wd n m l wr)
    (hh : ∀ b i k, b < 2 → i < st → k < wd → (b < n' ∨ b = n' ∧ (i < m' ∨ i = m' ∧ k < l')) → (b < n ∨ b = n ∧ (i < m ∨ i = m ∧ k < l))) : NewAt w s c kind p st wd n' m' l' wr := by
  obtain ⟨O, u, L, R, V, hS, hV⟩ := h
  exact ⟨O, u, L, R, V, hS, fun b i k hb hi hk q => hV b i k hb hi hk (hh b i k hb hi hk q)⟩
/-- what the round reads, and that its store goes on -/
structure NewSee (w : World) (s c : Nat) (kind p : Int) (st wd n m l g cap r : Nat) (w1 : World) : Prop where
  sc : w1.cell? ⟨s, 0, none⟩ = some (inst kind c p)
  cc : w1.cell? ⟨c, n, none⟩ = some (.slice (some ⟨g, 0, none⟩) st cap)
  gc : w1.cell? ⟨g, m, none⟩ = some (.slice (some ⟨r, 0, none⟩) wd wd)
  rc : ∃ x, w1.cell? ⟨r, l, none⟩ = some (.int .i64 x)
  rf : w1.frozen? ⟨r, l, none⟩ = false
  next : NewAt w s c kind p st wd n m (l + 1) (w1.setCell ⟨r, l, none⟩ (.int .i64 (first kind l)))
theorem NewAt.see {w wr : World} {s c : Nat} {kind p : Int} {st wd n m l : Nat} (h : NewAt w s c kind p st wd n m l wr) (hn : n < 2) (hm : m < st) (hl : l < wd) :
    ∃ g cap r, ∀ w1, Only (fun _ => False) wr w1 → NewSee w s c kind p st wd n m l g cap r w1 := by
  obtain ⟨O, u, L, R, V, hS, hV⟩ := h
  have hLn : L n = st := by
    have e0 := hS.l0; have e1 := hS.l1
    have hcs : n = 0 ∨ n = 1 := by omega
    rcases hcs with rfl | rfl <;> omega
  obtain ⟨g, cap, q1, _⟩ := hS.held.head hn (i := m) (by omega)
  refine ⟨g, cap, R n m, fun w1 O1 => ?_⟩
  have hS1 := hS.only O1
  obtain ⟨g', cap', q1', q2⟩ := hS1.held.head hn (i := m) (by omega)
  rw [q1] at q1'
  have eg : g = g' := by injection q1' with a; injection a with a; injection a
  subst eg
  have hwr := hS1.held.wrd n hn m (by omega)
  refine ⟨by rw [blk_cell hS1.obj]; rfl, ?_, q2, ⟨_, hwr.cell hl⟩, hwr.free l, ⟨(O.trans O1).setCell (.inl (hS.held.rge n hn m (by omega))) _, u, L, R, _, hS1.store hn hm l (first kind l), fun b i k hb hi hk q => ?_⟩⟩
  · rw [blk_cell hS1.held.obj]
    have hcs : n = 0 ∨ n = 1 := by omega
    rw [← hLn, ← q1]
    rcases hcs with rfl | rfl <;> rfl
  · by_cases e : b = n ∧ i = m
    · obtain ⟨rfl, rfl⟩ := e
      rw [upd2_same]
      by_cases ek : k = l
      · subst ek; rw [upd_same]
      · rw [upd_ne _ _ ek]; exact hV _ _ _ hb hi hk (by omega)
    · rw [upd2_ne _ _ e]; exact hV _ _ _ hb hi hk (by omega)
end Go.Proofs.Ytimiojckinpfdaa

/- The methods of the three kinds, found by name. -/
namespace Go.Proofs.Ytimiojckinpfdaa
open Go.RowKit
theorem meth_first1 (v : Value) (w : World) : Sem.run Try.prog (method 322 99 v "gnomon/slab.first") w = .ok ((138 : Nat), v) w := by kernel_rfl
theorem meth_kind1 (v : Value) (w : World) : Sem.run Try.prog (method 322 99 v "gnomon/slab.kind") w = .ok ((139 : Nat), v) w := by kernel_rfl
theorem meth_part1 (v : Value) (w : World) : Sem.run Try.prog (method 322 99 v "gnomon/slab.part") w = .ok ((140 : Nat), v) w := by kernel_rfl
theorem meth_row1 (c : Value) (w : World) : Sem.run Try.prog (method 322 99 (.agg #[c]) "gnomon/slab.row") w = .ok ((136 : Nat), c) w := by kernel_rfl
theorem meth_stripes1 (c : Value) (w : World) : Sem.run Try.prog (method 322 99 (.agg #[c]) "gnomon/slab.stripes") w = .ok ((137 : Nat), c) w := by kernel_rfl
theorem meth_first2 (v : Value) (w : World) : Sem.run Try.prog (method 322 101 v "gnomon/slab.first") w = .ok ((142 : Nat), v) w := by kernel_rfl
theorem meth_kind2 (v : Value) (w : World) : Sem.run Try.prog (method 322 101 v "gnomon/slab.kind") w = .ok ((143 : Nat), v) w := by kernel_rfl
theorem meth_part2 (v : Value) (w : World) : Sem.run Try.prog (method 322 101 v "gnomon/slab.part") w = .ok ((144 : Nat), v) w := by kernel_rfl
theorem meth_row2 (c u : Value) (w : World) : Sem.run Try.prog (method 322 101 (.agg #[c, u]) "gnomon/slab.row") w = .ok ((136 : Nat), c) w := by kernel_rfl
theorem meth_stripes2 (c u : Value) (w : World) : Sem.run Try.prog (method 322 101 (.agg #[c, u]) "gnomon/slab.stripes") w = .ok ((137 : Nat), c) w := by kernel_rfl
theorem meth_first3 (v : Value) (w : World) : Sem.run Try.prog (method 322 102 v "gnomon/slab.first") w = .ok ((145 : Nat), v) w := by kernel_rfl
theorem meth_kind3 (v : Value) (w : World) : Sem.run Try.prog (method 322 102 v "gnomon/slab.kind") w = .ok ((146 : Nat), v) w := by kernel_rfl
theorem meth_part3 (v : Value) (w : World) : Sem.run Try.prog (method 322 102 v "gnomon/slab.part") w = .ok ((147 : Nat), v) w := by kernel_rfl
theorem meth_row3 (c : Value) (w : World) : Sem.run Try.prog (method 322 102 (.agg #[c]) "gnomon/slab.row") w = .ok ((136 : Nat), c) w := by kernel_rfl
theorem meth_stripes3 (c : Value) (w : World) : Sem.run Try.prog (method 322 102 (.agg #[c]) "gnomon/slab.stripes") w = .ok ((137 : Nat), c) w := by kernel_rfl
end Go.Proofs.Ytimiojckinpfdaa

/- The walk of New: what holds in a round of its loops, the blocks' places given. -/
namespace Go.Proofs.Ytimiojckinpfdaa
open Go.RowKit

structure NewF (w : World) (s c : Nat) (kind p : Int) (st wd : Nat) (u : Nat → Value) (L : Nat → Nat) (R : Nat → Nat → Nat) (n m l : Nat) (wr : World) : Prop where
  only : Only (fun _ => False) w wr
  slab : ∃ V, SlabAt w.heap.size s c kind p st wd u L R V wr ∧ ∀ b i k, b < 2 → i < st → k < wd → (b < n ∨ b = n ∧ (i < m ∨ i = m ∧ k < l)) → V b i k = first kind k
section
variable {w : World} {s c : Nat} {kind p : Int} {st wd : Nat} {u : Nat → Value} {L : Nat → Nat} {R : Nat → Nat → Nat} {n m l : Nat} {wr : World}
theorem NewAt.f (h : NewAt w s c kind p st wd n m l wr) : ∃ u L R, NewF w s c kind p st wd u L R n m l wr := by
  obtain ⟨O, u, L, R, V, hS, hV⟩ := h; exact ⟨u, L, R, O, V, hS, hV⟩
theorem NewF.at (h : NewF w s c kind p st wd u L R n m l wr) : NewAt w s c kind p st wd n m l wr := by
  obtain ⟨O, V, hS, hV⟩ := h; exact ⟨O, u, L, R, V, hS, hV⟩
theorem NewF.next {w1 : World} (h : NewF w s c kind p st wd u L R n m l wr) (O1 : Only (fun _ => False) wr w1) : NewF w s c kind p st wd u L R n m l w1 := by
  obtain ⟨O, V, hS, hV⟩ := h; exact ⟨O.trans O1, V, hS.only O1, hV⟩
theorem NewF.head (h : NewF w s c kind p st wd u L R n m l wr) (hn : n < 2) (hm : m < st) : ∃ g cap, u n = .slice (some ⟨g, 0, none⟩) st cap ∧
    ∀ w1, NewF w s c kind p st wd u L R n m l w1 → w1.cell? ⟨s, 0, none⟩ = some (inst kind c p) ∧ w1.cell? ⟨c, n, none⟩ = some (.slice (some ⟨g, 0, none⟩) st cap) ∧ w1.cell? ⟨g, m, none⟩ = some (.slice (some ⟨R n m, 0, none⟩) wd wd) ∧ (R n m < w1.heap.size) := by
  obtain ⟨O, V, hS, hV⟩ := h
  have hLn : L n = st := by
    have e0 := hS.l0; have e1 := hS.l1
    have hcs : n = 0 ∨ n = 1 := by omega
    rcases hcs with rfl | rfl <;> omega
  obtain ⟨g, cap, q1, _⟩ := hS.held.head hn (i := m) (by omega)
  rw [hLn] at q1
  refine ⟨g, cap, q1, fun w1 h1 => ?_⟩
  obtain ⟨O1, V1, hS1, hV1⟩ := h1
  obtain ⟨g', cap', q1', q2⟩ := hS1.held.head hn (i := m) (by omega)
  rw [q1] at q1'
  have eg : g = g' := by injection q1' with a; injection a with a; injection a
  subst eg
  refine ⟨by rw [blk_cell hS1.obj]; rfl, ?_, q2, (hS1.held.wrd n hn m (by omega)).lt⟩
  rw [blk_cell hS1.held.obj]
  have hcs : n = 0 ∨ n = 1 := by omega
  rw [← q1]
  rcases hcs with rfl | rfl <;> rfl
theorem NewF.word (h : NewF w s c kind p st wd u L R n m l wr) (hn : n < 2) (hm : m < st) (hl : l < wd) : (∃ x : Int, wr.cell? ⟨R n m, l, none⟩ = some (.int .i64 x)) ∧ wr.frozen? ⟨R n m, l, none⟩ = false := by
  obtain ⟨O, V, hS, hV⟩ := h
  have hLn : L n = st := by
    have e0 := hS.l0; have e1 := hS.l1
    have hcs : n = 0 ∨ n = 1 := by omega
    rcases hcs with rfl | rfl <;> omega
  have hwr := hS.held.wrd n hn m (by omega)
  exact ⟨⟨_, hwr.cell hl⟩, hwr.free l⟩
theorem NewF.put (h : NewF w s c kind p st wd u L R n m l wr) (hn : n < 2) (hm : m < st) (hl : l < wd) : NewF w s c kind p st wd u L R n m (l + 1) (wr.setCell ⟨R n m, l, none⟩ (.int .i64 (first kind l))) := by
  obtain ⟨O, V, hS, hV⟩ := h
  have hLn : L n = st := by
    have e0 := hS.l0; have e1 := hS.l1
    have hcs : n = 0 ∨ n = 1 := by omega
    rcases hcs with rfl | rfl <;> omega
  refine ⟨O.setCell (.inl (hS.held.rge n hn m (by omega))) _, _, hS.store hn hm l (first kind l), fun b i k hb hi hk q => ?_⟩
  by_cases e : b = n ∧ i = m
  · obtain ⟨rfl, rfl⟩ := e
    rw [upd2_same]
    by_cases ek : k = l
    · subst ek; rw [upd_same]
    · rw [upd_ne _ _ ek]; exact hV _ _ _ hb hi hk (by omega)
  · rw [upd2_ne _ _ e]; exact hV _ _ _ hb hi hk (by omega)
theorem NewF.less (h : NewF w s c kind p st wd u L R n m (l + 1) wr) : NewF w s c kind p st wd u L R n m l wr := by
  obtain ⟨O, V, hS, hV⟩ := h
  exact ⟨O, V, hS, fun b i k hb hi hk q => hV b i k hb hi hk (by omega)⟩
theorem new_start {w1 w2 : World} {kind p : Int} {st wd : Nat} {u : Nat → Value} {L : Nat → Nat} {R : Nat → Nat → Nat} {V : Nat → Nat → Nat → Int} (O2 : Only (fun _ => False) w1 w2) (h0 : L 0 = st) (h1 : L 1 = st)
    (hH : Held w1.heap.size w1.heap.size wd u L R V w2) : NewAt w1 w2.heap.size w1.heap.size kind p st wd 0 0 0 (w2.alloc (.cells #[inst kind w1.heap.size p] 97)) :=
  ⟨O2.alloc _, u, L, R, V, ⟨O2.size, blk_new _ _, h0, h1, hH.only ((Only.refl (fun _ => False) w2).alloc _) (fun _ _ _ q => q)⟩, fun b i k _ _ _ q => by omega⟩
/-- what a region's walk needs of each world that it passes -/
def NewS (w : World) (s c : Nat) (kind p : Int) (st wd : Nat) (u : Nat → Value) (L : Nat → Nat) (R : Nat → Nat → Nat) (n m l : Nat) (wr : World) : Prop := NewF w s c kind p st wd u L R n m l wr
end
end Go.Proofs.Ytimiojckinpfdaa

/- The walks of ranks.Merge and what it calls, at two lists that hold nothing. -/
namespace Go.Proofs.Ytimiojckinpfdaa
open Go.RowKit

theorem grow_nil (w : World) : Calls Try.prog 101 #[.slice none 0 0, .int .i64 0] w fun e w' => e = .returned (.slice none 0 0) ∧ w' = w := by
  go_enter Try.func101, Try.ntmps101
  go_wp2_with fail
  go_ret
  exact ⟨rfl, rfl⟩
theorem concat_nil (b : Nat) (w : World) (h0 : w.cell? ⟨b, 0, none⟩ = some (.slice none 0 0)) (h1 : w.cell? ⟨b, 1, none⟩ = some (.slice none 0 0)) :
    Calls Try.prog 74 #[.slice (some ⟨b, 0, none⟩) 2 2] w fun e w' => e = .returned (.slice none 0 0) ∧ w' = w := by
  go_enter Try.func74, Try.ntmps74
  go_wp2_with fail
  go_loop [3, 11] (fun s i => s = .int .i64 0 ∧ (i = .int .i64 0 ∨ i = .int .i64 1 ∨ i = .int .i64 2)) (fun _ i => 2 - (intOf i).toNat)
  case atStart => exact ⟨rfl, .inl rfl⟩
  case round =>
    obtain ⟨rfl, rfl | rfl | rfl⟩ := hrel
    · go_wp2_with fail
      go_round
      case rel => exact ⟨rfl, .inr (.inl rfl)⟩
      case measure => simp [intOf]
    · go_wp2_with fail
      go_round
      case rel => exact ⟨rfl, .inr (.inr rfl)⟩
      case measure => simp [intOf]
    · go_wp2_with fail
      refine (grow_nil _).mono ?_
      rintro e w1 ⟨rfl, rfl⟩
      go_wp2_with fail
      go_loop [6, 27] (fun s i => s = .slice none 0 0 ∧ (i = .int .i64 0 ∨ i = .int .i64 1 ∨ i = .int .i64 2)) (fun _ i => 2 - (intOf i).toNat)
      case atStart => exact ⟨rfl, .inl rfl⟩
      case round =>
        obtain ⟨rfl, rfl | rfl | rfl⟩ := hrel
        · go_wp2_with fail
          go_round
          case rel => exact ⟨rfl, .inr (.inl rfl)⟩
          case measure => simp [intOf]
        · go_wp2_with fail
          go_round
          case rel => exact ⟨rfl, .inr (.inr rfl)⟩
          case measure => simp [intOf]
        · go_wp2_with fail
          go_ret
          exact ⟨rfl, rfl⟩
theorem insertion_nil (f : Value) (a b : Int) (h : a + 1 ≥ b) (ha : a = 0) (hb : b = 0) (w : World) : Calls Try.prog 111 #[.slice none 0 0, .int .i64 a, .int .i64 b, f] w fun e w' => e = .returned (.tuple #[]) ∧ w' = w := by
  subst ha; subst hb
  go_enter Try.func111, Try.ntmps111
  go_wp2_with fail
  refine wp_loop_rounds 1 ?_
  rw [rounds_succ]
  go_wp2_with fail
  go_end0
  exact ⟨rfl, rfl⟩
theorem stable_nil (f : Value) (w : World) : Calls Try.prog 102 #[.slice none 0 0, .int .i64 0, f] w fun e w' => e = .returned (.tuple #[]) ∧ w' = w := by
  go_enter Try.func102, Try.ntmps102
  go_wp2_with fail
  refine wp_loop_rounds 1 ?_
  rw [rounds_succ]
  go_wp2_with fail
  refine (insertion_nil _ 0 0 (by omega) rfl rfl _).mono ?_
  rintro e w1 ⟨rfl, rfl⟩
  go_wp2_with fail
  refine wp_loop_rounds 1 ?_
  rw [rounds_succ]
  go_wp2_with fail
  go_end0
  exact ⟨rfl, rfl⟩
theorem sort_nil (f : Value) (w : World) : Calls Try.prog 75 #[.slice none 0 0, f] w fun e w' => e = .returned (.tuple #[]) ∧ w' = w := by
  go_enter Try.func75, Try.ntmps75
  go_wp2_with fail
  refine (stable_nil _ _).mono ?_
  rintro e w1 ⟨rfl, rfl⟩
  go_wp2_with fail
  go_end0
  exact ⟨rfl, rfl⟩
theorem index_nil (f : Value) (w : World) : Calls Try.prog 103 #[.slice none 0 0, f] w fun e w' => e = .returned (.int .i64 (-1)) ∧ w' = w := by
  go_enter Try.func103, Try.ntmps103
  go_wp2_with fail
  refine wp_loop_rounds 1 ?_
  rw [rounds_succ]
  go_wp2_with fail
  go_ret
  exact ⟨rfl, rfl⟩
theorem delete_nil (f : Value) (w : World) : Calls Try.prog 77 #[.slice none 0 0, f] w fun e w' => e = .returned (.slice none 0 0) ∧ w' = w := by
  go_enter Try.func77, Try.ntmps77
  go_wp2_with fail
  refine (index_nil _ _).mono ?_
  rintro e w1 ⟨rfl, rfl⟩
  go_wp2_with fail
  go_ret
  exact ⟨rfl, rfl⟩
theorem rmerge_nil (w : World) : Calls Try.prog 47 #[.slice none 0 0, .slice none 0 0] w fun e w' => e = .returned (.slice none 0 0) ∧ Only (fun _ => False) w w' := by
  have c0 : (w.alloc (.cells #[.slice none 0 0, .slice none 0 0] 36)).cell? ⟨w.heap.size, 0, none⟩ = some (.slice none 0 0) := by rw [blk_cell (blk_new _ _)]; rfl
  have c1 : (w.alloc (.cells #[.slice none 0 0, .slice none 0 0] 36)).cell? ⟨w.heap.size, 1, none⟩ = some (.slice none 0 0) := by rw [blk_cell (blk_new _ _)]; rfl
  have K := Lib.hid (concat_nil _ _ c0 c1)
  clear c0 c1
  go_enter Try.func47, Try.ntmps47
  go_wp2_with fail
  refine K.out.mono ?_
  rintro e w1 ⟨rfl, rfl⟩
  go_wp2_with fail
  refine (sort_nil _ _).mono ?_
  rintro e w1 ⟨rfl, rfl⟩
  go_wp2_with fail
  refine wp_loop_rounds 1 ?_
  rw [rounds_succ]
  go_wp2_with fail
  refine (delete_nil _ _).mono ?_
  rintro e w1 ⟨rfl, rfl⟩
  go_wp2_with fail
  go_ret
  exact ⟨rfl, (Only.refl _ w).alloc _⟩
end Go.Proofs.Ytimiojckinpfdaa

/- The walk of wide.Add: sums of 128 bits. -/
namespace Go.Proofs.Ytimiojckinpfdaa
open Go.RowKit

def lowOf (n : Nat) : Nat := n % 18446744073709551616
def carOf (n : Nat) : Nat := n / 18446744073709551616
theorem run_badd0 (x y : Int) (w : World) : Sem.run Try.prog (callFunc 73 #[.int .u64 x, .int .u64 y, .int .u64 0]) w = .ok (.value (.tuple #[.int .u64 (lowOf (x.toNat + y.toNat + 0) : Nat), .int .u64 (carOf (x.toNat + y.toNat + 0) : Nat)])) w := by kernel_rfl
theorem run_badd1 (x y : Int) (w : World) : Sem.run Try.prog (callFunc 73 #[.int .u64 x, .int .u64 y, .int .u64 1]) w = .ok (.value (.tuple #[.int .u64 (lowOf (x.toNat + y.toNat + 1) : Nat), .int .u64 (carOf (x.toNat + y.toNat + 1) : Nat)])) w := by kernel_rfl

theorem run_badd (x y : Int) (c : Nat) (hc : c ≤ 1) (w : World) : Sem.run Try.prog (callFunc 73 #[.int .u64 x, .int .u64 y, .int .u64 c]) w = .ok (.value (.tuple #[.int .u64 (lowOf (x.toNat + y.toNat + c) : Nat), .int .u64 (carOf (x.toNat + y.toNat + c) : Nat)])) w := by
  have h : c = 0 ∨ c = 1 := by omega
  rcases h with rfl | rfl
  · exact run_badd0 x y w
  · exact run_badd1 x y w
theorem car_le (x y : Int) (h2 : x ≤ 18446744073709551615) (h4 : y ≤ 18446744073709551615) : carOf (x.toNat + y.toNat) ≤ 1 := by unfold carOf; omega
/-- the low half, and the high half, of a sum -/
def loSum (al bl : Int) : Nat := lowOf (al.toNat + bl.toNat)
def hiSum (ah al bh bl : Int) : Int := wrap64 (lowOf ((IntKind.u64.wrap ah).toNat + (IntKind.u64.wrap bh).toNat + carOf (al.toNat + bl.toNat)) : Nat)
set_option maxRecDepth 100000 in
set_option maxHeartbeats 1000000 in
theorem wide_add (ah al bh bl : Int) (w : World) (h2 : al ≤ 18446744073709551615) (h4 : bl ≤ 18446744073709551615) :
    Calls Try.prog 46 #[.agg #[.int .i64 ah, .int .u64 al], .agg #[.int .i64 bh, .int .u64 bl]] w fun e w' => e = .returned (.agg #[.int .i64 (hiSum ah al bh bl), .int .u64 (loSum al bl : Nat)]) ∧ Only (fun _ => False) w w' := by
  have k0 := run_badd0
  have k1 := run_badd (IntKind.u64.wrap ah) (IntKind.u64.wrap bh) _ (car_le al bl h2 h4)
  clear h2 h4
  go_enter Try.func46, Try.ntmps46
  go_wp2_with fail
  refine bodyPost_ret (v := .agg #[.int .i64 (hiSum ah al bh bl), .int .u64 (loSum al bl : Nat)]) (by simp [results, Try.results46, go_sem]; exact ⟨rfl, rfl⟩) rfl ⟨rfl, ?_⟩
  exact (((Only.refl _ w).alloc _).alloc _).alloc _
end Go.Proofs.Ytimiojckinpfdaa

/- The walks of total, a counter's part, and of pair.Merge at pairs that are 0. -/
namespace Go.Proofs.Ytimiojckinpfdaa
open Go.RowKit

theorem run_fzz (w : World) : Sem.run Try.prog (binOp .add 40 (.float .f64 0) (.float .f64 0)) w = .ok (.float .f64 0) w := by kernel_rfl
theorem run_szz (w : World) : Sem.run Try.prog (binOp .sub 40 (.float .f64 0) (.float .f64 0)) w = .ok (.float .f64 0) w := by kernel_rfl
theorem run_gzz (w : World) : Sem.run Try.prog (binOp .geq 40 (.float .f64 0) (.float .f64 0)) w = .ok (.bool true) w := by kernel_rfl
theorem run_tob0 (w : World) : Sem.run Try.prog (callFunc 83 #[.float .f64 0]) w = .ok (.value (.int .u64 0)) w := by kernel_rfl
theorem run_frb0 (w : World) : Sem.run Try.prog (callFunc 41 #[.int .u64 0]) w = .ok (.value (.float .f64 0)) w := by kernel_rfl
set_option maxRecDepth 100000 in
theorem abs_zero (w : World) : Calls Try.prog 104 #[.float .f64 0] w fun e w' => e = .returned (.float .f64 0) ∧ w' = w := by
  have k1 := run_tob0
  have k2 := run_frb0
  have k3 : bits .andNot .u64 0 9223372036854775808 = 0 := by kernel_rfl
  go_enter Try.func104, Try.ntmps104
  go_wp2_with fail
  go_ret
  exact ⟨rfl, rfl⟩
theorem loss_zero (w : World) : Calls Try.prog 79 #[.float .f64 0, .float .f64 0, .float .f64 0] w fun e w' => e = .returned (.float .f64 0) ∧ w' = w := by
  have k1 := run_fzz
  have k2 := run_szz
  have k3 := run_gzz
  go_enter Try.func79, Try.ntmps79
  go_wp2_with fail
  refine (abs_zero _).mono ?_
  rintro e w1 ⟨rfl, rfl⟩
  go_wp2_with fail
  refine (abs_zero _).mono ?_
  rintro e w1 ⟨rfl, rfl⟩
  go_wp2_with fail
  go_ret
  exact ⟨rfl, rfl⟩
theorem pmerge_zero (w : World) : Calls Try.prog 48 #[.complex .f64 0 0, .complex .f64 0 0] w fun e w' => e = .returned (.complex .f64 0 0) ∧ w' = w := by
  have k1 := run_fzz
  have k2 := run_szz
  go_enter Try.func48, Try.ntmps48
  go_wp2_with fail
  refine (loss_zero _).mono ?_
  rintro e w1 ⟨rfl, rfl⟩
  go_wp2_with fail
  go_ret
  exact ⟨rfl, rfl⟩

/-- a row of int64 cells -/
def Nums (w : World) (b : Nat) (l : List Int) : Prop := ∀ k, k < l.length → w.cell? ⟨b, k, none⟩ = some (.int .i64 (l.getD k 0))
/-- the part of a counter whose sum is (hi, lo) -/
def partc (hi lo : Int) : Value := .agg #[.int .i64 hi, .int .u64 lo, .slice none 0 0, .int .u64 0, .complex .f64 0 0, .float .f64 0, .float .f64 0]
theorem cell_lt {w : World} {b i : Nat} {v : Value} (h : w.cell? ⟨b, i, none⟩ = some v) : b < w.heap.size := World.block_lt_of_cell? w _ h
theorem cell_alloc {w : World} {b i : Nat} {v : Value} (h : w.cell? ⟨b, i, none⟩ = some v) (o : Obj) : (w.alloc o).cell? ⟨b, i, none⟩ = some v := by
  rw [← h]; exact World.cell?_of_block (w := w) (Below.heap_alloc _ _ _ (cell_lt h))
theorem Only.cel {S : Nat → Prop} {w w' : World} (h : Only S w w') {b i : Nat} {v : Value} (hc : w.cell? ⟨b, i, none⟩ = some v) (hs : ¬ S b) : w'.cell? ⟨b, i, none⟩ = some v := by
  rw [h.cellAt (cell_lt hc) hs, hc]
/-- seven cells of a block are written -/
def put7 (w : World) (b : Nat) (v0 v1 v2 v3 v4 v5 v6 : Value) : World := ((((((w.setCell ⟨b, 0, none⟩ v0).setCell ⟨b, 1, none⟩ v1).setCell ⟨b, 2, none⟩ v2).setCell ⟨b, 3, none⟩ v3).setCell ⟨b, 4, none⟩ v4).setCell ⟨b, 5, none⟩ v5).setCell ⟨b, 6, none⟩ v6
theorem put7_blk {w : World} {b : Nat} {c0 c1 c2 c3 c4 c5 c6 : Value} {t : TypeId} {f : Nat × Nat} (h : w.heap[b]? = some (.cells #[c0, c1, c2, c3, c4, c5, c6] t f)) (v0 v1 v2 v3 v4 v5 v6 : Value) :
    (put7 w b v0 v1 v2 v3 v4 v5 v6).heap[b]? = some (.cells #[v0, v1, v2, v3, v4, v5, v6] t f) := by
  have h0 : (w.setCell ⟨b, 0, none⟩ v0).heap[b]? = some (.cells #[v0, c1, c2, c3, c4, c5, c6] t f) := blk_set h 0 v0
  have h1 : ((w.setCell ⟨b, 0, none⟩ v0).setCell ⟨b, 1, none⟩ v1).heap[b]? = some (.cells #[v0, v1, c2, c3, c4, c5, c6] t f) := blk_set h0 1 v1
  have h2 : (((w.setCell ⟨b, 0, none⟩ v0).setCell ⟨b, 1, none⟩ v1).setCell ⟨b, 2, none⟩ v2).heap[b]? = some (.cells #[v0, v1, v2, c3, c4, c5, c6] t f) := blk_set h1 2 v2
  have h3 : ((((w.setCell ⟨b, 0, none⟩ v0).setCell ⟨b, 1, none⟩ v1).setCell ⟨b, 2, none⟩ v2).setCell ⟨b, 3, none⟩ v3).heap[b]? = some (.cells #[v0, v1, v2, v3, c4, c5, c6] t f) := blk_set h2 3 v3
  have h4 : (((((w.setCell ⟨b, 0, none⟩ v0).setCell ⟨b, 1, none⟩ v1).setCell ⟨b, 2, none⟩ v2).setCell ⟨b, 3, none⟩ v3).setCell ⟨b, 4, none⟩ v4).heap[b]? = some (.cells #[v0, v1, v2, v3, v4, c5, c6] t f) := blk_set h3 4 v4
  have h5 : ((((((w.setCell ⟨b, 0, none⟩ v0).setCell ⟨b, 1, none⟩ v1).setCell ⟨b, 2, none⟩ v2).setCell ⟨b, 3, none⟩ v3).setCell ⟨b, 4, none⟩ v4).setCell ⟨b, 5, none⟩ v5).heap[b]? = some (.cells #[v0, v1, v2, v3, v4, v5, c6] t f) := blk_set h4 5 v5
  have h6 : (((((((w.setCell ⟨b, 0, none⟩ v0).setCell ⟨b, 1, none⟩ v1).setCell ⟨b, 2, none⟩ v2).setCell ⟨b, 3, none⟩ v3).setCell ⟨b, 4, none⟩ v4).setCell ⟨b, 5, none⟩ v5).setCell ⟨b, 6, none⟩ v6).heap[b]? = some (.cells #[v0, v1, v2, v3, v4, v5, v6] t f) := blk_set h5 6 v6
  exact h6
theorem Only.put7 {S : Nat → Prop} {a w : World} (h : Only S a w) {b : Nat} (hb : a.heap.size ≤ b ∨ S b) (v0 v1 v2 v3 v4 v5 v6 : Value) : Only S a (put7 w b v0 v1 v2 v3 v4 v5 v6) :=
  ((((((h.setCell (p := ⟨b, 0, none⟩) hb v0).setCell (p := ⟨b, 1, none⟩) hb v1).setCell (p := ⟨b, 2, none⟩) hb v2).setCell (p := ⟨b, 3, none⟩) hb v3).setCell (p := ⟨b, 4, none⟩) hb v4).setCell (p := ⟨b, 5, none⟩) hb v5).setCell (p := ⟨b, 6, none⟩) hb v6
/-- a block of seven cells, each fact apart -/
structure Seven (w : World) (b : Nat) (v0 v1 v2 v3 v4 v5 v6 : Value) : Prop where
  d0 : w.cell? ⟨b, 0, none⟩ = some v0
  d1 : w.cell? ⟨b, 1, none⟩ = some v1
  d2 : w.cell? ⟨b, 2, none⟩ = some v2
  d3 : w.cell? ⟨b, 3, none⟩ = some v3
  d4 : w.cell? ⟨b, 4, none⟩ = some v4
  d5 : w.cell? ⟨b, 5, none⟩ = some v5
  d6 : w.cell? ⟨b, 6, none⟩ = some v6
  f0 : w.frozen? ⟨b, 0, none⟩ = false
  f1 : w.frozen? ⟨b, 1, none⟩ = false
  f2 : w.frozen? ⟨b, 2, none⟩ = false
  f3 : w.frozen? ⟨b, 3, none⟩ = false
  f4 : w.frozen? ⟨b, 4, none⟩ = false
  f5 : w.frozen? ⟨b, 5, none⟩ = false
  f6 : w.frozen? ⟨b, 6, none⟩ = false
theorem seven {w : World} {b : Nat} {c0 c1 c2 c3 c4 c5 c6 : Value} {t : TypeId} (h : w.heap[b]? = some (.cells #[c0, c1, c2, c3, c4, c5, c6] t (0, 0))) : Seven w b c0 c1 c2 c3 c4 c5 c6 :=
  ⟨blk_cell h 0, blk_cell h 1, blk_cell h 2, blk_cell h 3, blk_cell h 4, blk_cell h 5, blk_cell h 6, blk_free h 0, blk_free h 1, blk_free h 2, blk_free h 3, blk_free h 4, blk_free h 5, blk_free h 6⟩
theorem run_stf (a : Addr) (x : Nat) (w : World) : (store a (.float .f64 x)).run Try.prog w = stored Try.prog w a (.float .f64 x) .plain := run_store Try.prog w a _ _ rfl
theorem run_stc (a : Addr) (x y : Nat) (w : World) : (store a (.complex .f64 x y)).run Try.prog w = stored Try.prog w a (.complex .f64 x y) .plain := run_store Try.prog w a _ _ rfl
theorem total_calls (b cap : Nat) (x y : Int) (w : World) (h0 : w.cell? ⟨b, 0, none⟩ = some (.int .i64 x)) (h1 : w.cell? ⟨b, 1, none⟩ = some (.int .i64 y)) :
    Calls Try.prog 141 #[.slice (some ⟨b, 0, none⟩) 2 cap] w fun e w' => e = .returned (.agg #[.int .i64 y, .int .u64 (IntKind.u64.wrap x)]) ∧ Only (fun _ => False) w w' := by
  have c0 := cell_alloc h0 (.cells #[.int .i64 0, .int .u64 0] 35)
  have c1 := cell_alloc h1 (.cells #[.int .i64 0, .int .u64 0] 35)
  go_enter Try.func141, Try.ntmps141
  go_wp2_with fail
  go_region
  all_goals
    go_wp2_with fail
    refine bodyPost_ret (v := .agg #[.int .i64 y, .int .u64 (IntKind.u64.wrap x)]) (by simp [results, Try.results141, go_sem]) rfl ⟨rfl, ?_⟩
    exact ((Only.refl _ w).alloc _).drew
set_option maxHeartbeats 1000000 in
theorem partc_calls (c : Value) (b cap : Nat) (x y : Int) (w : World) (h0 : w.cell? ⟨b, 0, none⟩ = some (.int .i64 x)) (h1 : w.cell? ⟨b, 1, none⟩ = some (.int .i64 y)) :
    Calls Try.prog 140 #[.agg #[c], .slice (some ⟨b, 0, none⟩) 2 cap] w fun e w' => e = .returned (partc y (IntKind.u64.wrap x)) ∧ Only (fun _ => False) w w' := by
  have K := Lib.hid (total_calls b cap x y _ (cell_alloc (cell_alloc h0 (.cells #[c] 99)) (.cells #[.int .i64 0, .int .u64 0, .slice none 0 0, .int .u64 0, .complex .f64 0 0, .float .f64 0, .float .f64 0] 42)) (cell_alloc (cell_alloc h1 (.cells #[c] 99)) (.cells #[.int .i64 0, .int .u64 0, .slice none 0 0, .int .u64 0, .complex .f64 0 0, .float .f64 0, .float .f64 0] 42)))
  clear h0 h1
  go_enter Try.func140, Try.ntmps140
  go_wp2_with fail
  refine K.out.mono ?_
  rintro e w1 ⟨rfl, O1⟩
  have hb := O1.blk (blk_new _ _) (by simp)
  have hsz : (w.alloc (.cells #[c] 99)).heap.size = w.heap.size + 1 := by simp
  rw [hsz] at hb
  obtain ⟨d0, d1, d2, d3, d4, d5, d6, f0, f1, f2, f3, f4, f5, f6⟩ := seven hb
  have Hb := Lib.hid hb; clear hb hsz
  have ks1 := run_stf
  have ks2 := run_stc
  go_wp2_with fail
  have e7 := seven (put7_blk Hb.out (.int .i64 y) (.int .u64 (IntKind.u64.wrap x)) (.slice none 0 0) (.int .u64 0) (.complex .f64 0 0) (.float .f64 0) (.float .f64 0))
  have O7 : Only (fun _ => False) w (put7 w1 (w.heap.size + 1) (.int .i64 y) (.int .u64 (IntKind.u64.wrap x)) (.slice none 0 0) (.int .u64 0) (.complex .f64 0 0) (.float .f64 0) (.float .f64 0)) :=
    ((((Only.refl _ w).alloc _).alloc _).trans O1).put7 (.inl (by omega)) _ _ _ _ _ _ _
  refine bodyPost_ret (w := put7 w1 (w.heap.size + 1) (.int .i64 y) (.int .u64 (IntKind.u64.wrap x)) (.slice none 0 0) (.int .u64 0) (.complex .f64 0 0) (.float .f64 0) (.float .f64 0)) (v := partc y (IntKind.u64.wrap x)) ?_ rfl ⟨rfl, O7⟩
  clear O7 O1
  generalize put7 w1 (w.heap.size + 1) (.int .i64 y) (.int .u64 (IntKind.u64.wrap x)) (.slice none 0 0) (.int .u64 0) (.complex .f64 0 0) (.float .f64 0) (.float .f64 0) = w7 at *
  obtain ⟨d0, d1, d2, d3, d4, d5, d6, f0, f1, f2, f3, f4, f5, f6⟩ := e7
  simp [results, Try.results140, go_sem, d0, d1, d2, d3, d4, d5, d6, partc]
end Go.Proofs.Ytimiojckinpfdaa

/- The walks of slices.Grow at nil, and of slices.Concat of two lists. -/
namespace Go.Proofs.Ytimiojckinpfdaa
open Go.RowKit Srt

theorem info55 : (Try.prog.info? 55).map (fun i => (i.zero, i.size, i.bytes)) = some (some (.agg #[.int .i64 0, .int .u64 0]), 2, 16) := by kernel_rfl
theorem size55 : (Try.prog.info? 55).map (·.size) = some 2 := by kernel_rfl
theorem zero_len (z : Array Value) (n : Nat) : (Builtin.zeroCells z n).size = n * z.size := by simp [Builtin.zeroCells]
theorem grown_row (w : World) (n : Nat) (hn : n ≤ 8796093022208) :
    (w.drew.alloc (.cells (Builtin.zeroCells #[Value.int .i64 0, .int .u64 0] n ++ Builtin.zeroCells #[.int .i64 0, .int .u64 0] (grownCap w n 0 55 - n)) 55)).ownsRow w.heap.size 55 2 (.slice (some ⟨w.heap.size, 0, none⟩) 0 (grownCap w n 0 55)) 0 [] := by
  have h1 := grownCap_ge w n 0 55
  have h2 := grownCap_le_maxLen w n 0 55 (by unfold maxLen; omega)
  refine ⟨rfl, .inr ⟨w.heap.size, _, _, rfl, Nat.le_refl _, blk_new _ _, Nat.zero_le _, h2, ?_, by simp⟩⟩
  rw [Array.size_append, zero_len, zero_len]
  show n * 2 + (grownCap w n 0 55 - n) * 2 = _
  omega
def GrowRes (w : World) (e : Ending) (w' : World) : Prop := ∃ v, e = .returned v ∧ Only (fun _ => False) w w' ∧ w'.ownsRow w.heap.size 55 2 v 0 []
set_option maxRecDepth 100000 in
set_option maxHeartbeats 1000000 in
theorem grow_any (n : Nat) (w : World) (hn : n ≤ 8796093022208) : Calls Try.prog 101 #[.slice none 0 0, .int .i64 n] w (GrowRes w) := by
  obtain ⟨i3, hi3, hz3, hs3, hb3⟩ := info_parts info55
  by_cases h0 : n = 0
  · subst h0
    go_enter Try.func101, Try.ntmps101
    go_wp2_with fail
    go_ret
    exact ⟨_, rfl, Only.refl _ _, rfl, .inl ⟨rfl, rfl⟩⟩
  · have k1 : decide ((n : Int) < 0) = false := by simp
    have k2 : decide (0 < n) = true := by simp; omega
    have k3 : 0 < n := by omega
    have hrun := Lib.run_append_nil_zeros (P := Try.prog) w 36 3 36 55 i3 (.agg #[.int .i64 0, .int .u64 0]) .i64 .i64 Try.underlying36 Try.underlying3 hi3 hz3 n (by omega) (by rw [hs3]; decide) (by omega) (by rw [hb3]; omega)
    have hrow := Lib.hid (grown_row w n hn)
    have O := Lib.hid ((Only.refl (fun _ => False) w).drew.alloc (.cells (Builtin.zeroCells #[Value.int .i64 0, .int .u64 0] n ++ Builtin.zeroCells #[.int .i64 0, .int .u64 0] (grownCap w n 0 55 - n)) 55))
    have hcap : 0 ≤ grownCap w n 0 55 := Nat.zero_le _
    have Hrun := Lib.hid hrun
    clear hrun h0
    go_enter Try.func101, Try.ntmps101
    go_wp2_with (at_builtin; refine Lib.wpList_append_run _ rfl (.tmp 20) (.tmp 21) 36 3 rfl (.slice none 0 0) (.int .i64 n) (by simp [Act.eval]) (by simp [Act.eval]) _ _ Hrun.out ?_)
    go_ret
    exact ⟨_, rfl, O.out, hrow.out⟩
def CSum (n1 n2 : Nat) (s i : Value) : Prop := (s = .int .i64 0 ∧ i = .int .i64 0) ∨ (s = .int .i64 n1 ∧ i = .int .i64 1) ∨ (s = .int .i64 ((n1 : Int) + n2) ∧ i = .int .i64 2)
def CRow (w : World) (c1 c2 : Nat → Cn) (n1 n2 : Nat) (v i : Value) (wr : World) : Prop :=
  Only (fun _ => False) w wr ∧ ((i = .int .i64 0 ∧ wr.ownsRow w.heap.size 55 2 v 0 []) ∨ (i = .int .i64 1 ∧ wr.ownsRow w.heap.size 55 2 v n1 (cl c1 n1)) ∨ (i = .int .i64 2 ∧ wr.ownsRow w.heap.size 55 2 v (n1 + n2) (cl (cat c1 c2 n1) (n1 + n2))))
theorem own_only {S : Nat → Prop} {w wr w' : World} {base e size n keep : Nat} {v v' : Value} {xs : List Value} (O : Only S w wr) (ho : wr.ownsRow base e size v n xs) (hb : w.heap.size ≤ base) (hg : Grew wr w' v v' keep) : Only S w w' :=
  O.grown hg.grown fun k hk => .inl (by obtain ⟨q, _⟩ := own_tag ho hk; omega)
def ConcRes (w : World) (c : Nat → Cn) (n : Nat) (e : Ending) (w' : World) : Prop := ∃ v, e = .returned v ∧ Only (fun _ => False) w w' ∧ w'.ownsRow w.heap.size 55 2 v n (cl c n)
set_option maxRecDepth 100000 in
set_option maxHeartbeats 2000000 in
theorem concat_calls (q : Nat) (p1 p2 : Option Addr) (n1 n2 k1 k2 : Nat) (c1 c2 : Nat → Cn) (w : World) (h1 : w.cell? ⟨q, 0, none⟩ = some (.slice p1 n1 k1)) (h2 : w.cell? ⟨q, 1, none⟩ = some (.slice p2 n2 k2))
    (hc1 : Cnts w p1 n1 c1) (hc2 : Cnts w p2 n2 c2) (e1 : p1 = none → n1 = 0) (e2 : p2 = none → n2 = 0) (hn : n1 + n2 ≤ 8796093022208) :
    Calls Try.prog 74 #[.slice (some ⟨q, 0, none⟩) 2 2] w (ConcRes w (cat c1 c2 n1) (n1 + n2)) := by
  obtain ⟨i3, hi3, hz3, hs3, hb3⟩ := info_parts info55
  have C1 := Lib.hid hc1
  have C2 := Lib.hid hc2
  have E1 := Lib.hid e1
  have E2 := Lib.hid e2
  clear hc1 hc2 e1 e2
  go_enter Try.func74, Try.ntmps74
  go_wp2_with fail
  go_loop [3, 11] (fun s i => CSum n1 n2 s i) (fun _ i => 2 - (intOf i).toNat)
  case atStart => exact .inl ⟨rfl, rfl⟩
  case round =>
    obtain ⟨rfl, rfl⟩ | ⟨rfl, rfl⟩ | ⟨rfl, rfl⟩ := hrel
    · have k : decide ((n1 : Int) < 0) = false := by simp
      go_wp2_with fail
      go_round
      case rel => exact .inr (.inl ⟨rfl, rfl⟩)
      case measure => simp [intOf]
    · have k : decide ((n1 : Int) + n2 < 0) = false := by simp; omega
      go_wp2_with fail
      go_round
      case rel => exact .inr (.inr ⟨rfl, rfl⟩)
      case measure => simp [intOf]
    · have K := grow_any (n1 + n2) w hn
      rw [show ((n1 + n2 : Nat) : Int) = (n1 : Int) + n2 by omega] at K
      have K' := Lib.hid K; clear K
      go_wp2_with fail
      refine K'.out.mono ?_
      rintro e w1 ⟨v, rfl, O1, R1⟩
      have H1 := Lib.hid h1
      have H2 := Lib.hid h2
      have hO := Lib.hid O1
      have hR := Lib.hid R1
      clear h1 h2 O1 R1 K'
      go_wp2_with fail
      go_loopw [6, 27] (fun v i wr => CRow w c1 c2 n1 n2 v i wr) (fun _ i _ => 2 - (intOf i).toNat)
      case atStart => exact ⟨hO.out, .inl ⟨rfl, hR.out⟩⟩
      case round =>
        obtain ⟨O, ⟨rfl, R⟩ | ⟨rfl, R⟩ | ⟨rfl, R⟩⟩ := hrel
        · have f1 := O.cel H1.out id
          have X := Lib.hid O
          have Y := Lib.hid R
          clear O R
          go_wp2_with (at_builtin; go_loud (refine wpList_append_any _ rfl (.tmp 31) (.tmp 32) 36 rfl 55 i3 (.agg #[.int .i64 0, .int .u64 0]) 2 16 Try.underlying36 hi3 hz3 hs3 hb3 rfl (by decide) w.heap.size 0 _ [] (by simp [Act.eval]) Y.out X.out.size p1 n1 k1 (cl c1 n1) (by simp [Act.eval]) E1.out (cl_len _ _) (fun ad j u hp hj => cl_src (C1.out.only X.out (fun _ _ h => h)) ad j u hp hj) (cl_one _ _) (by unfold maxLen; omega) (by omega) ?_; intro v' w' hgr hown; have X' := Lib.hid (own_only X.out Y.out (Nat.le_refl _) hgr); have Y' := Lib.hid (show w'.ownsRow w.heap.size 55 2 v' n1 (cl c1 n1) by simpa using hown); clear hgr hown))
          go_roundw
          case rel => exact ⟨X'.out, .inr (.inl ⟨rfl, Y'.out⟩)⟩
          case measure => simp [intOf]
        · have f2 := O.cel H2.out id
          have X := Lib.hid O
          have Y := Lib.hid R
          clear O R
          go_wp2_with (at_builtin; go_loud (refine wpList_append_any _ rfl (.tmp 31) (.tmp 32) 36 rfl 55 i3 (.agg #[.int .i64 0, .int .u64 0]) 2 16 Try.underlying36 hi3 hz3 hs3 hb3 rfl (by decide) w.heap.size n1 _ (cl c1 n1) (by simp [Act.eval]) Y.out X.out.size p2 n2 k2 (cl c2 n2) (by simp [Act.eval]) E2.out (cl_len _ _) (fun ad j u hp hj => cl_src (C2.out.only X.out (fun _ _ h => h)) ad j u hp hj) (cl_one _ _) (by unfold maxLen; omega) (by omega) ?_; intro v' w' hgr hown; have X' := Lib.hid (own_only X.out Y.out (Nat.le_refl _) hgr); have Y' := Lib.hid (show w'.ownsRow w.heap.size 55 2 v' (n1 + n2) (cl (cat c1 c2 n1) (n1 + n2)) by rw [cl_cat]; exact hown); clear hgr hown))
          go_roundw
          case rel => exact ⟨X'.out, .inr (.inr ⟨rfl, Y'.out⟩)⟩
          case measure => simp [intOf]
        · have X := Lib.hid O
          have Y := Lib.hid R
          clear O R
          go_wp2_with fail
          go_ret
          exact ⟨_, rfl, X.out, Y.out⟩
end Go.Proofs.Ytimiojckinpfdaa
