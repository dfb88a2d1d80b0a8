/- A block told by a function of its cells; for the replacer's build. -/
import Derived.Test.YtiijgghholhcnaaGreatDoorJL06
import Derived.Test.YtiijgghholhcnaaGreatDoorJL05
import Derived.Lib.ConvBytes
import Derived.Test.YtiijgghholhcnaaGreatDoorJL04
import Derived.WalkMore
import Derived.LoopN
import Derived.Deep.WholeRow
namespace Go.Proofs.YtiijgghholhcnaaGreatDoor
open Go.RowKit
set_option maxRecDepth 1000000
/-- block b has n cells of the type t, as F tells -/
def Fb (w : World) (b n : Nat) (t : TypeId) (F : Nat → Value) : Prop := ∃ cs : Array Value, w.heap[b]? = some (.cells cs t (0, 0)) ∧ cs.size = n ∧ ∀ k, k < n → cs[k]? = some (F k)
section
variable {w w' : World} {b n : Nat} {t : TypeId} {F : Nat → Value}
theorem Fb.cell (h : Fb w b n t F) {k : Nat} (hk : k < n) : w.cell? ⟨b, k, none⟩ = some (F k) := by
  obtain ⟨cs, h1, _, h3⟩ := h
  rw [blk_cell h1, h3 k hk]
theorem Fb.free (h : Fb w b n t F) (k : Nat) : w.frozen? ⟨b, k, none⟩ = false := by
  obtain ⟨cs, h1, _⟩ := h
  exact blk_free h1 k
theorem Fb.set (h : Fb w b n t F) (i : Nat) (v : Value) : Fb (w.setCell ⟨b, i, none⟩ v) b n t (fun k => if k = i then v else F k) := by
  obtain ⟨cs, h1, h2, h3⟩ := h
  refine ⟨_, blk_set h1 i v, by simpa using h2, fun k hk => ?_⟩
  rw [Array.getElem?_setIfInBounds]
  by_cases e : i = k
  · subst e; simp; omega
  · rw [if_neg e]; show cs[k]? = some (if k = i then v else F k); rw [if_neg (fun q : k = i => e q.symm)]; exact h3 k hk
theorem Fb.only {S : Nat → Prop} (h : Fb w b n t F) (O : Only S w w') (hs : ¬ S b) : Fb w' b n t F := by
  obtain ⟨cs, h1, h2⟩ := h
  exact ⟨cs, O.blk h1 hs, h2⟩
theorem Fb.drew (h : Fb w b n t F) : Fb w.drew b n t F := h
theorem Fb.congr {G : Nat → Value} (h : Fb w b n t F) (e : ∀ k, k < n → F k = G k) : Fb w b n t G := by
  obtain ⟨cs, h1, h2, h3⟩ := h
  exact ⟨cs, h1, h2, fun k hk => by rw [h3 k hk, e k hk]⟩
theorem Fb.lt (h : Fb w b n t F) : b < w.heap.size := by
  obtain ⟨cs, h1, _⟩ := h
  exact blk_lt h1
end
theorem hi9 : Tryz.prog.info? 9 = some Tryz.t9 := by kernel_rfl
theorem hz9 : Tryz.t9.zero = some (.string ⟨#[]⟩) := by kernel_rfl
theorem hs9 : Tryz.t9.size = 1 := by kernel_rfl
theorem hb9 : Tryz.t9.bytes = 16 := by kernel_rfl
theorem run_mk2 (w : World) : Sem.run Tryz.prog (Instr.makeSlice 68 (.int .i64 0) (.int .i64 2)) w = .ok (.slice (some ⟨w.heap.size, 0, none⟩) 0 2) (w.alloc (.cells (madeCells #[.string ⟨#[]⟩] 2) 9)) := by
  have hmk := run_make (P := Tryz.prog) (w := w) 68 9 Tryz.t9 (.string ⟨#[]⟩) Tryz.underlying68 hi9 hz9 .i64 .i64 0 2 (by omega) (by omega) (by rw [hb9]; omega) (by omega)
  rw [hs9] at hmk
  exact hmk
theorem zc192 : Tryz.zeroCells192 = Array.replicate 257 (.slice none 0 0) := by kernel_rfl
theorem size192 : (Tryz.prog.info? 192).map (·.size) = some 257 := by kernel_rfl
theorem store192 (w : World) (v : Value) (hv : v.oneCell' = true) : Sem.run Tryz.prog (storeCells ⟨w.heap.size, 0, none⟩ (Tryz.zeroCells192.toList.set 256 v)) (w.alloc (.cells Tryz.zeroCells192 192)) = .ok () (w.alloc (.cells (Tryz.zeroCells192.setIfInBounds 256 v) 192)) := by
  have h := run_storeCells_new (P := Tryz.prog) w 192 Tryz.zeroCells192 (Tryz.zeroCells192.setIfInBounds 256 v) (by rw [size192, zc192]; simp) (by simp) (by
    rw [zc192, Array.all_eq_true_iff_forall_mem]
    intro x hx
    rcases Array.mem_or_eq_of_mem_setIfInBounds hx with h | h
    · rw [(Array.mem_replicate.1 h).2]; rfl
    · rw [h]; exact hv)
  rw [Array.toList_setIfInBounds] at h
  exact h
theorem fb192 (w : World) (v : Value) : Fb (w.alloc (.cells (Tryz.zeroCells192.setIfInBounds 256 v) 192)) w.heap.size 257 192 (fun k => if k = 256 then v else .slice none 0 0) := by
  refine ⟨_, blk_new w _, by rw [zc192]; simp, fun k hk => ?_⟩
  rw [zc192, Array.getElem?_setIfInBounds]
  by_cases e : 256 = k
  · subst e; simp
  · rw [if_neg e]
    show _ = some (if k = 256 then v else .slice none 0 0)
    rw [if_neg (fun h : k = 256 => e h.symm)]
    simp [hk]
theorem conv1 (w : World) (x : UInt8) : Sem.run Tryz.prog (convert 27 9 (.slice (some ⟨w.heap.size, 0, none⟩) 1 1)) (w.alloc (.cells #[.int .u8 (x.toNat : Int)] 5)) = .ok (.string ⟨#[x]⟩) (w.alloc (.cells #[.int .u8 (x.toNat : Int)] 5)) := by
  have := run_convert_bytes_back (P := Tryz.prog) (w.alloc (.cells #[.int .u8 (x.toNat : Int)] 5)) 27 9 5 ⟨w.heap.size, 0, none⟩ 1 [x] Tryz.underlying27 Tryz.underlying5 Tryz.underlying9 (fun j hj => by
    have hj0 : j = 0 := by simp at hj; omega
    subst hj0
    have ha : (⟨w.heap.size, 0, none⟩ : Addr).add 0 = ⟨w.heap.size, 0, none⟩ := rfl
    rw [ha, blk_cell (blk_new w _)]; rfl)
  exact this
theorem own_len {w : World} {B e n : Nat} {v : Value} {xs : List Value} (h : w.ownsRow B e 1 v n xs) : ∃ p c, v = .slice p n c := by
  rcases h.2 with ⟨rfl, rfl⟩ | ⟨g, cap, cur, rfl, _⟩
  · exact ⟨_, _, rfl⟩
  · exact ⟨_, _, rfl⟩
/-- a string appended to a row of the call's own -/
theorem wp_tr {ops : Array Oper} {rest : List Oper} {o : Oper} {a : Act} {Q : Exit → Act → World → Prop} {w : World} {B n : Nat} {v : Value} {xs : List Value} {S : ByteArray}
    (hown : w.ownsRow B 9 1 v n xs) (hB : B ≤ w.heap.size) (hgd : o.guard = none) (sl x : Operand) (ho : o.op = .call { callee := .builtin .append, args := #[sl, x], argTypes := #[68, 68] })
    (hs : a.eval sl = v) (hx : a.eval x = .slice (some ⟨w.heap.size, 0, none⟩) 1 1) (hb : n ≤ 1000000)
    (h : ∀ p m c w', w'.ownsRow B 9 1 (.slice p m c) (n + 1) (xs ++ [.string S]) → Grew (w.alloc (.cells #[.string S] 9)) w' v (.slice p m c) (n * 1) → wpList Tryz.prog ops Q rest (a.put o.dst (.slice p m c)) w') :
    wpList Tryz.prog ops Q (o :: rest) a (w.alloc (.cells #[.string S] 9)) := by
  have hsz : w.heap.size ≤ (w.alloc (.cells #[.string S] 9)).heap.size := ((Only.refl (fun _ => False) w).alloc _).size
  refine wpList_append_kept (w.alloc (.cells #[.string S] 9)) hgd sl x 68 ho 9 Tryz.t9 (.string ⟨#[]⟩) 1 16 Tryz.underlying68 hi9 hz9 hs9 hb9 rfl (by decide) B n v _ hs (hown.alloc _) (Nat.le_trans hB hsz) ⟨w.heap.size, 0, none⟩ 1 1 [.string S] hx rfl ?_ (by simp [Value.oneCell']) (by decide) (by unfold maxLen; omega) (by omega) ?_
  · intro j u hu
    have ha : (⟨w.heap.size, 0, none⟩ : Addr).add j = ⟨w.heap.size, j, none⟩ := by unfold Addr.add; split <;> simp_all
    rw [ha, blk_cell (blk_new w _)]
    simpa using hu
  · intro v' w' hg ho'
    obtain ⟨p, m, c, rfl⟩ := own_slice ho'
    exact h p m c w' ho' hg
/-- the bytes of l lie in block b -/
def Br (w : World) (b : Nat) (l : List UInt8) : Prop := b < w.heap.size ∧ ∀ i, i < l.length → w.cell? ⟨b, i, none⟩ = some (.int .u8 ((l.getD i 0).toNat : Int))
theorem Br.only {w w' : World} {b : Nat} {l : List UInt8} {S : Nat → Prop} (h : Br w b l) (O : Only S w w') (hS : ¬ S b) : Br w' b l :=
  ⟨Nat.lt_of_lt_of_le h.1 O.size, fun i hi => (O.cellAt h.1 hS i).trans (h.2 i hi)⟩
/-- pairs: one byte, and what it becomes -/
structure Old (w : World) (sb n : Nat) (x : Nat → UInt8) (S : Nat → List UInt8) : Prop where
  c0 : ∀ k, k < n → w.cell? ⟨sb, 2 * k, none⟩ = some (.string ⟨#[x k]⟩)
  c1 : ∀ k, k < n → w.cell? ⟨sb, 2 * k + 1, none⟩ = some (.string ⟨(S k).toArray⟩)
  lt : sb < w.heap.size
theorem Old.only {w w' : World} {sb n : Nat} {x : Nat → UInt8} {S : Nat → List UInt8} {T : Nat → Prop} (h : Old w sb n x S) (O : Only T w w') (hT : ¬ T sb) : Old w' sb n x S :=
  ⟨fun k hk => (O.cellAt h.lt hT _).trans (h.c0 k hk), fun k hk => (O.cellAt h.lt hT _).trans (h.c1 k hk), Nat.lt_of_lt_of_le h.lt O.size⟩
def xs9 (n : Nat) (x : Nat → UInt8) : Nat → List Value
  | 0 => []
  | k + 1 => xs9 n x k ++ [.string ⟨#[x (n - 1 - k)]⟩]
/-- the table of the last k pairs -/
structure Tb (w : World) (B q n k : Nat) (x : Nat → UInt8) (S : Nat → List UInt8) (v : Value) (F : Nat → Value) : Prop where
  fb : Fb w q 257 192 F
  fv : F 256 = v
  nil : ∀ y : UInt8, (∀ j, n - k ≤ j → j < n → x j ≠ y) → F y.toNat = .slice none 0 0
  some' : ∀ j, n - k ≤ j → j < n → ∃ b c, F (x j).toNat = .slice (some ⟨b, 0, none⟩) (S j).length c ∧ v.ownBlock ≠ some b ∧ b ≠ q ∧ Br w b (S j) ∧ B ≤ b
structure Bl (w0 w : World) (q n k : Nat) (x : Nat → UInt8) (S : Nat → List UInt8) (v : Value) : Prop where
  tb : ∃ F, Tb w w0.heap.size q n k x S v F
  own : w.ownsRow w0.heap.size 9 1 v k (xs9 n x k)
  only : Only (fun _ => False) w0 w
  q0 : w0.heap.size ≤ q
  qv : v.ownBlock ≠ some q
theorem bytes_only (w : World) (s : ByteArray) (T : Nat → Prop) : Only T w (Go.Lib.bytesWorld w 5 s) :=
  ⟨rfl, rfl, rfl, by rw [Go.Lib.bytesWorld_size]; omega, fun k hk _ => Go.Lib.bytesWorld_at_old w 5 s k hk⟩
theorem u8_lt (y : UInt8) : y.toNat < 256 := y.toNat_lt
/-- one pair more -/
theorem Bl.step {w0 w w' : World} {q n k : Nat} {x : Nat → UInt8} {S : Nat → List UInt8} {v v' : Value} (h : Bl w0 w q n k x S v) (hk : k < n) (hinj : ∀ i j, i < n → j < n → x i = x j → i = j)
    (hg : Grew ((w.alloc (.cells #[.int .u8 ((x (n - 1 - k)).toNat : Int)] 5)).alloc (.cells #[.string ⟨#[x (n - 1 - k)]⟩] 9)) w' v v' (k * 1)) (ho : w'.ownsRow w0.heap.size 9 1 v' (k + 1) (xs9 n x k ++ [.string ⟨#[x (n - 1 - k)]⟩])) (c : Nat) :
    Bl w0 ((Go.Lib.bytesWorld (w'.setCell ⟨q, 256, none⟩ v') 5 ⟨(S (n - 1 - k)).toArray⟩).setCell ⟨q, (x (n - 1 - k)).toNat, none⟩ (.slice (some ⟨(w'.setCell ⟨q, 256, none⟩ v').heap.size, 0, none⟩) (S (n - 1 - k)).length c)) q n (k + 1) x S v' := by
  obtain ⟨F, T⟩ := h.tb
  have hq : q < w.heap.size := T.fb.lt
  have O1 : Only (fun b => v.ownBlock = some b) w w' := (((Only.refl _ w).alloc _).alloc _).grown hg.grown (fun b hb => .inr hb)
  have hq1 : ¬ (fun b => v.ownBlock = some b) q := h.qv
  have T1 := T.fb.only O1 hq1
  have T2 := T1.set 256 v'
  have O2 : Only (fun b => b = q) w' (w'.setCell ⟨q, 256, none⟩ v') := Only.set1 q w' 256 v'
  have sz2 : (w'.setCell ⟨q, 256, none⟩ v').heap.size = w'.heap.size := by simp [World.setCell]
  have O3 := bytes_only (w'.setCell ⟨q, 256, none⟩ v') ⟨(S (n - 1 - k)).toArray⟩ (fun _ => False)
  have T3 := T2.only O3 (fun e => e)
  have T4 := T3.set (x (n - 1 - k)).toNat (.slice (some ⟨(w'.setCell ⟨q, 256, none⟩ v').heap.size, 0, none⟩) (S (n - 1 - k)).length c)
  have O4 := Only.set1 q (Go.Lib.bytesWorld (w'.setCell ⟨q, 256, none⟩ v') 5 ⟨(S (n - 1 - k)).toArray⟩) (x (n - 1 - k)).toNat (.slice (some ⟨(w'.setCell ⟨q, 256, none⟩ v').heap.size, 0, none⟩) (S (n - 1 - k)).length c)
  have O14 := (O2.trans (O3.mono (fun _ _ e => e.elim))).trans O4
  have qv' : ∀ b, v'.ownBlock = some b → b ≠ q := by
    intro b hb e
    subst e
    rcases hg.which with e | ⟨g, e, hge⟩
    · rw [e] at hb; exact h.qv hb
    · rw [e] at hb; cases hb
      have := (((Only.refl (fun _ => False) w).alloc (.cells #[.int .u8 ((x (n - 1 - k)).toNat : Int)] 5)).alloc (.cells #[.string ⟨#[x (n - 1 - k)]⟩] 9)).size
      omega
  have wl : w.heap.size ≤ w'.heap.size := O1.size
  have own' := own_keepS ho O14 (fun b hb => qv' b hb)
  have dis : ∀ b, b < w.heap.size → v.ownBlock ≠ some b → v'.ownBlock ≠ some b := by
    intro b hb hv e
    rcases hg.which with e1 | ⟨g, e1, hge⟩
    · rw [e1] at e; exact hv e
    · rw [e1] at e; cases e
      have := (((Only.refl (fun _ => False) w).alloc (.cells #[.int .u8 ((x (n - 1 - k)).toNat : Int)] 5)).alloc (.cells #[.string ⟨#[x (n - 1 - k)]⟩] 9)).size
      omega
  refine ⟨⟨_, T4, ?_, ?_, ?_⟩, own', ?_, h.q0, fun e => qv' q e rfl⟩
  · have := u8_lt (x (n - 1 - k))
    show (if 256 = (x (n - 1 - k)).toNat then _ else if 256 = 256 then v' else F 256) = v'
    rw [if_neg (by omega), if_pos rfl]
  · intro y hy
    have h1 := hy (n - 1 - k) (by omega) (by omega)
    have := u8_lt y
    show (if y.toNat = (x (n - 1 - k)).toNat then _ else if y.toNat = 256 then v' else F y.toNat) = _
    rw [if_neg (fun e => h1 (UInt8.toNat_inj.1 e).symm), if_neg (by omega)]
    exact T.nil y (fun j hj hn => hy j (by omega) hn)
  · intro j hj hn
    have := u8_lt (x j)
    by_cases e : j = n - 1 - k
    · subst e
      refine ⟨(w'.setCell ⟨q, 256, none⟩ v').heap.size, c, by show (if (x (n - 1 - k)).toNat = (x (n - 1 - k)).toNat then _ else _) = _; rw [if_pos rfl], ?_, by rw [sz2]; omega, ?_⟩
      · intro e; have := (ho.lt _ e).2; rw [sz2] at this; omega
      · have hb : Br (Go.Lib.bytesWorld (w'.setCell ⟨q, 256, none⟩ v') 5 ⟨(S (n - 1 - k)).toArray⟩) (w'.setCell ⟨q, 256, none⟩ v').heap.size (S (n - 1 - k)) := by
          refine ⟨by rw [Go.Lib.bytesWorld_size]; omega, fun i hi => ?_⟩
          exact Go.Lib.bytesWorld_cell (w'.setCell ⟨q, 256, none⟩ v') 5 ⟨(S (n - 1 - k)).toArray⟩ i hi
        exact ⟨hb.only O4 (by show ¬ (_ = q); rw [sz2]; omega), by have := h.only.size; rw [sz2]; omega⟩
    · obtain ⟨b, c', e1, e2, e3, e4, e5⟩ := T.some' j (by omega) hn
      refine ⟨b, c', ?_, dis b e4.1 e2, e3, (e4.only O1 e2).only O14 e3, e5⟩
      show (if (x j).toNat = (x (n - 1 - k)).toNat then _ else if (x j).toNat = 256 then v' else F (x j).toNat) = _
      rw [if_neg (fun q => e (hinj _ _ hn (by omega) (UInt8.toNat_inj.1 q))), if_neg (by omega)]
      exact e1
  · refine (h.only.seq2 O1 (fun i hi => .inl (h.own.lt i hi).1)).seq2 O14 (fun i hi => .inl ?_)
    rw [hi]; exact h.q0
end Go.Proofs.YtiijgghholhcnaaGreatDoor
