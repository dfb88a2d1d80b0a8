/- The walk of byteStringReplacer.Replace at any string. -/
import Derived.Test.YtiijgghholhcnaaGreatDoorJL08
import Derived.Deep.Cut
import Derived.Deep.CutRange
import Derived.Deep.DeepCutAuto
import Derived.BigQuiet
import Derived.Deep.RegionLaw
import Derived.Laws.CopyRow
import Derived.Laws.IdiomCopy
namespace Go.Proofs.YtiijgghholhcnaaGreatDoor
open Go.RowKit
set_option maxRecDepth 1000000
/-- the replacer in block q turns bytes as f tells; n bytes are turned, their texts lie in block r -/
structure Rp (w : World) (B q r n c : Nat) (x : Nat → UInt8) (S : Nat → List UInt8) : Prop where
  v : w.cell? ⟨q, 256, none⟩ = some (.slice (some ⟨r, 0, none⟩) n c)
  row : ∀ i, i < n → w.cell? ⟨r, i, none⟩ = some (.string ⟨#[x (n - 1 - i)]⟩)
  nil : ∀ b : UInt8, (∀ j, j < n → x j ≠ b) → w.cell? ⟨q, b.toNat, none⟩ = some (.slice none 0 0)
  hit : ∀ j, j < n → ∃ g k, w.cell? ⟨q, (x j).toNat, none⟩ = some (.slice (some ⟨g, 0, none⟩) (S j).length k) ∧ Br w g (S j) ∧ B ≤ g
  qB : B ≤ q
  rB : B ≤ r
  ql : q < w.heap.size
  rl : r < w.heap.size
theorem Rp.only {w w' : World} {B q r n c : Nat} {x : Nat → UInt8} {S : Nat → List UInt8} {T : Nat → Prop} (h : Rp w B q r n c x S) (O : Only T w w') (hT : ∀ b, B ≤ b → ¬ T b) : Rp w' B q r n c x S := by
  refine ⟨(O.cellAt h.ql (hT q h.qB) _).trans h.v, fun i hi => (O.cellAt h.rl (hT r h.rB) _).trans (h.row i hi), fun b hb => (O.cellAt h.ql (hT q h.qB) _).trans (h.nil b hb), fun j hj => ?_, h.qB, h.rB, Nat.lt_of_lt_of_le h.ql O.size, Nat.lt_of_lt_of_le h.rl O.size⟩
  obtain ⟨g, k, h1, h2, h3⟩ := h.hit j hj
  exact ⟨g, k, (O.cellAt h.ql (hT q h.qB) _).trans h1, h2.only O (hT g h3), h3⟩
theorem xs9_get (n : Nat) (x : Nat → UInt8) : ∀ (k i : Nat), i < k → (xs9 n x k)[i]? = some (.string ⟨#[x (n - 1 - i)]⟩)
  | k + 1, i, h => by
    have hl : ∀ k, (xs9 n x k).length = k := by
      intro k; induction k with
      | zero => rfl
      | succ k ih => rw [xs9, List.length_append, ih]; rfl
    rw [xs9]
    by_cases e : i < k
    · rw [List.getElem?_append_left (by rw [hl]; exact e)]; exact xs9_get n x k i e
    · have : i = k := by omega
      subst this
      rw [List.getElem?_append_right (by rw [hl]; exact Nat.le_refl _), hl]; simp
theorem Bl.rp {w0 w : World} {q n : Nat} {x : Nat → UInt8} {S : Nat → List UInt8} {v : Value} (h : Bl w0 w q n n x S v) (hn : 1 ≤ n) : ∃ r c, Rp w w0.heap.size q r n c x S := by
  obtain ⟨F, T⟩ := h.tb
  obtain ⟨hx, hown⟩ := h.own
  rcases hown with ⟨_, h0⟩ | ⟨g, cap, cur, rfl, h1, h2, h3⟩
  · omega
  · have hc := h.own.cells (g := g) rfl
    refine ⟨g, cap, ?_, fun i hi => ?_, fun b hb => ?_, fun j hj => ?_, h.q0, h1, T.fb.lt, blk_lt h2⟩
    · rw [T.fb.cell (by omega), T.fv]
    · have := hc i _ (xs9_get n x n i hi)
      unfold Addr.add at this
      split at this <;> simp_all
    · rw [T.fb.cell (by have := u8_lt b; omega), T.nil b (fun j _ hj => hb j hj)]
    · obtain ⟨b, c, e1, _, _, e4, e5⟩ := T.some' j (by omega) hj
      exact ⟨b, c, by rw [T.fb.cell (by have := u8_lt (x j); omega), e1], e4, e5⟩
def RcA (w0 : World) (n : Nat) (x : Nat → UInt8) (S : Nat → List UInt8) (s : List UInt8) (k : Nat) (v5 v6 : Value) (w : World) : Prop :=
  ∃ c : Bool, v5 = .int .i64 ((s.flatMap (esc n x S k)).length : Int) ∧ v6 = .bool c ∧ (c = false → s.flatMap (esc n x S k) = s) ∧ Still w0 w
def RlA (w0 : World) (n : Nat) (x : Nat → UInt8) (S : Nat → List UInt8) (s : List UInt8) (v5 v6 v32 : Value) (w : World) : Prop :=
  ∃ k : Nat, k ≤ n ∧ v32 = .int .i64 (k : Int) ∧ RcA w0 n x S s k v5 v6 w
def RlB (w0 : World) (n : Nat) (x : Nat → UInt8) (S : Nat → List UInt8) (s : List UInt8) (v5 v6 v10 : Value) (w : World) : Prop :=
  ∃ (i : Nat) (c : Bool), i ≤ s.length ∧ v10 = .int .i64 (i : Int) ∧ v5 = .int .i64 ((((s.take i).flatMap (esc n x S n)).length + (s.length - i) : Nat) : Int) ∧ v6 = .bool c ∧ (c = false → (s.take i).flatMap (esc n x S n) = s.take i) ∧ Still w0 w
theorem run_mk5 (w : World) (n : Nat) (hn : n ≤ 140737488355328) : Sem.run Tryz.prog (Instr.makeSlice 27 (.int .i64 (n : Int)) (.int .i64 (n : Int))) w = .ok (.slice (some ⟨w.heap.size, 0, none⟩) n n) (w.alloc (.cells (madeCells #[.int .u8 0] n) 5)) := by
  have hmk := run_make (P := Tryz.prog) (w := w) 27 5 Tryz.t5 (.int .u8 0) Tryz.underlying27 hi5 hz5 .i64 .i64 n n (by omega) (by omega) (by rw [hb5]; omega) (by omega)
  rw [hs5] at hmk
  rw [show ((n : Int)).toNat = n from rfl, Nat.mul_one] at hmk
  exact hmk
/-- a row of N bytes, its first ones l -/
def Bf (w : World) (g N : Nat) (l : List UInt8) : Prop := ∃ cs : Array Value, w.heap[g]? = some (.cells cs 5 (0, 0)) ∧ cs.size = N ∧ ∀ i, i < l.length → cs[i]? = some (.int .u8 ((l.getD i 0).toNat : Int))
theorem Bf.at' {w : World} {g N : Nat} {l : List UInt8} (h : Bf w g N l) {k : Nat} (hk : k < N) : ∃ u, w.cell? ⟨g, k, none⟩ = some u ∧ w.frozen? ⟨g, k, none⟩ = false := by
  obtain ⟨cs, h1, h2, _⟩ := h
  exact ⟨cs[k], by rw [blk_cell h1, Array.getElem?_eq_getElem], blk_free h1 k⟩
theorem Bf.push {w : World} {g N : Nat} {l : List UInt8} (h : Bf w g N l) (y : UInt8) (hk : l.length < N) : Bf (w.setCell ⟨g, l.length, none⟩ (.int .u8 (y.toNat : Int))) g N (l ++ [y]) := by
  obtain ⟨cs, h1, h2, h3⟩ := h
  refine ⟨_, blk_set h1 l.length _, by simpa using h2, fun i hi => ?_⟩
  rw [List.length_append, List.length_singleton] at hi
  rw [Array.getElem?_setIfInBounds]
  by_cases e : l.length = i
  · subst e; rw [if_pos rfl, if_pos (by omega)]; simp
  · rw [if_neg e, h3 i (by omega)]
    simp [List.getD, List.getElem?_append_left (show i < l.length by omega)]
theorem step_cp {P : Program} {ops : Array Oper} {o : Oper} {a : Act} {w : World} {K : Act → World → Prop} {Q : Exit → Act → World → Prop} {E : Prop}
    (hg : o.guard = none) (d x : Operand) (dT sT : TypeId) (hop : o.op = Op.call { callee := Callee.builtin Builtin.copy, args := #[d, x], argTypes := #[dT, sT] })
    (v u : Value) (hd : a.eval d = v) (hx : a.eval x = u) {v' : Value} {w' : World} (hr : (Builtin.copy_ #[dT, sT] o.type #[v, u]).run P w = .ok v' w') (hK : K (a.put o.dst v') w') :
    if Region.wanted o (yielded ops a.tmps) = true then Oper.wp P o a w K Q else E := by
  rw [if_pos (by simp [Region.wanted, hg])]
  unfold Oper.wp
  simp [execOp, hop, resolve, invoke, builtin, hd, hx, hr, Result.andThen]
  exact hK
theorem size5 : (Tryz.prog.info? 5).map (·.size) = some 1 := by kernel_rfl
theorem bf_copy {w : World} {g N b k1 : Nat} {p l : List UInt8} (h : Bf w g N p) (hB : Br w b l) (hfit : p.length + l.length ≤ N) :
    ∃ W', Bf W' g N (p ++ l) ∧ Only (fun c => c = g) w W' ∧ ∀ ty dcap, (Builtin.copy_ #[27, 27] ty #[.slice (some ⟨g, p.length, none⟩) (N - p.length) dcap, .slice (some ⟨b, 0, none⟩) l.length k1]).run Tryz.prog w = .ok (.int .i64 (l.length : Int)) W' := by
  obtain ⟨cs, h1, h2, h3⟩ := h
  have hlen : (l.map (fun y => Value.int .u8 (y.toNat : Int))).length = l.length := by simp
  refine ⟨_, ⟨_, setRow_heap w g cs _ 5 _ h1, ?_, ?_⟩, ⟨rfl, rfl, rfl, by simp [World.setRow], fun k hk hne => setRow_other w g k _ hne⟩, fun ty dcap => by
    have := run_copy_row (P := Tryz.prog) w 27 27 ty 5 g p.length (N - p.length) dcap ⟨b, 0, none⟩ l.length k1 cs 5 (l.map (fun y => Value.int .u8 (y.toNat : Int))) Tryz.underlying27 size5 h1 (by rw [hlen]; exact (Nat.min_eq_left (by omega)).symm) ?_ (by rw [hlen]; omega) ?_
    · rw [hlen] at this; exact this
    · intro j u hj
      rw [List.getElem?_map] at hj
      have hjl : j < l.length := by
        rcases Nat.lt_or_ge j l.length with q | q
        · exact q
        · rw [List.getElem?_eq_none q] at hj; cases hj
      have ha : (⟨b, 0, none⟩ : Addr).add j = ⟨b, j, none⟩ := by unfold Addr.add; split <;> simp_all
      rw [ha, hB.2 j hjl, ← hj, List.getElem?_eq_getElem hjl]
      simp [List.getD, List.getElem?_eq_getElem hjl]
    · intro v hv
      simp only [List.mem_map] at hv
      obtain ⟨y, _, rfl⟩ := hv
      rfl⟩
  · simp [hlen]; omega
  · intro i hi
    rw [List.length_append] at hi
    rw [List.getElem?_toArray]
    by_cases e : i < p.length
    · rw [List.append_assoc, List.getElem?_append_left (by simp; omega), List.getElem?_take, if_pos e]
      have := h3 i e
      rw [← Array.getElem?_toList] at this
      rw [this]
      simp [List.getD, List.getElem?_append_left e]
    · have ht : (cs.toList.take p.length).length = p.length := by simp; omega
      rw [List.append_assoc, List.getElem?_append_right (by omega), ht, List.getElem?_append_left (by rw [hlen]; omega), List.getElem?_map]
      have hl : i - p.length < l.length := by omega
      rw [List.getElem?_eq_getElem hl]
      simp [List.getD, List.getElem?_append_right (show p.length ≤ i by omega), List.getElem?_eq_getElem hl]
theorem Bf.conv {w : World} {g N : Nat} {l : List UInt8} (h : Bf w g N l) : Sem.run Tryz.prog (convert 27 9 (.slice (some ⟨g, 0, none⟩) l.length N)) w = .ok (.string ⟨l.toArray⟩) w := by
  obtain ⟨cs, h1, h2, h3⟩ := h
  refine run_convert_bytes_back (P := Tryz.prog) w 27 9 5 ⟨g, 0, none⟩ N l Tryz.underlying27 Tryz.underlying5 Tryz.underlying9 (fun j hj => ?_)
  have ha : (⟨g, 0, none⟩ : Addr).add j = ⟨g, j, none⟩ := by unfold Addr.add; split <;> simp_all
  rw [ha, blk_cell h1, h3 j hj]
  simp [List.getD, List.getElem?_eq_getElem hj]
theorem bf_start (w : World) (N : Nat) : Bf (w.alloc (.cells (madeCells #[.int .u8 0] N) 5)) w.heap.size N [] ∧ Only (fun _ => False) w (w.alloc (.cells (madeCells #[.int .u8 0] N) 5)) :=
  ⟨⟨_, blk_new w _, by simp [madeCells], fun i hi => by simp at hi⟩, (Only.refl _ w).alloc _⟩
def RlC (w0 : World) (g N n : Nat) (x : Nat → UInt8) (S : Nat → List UInt8) (s : List UInt8) (v13 v14 : Value) (w : World) : Prop :=
  ∃ i : Nat, i ≤ s.length ∧ v14 = .int .i64 (i : Int) ∧ v13 = .int .i64 (((s.take i).flatMap (esc n x S n)).length : Int) ∧ Only (fun b => b = g) w0 w ∧ Bf w g N ((s.take i).flatMap (esc n x S n))
set_option maxHeartbeats 4000000 in
theorem rep_calls (B q r n c : Nat) (x : Nat → UInt8) (S : Nat → List UInt8) (s : List UInt8) (w : World) (hn : n ≤ 1000) (hR : Rp w B q r n c x S) (hle : ∀ k, k < n → (S k).length ≤ 1000) (hge : ∀ k, k < n → 1 ≤ (S k).length) (hinj : ∀ i j, i < n → j < n → x i = x j → i = j)
    (hs : s.length ≤ 100000000000) :
    Calls Tryz.prog 303 #[.pointer (some ⟨q, 0, none⟩), .string ⟨s.toArray⟩] w fun e w' => e = .returned (.string ⟨(s.flatMap (esc n x S n)).toArray⟩) ∧ Only (fun _ => False) w w' := by
  have HR := Lib.hid hR
  have hv := hR.v
  have hw8 : wrap64 ((n : Int) * 8) = (n : Int) * 8 := by unfold wrap64; omega
  clear hR
  go_enter Tryz.func303, Tryz.ntmps303
  go_upto_if 26 with fail
  go_cut [5, 6] from 26 to 80 (fun v5 v6 wx => RcA w n x S s n v5 v6 wx)
  case first =>
    rcases hb : decide ((n : Int) * 8 ≤ (s.length : Int)) with _ | _
    · clear hb
      go_wp2_with fail
      clear hv hw8
      go_loopw [5, 6, 10] (fun v5 v6 v10 wr => RlB w n x S s v5 v6 v10 wr) (fun _ _ v10 _ => s.length - (intOf v10).toNat)
      case atStart => exact ⟨0, false, Nat.zero_le _, rfl, by simp, rfl, fun _ => by simp, Still.refl w⟩
      case round =>
        obtain ⟨i, cb, hi, rfl, rfl, rfl, hcb, hSt⟩ := hrel
        have HSt := Lib.hid hSt; have HCB := Lib.hid hcb
        by_cases h : i < s.length
        · have b1 : (i : Int) < (s.length : Int) := by omega
          obtain ⟨y, hy⟩ : ∃ y, y = s[i] := ⟨_, rfl⟩
          have by0 : ∀ h, ((⟨s.toArray⟩ : ByteArray)[i]'h) = y := fun _ => by rw [hy]; rfl
          have b4 : y.toNat < 256 := u8_lt y
          have hm4 : wrap64 ((i : Int) + 1) = (i : Int) + 1 := by unfold wrap64; omega
          have h1 := take_flat (esc n x S n) s i h
          have h2 := flat_le hle (x := x) (k := n) (Nat.le_refl _) (s.take i)
          have h3 : (s.take i).length = i := by simp; omega
          rw [← hy] at h1
          by_cases hx : ∃ j, j < n ∧ x j = y
          · obtain ⟨j, hj, hjy⟩ := hx
            obtain ⟨g, k1, c2, hx1, hx2⟩ := HR.out.hit j hj
            clear hx1 hx2
            rw [← hSt.cell ⟨q, (x j).toNat, none⟩, hjy] at c2
            have he := esc_hit (S := S) hinj hj (Nat.le_refl n) (by omega)
            rw [hjy] at he
            rw [he] at h1
            have hlj := hle j hj
            generalize S j = l at *
            obtain ⟨e1, he1⟩ : ∃ e, e = ((s.take i).flatMap (esc n x S n)).length := ⟨_, rfl⟩
            have h5 : ((s.take (i + 1)).flatMap (esc n x S n)).length = e1 + l.length := by rw [h1, List.length_append, he1]
            rw [← he1, h3] at h2
            rw [← he1]
            have HE1 := Lib.hid he1; have H1 := Lib.hid h1; have H5 := Lib.hid h5
            obtain ⟨m, hm⟩ : ∃ m, m = e1 + (s.length - i) := ⟨_, rfl⟩
            have HM := Lib.hid hm
            have hm1 : wrap64 ((l.length : Int) - 1) = (l.length : Int) - 1 := by unfold wrap64; omega
            have hm2 : wrap64 ((m : Int) + ((l.length : Int) - 1)) = (m : Int) + ((l.length : Int) - 1) := by unfold wrap64; omega
            rw [← hm]
            clear hm he1 h1 h5 h3 he hSt hcb hinj hle hy hjy
            go_wp2_with fail
            refine ⟨⟨i + 1, true, by omega, rfl, ?_, rfl, (fun e => by cases e), HSt.out⟩, by simp only [intOf]; omega⟩
            exact congrArg (Value.int .i64) (by rw [hm2]; have := HM.out; have := H5.out; omega)
          · have hx' : ∀ j, j < n → x j ≠ y := fun j hj e => hx ⟨j, hj, e⟩
            have c2 := HR.out.nil y hx'
            rw [← hSt.cell ⟨q, y.toNat, none⟩] at c2
            have he : esc n x S n y = [y] := esc_miss (Nat.le_refl n) (fun j _ hj => hx' j hj)
            rw [he] at h1
            obtain ⟨e1, he1⟩ : ∃ e, e = ((s.take i).flatMap (esc n x S n)).length := ⟨_, rfl⟩
            have h5 : ((s.take (i + 1)).flatMap (esc n x S n)).length = e1 + 1 := by rw [h1, List.length_append, he1]; rfl
            rw [← he1]
            have HE1 := Lib.hid he1; have H1 := Lib.hid h1; have H5 := Lib.hid h5
            obtain ⟨m, hm⟩ : ∃ m, m = e1 + (s.length - i) := ⟨_, rfl⟩
            have HM := Lib.hid hm
            have HY := Lib.hid hy
            rw [← hm]
            clear hm he1 h1 h5 h2 h3 he hSt hcb hinj hle hy hx hx'
            go_wp2_with fail
            refine ⟨⟨i + 1, cb, by omega, rfl, ?_, rfl, fun e => ?_, HSt.out⟩, by simp only [intOf]; omega⟩
            · exact congrArg (Value.int .i64) (by have := HM.out; have := H5.out; omega)
            · rw [H1.out, HCB.out e, List.take_succ_eq_append_getElem h, HY.out]
        · obtain rfl : i = s.length := by omega
          go_wp2_with fail
          go_meet
          exact ⟨cb, by simp, rfl, fun e => by have := HCB.out e; simpa using this, HSt.out⟩
    · clear hb
      go_wp2_with fail
      clear hv hw8
      go_loopw [5, 6, 32] (fun v5 v6 v32 wr => RlA w n x S s v5 v6 v32 wr) (fun _ _ v32 _ => n - (intOf v32).toNat)
      case atStart => exact ⟨0, Nat.zero_le _, rfl, false, by rw [flat_zero], rfl, fun _ => flat_zero s, Still.refl w⟩
      case round =>
        obtain ⟨k, hk, rfl, cb, rfl, rfl, hcb, hSt⟩ := hrel
        have HSt := Lib.hid hSt; have HCB := Lib.hid hcb
        by_cases h : k < n
        · have b1 : (k : Int) < (n : Int) := by omega
          obtain ⟨j, hj⟩ : ∃ j, j = n - 1 - k := ⟨_, rfl⟩
          obtain ⟨y, hy⟩ : ∃ y, y = x j := ⟨_, rfl⟩
          obtain ⟨l, hl⟩ : ∃ l, l = S j := ⟨_, rfl⟩
          have c1 : wr.cell? ⟨r, k, none⟩ = some (.string ⟨#[y]⟩) := by rw [hSt.cell, HR.out.row k h, hy, hj]
          obtain ⟨g, k1, c2, hx1, hx2⟩ := HR.out.hit j (by omega)
          clear hx1 hx2
          rw [← hSt.cell ⟨q, (x j).toNat, none⟩, ← hy, ← hl] at c2
          have h1 := flat_step h hinj (x := x) (S := S) s
          rw [← hj, ← hy, ← hl] at h1
          have h2 := flat_same (n := n) (k := k) (x := x) (S := S) s
          rw [← hj, ← hy] at h2
          have h3 := flat_le hle (x := x) (k := k + 1) (by omega) s
          have h4 := flat_le hle (x := x) (k := k) (by omega) s
          have hC := Tryz.strings_Count_one ⟨s.toArray⟩ y wr
          rw [show (⟨s.toArray⟩ : ByteArray).data.toList = s by simp] at hC
          obtain ⟨z, hz⟩ : ∃ z, z = Go.Lib.countByte s y := ⟨_, rfl⟩
          rw [← hz] at h1 h2 hC
          obtain ⟨e1, he1⟩ : ∃ e, e = (s.flatMap (esc n x S k)).length := ⟨_, rfl⟩
          obtain ⟨e2, he2⟩ : ∃ e, e = (s.flatMap (esc n x S (k + 1))).length := ⟨_, rfl⟩
          rw [← he1] at h1 h4; rw [← he2] at h1 h3
          rw [← he1]
          have HC := Lib.hid hC; have H1 := Lib.hid h1; have H2 := Lib.hid h2; have HE1 := Lib.hid he1; have HE2 := Lib.hid he2
          have hm1 : wrap64 ((z : Int) * ((l.length : Int) - 1)) = (z : Int) * ((l.length : Int) - 1) := by unfold wrap64; omega
          have hm2 : wrap64 ((e1 : Int) + (z : Int) * ((l.length : Int) - 1)) = (e1 : Int) + (z : Int) * ((l.length : Int) - 1) := by unfold wrap64; omega
          have hm3 : wrap64 ((l.length : Int) - 1) = (l.length : Int) - 1 := by have := hle j (by omega); rw [← hl] at this; unfold wrap64; omega
          have hm4 : wrap64 ((k : Int) + 1) = (k : Int) + 1 := by unfold wrap64; omega
          have by0 : ∀ h, ((⟨#[y]⟩ : ByteArray)[0]'h) = y := fun _ => rfl
          have b4 : y.toNat < 256 := u8_lt y
          clear h1 h2 h3 h4 he1 he2 hz hC hSt hcb hj hy hl hle hinj
          go_wp2_with fail
          refine HC.out.mono ?_
          rintro en w1 ⟨rfl, hw⟩; rw [hw]; clear hw w1
          by_cases z0 : z = 0
          · have z1 : ((z : Int) == 0) = true := by simp [z0]
            go_wp2_with fail
            have h2 := H2.out z0
            exact ⟨⟨k + 1, by omega, rfl, cb, by rw [HE1.out, h2], rfl, fun e => by rw [h2]; exact HCB.out e, HSt.out⟩, by simp only [intOf]; omega⟩
          · have z1 : ((z : Int) == 0) = false := by simp; omega
            go_wp2_with fail
            go_quiet (fail)
            go_wp2_with fail
            exact ⟨⟨k + 1, by omega, rfl, true, by rw [hm2, ← H1.out, HE2.out], rfl, (fun e => by cases e), HSt.out.drewN _⟩, by simp only [intOf]; omega⟩
        · obtain rfl : k = n := by omega
          go_wp2_with fail
          go_meet
          exact ⟨cb, rfl, rfl, HCB.out, HSt.out⟩
  case rest =>
    obtain ⟨cb, rfl, rfl, hcb, hSt⟩ := hcut
    have HCB := Lib.hid hcb
    cases cb
    · go_wp2_with fail
      go_ret
      exact ⟨rfl, hSt.only _⟩
    · have HW := Lib.hid hSt
      have hN := flat_le hle (x := x) (k := n) (Nat.le_refl _) s
      obtain ⟨N, hN'⟩ : ∃ N, N = (s.flatMap (esc n x S n)).length := ⟨_, rfl⟩
      rw [← hN'] at hN ⊢
      have HN := Lib.hid hN'
      have hmk := run_mk5 wc N (by omega)
      clear hcb hSt hv hw8 hN'
      go_wp2_with fail
      have HS := Lib.hid (bf_start wc N)
      generalize hg0 : wc.heap.size = g at HS ⊢
      generalize hW1 : wc.alloc (.cells (madeCells #[.int .u8 0] N) 5) = W1 at HS ⊢
      clear hmk hW1
      have HG := Lib.hid (show w.heap.size = g by rw [← hg0, HW.out.heap])
      have HOW := Lib.hid (show Only (fun b => b = g) w W1 from (HW.out.only _).trans (HS.out.2.mono (fun _ _ e => e.elim)))
      clear hg0
      go_loopw [13, 14] (fun v13 v14 wr => RlC W1 g N n x S s v13 v14 wr) (fun _ v14 _ => s.length - (intOf v14).toNat)
      case atStart => exact ⟨0, Nat.zero_le _, rfl, rfl, Only.refl _ _, HS.out.1⟩
      case round =>
        obtain ⟨i, hi, rfl, rfl, hO, hB⟩ := hrel
        have HO := Lib.hid hO; have HB := Lib.hid hB
        by_cases h : i < s.length
        · have b1 : (i : Int) < (s.length : Int) := by omega
          obtain ⟨y, hy⟩ : ∃ y, y = s[i] := ⟨_, rfl⟩
          have by0 : ∀ h, ((⟨s.toArray⟩ : ByteArray)[i]'h) = y := fun _ => by rw [hy]; rfl
          have b4 : y.toNat < 256 := u8_lt y
          have hm4 : wrap64 ((i : Int) + 1) = (i : Int) + 1 := by unfold wrap64; omega
          have h1 := take_flat (esc n x S n) s i h
          have h2 := take_flat_le (esc n x S n) s (i + 1)
          rw [← hy] at h1
          rw [h1, List.length_append, ← HN.out] at h2
          obtain ⟨p, hp⟩ : ∃ p, p = (s.take i).flatMap (esc n x S n) := ⟨_, rfl⟩
          rw [← hp] at h1 h2 HB ⊢
          obtain ⟨e1, he1⟩ : ∃ e, e = p.length := ⟨_, rfl⟩
          rw [← he1] at h2 ⊢
          have hw1 : wrap64 ((e1 : Int) + 1) = (e1 : Int) + 1 := by unfold wrap64; omega
          by_cases hx : ∃ j, j < n ∧ x j = y
          · obtain ⟨j, hj, hjy⟩ := hx
            obtain ⟨b, k1, c2, hBr, _⟩ := HR.out.hit j hj
            have hbg : b ≠ g := fun e => Nat.lt_irrefl _ (HG.out ▸ e ▸ hBr.1)
            have hqg : q ≠ g := fun e => Nat.lt_irrefl _ (HG.out ▸ e ▸ HR.out.ql)
            have hl1 := hge j hj
            rw [← (HOW.out.trans hO).cellAt HR.out.ql hqg, hjy] at c2
            have he := esc_hit (S := S) hinj hj (Nat.le_refl n) (by omega)
            rw [hjy] at he
            rw [he] at h1 h2
            have hlj := hle j hj
            obtain ⟨l, hl⟩ : ∃ l, l = S j := ⟨_, rfl⟩
            rw [← hl] at h1 h2 c2 hBr hlj hl1
            have H1 := Lib.hid h1; have HE1 := Lib.hid he1
            have hw2 : wrap64 ((e1 : Int) + (l.length : Int)) = (e1 : Int) + (l.length : Int) := by unfold wrap64; omega
            have b6 : e1 < N := Nat.lt_of_lt_of_le (Nat.lt_add_of_pos_right hl1) h2
            have b5 : (e1 : Int) < (N : Int) := Int.ofNat_lt.2 b6
            have b7 : e1 ≤ N := Nat.le_of_lt b6
            have b9 : ((y.toNat : Nat) : Int) < 256 := Int.ofNat_lt.2 b4
            have b8 : ¬ N = e1 := fun e => Nat.ne_of_lt b6 e.symm
            obtain ⟨W', hW'⟩ := Classical.axiomOfChoice (fun k => bf_copy (w := wr.drewN k) (k1 := k1) HB.out (hBr.only ((HOW.out.trans hO).drewN k) hbg) (by rw [← he1]; exact h2))
            rw [← he1] at hW'
            have HW' := Lib.hid hW'
            clear h1 he1 hle hge hinj hy hp hjy he hl hO hB hBr hW' hbg hqg
            go_wp2_with fail
            go_region_law (refine step_cp rfl (.tmp 105) (.tmp 111) 27 27 rfl (.slice (some ⟨g, e1, none⟩) (N - e1) (N - e1)) (.slice (some ⟨b, 0, none⟩) l.length k1) (by simp [Act.eval]) (by simp [Act.eval]) ((HW'.out 1).2.2 _ _) ?_)
            all_goals go_wp2_with fail
            all_goals
              have h8 := (HW'.out 1).1
              rw [← H1.out] at h8
              exact ⟨⟨i + 1, by omega, rfl, congrArg (Value.int .i64) (by rw [H1.out, List.length_append, ← HE1.out]; simp; exact hw2), (HO.out.drewN 1).trans (HW'.out 1).2.1, h8⟩, by simp only [intOf]; omega⟩
          · have hx' : ∀ j, j < n → x j ≠ y := fun j hj e => hx ⟨j, hj, e⟩
            have hqg : q ≠ g := fun e => Nat.lt_irrefl _ (HG.out ▸ e ▸ HR.out.ql)
            have c2 := HR.out.nil y hx'
            rw [← (HOW.out.trans hO).cellAt HR.out.ql hqg] at c2
            have he : esc n x S n y = [y] := esc_miss (Nat.le_refl n) (fun j _ hj => hx' j hj)
            rw [he] at h1 h2
            have b5 : (e1 : Int) < (N : Int) := by simp at h2; omega
            obtain ⟨u, c3, f3⟩ := HB.out.at' (k := e1) (by omega)
            have H1 := Lib.hid h1; have HE1 := Lib.hid he1; have HP := Lib.hid hp
            clear h1 h2 he hle hge hinj hy hp hO hB hx hx' he1 hqg
            go_wp2_with fail
            have := (HB.out.push y (by have := HE1.out; omega))
            rw [← HE1.out, ← H1.out] at this
            exact ⟨⟨i + 1, by omega, rfl, congrArg (Value.int .i64) (by rw [H1.out, List.length_append, ← HE1.out]; simp), HO.out.setCell (.inr rfl) _, this⟩, by simp only [intOf]; omega⟩
        · obtain rfl : i = s.length := by omega
          have hcv := HB.out.conv
          rw [List.take_of_length_le (Nat.le_refl _), ← HN.out] at hcv
          clear hO hB
          go_wp2_with fail
          go_ret
          refine ⟨rfl, ?_⟩
          refine ((HW.out.only (fun _ => False)).trans HS.out.2).seq2 HO.out (fun i hi => .inl (by rw [hi, HG.out]; exact Nat.le_refl _))
end Go.Proofs.YtiijgghholhcnaaGreatDoor
