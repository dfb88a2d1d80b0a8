/- The walk of the replacer's build at any pairs of one byte and what it becomes. -/
import Derived.Test.YtiijgghholhcnaaGreatDoorJL07
import Derived.Test.YtiijgghholhcnaaGreatDoorJL02
namespace Go.Proofs.YtiijgghholhcnaaGreatDoor
open Go.RowKit
set_option maxRecDepth 1000000
theorem run_mkn (w : World) (n : Nat) (hn : n ≤ 1000) : Sem.run Tryz.prog (Instr.makeSlice 68 (.int .i64 0) (.int .i64 (n : Int))) w = .ok (.slice (some ⟨w.heap.size, 0, none⟩) 0 n) (w.alloc (.cells (madeCells #[.string ⟨#[]⟩] n) 9)) := by
  have hmk := run_make (P := Tryz.prog) (w := w) 68 9 Tryz.t9 (.string ⟨#[]⟩) Tryz.underlying68 hi9 hz9 .i64 .i64 0 n (by omega) (by omega) (by rw [hb9]; omega) (by omega)
  rw [hs9] at hmk
  rw [show ((n : Int)).toNat = n from rfl, Nat.mul_one] at hmk
  exact hmk
theorem mkn_only (w : World) (n : Nat) (v : Value) : Only (fun _ => False) w ((w.alloc (.cells (madeCells #[.string ⟨#[]⟩] n) 9)).alloc (.cells (Tryz.zeroCells192.setIfInBounds 256 v) 192)) := ((Only.refl _ w).alloc _).alloc _
theorem bl_start (w : World) (n : Nat) (hn : n ≤ 1000) (x : Nat → UInt8) (S : Nat → List UInt8) :
    Bl w ((w.alloc (.cells (madeCells #[.string ⟨#[]⟩] n) 9)).alloc (.cells (Tryz.zeroCells192.setIfInBounds 256 (.slice (some ⟨w.heap.size, 0, none⟩) 0 n)) 192)) (w.heap.size + 1) n 0 x S (.slice (some ⟨w.heap.size, 0, none⟩) 0 n) := by
  have hsz : (w.alloc (.cells (madeCells #[.string ⟨#[]⟩] n) 9)).heap.size = w.heap.size + 1 := Array.size_push ..
  have hF := fb192 (w.alloc (.cells (madeCells #[.string ⟨#[]⟩] n) 9)) (.slice (some ⟨w.heap.size, 0, none⟩) 0 n)
  rw [hsz] at hF
  refine ⟨⟨_, hF, by simp, ?_, fun j h1 h2 => by omega⟩, ?_, mkn_only w n _, by omega, ?_⟩
  · intro y _
    have := u8_lt y
    show (if y.toNat = 256 then _ else _) = _
    rw [if_neg (by omega)]
  · have := World.ownsRow_made (base := w.heap.size) (e := 9) (size := 1) w (madeCells #[.string ⟨#[]⟩] n) n (Nat.le_refl _) (by unfold maxLen; omega) (by simp [madeCells])
    exact this.alloc _
  · simp [Value.ownBlock]
theorem alloc_le (w : World) (o : Obj) : w.heap.size ≤ (w.alloc o).heap.size := ((Only.refl (fun _ => False) w).alloc o).size
theorem Bl.own0 {w0 w : World} {q n k : Nat} {x : Nat → UInt8} {S : Nat → List UInt8} {v : Value} (h : Bl w0 w q n k x S v) : w0.heap.size ≤ w.heap.size := h.only.size
theorem Bl.frz {w0 w w' : World} {q n k : Nat} {x : Nat → UInt8} {S : Nat → List UInt8} {v : Value} (h : Bl w0 w q n k x S v) {o1 o2 : Obj} {p : Option Addr} {m c k' : Nat} (hg : Grew ((w.alloc o1).alloc o2) w' v (.slice p m c) k') (l : List UInt8) (y : UInt8) :
    ∃ u1 u2, w'.cell? ⟨q, 256, none⟩ = some u1 ∧ (Go.Lib.bytesWorld (w'.setCell ⟨q, 256, none⟩ (.slice p m c)) 5 ⟨l.toArray⟩).cell? ⟨q, y.toNat, none⟩ = some u2 ∧ w'.frozen? ⟨q, 256, none⟩ = false ∧ (Go.Lib.bytesWorld (w'.setCell ⟨q, 256, none⟩ (.slice p m c)) 5 ⟨l.toArray⟩).frozen? ⟨q, y.toNat, none⟩ = false := by
  obtain ⟨F, T⟩ := h.tb
  have O1 : Only (fun b => v.ownBlock = some b) w w' := (((Only.refl _ w).alloc _).alloc _).grown hg.grown (fun b hb => .inr hb)
  have T1 := T.fb.only O1 h.qv
  have T2 := (T1.set 256 (.slice p m c)).only (bytes_only (w'.setCell ⟨q, 256, none⟩ (.slice p m c)) ⟨l.toArray⟩ (fun _ => False)) (fun e => e)
  exact ⟨_, _, T1.cell (by omega), T2.cell (by have := u8_lt y; omega), T1.free 256, T2.free y.toNat⟩
def AnR (n : Nat) (v4 v5 : Value) : Prop := ∃ i : Nat, v5 = .int .i64 ((2 * i : Nat) : Int) ∧ i ≤ n ∧ v4 = .bool (decide (i = 0))
def BlR (w0 : World) (q n : Nat) (x : Nat → UInt8) (S : Nat → List UInt8) (v12 : Value) (w : World) : Prop :=
  ∃ (k : Nat) (v : Value), k ≤ n ∧ v12 = .int .i64 (2 * ((n - k : Nat) : Int) - 2) ∧ Bl w0 w q n k x S v
set_option maxHeartbeats 4000000 in
theorem build_calls (b sb n m cap : Nat) (x : Nat → UInt8) (S : Nat → List UInt8) (w : World) (hm : m = 2 * n) (hn : 2 ≤ n) (hn2 : n ≤ 1000) (h4 : w.cell? ⟨b, 4, none⟩ = some (.slice (some ⟨sb, 0, none⟩) m cap))
    (hold : Old w sb n x S) (hlen : ∀ k, k < n → (S k).length ≠ 1) (hle : ∀ k, k < n → (S k).length ≤ 1000) (hinj : ∀ i j, i < n → j < n → x i = x j → i = j) :
    Calls Tryz.prog 122 #[.pointer (some ⟨b, 0, none⟩)] w fun e w' => ∃ q v, e = .returned (.iface 193 (.pointer (some ⟨q, 0, none⟩))) ∧ Bl w w' q n n x S v := by
  have HO := Lib.hid hold
  have s0 := hold.c0 0 (by omega)
  have hmk := run_mkn w n hn2
  have hq2 : (m : Int).tdiv 2 = (n : Int) := by rw [hm]; push_cast; exact Int.mul_tdiv_cancel_left _ (by decide)
  have q1 : ((m : Int) == 2) = false := by simp; omega
  have hcap : sb < w.heap.size := hold.lt
  have HM := Lib.hid hm
  clear hm
  have hsz : (w.alloc (.cells (madeCells #[.string ⟨#[]⟩] n) 9)).heap.size = w.heap.size + 1 := Array.size_push ..
  have hst := store192 (w.alloc (.cells (madeCells #[.string ⟨#[]⟩] n) 9)) (.slice (some ⟨w.heap.size, 0, none⟩) 0 n) rfl
  rw [hsz] at hst
  have n1 : ∀ w, Sem.run Tryz.prog (binOp .eql 27 (.slice none 0 0) (.slice none 0 0)) w = .ok (.bool true) w := fun w => by kernel_rfl
  go_enter Tryz.func122, Tryz.ntmps122
  go_wp2_with fail
  go_loopw [4, 5] (fun v4 v5 wr => wr = w ∧ AnR n v4 v5) (fun v4 v5 _ => 2 * n - (intOf v5).toNat)
  case atStart => exact ⟨rfl, 0, rfl, Nat.zero_le _, rfl⟩
  case round =>
    obtain ⟨hwr, i, rfl, hi, rfl⟩ := hrel
    rw [hwr]; clear hwr wr
    obtain ⟨j, hj⟩ : ∃ j, j = 2 * i := ⟨_, rfl⟩
    rw [← hj]
    by_cases h : i < n
    · have t1 : decide ((j : Int) < (m : Int)) = true := decide_eq_true (by have := HM.out; omega)
      have c0 : w.cell? ⟨sb, j, none⟩ = some (.string ⟨#[x i]⟩) := by rw [hj]; exact HO.out.c0 i h
      have c1 : w.cell? ⟨sb, j + 1, none⟩ = some (.string ⟨(S i).toArray⟩) := by rw [hj]; exact HO.out.c1 i h
      have t3 : (((S i).length : Int) == 1) = false := by have := hlen i h; simp; omega
      have HJ := Lib.hid hj
      have b1 : j < m := by have := HM.out; omega
      have b2 : (j : Int) + 1 < (m : Int) := by have := HM.out; omega
      have b3 : j ≤ 2000 := by omega
      have hw1 : wrap64 ((j : Int) + 1) = (j : Int) + 1 := by unfold wrap64; omega
      have hw2 : wrap64 ((j : Int) + 2) = (j : Int) + 2 := by unfold wrap64; omega
      have tn : ((j : Int) + 1).toNat = j + 1 := by omega
      clear hj
      go_wp2_with fail
      refine ⟨⟨trivial, i + 1, congrArg (Value.int .i64) (by have := HJ.out; omega), by omega, by simp⟩, by have := HJ.out; simp only [intOf]; omega⟩
    · have b1 : decide (j < m) = false := decide_eq_false (by have := HM.out; omega)
      have hwm : wrap64 ((m : Int) - 2) = (m : Int) - 2 := by have := HM.out; unfold wrap64; omega
      have t0 : decide (i = 0) = false := decide_eq_false (by omega)
      rw [t0]
      clear hj h hi
      go_wp2_with fail
      have HB := Lib.hid (bl_start w n hn2 x S)
      have HO1 := Lib.hid (HO.out.only HB.out.only (fun e => e))
      generalize hW : (w.alloc (.cells (madeCells #[.string ⟨#[]⟩] n) 9)).alloc (.cells (Tryz.zeroCells192.setIfInBounds 256 (.slice (some ⟨w.heap.size, 0, none⟩) 0 n)) 192) = W at HB HO1 ⊢
      generalize hq0 : w.heap.size + 1 = q at HB ⊢
      generalize hv0 : Value.slice (some ⟨w.heap.size, 0, none⟩) 0 n = v at HB
      clear hmk hsz hst hW h4 s0 hold t0 b1 hq2 hwm hv0
      go_loopw [12] (fun v12 w2 => BlR w q n x S v12 w2) (fun v12 _ => (intOf v12 + 2).toNat)
      case atStart => exact ⟨0, v, Nat.zero_le _, congrArg (Value.int .i64) (by have := HM.out; unfold wrap64; omega), HB.out⟩
      case round =>
        obtain ⟨k, v1, hk, rfl, hB⟩ := hrel
        have HB1 := Lib.hid hB
        by_cases h : k < n
        · obtain ⟨p, hp⟩ : ∃ p, p = 2 * (n - 1 - k) := ⟨_, rfl⟩
          obtain ⟨y, hy⟩ : ∃ y, y = x (n - 1 - k) := ⟨_, rfl⟩
          obtain ⟨l, hl⟩ : ∃ l, l = S (n - 1 - k) := ⟨_, rfl⟩
          have hv : Value.int .i64 (2 * ((n - k : Nat) : Int) - 2) = .int .i64 (p : Int) := congrArg (Value.int .i64) (by omega)
          rw [hv]
          have c0 : wr.cell? ⟨sb, p, none⟩ = some (.string ⟨#[y]⟩) := by rw [hp, hy, hB.only.cellAt hcap (fun e => e)]; exact HO.out.c0 _ (by omega)
          have c1 : wr.cell? ⟨sb, p + 1, none⟩ = some (.string ⟨l.toArray⟩) := by rw [hp, hl, hB.only.cellAt hcap (fun e => e)]; exact HO.out.c1 _ (by omega)
          obtain ⟨p1, m1, k1, rfl⟩ := own_slice hB.own
          obtain ⟨F, T⟩ := hB.tb
          have cq : wr.cell? ⟨q, 256, none⟩ = some (.slice p1 m1 k1) := by rw [T.fb.cell (by omega), T.fv]
          have cx : wr.cell? ⟨q, y.toNat, none⟩ = some (.slice none 0 0) := by
            rw [T.fb.cell (by have := u8_lt y; omega), T.nil y]
            intro j' h1 h2 e
            rw [hy] at e
            have := hinj _ _ h2 (by omega) e
            omega
          have by0 : ∀ h, ((⟨#[y]⟩ : ByteArray)[0]'h) = y := fun _ => rfl
          have hcv := conv1 wr y
          have hc2 : ∀ w, Sem.run Tryz.prog (convert 9 27 (.string ⟨l.toArray⟩)) w = .ok (.slice (some ⟨w.heap.size, 0, none⟩) l.length (grownCap w l.length 0 5)) (Go.Lib.bytesWorld w 5 ⟨l.toArray⟩) := fun w =>
            Go.Lib.run_convert_string_bytes (P := Tryz.prog) w 9 27 5 ⟨l.toArray⟩ Tryz.underlying9 Tryz.underlying27 Tryz.underlying5
          have b1 : p < m := by have := HM.out; omega
          have b2 : (p : Int) + 1 < (m : Int) := by have := HM.out; omega
          have b3 : p ≤ 2000 := by omega
          have b4 : y.toNat < 256 := u8_lt y
          have hw1 : wrap64 ((p : Int) + 1) = (p : Int) + 1 := by unfold wrap64; omega
          have hw2 : wrap64 ((p : Int) - 2) = (p : Int) - 2 := by unfold wrap64; omega
          have tn : ((p : Int) + 1).toNat = p + 1 := by omega
          have HP := Lib.hid hp; have HY := Lib.hid hy; have HL := Lib.hid hl
          clear hp hy hl hv hB T F
          have hle1 : k ≤ 1000000 := by omega
          have HXX := Lib.hid hle1
          go_wp2_with (at_builtin; go_loud (refine wp_tr (HB1.out.own.alloc _) (Nat.le_trans HB1.out.own0 (alloc_le _ _)) rfl _ _ rfl (by simp [Act.eval]) (by simp [Act.eval]) HXX.out ?_; intro p4 m4 k4 w4 ho4 hg4; rw [HY.out] at ho4 hg4; obtain ⟨u1, u2, F1, F2, F3, F4⟩ := HB1.out.frz hg4 l y; have HO4 := Lib.hid ho4; have HG4 := Lib.hid hg4; clear ho4 hg4))
          have HS := Lib.hid (HB1.out.step h hinj HG4.out HO4.out (grownCap (w4.setCell ⟨q, 256, none⟩ (.slice p4 m4 k4)) l.length 0 5))
          rw [← HY.out, ← HL.out, show (w4.setCell ⟨q, 256, none⟩ (.slice p4 m4 k4)).heap.size = w4.heap.size by simp [World.setCell]] at HS
          refine ⟨⟨k + 1, .slice p4 m4 k4, by omega, congrArg (Value.int .i64) (by have := HP.out; omega), HS.out⟩, by simp only [intOf]; omega⟩
        · obtain rfl : k = n := by omega
          go_wp2_with fail
          go_ret
          exact ⟨q, v1, rfl, HB1.out⟩
end Go.Proofs.YtiijgghholhcnaaGreatDoor

/- Bytes turned into others, one by one: the plain side of a replacer. -/
namespace Go.Proofs.YtiijgghholhcnaaGreatDoor
open Go.RowKit
/-- what a byte becomes by the last k pairs -/
def esc (n : Nat) (x : Nat → UInt8) (S : Nat → List UInt8) : Nat → UInt8 → List UInt8
  | 0, b => [b]
  | k + 1, b => if b = x (n - 1 - k) then S (n - 1 - k) else esc n x S k b
section
variable {n : Nat} {x : Nat → UInt8} {S : Nat → List UInt8}
theorem esc_miss {b : UInt8} : ∀ {k : Nat}, k ≤ n → (∀ j, n - k ≤ j → j < n → x j ≠ b) → esc n x S k b = [b]
  | 0, _, _ => rfl
  | k + 1, hk, h => by
    rw [esc, if_neg (fun e => h (n - 1 - k) (by omega) (by omega) e.symm)]
    exact esc_miss (by omega) (fun j h1 h2 => h j (by omega) h2)
theorem esc_hit (hinj : ∀ i j, i < n → j < n → x i = x j → i = j) {j : Nat} (hj : j < n) : ∀ {k : Nat}, k ≤ n → n - k ≤ j → esc n x S k (x j) = S j
  | 0, _, h => by omega
  | k + 1, hk, h => by
    rw [esc]
    by_cases e : x j = x (n - 1 - k)
    · rw [if_pos e, hinj _ _ hj (by omega) e]
    · rw [if_neg e]
      have : j ≠ n - 1 - k := fun q => e (by rw [q])
      exact esc_hit hinj hj (by omega) (by omega)
theorem esc_le (hle : ∀ k, k < n → (S k).length ≤ 1000) (b : UInt8) : ∀ {k : Nat}, k ≤ n → (esc n x S k b).length ≤ 1000
  | 0, _ => by simp [esc]
  | k + 1, hk => by
    rw [esc]
    split
    · exact hle _ (by omega)
    · exact esc_le hle b (by omega)
theorem flat_le (hle : ∀ k, k < n → (S k).length ≤ 1000) {k : Nat} (hk : k ≤ n) : ∀ s : List UInt8, (s.flatMap (esc n x S k)).length ≤ 1000 * s.length
  | [] => by simp
  | b :: s => by
    rw [List.flatMap_cons, List.length_append, List.length_cons]
    have h1 := esc_le (x := x) hle b hk
    have h2 := flat_le hle hk s
    omega
theorem count_le (c : UInt8) (s : List UInt8) : (Go.Lib.countByte s c : Int) ≤ s.length := by
  unfold Go.Lib.countByte
  exact_mod_cast List.count_le_length
theorem flat_step {k : Nat} (hk : k < n) (hinj : ∀ i j, i < n → j < n → x i = x j → i = j) : ∀ s : List UInt8,
    ((s.flatMap (esc n x S (k + 1))).length : Int) = (s.flatMap (esc n x S k)).length + (Go.Lib.countByte s (x (n - 1 - k)) : Int) * (((S (n - 1 - k)).length : Int) - 1)
  | [] => by simp [Go.Lib.countByte]
  | b :: s => by
    have ih := flat_step hk hinj s
    unfold Go.Lib.countByte at ih ⊢
    rw [List.flatMap_cons, List.flatMap_cons, List.length_append, List.length_append, List.count_cons]
    by_cases e : b = x (n - 1 - k)
    · have h1 : esc n x S k b = [b] := esc_miss (by omega) (fun j h1 h2 h3 => by have := hinj j (n - 1 - k) h2 (by omega) (h3.trans e); omega)
      rw [h1, esc, if_pos e, if_pos (by rw [e]; exact beq_self_eq_true _)]
      push_cast
      rw [ih, Int.add_mul]
      simp only [List.length_singleton]
      omega
    · rw [esc, if_neg e, if_neg (by simpa using e)]
      push_cast
      rw [ih]
      simp only [Int.add_zero]
      omega
theorem flat_same {k : Nat} : ∀ s : List UInt8, Go.Lib.countByte s (x (n - 1 - k)) = 0 → s.flatMap (esc n x S (k + 1)) = s.flatMap (esc n x S k)
  | [], _ => rfl
  | b :: s, h => by
    unfold Go.Lib.countByte at h
    rw [List.count_cons] at h
    have e : ¬ b = x (n - 1 - k) := fun e => by rw [if_pos (by rw [e]; exact beq_self_eq_true _)] at h; omega
    rw [List.flatMap_cons, List.flatMap_cons, esc, if_neg e, flat_same s (by unfold Go.Lib.countByte; omega)]
theorem flat_zero (s : List UInt8) : s.flatMap (esc n x S 0) = s := by
  induction s with
  | nil => rfl
  | cons b s ih => rw [List.flatMap_cons, ih]; rfl
theorem take_flat (f : UInt8 → List UInt8) (s : List UInt8) (i : Nat) (h : i < s.length) : (s.take (i + 1)).flatMap f = (s.take i).flatMap f ++ f s[i] := by
  rw [List.take_succ_eq_append_getElem h, List.flatMap_append]
  simp
theorem take_flat_le (f : UInt8 → List UInt8) (s : List UInt8) (i : Nat) : ((s.take i).flatMap f).length ≤ (s.flatMap f).length := by
  conv => rhs; rw [← List.take_append_drop i s, List.flatMap_append, List.length_append]
  omega
end
end Go.Proofs.YtiijgghholhcnaaGreatDoor

/- strings.NewReplacer, the replacer built once, label.Help. -/
namespace Go.Proofs.YtiijgghholhcnaaGreatDoor
open Go.RowKit
set_option maxRecDepth 1000000
/-- the replacer in block b, not yet built, its pairs in block sb -/
structure Rn (w : World) (b sb n m cap : Nat) (x : Nat → UInt8) (S : Nat → List UInt8) : Prop where
  blk : w.heap[b]? = some (.cells #[.int .u32 0, .int .i32 0, .int .u32 0, .nilIface, .slice (some ⟨sb, 0, none⟩) m cap] 110 (0, 0))
  old : Old w sb n x S
  ne : sb ≠ b
set_option maxHeartbeats 4000000 in
theorem once_calls (b sb n m cap : Nat) (x : Nat → UInt8) (S : Nat → List UInt8) (w : World) (hm : m = 2 * n) (hn : 2 ≤ n) (hn2 : n ≤ 1000) {c0 c1 c2 : Value}
    (hb : w.heap[b]? = some (.cells #[c0, c1, c2, .nilIface, .slice (some ⟨sb, 0, none⟩) m cap] 110 (0, 0)))
    (hold : Old w sb n x S) (hlen : ∀ k, k < n → (S k).length ≠ 1) (hle : ∀ k, k < n → (S k).length ≤ 1000) (hinj : ∀ i j, i < n → j < n → x i = x j → i = j) :
    Calls Tryz.prog 69 #[.pointer (some ⟨b, 0, none⟩)] w fun e w' => e = .returned (.tuple #[]) ∧ ∃ q v W, Bl w W q n n x S v ∧ w' = (W.setCell ⟨b, 3, none⟩ (.iface 193 (.pointer (some ⟨q, 0, none⟩)))).setCell ⟨b, 4, none⟩ (.slice none 0 0) := by
  have HB := Lib.hid (build_calls b sb n m cap x S w hm hn hn2 (by rw [blk_cell hb]; rfl) hold hlen hle hinj)
  have HK := Lib.hid hb
  clear hm hold hb
  go_enter Tryz.func69, Tryz.ntmps69
  go_wp2_with fail
  refine HB.out.mono ?_
  rintro e W ⟨q, v, rfl, hBl⟩
  have HBl := Lib.hid hBl
  have hk := hBl.only.blk HK.out (fun e => e)
  have k3 : W.cell? ⟨b, 3, none⟩ = some .nilIface := by rw [blk_cell hk]; rfl
  have k4 : W.cell? ⟨b, 4, none⟩ = some (.slice (some ⟨sb, 0, none⟩) m cap) := by rw [blk_cell hk]; rfl
  have f3 : W.frozen? ⟨b, 3, none⟩ = false := blk_free hk 3
  have f4 : W.frozen? ⟨b, 4, none⟩ = false := blk_free hk 4
  clear hBl hk HB
  go_wp2_with fail
  go_end0
  exact ⟨rfl, q, v, W, HBl.out, rfl⟩
/-- the pairs as one row -/
def ol (n : Nat) (x : Nat → UInt8) (S : Nat → List UInt8) : List Value := (List.range (2 * n)).map fun k => if k % 2 = 0 then .string ⟨#[x (k / 2)]⟩ else .string ⟨(S (k / 2)).toArray⟩
theorem ol_len (n : Nat) (x : Nat → UInt8) (S : Nat → List UInt8) : (ol n x S).length = 2 * n := by simp [ol]
theorem ol_get (n : Nat) (x : Nat → UInt8) (S : Nat → List UInt8) (k : Nat) (h : k < 2 * n) : (ol n x S)[k]? = some (if k % 2 = 0 then .string ⟨#[x (k / 2)]⟩ else .string ⟨(S (k / 2)).toArray⟩) := by
  simp [ol, h]
theorem ol_cells {w : World} {sb n : Nat} {x : Nat → UInt8} {S : Nat → List UInt8} (h : Old w sb n x S) (j : Nat) (u : Value) (hj : (ol n x S)[j]? = some u) : w.cell? ((⟨sb, 0, none⟩ : Addr).add j) = some u := by
  have ha : (⟨sb, 0, none⟩ : Addr).add j = ⟨sb, j, none⟩ := by unfold Addr.add; split <;> simp_all
  have hl : j < 2 * n := by
    rw [← ol_len n x S]
    rcases Nat.lt_or_ge j (ol n x S).length with q | q
    · exact q
    · rw [List.getElem?_eq_none q] at hj; cases hj
  rw [ol_get n x S j hl] at hj
  rw [ha, ← hj]
  by_cases e : j % 2 = 0
  · rw [if_pos e]
    have := h.c0 (j / 2) (by omega)
    rw [show 2 * (j / 2) = j by omega] at this
    exact this
  · rw [if_neg e]
    have := h.c1 (j / 2) (by omega)
    rw [show 2 * (j / 2) + 1 = j by omega] at this
    exact this
theorem ol_own {w : World} {B n m : Nat} {x : Nat → UInt8} {S : Nat → List UInt8} {v : Value} (h : w.ownsRow B 9 1 v m (ol n x S)) (hm : m = 2 * n) (hn : 1 ≤ n) : ∃ sb c, v = .slice (some ⟨sb, 0, none⟩) m c ∧ Old w sb n x S ∧ B ≤ sb := by
  rcases h.2 with ⟨_, h0⟩ | ⟨g, cap, cur, rfl, h1, h2, h3⟩
  · omega
  · have hc := h.cells (g := g) rfl
    have ha : ∀ j, (⟨g, 0, none⟩ : Addr).add j = ⟨g, j, none⟩ := by intro j; unfold Addr.add; split <;> simp_all
    refine ⟨g, cap, rfl, ⟨fun k hk => ?_, fun k hk => ?_, blk_lt h2⟩, h1⟩
    · have := hc (2 * k) _ (ol_get n x S (2 * k) (by omega))
      rw [ha, if_pos (by omega), show 2 * k / 2 = k by omega] at this
      exact this
    · have := hc (2 * k + 1) _ (ol_get n x S (2 * k + 1) (by omega))
      rw [ha, if_neg (by omega), show (2 * k + 1) / 2 = k by omega] at this
      exact this
/-- the pairs appended to nothing -/
theorem wp_ol {ops : Array Oper} {rest : List Oper} {o : Oper} {a : Act} {Q : Exit → Act → World → Prop} {w : World} {sb n m cap : Nat} {x : Nat → UInt8} {S : Nat → List UInt8}
    (hold : Old w sb n x S) (hm : m = 2 * n) (hn : 1 ≤ n) (hn2 : n ≤ 1000) (hgd : o.guard = none) (sl y : Operand) (ho : o.op = .call { callee := .builtin .append, args := #[sl, y], argTypes := #[68, 68] })
    (hs : a.eval sl = .slice none 0 0) (hx : a.eval y = .slice (some ⟨sb, 0, none⟩) m cap)
    (h : ∀ s2 c w', Old w' s2 n x S → w.heap.size ≤ s2 → Only (fun _ => False) w w' → wpList Tryz.prog ops Q rest (a.put o.dst (.slice (some ⟨s2, 0, none⟩) m c)) w') :
    wpList Tryz.prog ops Q (o :: rest) a w := by
  refine wpList_append_kept w hgd sl y 68 ho 9 Tryz.t9 (.string ⟨#[]⟩) 1 16 Tryz.underlying68 hi9 hz9 hs9 hb9 rfl (by decide) w.heap.size 0 _ [] hs ⟨rfl, .inl ⟨rfl, rfl⟩⟩ (Nat.le_refl _) ⟨sb, 0, none⟩ m cap (ol n x S) hx (by rw [ol_len]; omega) (ol_cells hold) ?_ (by omega) (by unfold maxLen; omega) (by omega) ?_
  · intro u hu
    simp only [ol, List.mem_map] at hu
    obtain ⟨k, _, rfl⟩ := hu
    split <;> rfl
  · intro v' w' hg ho'
    rw [List.nil_append, Nat.zero_add] at ho'
    obtain ⟨s2, c, rfl, h1, h2⟩ := ol_own ho' hm hn
    exact h s2 c w' h1 h2 ((Only.refl _ w).grown hg.grown (fun k hk => by cases hk))
set_option maxHeartbeats 4000000 in
theorem new_calls (n m sb cap : Nat) (x : Nat → UInt8) (S : Nat → List UInt8) (w : World) (hm : m = 2 * n) (hn : 1 ≤ n) (hn2 : n ≤ 1000) (hold : Old w sb n x S) :
    Calls Tryz.prog 35 #[.slice (some ⟨sb, 0, none⟩) m cap] w fun e w' => ∃ b s2 c, e = .returned (.pointer (some ⟨b, 0, none⟩)) ∧ Rn w' b s2 n m c x S ∧ Only (fun _ => False) w w' ∧ w.heap.size ≤ b := by
  have HO := Lib.hid hold
  have q1 : ((m : Int) % 2 == 1) = false := by
    have : (m : Int) % 2 = 0 := by rw [hm]; omega
    rw [this]; rfl
  have m1 : 1 ≤ m := by omega
  have HM := Lib.hid hm
  clear hm hold
  go_enter Tryz.func35, Tryz.ntmps35
  go_wp2_with (at_builtin; go_loud (refine wp_ol (sb := sb) (n := n) (m := m) (cap := cap) (x := x) (S := S) HO.out HM.out hn hn2 rfl (.const (.slice none 0 0)) (.tmp 8) rfl rfl (by simp [Act.eval]) ?_; intro s2 c2 w2 ho2 hb2 hO2; have HO2 := Lib.hid ho2; have HB2 := Lib.hid hb2; have HQ2 := Lib.hid hO2; clear ho2 hb2 hO2))
  go_ret
  have hA := (Only.refl (fun _ => False) w2).alloc (.cells #[.int .u32 0, .int .i32 0, .int .u32 0, .nilIface, .slice (some ⟨s2, 0, none⟩) m c2] 110)
  exact ⟨_, s2, c2, rfl, ⟨blk_new w2 _, HO2.out.only hA (fun e => e), Nat.ne_of_lt HO2.out.lt⟩, HQ2.out.trans hA, HQ2.out.size⟩
end Go.Proofs.YtiijgghholhcnaaGreatDoor
