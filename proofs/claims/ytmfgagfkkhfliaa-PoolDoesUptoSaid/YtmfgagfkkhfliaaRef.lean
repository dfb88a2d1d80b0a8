/- The walks of the reference's pool: New, Take, Give, Free; of 'same'. -/
import Derived.Test.YtmfgagfkkhfliaaFree
namespace Go.Proofs.Ytmfgagfkkhfliaa
open Go.RowKit

def upd (T : Nat → Bool) (i : Nat) (v : Bool) : Nat → Bool := fun k => if k = i then v else T k
structure RefAt (w : World) (rb tb n : Nat) (T : Nat → Bool) : Prop where
  head : w.heap[rb]? = some (.cells #[.slice (some ⟨tb, 0, none⟩) n n] 46 (0, 0))
  row : SeenAt w tb n T
theorem RefAt.c0 {w : World} {rb tb n : Nat} {T : Nat → Bool} (h : RefAt w rb tb n T) : w.cell? ⟨rb, 0, none⟩ = some (.slice (some ⟨tb, 0, none⟩) n n) := blk_cell h.head 0
theorem RefAt.kept {S : Nat → Prop} {w w' : World} {rb tb n : Nat} {T : Nat → Bool} (h : RefAt w rb tb n T) (ho : Only S w w') (h1 : ¬ S rb) (h2 : ¬ S tb) : RefAt w' rb tb n T := ⟨ho.blk h.head h1, ho.blk h.row h2⟩
theorem RefAt.put {w : World} {rb tb n : Nat} {T : Nat → Bool} (h : RefAt w rb tb n T) (hne : rb ≠ tb) (j : Nat) (v : Bool) : RefAt (w.setCell ⟨tb, j, none⟩ (.bool v)) rb tb n (upd T j v) :=
  ⟨blk_set_ne h.head _ _ hne, h.row.stored j v⟩

set_option maxHeartbeats 400000 in
theorem rnew_bad (n : Int) (w : World) (h : n < 1 ∨ 16 < n) :
    Calls Try.prog 9 #[.int .i64 n] w fun e w' => e = .returned (.tuple #[.pointer none, .int .i64 1]) ∧ w = w' := by
  by_cases h1 : n < 1
  · go_enter Try.func9, Try.ntmps9
    go_wp2
    go_ret2
    exact ⟨rfl, rfl⟩
  · have h2 : 16 < n := by omega
    go_enter Try.func9, Try.ntmps9
    go_wp2
    go_ret2
    exact ⟨rfl, rfl⟩

def RNew (n : Nat) (w : World) (e : Ending) (w' : World) : Prop :=
  e = .returned (.tuple #[.pointer (some ⟨w.heap.size + 1, 0, none⟩), .int .i64 0]) ∧ Only (fun _ => False) w w' ∧ RefAt w' (w.heap.size + 1) w.heap.size n (fun _ => false) ∧ w'.heap.size = w.heap.size + 2

theorem seen_new (w : World) (n : Nat) : SeenAt (w.alloc (.cells (madeCells #[.bool false] n) 4)) w.heap.size n (fun _ => false) := by
  unfold SeenAt; rw [blk_new]; congr 2
  apply Array.ext'; rw [toList_madeCells_one]
  apply List.ext_getElem?
  intro k
  by_cases hk : k < n <;> simp [hk]

set_option maxHeartbeats 400000 in
theorem rnew_ok (n : Nat) (w : World) (h1 : 1 ≤ n) (h2 : n ≤ 16) : Calls Try.prog 9 #[.int .i64 n] w (RNew n w) := by
  obtain ⟨i4, hi4, hz4, hs4, hb4⟩ := info_parts info4
  have hmk := run_make (P := Try.prog) w 28 4 i4 (.bool false) Try.underlying28 hi4 hz4 .i64 .i64 n n (by omega) (by omega) (by rw [hb4]; omega) (by omega)
  rw [hs4] at hmk
  have hmk' : Sem.run Try.prog (Instr.makeSlice 28 (Value.int IntKind.i64 n) (Value.int IntKind.i64 n)) w = .ok (.slice (some ⟨w.heap.size, 0, none⟩) n n) (w.alloc (.cells (madeCells #[.bool false] n) 4)) := by
    simp only [Int.toNat_natCast, Nat.mul_one] at hmk
    exact hmk
  clear hmk
  go_enter Try.func9, Try.ntmps9
  go_wp2
  go_ret2
  refine ⟨rfl, ((Only.refl _ _).alloc _).alloc _, ⟨?_, ?_⟩, by simp⟩
  · have := blk_new (w.alloc (.cells (madeCells #[.bool false] n) 4)) (.cells #[.slice (some ⟨w.heap.size, 0, none⟩) n n] 46)
    simpa using this
  · exact blk_alloc (seen_new w n) _

set_option maxHeartbeats 400000 in
theorem rtake_none (rb tb n : Nat) (T : Nat → Bool) (w : World) (h : RefAt w rb tb n T) (hn : n ≤ 16) (hno : ∀ i, i < n → T i = true) :
    Calls Try.prog 12 #[.pointer (some ⟨rb, 0, none⟩)] w fun e w' => e = .returned (.tuple #[.int .i64 0, .int .i64 14]) ∧ w = w' := by
  have h0 := h.c0
  have hno' := Lib.hid hno; clear hno
  go_enter Try.func12, Try.ntmps12
  go_wp2
  go_loop [4] (fun i => ∃ k : Nat, k ≤ n ∧ i = .int .i64 k) (fun i => n - (intOf i).toNat)
  case atStart => exact ⟨0, Nat.zero_le _, rfl⟩
  case round =>
    obtain ⟨k, hk, rfl⟩ := hrel
    by_cases hlt : k < n
    · have hc := h.row.cell k hlt
      rw [hno'.out k hlt] at hc
      go_wp2
      go_round
      case rel => exact ⟨k + 1, by omega, by go_num⟩
      case measure => simp [intOf]; omega
    · go_wp2
      go_ret2
      exact ⟨rfl, rfl⟩

set_option maxHeartbeats 400000 in
theorem rtake_some (rb tb n i : Nat) (T : Nat → Bool) (w : World) (h : RefAt w rb tb n T) (hn : n ≤ 16) (hi : i < n) (hyes : T i = false) (hno : ∀ j, j < i → T j = true) (hne : rb ≠ tb) :
    Calls Try.prog 12 #[.pointer (some ⟨rb, 0, none⟩)] w fun e w' => e = .returned (.tuple #[.int .i64 i, .int .i64 0]) ∧ Only (· = tb) w w' ∧ RefAt w' rb tb n (upd T i true) := by
  have h0 := h.c0
  have hno' := Lib.hid hno; clear hno
  have hyes' := Lib.hid hyes; clear hyes
  go_enter Try.func12, Try.ntmps12
  go_wp2
  go_loop [4] (fun j => ∃ k : Nat, k ≤ i ∧ j = .int .i64 k) (fun j => i - (intOf j).toNat)
  case atStart => exact ⟨0, Nat.zero_le _, rfl⟩
  case round =>
    obtain ⟨k, hk, rfl⟩ := hrel
    by_cases hlt : k < i
    · have hc := h.row.cell k (by omega)
      rw [hno'.out k hlt] at hc
      go_wp2
      go_round
      case rel => exact ⟨k + 1, by omega, by go_num⟩
      case measure => simp [intOf]; omega
    · obtain rfl : k = i := by omega
      have hc := h.row.cell k hi
      rw [hyes'.out] at hc
      have hz := h.row.free k
      go_wp2
      go_ret2
      exact ⟨rfl, Only.set1 tb w k _, h.put hne k true⟩

theorem rgive_arg (rb tb n : Nat) (T : Nat → Bool) (i : Int) (w : World) (h : RefAt w rb tb n T) (_hn : n ≤ 16) (hi : i < 0 ∨ (n : Int) ≤ i) (hlo : -9223372036854775808 ≤ i) (hhi : i ≤ 9223372036854775807) :
    Calls Try.prog 13 #[.pointer (some ⟨rb, 0, none⟩), .int .i64 i] w fun e w' => e = .returned (.int .i64 1) ∧ w = w' := by
  have h0 := h.c0
  by_cases hneg : i < 0
  · go_enter Try.func13, Try.ntmps13
    go_wp2
    go_ret
    exact ⟨rfl, rfl⟩
  · have hge : (n : Int) ≤ i := by omega
    go_enter Try.func13, Try.ntmps13
    go_wp2
    go_ret
    exact ⟨rfl, rfl⟩

theorem rgive_state (rb tb n : Nat) (T : Nat → Bool) (i : Nat) (w : World) (h : RefAt w rb tb n T) (_hn : n ≤ 16) (hi : i < n) (hs : T i = false) :
    Calls Try.prog 13 #[.pointer (some ⟨rb, 0, none⟩), .int .i64 i] w fun e w' => e = .returned (.int .i64 8) ∧ w = w' := by
  have h0 := h.c0
  have hc := h.row.cell i hi
  rw [hs] at hc
  clear hs
  go_enter Try.func13, Try.ntmps13
  go_wp2
  go_ret
  exact ⟨rfl, rfl⟩

theorem rgive_ok (rb tb n : Nat) (T : Nat → Bool) (i : Nat) (w : World) (h : RefAt w rb tb n T) (_hn : n ≤ 16) (hi : i < n) (hs : T i = true) (hne : rb ≠ tb) :
    Calls Try.prog 13 #[.pointer (some ⟨rb, 0, none⟩), .int .i64 i] w fun e w' => e = .returned (.int .i64 0) ∧ Only (· = tb) w w' ∧ RefAt w' rb tb n (upd T i false) := by
  have h0 := h.c0
  have hc := h.row.cell i hi
  have hz := h.row.free i
  rw [hs] at hc
  clear hs
  go_enter Try.func13, Try.ntmps13
  go_wp2
  go_ret
  exact ⟨rfl, Only.set1 tb w i _, h.put hne i false⟩

set_option maxHeartbeats 1000000 in
theorem rfree_any (rb tb n : Nat) (T : Nat → Bool) (w : World) (h : RefAt w rb tb n T) (hn : n ≤ 16) :
    Calls Try.prog 15 #[.pointer (some ⟨rb, 0, none⟩)] w (FreeRes (fun j => !T j) n w) := by
  obtain ⟨i3, hi3, hz3, hs3, hb3⟩ := info_parts info3
  go_enter Try.func15, Try.ntmps15
  go_wp2
  go_loopw [3, 4] (fun v i wr => FR w (fun j => !T j) n v i wr) (fun _ i _ => n - (intOf i).toNat)
  case atStart => exact ⟨0, Nat.zero_le _, rfl, (Only.refl _ _).alloc _, World.ownsRow_lit _ #[] 0 (Nat.le_refl _) (Nat.zero_le _) rfl⟩
  case round =>
    obtain ⟨k, hk, rfl, hon, hown⟩ := hrel
    have hP : RefAt _ rb tb n T := h.kept hon (by simp) (by simp)
    have h0 := hP.c0
    by_cases hlt : k < n
    · have hc := hP.row.cell k hlt
      clear hP
      cases hbit : T k
      · rw [hbit] at hc
        have hle := sel_le (fun j => !T j) k
        go_wp2_with (at_builtin; refine wpList_append_kept _ rfl _ _ 22 rfl 3 i3 (.int .i64 0) 1 8 Try.underlying22 hi3 hz3 hs3 hb3 rfl (by decide) w.heap.size _ _ _ rfl (hown.alloc _) ?c1 ⟨wr.heap.size, 0, none⟩ 1 1 [.int .i64 k] rfl rfl ?c2 ?c3 ?c4 ?c5 ?c6 ?_)
        case c1 => have := hon.size; simp; omega
        case c2 => exact cell_one_new _ _ _
        case c3 => simp [Value.oneCell']
        case c4 => omega
        case c5 => unfold maxLen; omega
        case c6 => omega
        intro v' w1 hgrew hown1
        have hnx := Lib.hid (own_next (s := fun j => !T j) (by simp [hbit]) hown1)
        have hon1 := (hon.alloc (.cells #[.int .i64 k] 3)).grown hgrew.grown (fun g hg => .inl (hown.lt g hg).1)
        clear hown hown1 hgrew hbit
        go_wp2
        go_roundw
        case rel => exact ⟨k + 1, by omega, by go_num, hon1, hnx.out⟩
        case measure => simp [intOf]; omega
      · rw [hbit] at hc
        have hnx : Own w.heap.size wr u3 (sel (fun j => !T j) (k + 1)) := by rw [sel_no (fun j => !T j) _ (by simp [hbit])]; exact hown
        have hnx' := Lib.hid hnx
        clear hnx hown hbit
        go_wp2
        go_roundw
        case rel => exact ⟨k + 1, by omega, by go_num, hon, hnx'.out⟩
        case measure => simp [intOf]; omega
    · obtain rfl : k = n := by omega
      clear hP
      go_wp2
      go_ret
      exact ⟨_, rfl, hon, hown⟩
end Go.Proofs.Ytmfgagfkkhfliaa
