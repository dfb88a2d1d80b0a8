/- The walks of Free (pool and reference), Take, Give, New of the reference, same. -/
import Derived.Test.YtmfgagfkkhfliaaGrow
import Derived.Test.YtmfgagfkkhfliaaOnceW
namespace Go.Proofs.Ytmfgagfkkhfliaa
open Go.RowKit

theorem info3 : (Try.prog.info? 3).map (fun i => (i.zero, i.size, i.bytes)) = some (some (.int .i64 0), 1, 8) := by kernel_rfl

def sel (s : Nat → Bool) (k : Nat) : List Nat := (List.range k).filter s
theorem sel_yes (s : Nat → Bool) (k : Nat) (h : s k = true) : sel s (k + 1) = sel s k ++ [k] := by simp [sel, List.range_succ, List.filter_append, h]
theorem sel_no (s : Nat → Bool) (k : Nat) (h : s k = false) : sel s (k + 1) = sel s k := by simp [sel, List.range_succ, List.filter_append, h]
theorem sel_le (s : Nat → Bool) (k : Nat) : (sel s k).length ≤ k := by
  have := List.length_filter_le s (List.range k); simpa [sel] using this
theorem sel_congr (s t : Nat → Bool) (k : Nat) (h : ∀ j, j < k → s j = t j) : sel s k = sel t k := List.filter_congr fun j hj => h j (by simpa using hj)
def vals (l : List Nat) : List Value := l.map fun (i : Nat) => Value.int .i64 (i : Int)

/-- A slice of the call's own that holds these numbers. -/
def Own (base : Nat) (w : World) (v : Value) (l : List Nat) : Prop := w.ownsRow base 3 1 v l.length (vals l)
def FreeRes (s : Nat → Bool) (n : Nat) (w : World) (e : Ending) (w' : World) : Prop := ∃ v, e = .returned v ∧ Only (fun _ => False) w w' ∧ Own w.heap.size w' v (sel s n)

def FR (w : World) (s : Nat → Bool) (n : Nat) (v i : Value) (wr : World) : Prop := ∃ k : Nat, k ≤ n ∧ i = .int .i64 k ∧ Only (fun _ => False) w wr ∧ Own w.heap.size wr v (sel s k)

theorem own_next {base : Nat} {w' : World} {v' : Value} {s : Nat → Bool} {k : Nat} (h : s k = true) (ho : w'.ownsRow base 3 1 v' ((sel s k).length + 1) (vals (sel s k) ++ [Value.int .i64 (k : Int)])) : Own base w' v' (sel s (k + 1)) := by
  unfold Own
  rw [sel_yes s k h]
  simpa [vals] using ho

set_option maxHeartbeats 1000000 in
theorem pfree_any (b n F : Nat) (w : World) (h : PoolAt w b n F) (hF : F < 65536) (hn : n ≤ 16) :
    Calls Try.prog 16 #[.pointer (some ⟨b, 0, none⟩)] w (FreeRes F.testBit n w) := by
  obtain ⟨i3, hi3, hz3, hs3, hb3⟩ := info_parts info3
  have h0 := h.c0
  have hb := blk_lt h
  go_enter Try.func16, Try.ntmps16
  go_wp2
  go_loopw [3, 9] (fun v i wr => FR w F.testBit n v i wr) (fun _ i _ => n - (intOf i).toNat)
  case atStart => exact ⟨0, Nat.zero_le _, rfl, Only.refl _ _, World.ownsRow_nil _ _ _ _⟩
  case round =>
    obtain ⟨k, hk, rfl, hon, hown⟩ := hrel
    have hP : PoolAt _ b n F := hon.blk h (by simp)
    have h1 := hP.c1
    clear hP
    by_cases hlt : k < n
    · cases hbit : F.testBit k
      · have hnx : Own w.heap.size wr u3 (sel F.testBit (k + 1)) := by rw [sel_no _ _ hbit]; exact hown
        have hnx' := Lib.hid hnx
        clear hnx hown
        go_wp2_with (go_at_call 11; refine (is_any _ F k _ h1 hF (by omega)).mono ?_; rintro e w' ⟨rfl, rfl⟩)
        go_roundw
        case rel => exact ⟨k + 1, by omega, by go_num, hon, hnx'.out⟩
        case measure => simp [intOf]; omega
      · have hle := sel_le F.testBit k
        go_wp2_with (first | (go_at_call 11; refine (is_any _ F k _ h1 hF (by omega)).mono ?_; rintro e w' ⟨rfl, rfl⟩) | (at_builtin; refine wpList_append_kept _ rfl _ _ 22 rfl 3 i3 (.int .i64 0) 1 8 Try.underlying22 hi3 hz3 hs3 hb3 rfl (by decide) w.heap.size _ _ _ rfl (hown.alloc _) ?c1 ⟨wr.heap.size, 0, none⟩ 1 1 [.int .i64 k] rfl rfl ?c2 ?c3 ?c4 ?c5 ?c6 ?_))
        case c1 => have := hon.size; simp; omega
        case c2 => exact cell_one_new _ _ _
        case c3 => simp [Value.oneCell']
        case c4 => omega
        case c5 => unfold maxLen; omega
        case c6 => omega
        intro v' w1 hgrew hown1
        have hnx := Lib.hid (own_next hbit hown1)
        have hon1 := (hon.alloc (.cells #[.int .i64 k] 3)).grown hgrew.grown (fun g hg => .inl (hown.lt g hg).1)
        clear hown hown1 hgrew
        go_wp2
        go_roundw
        case rel => exact ⟨k + 1, by omega, by go_num, hon1, hnx.out⟩
        case measure => simp [intOf]; omega
    · obtain rfl : k = n := by omega
      go_wp2
      go_ret
      exact ⟨_, rfl, hon, hown⟩
end Go.Proofs.Ytmfgagfkkhfliaa
