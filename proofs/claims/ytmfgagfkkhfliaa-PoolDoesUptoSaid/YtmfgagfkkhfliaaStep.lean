/- The walk of the law's 'step'. -/
import Derived.Test.YtmfgagfkkhfliaaFreeW
namespace Go.Proofs.Ytmfgagfkkhfliaa
open Go.RowKit

/-- a pool and the reference's, in step -/
structure Sync (w : World) (pb rb tb n F : Nat) (T : Nat → Bool) : Prop where
  pool : PoolAt w pb n F
  lt : F < 65536
  le : n ≤ 16
  ref : RefAt w rb tb n T
  same : ∀ j, j < n → F.testBit j = !T j
  apart : pb ≠ rb ∧ pb ≠ tb ∧ rb ≠ tb
def InStep (w : World) (pb rb tb n : Nat) : Prop := ∃ F T, Sync w pb rb tb n F T
theorem Sync.kept {S : Nat → Prop} {w w' : World} {pb rb tb n F : Nat} {T : Nat → Bool} (h : Sync w pb rb tb n F T) (ho : Only S w w') (h1 : ¬ S pb) (h2 : ¬ S rb) (h3 : ¬ S tb) : Sync w' pb rb tb n F T :=
  ⟨ho.blk h.pool h1, h.lt, h.le, h.ref.kept ho h2 h3, h.same, h.apart⟩
def Both (pb tb : Nat) (k : Nat) : Prop := k = pb ∨ k = tb
def StepPost (w : World) (pb rb tb n : Nat) (e : Ending) (w' : World) : Prop := e = .returned (.bool true) ∧ Only (Both pb tb) w w' ∧ InStep w' pb rb tb n

theorem least (s : Nat → Bool) (n : Nat) : (∀ j, j < n → s j = false) ∨ ∃ i, i < n ∧ s i = true ∧ ∀ j, j < i → s j = false := by
  induction n with
  | zero => exact .inl (by omega)
  | succ n ih =>
    rcases ih with h | ⟨i, h1, h2, h3⟩
    · cases hs : s n
      · left; intro j hj
        by_cases e : j = n
        · subst e; exact hs
        · exact h j (by omega)
      · exact .inr ⟨n, by omega, hs, h⟩
    · exact .inr ⟨i, by omega, h2, h3⟩

set_option maxHeartbeats 1000000 in
theorem step_take (pb rb tb n : Nat) (N : Int) (ot : Bool) (w : World) (h : InStep w pb rb tb n) :
    Calls Try.prog 10 #[.pointer (some ⟨pb, 0, none⟩), .pointer (some ⟨rb, 0, none⟩), .agg #[.int .i64 1, .int .i64 N, .bool ot]] w (StepPost w pb rb tb n) := by
  obtain ⟨F, T, hs⟩ := h
  have hlt := hs.lt
  have hle := hs.le
  rcases least F.testBit n with hno | ⟨i, hi, hyes, hno⟩
  · have hno2 : Hid (∀ j, j < n → T j = true) := fun j hj => by have := hs.same j hj; rw [hno j hj] at this; simpa using this
    have hno' := Lib.hid hno; clear hno
    have hs2 : Hid (∀ o, Sync (w.alloc o) pb rb tb n F T) := fun o => hs.kept (S := fun _ => False) ((Only.refl _ _).alloc o) (by simp) (by simp) (by simp)
    clear hs
    go_enter Try.func10, Try.ntmps10
    go_wp2_with fail
    refine (take_none pb n F _ (hs2.out _).pool hlt hle hno'.out).mono ?_
    rintro e w1 ⟨rfl, rfl⟩
    go_wp2_with fail
    refine (rtake_none rb tb n T _ (hs2.out _).ref hle hno2.out).mono ?_
    rintro e w2 ⟨rfl, rfl⟩
    go_wp2_with fail
    go_ret
    exact ⟨rfl, (Only.refl _ _).alloc _, F, T, hs2.out _⟩
  · have hT : Hid (T i = false) := by have := hs.same i hi; rw [hyes] at this; show _ = _; simpa using this
    have hno2 : Hid (∀ j, j < i → T j = true) := fun j hj => by have := hs.same j (by omega); rw [hno j hj] at this; simpa using this
    have hno' := Lib.hid hno; clear hno
    have hyes' := Lib.hid hyes; clear hyes
    have hap := Lib.hid hs.apart
    have hsame := Lib.hid hs.same
    have hs2 : Hid (∀ o, Sync (w.alloc o) pb rb tb n F T) := fun o => hs.kept (S := fun _ => False) ((Only.refl _ _).alloc o) (by simp) (by simp) (by simp)
    clear hs
    go_enter Try.func10, Try.ntmps10
    go_wp2_with fail
    refine (take_some pb n F i _ (hs2.out _).pool hlt hle hi hyes'.out hno'.out).mono ?_
    rintro e w1 ⟨rfl, O1, P1⟩
    go_wp2_with fail
    refine (rtake_some rb tb n i T _ ((hs2.out _).ref.kept O1 (fun q => hap.out.1 q.symm) (fun q => hap.out.2.1 q.symm)) hle hi hT.out hno2.out hap.out.2.2).mono ?_
    rintro e w2 ⟨rfl, O2, R2⟩
    go_wp2_with fail
    go_ret
    refine ⟨rfl, (((Only.refl _ _).alloc _).seq2 O1 (fun k hk => .inr (.inl hk))).seq2 O2 (fun k hk => .inr (.inr hk)), _, _, O2.blk P1 hap.out.2.1, clr_lt _ _ hlt, hle, R2, fun j hj => ?_, hap.out⟩
    rw [clr_bit _ _ _ hlt (by omega), hsame.out j hj]
    unfold upd
    by_cases e : j = i
    · subst e; simp
    · simp [e, bne]

set_option maxHeartbeats 1000000 in
theorem step_give (pb rb tb n : Nat) (N : Int) (ot : Bool) (w : World) (h : InStep w pb rb tb n) (hlo : -9223372036854775808 ≤ N) (hhi : N ≤ 9223372036854775807) :
    Calls Try.prog 10 #[.pointer (some ⟨pb, 0, none⟩), .pointer (some ⟨rb, 0, none⟩), .agg #[.int .i64 2, .int .i64 N, .bool ot]] w (StepPost w pb rb tb n) := by
  obtain ⟨F, T, hs⟩ := h
  have hlt := hs.lt
  have hle := hs.le
  have hap := Lib.hid hs.apart
  have hsame := Lib.hid hs.same
  have hpl := blk_lt hs.pool
  have hs2 : Hid (∀ o, Sync (w.alloc o) pb rb tb n F T) := fun o => hs.kept (S := fun _ => False) ((Only.refl _ _).alloc o) (by simp) (by simp) (by simp)
  clear hs
  by_cases hout : N < 0 ∨ (n : Int) ≤ N
  · have hout' := Lib.hid hout; clear hout
    go_enter Try.func10, Try.ntmps10
    go_wp2_with fail
    refine (give_arg pb n F N _ (hs2.out _).pool hle hout'.out hlo hhi).mono ?_
    rintro e w1 ⟨rfl, rfl⟩
    go_wp2_with fail
    refine (rgive_arg rb tb n T N _ (hs2.out _).ref hle hout'.out hlo hhi).mono ?_
    rintro e w2 ⟨rfl, rfl⟩
    go_wp2_with fail
    go_ret
    exact ⟨rfl, (Only.refl _ _).alloc _, F, T, hs2.out _⟩
  · obtain ⟨i, rfl⟩ := Int.eq_ofNat_of_zero_le (show 0 ≤ N by omega)
    have hi : i < n := by omega
    cases hb : T i
    · have hb' := Lib.hid hb; clear hb
      go_enter Try.func10, Try.ntmps10
      go_wp2_with fail
      refine (give_state pb n F i _ (hs2.out _).pool hlt hle hi (by rw [hsame.out i hi, hb'.out]; rfl)).mono ?_
      rintro e w1 ⟨rfl, rfl⟩
      go_wp2_with fail
      refine (rgive_state rb tb n T i _ (hs2.out _).ref hle hi hb'.out).mono ?_
      rintro e w2 ⟨rfl, rfl⟩
      go_wp2_with fail
      go_ret
      exact ⟨rfl, (Only.refl _ _).alloc _, F, T, hs2.out _⟩
    · have hb' := Lib.hid hb; clear hb
      go_enter Try.func10, Try.ntmps10
      go_wp2_with fail
      refine (give_ok pb n F i _ (hs2.out _).pool hlt hle hi (by rw [hsame.out i hi, hb'.out]; rfl)).mono ?_
      rintro e w1 ⟨rfl, O1, P1⟩
      have hc : w1.cell? ⟨w.heap.size, 1, none⟩ = some (.int .i64 i) := (O1.cellAt (b := w.heap.size) (by simp) (by omega) 1).trans (blk_cell (blk_new w (.cells #[.int .i64 2, .int .i64 i, .bool ot] 38)) 1)
      go_wp2_with fail
      refine (rgive_ok rb tb n T i _ ((hs2.out _).ref.kept O1 (fun q => hap.out.1 q.symm) (fun q => hap.out.2.1 q.symm)) hle hi hb'.out hap.out.2.2).mono ?_
      rintro e w2 ⟨rfl, O2, R2⟩
      go_wp2_with fail
      go_ret
      refine ⟨rfl, (((Only.refl _ _).alloc _).seq2 O1 (fun k hk => .inr (.inl hk))).seq2 O2 (fun k hk => .inr (.inr hk)), _, _, O2.blk P1 hap.out.2.1, put_lt _ _ hlt (by omega), hle, R2, fun j hj => ?_, hap.out⟩
      rw [put_bit, hsame.out j hj]
      unfold upd
      by_cases e : j = i
      · subst e; simp
      · simp [e]

set_option maxHeartbeats 1000000 in
theorem step_other (pb rb tb n : Nat) (k N : Int) (ot : Bool) (w : World) (h : InStep w pb rb tb n) (h1 : (k == 1) = false) (h2 : (k == 2) = false) :
    Calls Try.prog 10 #[.pointer (some ⟨pb, 0, none⟩), .pointer (some ⟨rb, 0, none⟩), .agg #[.int .i64 k, .int .i64 N, .bool ot]] w (StepPost w pb rb tb n) := by
  obtain ⟨F, T, hs⟩ := h
  have hs2 : Hid (∀ o, Sync (w.alloc o) pb rb tb n F T) := fun o => hs.kept (S := fun _ => False) ((Only.refl _ _).alloc o) (by simp) (by simp) (by simp)
  clear hs
  go_enter Try.func10, Try.ntmps10
  go_wp2_with fail
  refine (free_any pb rb tb n F T _ (hs2.out _).pool (hs2.out default).lt (hs2.out default).le (hs2.out _).ref (hs2.out default).same).mono ?_
  rintro e w1 ⟨rfl, O1⟩
  go_wp2_with fail
  go_ret
  exact ⟨rfl, ((Only.refl _ _).alloc _).seq2 O1 (fun k hk => hk.elim), F, T, (hs2.out _).kept O1 (by simp) (by simp) (by simp)⟩
end Go.Proofs.Ytmfgagfkkhfliaa
