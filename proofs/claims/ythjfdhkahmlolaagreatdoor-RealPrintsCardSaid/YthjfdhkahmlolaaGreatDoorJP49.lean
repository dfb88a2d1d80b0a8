/- The walk of digits. -/
import Derived.Test.YthjfdhkahmlolaaGreatDoorJP48
namespace Go.Proofs.YthjfdhkahmlolaaGreatDoor
open Go.RowKit Usc
def DRel (L : List UInt8) (f l n i : Value) : Prop := ∃ (k : Nat) (st : Int × Int × Int), k ≤ L.length ∧ (101 : UInt8) ∉ L.take k ∧ dfold (L.take k) = st ∧ f = .int .i64 st.1 ∧ l = .int .i64 st.2.1 ∧ n = .int .i64 st.2.2 ∧ i = .int .i64 (k : Int)
theorem dfold_bounds (l : List UInt8) : -1 ≤ (dfold l).1 ∧ (dfold l).1 ≤ l.length ∧ -1 ≤ (dfold l).2.1 ∧ (dfold l).2.1 ≤ l.length ∧ 0 ≤ (dfold l).2.2 ∧ (dfold l).2.2 ≤ l.length := by
  unfold dfold
  have key : ∀ (l : List UInt8) (f a n : Int) (m : Nat), -1 ≤ f → f ≤ m → -1 ≤ a → a ≤ m → 0 ≤ n → n ≤ m →
      -1 ≤ (l.foldl dstep (f, a, n)).1 ∧ (l.foldl dstep (f, a, n)).1 ≤ (m + l.length : Nat) ∧ -1 ≤ (l.foldl dstep (f, a, n)).2.1 ∧ (l.foldl dstep (f, a, n)).2.1 ≤ (m + l.length : Nat) ∧ 0 ≤ (l.foldl dstep (f, a, n)).2.2 ∧ (l.foldl dstep (f, a, n)).2.2 ≤ (m + l.length : Nat) := by
    intro l
    induction l with
    | nil => intro f a n m; simp; omega
    | cons b l ih =>
      intro f a n m h1 h2 h3 h4 h5 h6
      rw [List.foldl_cons]
      obtain ⟨f', a', n', e, g1, g2, g3, g4, g5, g6⟩ : ∃ f' a' n', dstep (f, a, n) b = (f', a', n') ∧ -1 ≤ f' ∧ f' ≤ (m + 1 : Nat) ∧ -1 ≤ a' ∧ a' ≤ (m + 1 : Nat) ∧ 0 ≤ n' ∧ n' ≤ (m + 1 : Nat) := by
        unfold dstep
        split
        · split
          · exact ⟨f, a, n + 1, rfl, by omega, by omega, by omega, by omega, by omega, by omega⟩
          · exact ⟨if f < 0 then n else f, n, n + 1, rfl, by split <;> omega, by split <;> omega, by omega, by omega, by omega, by omega⟩
        · exact ⟨f, a, n, rfl, by omega, by omega, by omega, by omega, by omega, by omega⟩
      rw [e]
      have := ih f' a' n' (m + 1) g1 g2 g3 g4 g5 g6
      rw [show m + (b :: l).length = m + 1 + l.length by simp; omega]
      exact this
  have := key l (-1) (-1) 0 0 (by decide) (by decide) (by decide) (by decide) (by decide) (by decide)
  simpa using this
theorem drel_next {L : List UInt8} {k : Nat} {st : Int × Int × Int} {f l n : Int} {x : UInt8} (hx : L[k]? = some x) (h : (101 : UInt8) ∉ L.take k) (hst : dfold (L.take k) = st) (hne : x ≠ 101) (hd : dstep st x = (f, l, n)) :
    DRel L (.int .i64 f) (.int .i64 l) (.int .i64 n) (.int .i64 ((k : Int) + 1)) := by
  have hk : k < L.length := (List.getElem?_eq_some_iff.1 hx).1
  have ht : L.take (k + 1) = L.take k ++ [x] := by rw [List.take_add_one, hx]; rfl
  refine ⟨k + 1, (f, l, n), hk, ?_, ?_, rfl, rfl, rfl, by simp⟩
  · rw [ht]; intro m
    rcases List.mem_append.1 m with m | m
    · exact h m
    · exact hne (List.mem_singleton.1 m).symm
  · rw [ht]; unfold dfold; rw [List.foldl_append]
    show dstep (dfold (L.take k)) x = _
    rw [hst, hd]
theorem dstep_not {st : Int × Int × Int} {x : UInt8} (h : x.toNat < 48 ∨ 57 < x.toNat) : dstep st x = (st.1, st.2.1, st.2.2) := by
  unfold dstep isD
  rw [if_neg (by simp; omega)]
theorem dstep_zero {st : Int × Int × Int} {x : UInt8} (h : x = 48) : dstep st x = (st.1, st.2.1, st.2.2 + 1) := by
  subst h; rfl
theorem dstep_first {st : Int × Int × Int} {x : UInt8} (h : 48 ≤ x.toNat ∧ x.toNat ≤ 57) (h0 : x ≠ 48) (hf : st.1 < 0) : dstep st x = (st.2.2, st.2.2, st.2.2 + 1) := by
  unfold dstep isD
  rw [if_pos (by simp; omega), if_neg h0, if_pos hf]
theorem dstep_later {st : Int × Int × Int} {x : UInt8} (h : 48 ≤ x.toNat ∧ x.toNat ≤ 57) (h0 : x ≠ 48) (hf : ¬ st.1 < 0) : dstep st x = (st.1, st.2.2, st.2.2 + 1) := by
  unfold dstep isD
  rw [if_pos (by simp; omega), if_neg h0, if_neg hf]
theorem ne_of_bne {x : UInt8} {n : Nat} (h : (((x.toNat : Nat) : Int) != (n : Int)) = true) (y : UInt8) (hy : y.toNat = n) : x ≠ y := by
  rintro rfl
  rw [hy] at h
  simp at h
theorem eq_of_bne {x : UInt8} {n : Nat} (h : (((x.toNat : Nat) : Int) != (n : Int)) = false) (y : UInt8) (hy : y.toNat = n) : x = y := by
  apply UInt8.toNat_inj.mp
  rw [hy]
  have := bne_eq_false_iff_eq.1 h
  omega
theorem headT_all {L : List UInt8} (h : (101 : UInt8) ∉ L) : headT L = L := by
  have := (cut101 (R := []) h (.inl rfl)).1
  rwa [List.append_nil] at this
theorem headT_at {L : List UInt8} {k : Nat} (h : (101 : UInt8) ∉ L.take k) (hx : L[k]? = some 101) : headT L = L.take k := by
  have hk : k < L.length := (List.getElem?_eq_some_iff.1 hx).1
  have : L = L.take k ++ 101 :: L.drop (k + 1) := by
    have h1 : L.drop k = 101 :: L.drop (k + 1) := by
      rw [List.drop_eq_getElem_cons hk]
      congr 1
      exact (List.getElem?_eq_some_iff.1 hx).2
    rw [← h1, List.take_append_drop]
  have h2 := (cut101 (R := 101 :: L.drop (k + 1)) h (.inr ⟨_, rfl⟩)).1
  rw [← this] at h2
  exact h2
set_option maxRecDepth 100000
set_option maxHeartbeats 4000000 in
theorem digits20 (S : ByteArray) (w : World) (hS : S.size ≤ 1000) : Calls Tryz.prog 20 #[.string S] w fun e w' => e = .returned (.int .i64 (dres (dfold (headT S.data.toList)))) ∧ w' = w := by
  obtain ⟨L, hL⟩ : ∃ L, L = S.data.toList := ⟨_, rfl⟩
  have hz : S.size = L.length := by rw [hL, Array.length_toList]; rfl
  rw [← hL]
  have HL := Lib.hid hL
  clear hL
  go_enter Tryz.func20, Tryz.ntmps20
  go_wp2_with fail
  go_loop [3, 4, 5, 6] (fun f l n i => DRel L f l n i) (fun _ _ _ i => L.length - (intOf i).toNat)
  case atStart => exact ⟨0, (-1, -1, 0), Nat.zero_le _, by rw [List.take_zero]; exact List.not_mem_nil, rfl, rfl, rfl, rfl, rfl⟩
  case round =>
    obtain ⟨k, st, hk, h101, hst, rfl, rfl, rfl, rfl⟩ := hrel
    have hb := dfold_bounds (L.take k)
    rw [hst, List.length_take] at hb
    have hb1 : -1 ≤ st.1 ∧ st.1 ≤ 1000 := by omega
    have hb2 : -1 ≤ st.2.1 ∧ st.2.1 ≤ 1000 := by omega
    have hb3 : 0 ≤ st.2.2 ∧ st.2.2 ≤ 1000 := by omega
    have HST := Lib.hid hst; have H1 := Lib.hid h101
    clear hb hst h101
    have HX := Lib.hid (show ∀ h : k < S.size, L[k]? = some S[k] from fun h => by rw [HL.out]; exact List.getElem?_eq_some_iff.2 ⟨by rw [← HL.out, ← hz]; exact h, rfl⟩)
    go_wp2_with fail
    · exact ⟨drel_next (HX.out (by omega)) H1.out HST.out (ne_of_bne (n := 101) (by assumption) 101 rfl) (dstep_not (by omega)), by simp only [intOf]; omega⟩
    · exact ⟨drel_next (HX.out (by omega)) H1.out HST.out (ne_of_bne (n := 101) (by assumption) 101 rfl) (dstep_first (by omega) (ne_of_bne (n := 48) (by assumption) 48 rfl) (by assumption)), by simp only [intOf]; omega⟩
    · exact ⟨drel_next (HX.out (by omega)) H1.out HST.out (ne_of_bne (n := 101) (by assumption) 101 rfl) (dstep_later (by omega) (ne_of_bne (n := 48) (by assumption) 48 rfl) (by omega)), by simp only [intOf]; omega⟩
    · exact ⟨drel_next (HX.out (by omega)) H1.out HST.out (ne_of_bne (n := 101) (by assumption) 101 rfl) (dstep_zero (eq_of_bne (n := 48) (by assumption) 48 rfl)), by simp only [intOf]; omega⟩
    · exact ⟨drel_next (HX.out (by omega)) H1.out HST.out (ne_of_bne (n := 101) (by assumption) 101 rfl) (dstep_not (by omega)), by simp only [intOf]; omega⟩
    · go_ret
      exact ⟨ret_eq (congrArg (Value.int IntKind.i64) (by rw [headT_at H1.out ((HX.out (by omega)).trans (congrArg some (eq_of_bne (n := 101) (by assumption) 101 rfl))), HST.out]; unfold dres; rw [if_pos (by assumption)])), rfl⟩
    · go_ret
      exact ⟨ret_eq (congrArg (Value.int IntKind.i64) (by rw [headT_at H1.out ((HX.out (by omega)).trans (congrArg some (eq_of_bne (n := 101) (by assumption) 101 rfl))), HST.out]; unfold dres; rw [if_neg (by omega)])), rfl⟩
    · go_ret
      have hkl : k = L.length := by omega
      have h1 := H1.out; have h2 := HST.out
      rw [hkl, List.take_length] at h1 h2
      exact ⟨ret_eq (congrArg (Value.int IntKind.i64) (by rw [headT_all h1, h2]; unfold dres; rw [if_pos (by assumption)])), rfl⟩
    · go_ret
      have hkl : k = L.length := by omega
      have h1 := H1.out; have h2 := HST.out
      rw [hkl, List.take_length] at h1 h2
      exact ⟨ret_eq (congrArg (Value.int IntKind.i64) (by rw [headT_all h1, h2]; unfold dres; rw [if_neg (by omega)])), rfl⟩
end Go.Proofs.YthjfdhkahmlolaaGreatDoor
