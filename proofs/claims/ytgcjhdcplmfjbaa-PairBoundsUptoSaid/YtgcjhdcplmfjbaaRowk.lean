/- What the rows' proofs share: words that came in. -/
import Derived.Test.YtgcjhdcplmfjbaaDoes2
import Derived.ProofKit
import Derived.OpenShut
import Derived.ChangeOld
import Derived.Below
import Derived.SizedLaws
import Derived.Lib.SmallJoins
namespace Go.Proofs.Ytgcjhdcplmfjbaa.rowk
open Go.ChangeShapes Go.WideShapes Go.ChangeAt Go.RowKit Go.Joins

theorem own : ownKnob Try.prog.godebug = none := by kernel_rfl
theorem laidOut : laidOutB Try.prog = true := by kernel_rfl
theorem bytes22 : Try.prog.bytesOf 22 = 8 := by kernel_rfl
theorem cells24 : Try.prog.cellsOf 24 = 2 := by kernel_rfl
theorem below_only {w w' : World} (ho : Only (fun _ => False) w w') : Below w.heap.size w w' :=
  (ho.mono (T := fun k => w.heap.size ≤ k) (by intro k _ h; exact h.elim)).below (Nat.le_refl _)
theorem word {k : Int} (h : (Lit.int .u64 k).wf = true) : ∃ n : Nat, k = n ∧ n < 18446744073709551616 := by
  have h2 : 0 ≤ k ∧ k ≤ 18446744073709551615 := by simpa [Lit.wf, IntKind.min, IntKind.max, IntKind.signed, IntKind.bits] using h
  exact ⟨k.toNat, by omega, by omega⟩
theorem spot_none {x : Addr} {v : Value} {w : World} (h : w.cell? x = some v) : x.spot = none := by
  cases hs : x.spot with
  | none => rfl
  | some y =>
    simp only [World.cell?, hs] at h
    split at h <;> simp at h
theorem add_at {x : Addr} {v : Value} {w : World} {i : Nat} (hs : x.spot = none) (h : w.cell? (x.add i) = some v) : w.cell? ⟨x.block, x.off + i, none⟩ = some v := by
  rw [← h]; congr 1
  unfold Addr.add
  split
  · rename_i h0; subst h0; cases x; simp_all
  · rfl

theorem words_of {w : World} {x : Addr} {len cap : Nat} {zs : List Int} (hl : len ≤ cap) (hz : zs.length = cap) (hc : ∀ i, i < zs.length → w.cell? (x.add i) = some (.int .u64 (zs.getD i 0))) (hwz : ∀ n ∈ zs, (Lit.int .u64 n).wf = true) :
    Words w (some x) len (fun j => (zs.getD j 0).toNat) :=
  ⟨fun j hj => by
    have h0 := hc 0 (by omega)
    have hsp : x.spot = none := spot_none (x := x) h0
    have hb := World.block_lt_of_cell? w x h0
    have hmem : zs.getD j 0 ∈ zs := by rw [List.getD_eq_getElem?_getD, List.getElem?_eq_getElem (by omega)]; exact List.getElem_mem _
    obtain ⟨n, hn, hlt⟩ := word (hwz _ hmem)
    refine ⟨x.block, x.off, ?_, hb, ?_, ?_⟩
    · cases x with
      | mk b o s => dsimp only at hsp; subst hsp; rfl
    · have := add_at hsp (hc j (by omega))
      rw [this, hn]; rfl
    · rw [hn]; exact hlt⟩

end Go.Proofs.Ytgcjhdcplmfjbaa.rowk
