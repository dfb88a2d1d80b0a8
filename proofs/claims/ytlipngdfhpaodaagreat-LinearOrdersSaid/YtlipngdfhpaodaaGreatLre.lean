/- What the walks of both Orders share. -/
import Derived.Test.YtlipngdfhpaodaaGreatJla
import Derived.Test.YtlipngdfhpaodaaGreatLho
import Derived.Test.YtlipngdfhpaodaaGreatLap
namespace Go.Proofs.YtlipngdfhpaodaaGreat.Lo
open Go.RowKit Srt

/-- what both Orders answer -/
def OrdRes (W : World) (m : Nat) (L : Nat → Nat) (p : Nat → Nat → Int) (e : Ending) (w' : World) : Prop := ∃ v l, e = .returned v ∧ Only (fun _ => False) W w' ∧ Ord p (coll p L m) (coll p L m).length l ∧ w'.ownsRow W.heap.size 72 2 v (coll p L m).length (flat (Tf (coll p L m)) (Nf (coll p L m)) l)
theorem cells11 (w : World) (b o : Nat) (d : Dn) (h : ∀ j, j < 11 → w.cell? ⟨b, o + j, none⟩ = d.arr[j]?) :
    w.cell? ⟨b, o, none⟩ = some (.int .i64 d.e) ∧ w.cell? ⟨b, o + 1, none⟩ = some (.int .i64 d.n) ∧ w.cell? ⟨b, o + 2, none⟩ = some (.int .i64 d.pr) ∧ w.cell? ⟨b, o + 3, none⟩ = some (.slice d.vp d.vn d.vc) ∧ w.cell? ⟨b, o + 4, none⟩ = some (.int .u64 d.rf) ∧ w.cell? ⟨b, o + 5, none⟩ = some (.int .i64 d.fr) ∧ w.cell? ⟨b, o + 6, none⟩ = some (.int .i64 d.to) ∧ w.cell? ⟨b, o + 7, none⟩ = some (.int .i64 d.pt) ∧ w.cell? ⟨b, o + 8, none⟩ = some (.int .i64 d.st) ∧ w.cell? ⟨b, o + 9, none⟩ = some (.int .i64 d.po) ∧ w.cell? ⟨b, o + 10, none⟩ = some (.bool d.en) :=
  ⟨h 0 (by decide), h 1 (by decide), h 2 (by decide), h 3 (by decide), h 4 (by decide), h 5 (by decide), h 6 (by decide), h 7 (by decide), h 8 (by decide), h 9 (by decide), h 10 (by decide)⟩
theorem own_new0 (w : World) {base : Nat} (hb : base ≤ w.heap.size) : (w.alloc (.cells #[] 72)).ownsRow base 72 2 (.slice (some ⟨w.heap.size, 0, none⟩) 0 0) 0 [] :=
  ⟨rfl, .inr ⟨w.heap.size, 0, #[], rfl, hb, blk_new _ _, Nat.le_refl _, Nat.zero_le _, rfl, rfl⟩⟩
/-- a part of a row as the source of an append -/
theorem flat_src {w : World} {T N : Nat → Int} {g n : Nat} {X : Array Value} {l : List Cn} (hb : w.heap[g]? = some (.cells X 72 (0, 0))) (ht : X.toList.take (n * 2) = flat T N l) (hl : l.length = n) (a b : Nat) (hab : a ≤ b) (hbn : b ≤ n) :
    ∀ (ad : Addr) j u, some (⟨g, a * 2, none⟩ : Addr) = some ad → (flat T N ((l.take b).drop a))[j]? = some u → w.cell? (ad.add j) = some u := by
  intro ad j u h hu
  injection h with h; subst h
  have ha : (⟨g, a * 2, none⟩ : Addr).add j = ⟨g, a * 2 + j, none⟩ := by
    unfold Addr.add; split
    · rename_i h0; subst h0; rfl
    · rfl
  rw [ha, blk_cell hb]
  rw [flat_drop, flat_take, List.getElem?_drop, List.getElem?_take, ← ht, List.getElem?_take] at hu
  split at hu
  · split at hu
    · rw [← Array.getElem?_toList]; exact hu
    · cases hu
  · cases hu
end Go.Proofs.YtlipngdfhpaodaaGreat.Lo
