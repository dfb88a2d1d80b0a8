/-
  A call of one goroutine is a call at whose return every other goroutine has ended: the bridge from the form 'alone' to the form 'leaving'. No condition.
-/
import Derived.Conc.LeavingOf
namespace Go.Proofs.YtlipngdfhpaodaaGreat
open Go

theorem leaving_of_alone {P : Program} {last : Machine} {w : World} {t : Trace} (h : aloneAtReturn P last w t) : leavingAtReturn P last w t := by
  obtain ⟨⟨h1, h2⟩, h3, h4⟩ := h
  refine ⟨h3, ⟨?_, h2⟩, h4⟩
  intro g hg
  refine ⟨0, ?_⟩
  unfold Goroutine.LeavesIn
  unfold Machine.othersDone at h1
  have := List.all_eq_true.1 h1 g hg
  simpa using this

theorem ReturnsInHanded.leaving {a : Assume} {C : Checked} {os : Os} {f : FuncId} {Pre : World → Array Value → Prop} {Post : World → Array Value → Value → World → Prop}
    (h : ReturnsInHanded a C os f .any Pre Post) : ReturnsInLeavingWide a C os f .any Pre Post := fun enter =>
  ReturnsInOpen.mono (fun _ _ _ x => leaving_of_alone x) (fun _ x => x) (h enter)
end Go.Proofs.YtlipngdfhpaodaaGreat
