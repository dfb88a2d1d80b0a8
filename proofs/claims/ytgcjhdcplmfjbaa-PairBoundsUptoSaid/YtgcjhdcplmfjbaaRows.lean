/-
  No cell of these rows narrows 'for every input' (looked for: loops, veiled, ifaces, maps, wideKeys, modest, calm, conditions, laid).
  DERIVED. THE GIVEN ROWS OF THIS SEAT. 4 by the template 'for every input the law returns true; each argument reads behind the call as it read before'; 0 by the template 'total and deterministic' (their statements: YtgcjhdcplmfjbaaTotals.lean).
  GIVEN WITH THE SEED: the statements are not yours to turn. If you find one false, say at which input.
  Laid BY PROGRAM, IN A SANDBOX (cutbox-rows.mjs): the forced cells as the released guide's own fill.sh prints them over the translation 034e93c6cbe533f8… (all of the seat's roots in one cut). By AI agents, Wed Nov 11 2026. No macro, syntax, notation, axiom, sorry.
-/
import Derived.Test.YtgcjhdcplmfjbaaChecked
import GoSem.Claim
import GoSem.ClaimJoined
import GoSem.ClaimMapViews
import Derived.JoinedTies
import Derived.KernelRfl
namespace Go.Proofs.Ytgcjhdcplmfjbaa
/- THE CELL 'sum', in the pinned program and in every row, IS THE sha256 OF THE DUMP (.gsa) THAT YtgcjhdcplmfjbaaProg.lean LOADS. Nothing in Lean hashes anything: it is a label: what it is worth is what the hold of that sum in a sandbox is worth. -/
noncomputable def Try.pinned : Pinned := { name := "ytgcjhdcplmfjbaa", sum := "034e93c6cbe533f842aacd6e3c8fcfebdd7389ef1682d16882795fe0b1224d4a", checked := Try.checked }
namespace Rows
def none {H : Type} : Left H := { results := [], args := [] }

/-- 'gnomonlaw03.PairDoes': WHATEVER THE INPUT: true; the input reads as it did. -/
def pairDoesSpec : ChangeSpec := { name := "pairDoes", fn := fun _ => fun
  | [d1, d2, d3] => { results := [.lit (.bool true)], args := [d1, d2, d3] }
  | _ => none }
def pairDoesRow : OpenClaim := { program := "ytgcjhdcplmfjbaa", sum := "034e93c6cbe533f842aacd6e3c8fcfebdd7389ef1682d16882795fe0b1224d4a", func := "gnomon/gnomonlaw03.PairDoes", spec := "pairDoes", inPlace := ["math.Float64frombits", "math.Float64bits"], apart := false }
def PairDoesSaid : Prop := pairDoesRow.holds Try.pinned (OpenSpec.ofChange pairDoesSpec)

/-- ITS FALSE NEIGHBOUR: 'it returns false'. Refute it at one input. -/
def pairDoesWrong : ChangeSpec := { name := "pairDoes", fn := fun _ => fun
  | [d1, d2, d3] => { results := [.lit (.bool false)], args := [d1, d2, d3] }
  | _ => none }
def PairDoesWrongFalsely : Prop := pairDoesRow.holds Try.pinned (OpenSpec.ofChange pairDoesWrong)

/-- 'gnomonlaw03.PairBounds': WHATEVER THE INPUT: true; the input reads as it did. -/
def pairBoundsSpec : ChangeSpec := { name := "pairBounds", fn := fun _ => fun
  | [d] => { results := [.lit (.bool true)], args := [d] }
  | _ => none }
def pairBoundsRow : OpenClaim := { program := "ytgcjhdcplmfjbaa", sum := "034e93c6cbe533f842aacd6e3c8fcfebdd7389ef1682d16882795fe0b1224d4a", func := "gnomon/gnomonlaw03.PairBounds", spec := "pairBounds", inPlace := ["math.Float64bits", "math.Float64frombits"], apart := false }
def PairBoundsSaid : Prop := pairBoundsRow.holds Try.pinned (OpenSpec.ofChange pairBoundsSpec)

/-- ITS FALSE NEIGHBOUR: 'it returns false'. Refute it at one input. -/
def pairBoundsWrong : ChangeSpec := { name := "pairBounds", fn := fun _ => fun
  | [d] => { results := [.lit (.bool false)], args := [d] }
  | _ => none }
def PairBoundsWrongFalsely : Prop := pairBoundsRow.holds Try.pinned (OpenSpec.ofChange pairBoundsWrong)

/-- 'gnomonlaw03.PairFollows': WHATEVER THE INPUT: true; the input reads as it did. -/
def pairFollowsSpec : ChangeSpec := { name := "pairFollows", fn := fun _ => fun
  | [d1, d2, d3] => { results := [.lit (.bool true)], args := [d1, d2, d3] }
  | _ => none }
def pairFollowsRow : OpenClaim := { program := "ytgcjhdcplmfjbaa", sum := "034e93c6cbe533f842aacd6e3c8fcfebdd7389ef1682d16882795fe0b1224d4a", func := "gnomon/gnomonlaw03.PairFollows", spec := "pairFollows", inPlace := ["math.Float64frombits", "math.Float64bits"], apart := false }
def PairFollowsSaid : Prop := pairFollowsRow.holds Try.pinned (OpenSpec.ofChange pairFollowsSpec)

/-- ITS FALSE NEIGHBOUR: 'it returns false'. Refute it at one input. -/
def pairFollowsWrong : ChangeSpec := { name := "pairFollows", fn := fun _ => fun
  | [d1, d2, d3] => { results := [.lit (.bool false)], args := [d1, d2, d3] }
  | _ => none }
def PairFollowsWrongFalsely : Prop := pairFollowsRow.holds Try.pinned (OpenSpec.ofChange pairFollowsWrong)

/-- 'gnomonlaw03.PairKeeps': WHATEVER THE INPUT: true; the input reads as it did. -/
def pairKeepsSpec : ChangeSpec := { name := "pairKeeps", fn := fun _ => fun
  | [d] => { results := [.lit (.bool true)], args := [d] }
  | _ => none }
def pairKeepsRow : OpenClaim := { program := "ytgcjhdcplmfjbaa", sum := "034e93c6cbe533f842aacd6e3c8fcfebdd7389ef1682d16882795fe0b1224d4a", func := "gnomon/gnomonlaw03.PairKeeps", spec := "pairKeeps", inPlace := ["math.Float64frombits", "math.Float64bits"], apart := false }
def PairKeepsSaid : Prop := pairKeepsRow.holds Try.pinned (OpenSpec.ofChange pairKeepsSpec)

/-- ITS FALSE NEIGHBOUR: 'it returns false'. Refute it at one input. -/
def pairKeepsWrong : ChangeSpec := { name := "pairKeeps", fn := fun _ => fun
  | [d] => { results := [.lit (.bool false)], args := [d] }
  | _ => none }
def PairKeepsWrongFalsely : Prop := pairKeepsRow.holds Try.pinned (OpenSpec.ofChange pairKeepsWrong)

/- THE SECOND FORM. 'bulk': how many values and letters a reading holds, each counted each time it is reached (what is shared counts as often as it is met; a slice's spare places count too). A statement '..UptoSaid' is the law's where the arguments, and the package variables that the reading takes, are together of bulk at most 1048576: NARROWER than '..Said'. Prove '..Said' where nothing that the law and all that it calls make is longer than what came in: it says more and counts as full. Else prove '..UptoSaid'. A law counts once. -/
mutual
def uptoBulk {H : Type} : DataW H → Nat
  | .lit (.string bytes) => bytes.length + 1
  | .lit _ => 1
  | .nil => 1
  | .ptr d => uptoBulk d + 1
  | .slice elems spare => uptoBulkAll elems + uptoBulkAll spare + 1
  | .agg parts => uptoBulkAll parts + 1
  | .iface _ d => uptoBulk d + 1
  | .map entries => uptoBulkEntries entries + 1
  | .held _ => 1
def uptoBulkAll {H : Type} : List (DataW H) → Nat
  | [] => 0
  | d :: r => uptoBulk d + uptoBulkAll r
def uptoBulkEntries {H : Type} : List (Lit × DataW H) → Nat
  | [] => 0
  | x :: r => uptoBulkEntry x + uptoBulkEntries r
def uptoBulkEntry {H : Type} : Lit × DataW H → Nat
  | (.string bytes, d) => bytes.length + uptoBulk d + 1
  | (_, d) => uptoBulk d + 1
 end
def uptoSmall : (H : Type) → List (DataW H) → Bool := fun _ ds => decide (uptoBulkAll ds ≤ 1048576)
def OpenSpec.upto (s : _root_.Go.ChangeSpec) : _root_.Go.OpenSpec := { _root_.Go.OpenSpec.ofChange s with cond := some uptoSmall }

/-- 'gnomonlaw03.PairDoes', WHERE WHAT IT READS IS OF BULK AT MOST 1048576: true; the input reads as it did. -/
def pairDoesUptoRow : OpenClaim := { program := "ytgcjhdcplmfjbaa", sum := "034e93c6cbe533f842aacd6e3c8fcfebdd7389ef1682d16882795fe0b1224d4a", func := "gnomon/gnomonlaw03.PairDoes", spec := "pairDoes", inPlace := ["math.Float64frombits", "math.Float64bits"], apart := false, narrowed := true }
def PairDoesUptoSaid : Prop := pairDoesUptoRow.holds Try.pinned (OpenSpec.upto pairDoesSpec)

/-- 'gnomonlaw03.PairBounds', WHERE WHAT IT READS IS OF BULK AT MOST 1048576: true; the input reads as it did. -/
def pairBoundsUptoRow : OpenClaim := { program := "ytgcjhdcplmfjbaa", sum := "034e93c6cbe533f842aacd6e3c8fcfebdd7389ef1682d16882795fe0b1224d4a", func := "gnomon/gnomonlaw03.PairBounds", spec := "pairBounds", inPlace := ["math.Float64bits", "math.Float64frombits"], apart := false, narrowed := true }
def PairBoundsUptoSaid : Prop := pairBoundsUptoRow.holds Try.pinned (OpenSpec.upto pairBoundsSpec)

/-- 'gnomonlaw03.PairFollows', WHERE WHAT IT READS IS OF BULK AT MOST 1048576: true; the input reads as it did. -/
def pairFollowsUptoRow : OpenClaim := { program := "ytgcjhdcplmfjbaa", sum := "034e93c6cbe533f842aacd6e3c8fcfebdd7389ef1682d16882795fe0b1224d4a", func := "gnomon/gnomonlaw03.PairFollows", spec := "pairFollows", inPlace := ["math.Float64frombits", "math.Float64bits"], apart := false, narrowed := true }
def PairFollowsUptoSaid : Prop := pairFollowsUptoRow.holds Try.pinned (OpenSpec.upto pairFollowsSpec)

/-- 'gnomonlaw03.PairKeeps', WHERE WHAT IT READS IS OF BULK AT MOST 1048576: true; the input reads as it did. -/
def pairKeepsUptoRow : OpenClaim := { program := "ytgcjhdcplmfjbaa", sum := "034e93c6cbe533f842aacd6e3c8fcfebdd7389ef1682d16882795fe0b1224d4a", func := "gnomon/gnomonlaw03.PairKeeps", spec := "pairKeeps", inPlace := ["math.Float64frombits", "math.Float64bits"], apart := false, narrowed := true }
def PairKeepsUptoSaid : Prop := pairKeepsUptoRow.holds Try.pinned (OpenSpec.upto pairKeepsSpec)

end Rows
end Go.Proofs.Ytgcjhdcplmfjbaa
