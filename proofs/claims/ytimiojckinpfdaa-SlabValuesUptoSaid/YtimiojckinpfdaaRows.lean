/-
  No cell of these rows narrows 'for every input' (looked for: loops, veiled, ifaces, maps, wideKeys, modest, calm, conditions, laid).
  DERIVED. THE GIVEN ROWS OF THIS SEAT. 4 by the template 'for every input the law returns true; each argument reads behind the call as it read before'; 0 by the template 'total and deterministic' (their statements: YtimiojckinpfdaaTotals.lean).
  GIVEN WITH THE SEED: the statements are not yours to turn. If you find one false, say at which input.
  Laid BY PROGRAM, IN A SANDBOX (cutbox-rows.mjs): the forced cells as the released guide's own fill.sh prints them over the translation 801ba0084bdfcc3e… (all of the seat's roots in one cut). By AI agents, Wed Nov 11 2026. No macro, syntax, notation, axiom, sorry.
-/
import Derived.Test.YtimiojckinpfdaaChecked
import GoSem.Claim
import GoSem.ClaimJoined
import GoSem.ClaimMapViews
import Derived.JoinedTies
import Derived.KernelRfl
namespace Go.Proofs.Ytimiojckinpfdaa
/- THE CELL 'sum', in the pinned program and in every row, IS THE sha256 OF THE DUMP (.gsa) THAT YtimiojckinpfdaaProg.lean LOADS. Nothing in Lean hashes anything: it is a label: what it is worth is what the hold of that sum in a sandbox is worth. -/
noncomputable def Try.pinned : Pinned := { name := "ytimiojckinpfdaa", sum := "801ba0084bdfcc3e1b3daea3ce4efc5f124c69e02e361a0f635c4be1e8e25edb", checked := Try.checked }
namespace Rows
def none {H : Type} : Left H := { results := [], args := [] }

/-- 'gnomonlaw11.SlabCells': WHATEVER THE INPUT: true; the input reads as it did. -/
def slabCellsSpec : ChangeSpec := { name := "slabCells", fn := fun _ => fun
  | [d1, d2, d3] => { results := [.lit (.bool true)], args := [d1, d2, d3] }
  | _ => none }
def slabCellsRow : OpenClaim := { program := "ytimiojckinpfdaa", sum := "801ba0084bdfcc3e1b3daea3ce4efc5f124c69e02e361a0f635c4be1e8e25edb", func := "gnomon/gnomonlaw11.SlabCells", spec := "slabCells", inPlace := ["sync/atomic.StoreInt64", "sync/atomic.AddInt64", "sync/atomic.SwapInt64", "math/bits.Add64", "math.Float64bits", "math.Float64frombits"], unfollowed := true, recurses := true, leaving := true, apart := false }
def SlabCellsSaid : Prop := slabCellsRow.holds Try.pinned (OpenSpec.ofChange slabCellsSpec)

/-- ITS FALSE NEIGHBOUR: 'it returns false'. Refute it at one input. -/
def slabCellsWrong : ChangeSpec := { name := "slabCells", fn := fun _ => fun
  | [d1, d2, d3] => { results := [.lit (.bool false)], args := [d1, d2, d3] }
  | _ => none }
def SlabCellsWrongFalsely : Prop := slabCellsRow.holds Try.pinned (OpenSpec.ofChange slabCellsWrong)

/-- 'gnomonlaw11.SlabMerges': WHATEVER THE INPUT: true; the input reads as it did. -/
def slabMergesSpec : ChangeSpec := { name := "slabMerges", fn := fun _ => fun
  | [d1, d2] => { results := [.lit (.bool true)], args := [d1, d2] }
  | _ => none }
def slabMergesRow : OpenClaim := { program := "ytimiojckinpfdaa", sum := "801ba0084bdfcc3e1b3daea3ce4efc5f124c69e02e361a0f635c4be1e8e25edb", func := "gnomon/gnomonlaw11.SlabMerges", spec := "slabMerges", inPlace := ["sync/atomic.StoreInt64", "sync/atomic.AddInt64", "sync/atomic.SwapInt64", "math/bits.Add64", "math.Float64bits", "math.Float64frombits"], unfollowed := true, recurses := true, leaving := true, apart := false }
def SlabMergesSaid : Prop := slabMergesRow.holds Try.pinned (OpenSpec.ofChange slabMergesSpec)

/-- ITS FALSE NEIGHBOUR: 'it returns false'. Refute it at one input. -/
def slabMergesWrong : ChangeSpec := { name := "slabMerges", fn := fun _ => fun
  | [d1, d2] => { results := [.lit (.bool false)], args := [d1, d2] }
  | _ => none }
def SlabMergesWrongFalsely : Prop := slabMergesRow.holds Try.pinned (OpenSpec.ofChange slabMergesWrong)

/-- 'gnomonlaw11.SlabValues': WHATEVER THE INPUT: true; the input reads as it did. -/
def slabValuesSpec : ChangeSpec := { name := "slabValues", fn := fun _ => fun
  | [d1, d2] => { results := [.lit (.bool true)], args := [d1, d2] }
  | _ => none }
def slabValuesRow : OpenClaim := { program := "ytimiojckinpfdaa", sum := "801ba0084bdfcc3e1b3daea3ce4efc5f124c69e02e361a0f635c4be1e8e25edb", func := "gnomon/gnomonlaw11.SlabValues", spec := "slabValues", inPlace := ["sync/atomic.StoreInt64", "sync/atomic.AddInt64", "sync/atomic.SwapInt64", "math/bits.Add64", "math.Float64bits", "math.Float64frombits"], unfollowed := true, recurses := true, leaving := true, apart := false }
def SlabValuesSaid : Prop := slabValuesRow.holds Try.pinned (OpenSpec.ofChange slabValuesSpec)

/-- ITS FALSE NEIGHBOUR: 'it returns false'. Refute it at one input. -/
def slabValuesWrong : ChangeSpec := { name := "slabValues", fn := fun _ => fun
  | [d1, d2] => { results := [.lit (.bool false)], args := [d1, d2] }
  | _ => none }
def SlabValuesWrongFalsely : Prop := slabValuesRow.holds Try.pinned (OpenSpec.ofChange slabValuesWrong)

/-- 'gnomonlaw14.RecorderTurns': WHATEVER THE INPUT: true; the input reads as it did. -/
def recorderTurnsSpec : ChangeSpec := { name := "recorderTurns", fn := fun _ => fun
  | [d] => { results := [.lit (.bool true)], args := [d] }
  | _ => none }
def recorderTurnsRow : OpenClaim := { program := "ytimiojckinpfdaa", sum := "801ba0084bdfcc3e1b3daea3ce4efc5f124c69e02e361a0f635c4be1e8e25edb", func := "gnomon/gnomonlaw14.RecorderTurns", spec := "recorderTurns", inPlace := ["sync/atomic.StoreInt64", "sync/atomic.AddInt64", "sync/atomic.LoadInt64", "sync/atomic.SwapInt64", "math/bits.Add64", "math.Float64bits", "math.Float64frombits"], unfollowed := true, recurses := true, leaving := true, apart := false }
def RecorderTurnsSaid : Prop := recorderTurnsRow.holds Try.pinned (OpenSpec.ofChange recorderTurnsSpec)

/-- ITS FALSE NEIGHBOUR: 'it returns false'. Refute it at one input. -/
def recorderTurnsWrong : ChangeSpec := { name := "recorderTurns", fn := fun _ => fun
  | [d] => { results := [.lit (.bool false)], args := [d] }
  | _ => none }
def RecorderTurnsWrongFalsely : Prop := recorderTurnsRow.holds Try.pinned (OpenSpec.ofChange recorderTurnsWrong)

/- THE SECOND FORM. 'bulk': how many values and letters a reading holds, each counted each time it is reached (what is shared counts as often as it is met; a slice's spare places count too). A statement '..UptoSaid' is the law's where the arguments, and the package variables that the reading takes, are together of bulk at most 1048576: NARROWER than '..Said'. Prove '..Said' where nothing that the law and all that it calls make is longer than what came in: it says more and counts as full. Else prove '..UptoSaid'. A law counts once. -/
mutual
def uptoBulk {H : Type} : DataW H → Nat
  | .lit (.string bytes) => bytes.length + 1
  | .lit _ => 1
  | .nil => 1
  | .ptr d => uptoBulk d + 1
  | .slice elems spare => uptoBulkAll elems + uptoBulkAll spare + 1
  | .agg parts => uptoBulkAll parts + 1
  | .iface _ d => uptoBulk d + 1
  | .map entries => uptoBulkEntries entries + 1
  | .held _ => 1
def uptoBulkAll {H : Type} : List (DataW H) → Nat
  | [] => 0
  | d :: r => uptoBulk d + uptoBulkAll r
def uptoBulkEntries {H : Type} : List (Lit × DataW H) → Nat
  | [] => 0
  | x :: r => uptoBulkEntry x + uptoBulkEntries r
def uptoBulkEntry {H : Type} : Lit × DataW H → Nat
  | (.string bytes, d) => bytes.length + uptoBulk d + 1
  | (_, d) => uptoBulk d + 1
 end
def uptoSmall : (H : Type) → List (DataW H) → Bool := fun _ ds => decide (uptoBulkAll ds ≤ 1048576)
def OpenSpec.upto (s : _root_.Go.ChangeSpec) : _root_.Go.OpenSpec := { _root_.Go.OpenSpec.ofChange s with cond := some uptoSmall }

/-- 'gnomonlaw11.SlabCells', WHERE WHAT IT READS IS OF BULK AT MOST 1048576: true; the input reads as it did. -/
def slabCellsUptoRow : OpenClaim := { program := "ytimiojckinpfdaa", sum := "801ba0084bdfcc3e1b3daea3ce4efc5f124c69e02e361a0f635c4be1e8e25edb", func := "gnomon/gnomonlaw11.SlabCells", spec := "slabCells", inPlace := ["sync/atomic.StoreInt64", "sync/atomic.AddInt64", "sync/atomic.SwapInt64", "math/bits.Add64", "math.Float64bits", "math.Float64frombits"], unfollowed := true, recurses := true, leaving := true, apart := false, narrowed := true }
def SlabCellsUptoSaid : Prop := slabCellsUptoRow.holds Try.pinned (OpenSpec.upto slabCellsSpec)

/-- 'gnomonlaw11.SlabMerges', WHERE WHAT IT READS IS OF BULK AT MOST 1048576: true; the input reads as it did. -/
def slabMergesUptoRow : OpenClaim := { program := "ytimiojckinpfdaa", sum := "801ba0084bdfcc3e1b3daea3ce4efc5f124c69e02e361a0f635c4be1e8e25edb", func := "gnomon/gnomonlaw11.SlabMerges", spec := "slabMerges", inPlace := ["sync/atomic.StoreInt64", "sync/atomic.AddInt64", "sync/atomic.SwapInt64", "math/bits.Add64", "math.Float64bits", "math.Float64frombits"], unfollowed := true, recurses := true, leaving := true, apart := false, narrowed := true }
def SlabMergesUptoSaid : Prop := slabMergesUptoRow.holds Try.pinned (OpenSpec.upto slabMergesSpec)

/-- 'gnomonlaw11.SlabValues', WHERE WHAT IT READS IS OF BULK AT MOST 1048576: true; the input reads as it did. -/
def slabValuesUptoRow : OpenClaim := { program := "ytimiojckinpfdaa", sum := "801ba0084bdfcc3e1b3daea3ce4efc5f124c69e02e361a0f635c4be1e8e25edb", func := "gnomon/gnomonlaw11.SlabValues", spec := "slabValues", inPlace := ["sync/atomic.StoreInt64", "sync/atomic.AddInt64", "sync/atomic.SwapInt64", "math/bits.Add64", "math.Float64bits", "math.Float64frombits"], unfollowed := true, recurses := true, leaving := true, apart := false, narrowed := true }
def SlabValuesUptoSaid : Prop := slabValuesUptoRow.holds Try.pinned (OpenSpec.upto slabValuesSpec)

/-- 'gnomonlaw14.RecorderTurns', WHERE WHAT IT READS IS OF BULK AT MOST 1048576: true; the input reads as it did. -/
def recorderTurnsUptoRow : OpenClaim := { program := "ytimiojckinpfdaa", sum := "801ba0084bdfcc3e1b3daea3ce4efc5f124c69e02e361a0f635c4be1e8e25edb", func := "gnomon/gnomonlaw14.RecorderTurns", spec := "recorderTurns", inPlace := ["sync/atomic.StoreInt64", "sync/atomic.AddInt64", "sync/atomic.LoadInt64", "sync/atomic.SwapInt64", "math/bits.Add64", "math.Float64bits", "math.Float64frombits"], unfollowed := true, recurses := true, leaving := true, apart := false, narrowed := true }
def RecorderTurnsUptoSaid : Prop := recorderTurnsUptoRow.holds Try.pinned (OpenSpec.upto recorderTurnsSpec)

end Rows
end Go.Proofs.Ytimiojckinpfdaa
