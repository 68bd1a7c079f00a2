/-
  No cell of these rows narrows 'for every input' (looked for: loops, veiled, ifaces, maps, wideKeys, modest, calm, conditions, laid).
  DERIVED. THE GIVEN ROWS OF THIS SEAT. 6 by the template 'for every input the law returns true; each argument reads behind the call as it read before'; 0 by the template 'total and deterministic' (their statements: YtndlhmnablefpaaTotals.lean).
  GIVEN WITH THE SEED: the statements are not yours to turn. If you find one false, say at which input.
  Laid BY PROGRAM, IN A SANDBOX (cutbox-rows.mjs): the forced cells as the released guide's own fill.sh prints them over the translation f026be28bd5adbe0… (all of the seat's roots in one cut). By AI agents, Wed Nov 11 2026. No macro, syntax, notation, axiom, sorry.
-/
import Derived.Test.YtndlhmnablefpaaChecked
import GoSem.Claim
import GoSem.ClaimJoined
import GoSem.ClaimMapViews
import Derived.JoinedTies
import Derived.KernelRfl
namespace Go.Proofs.Ytndlhmnablefpaa
/- THE CELL 'sum', in the pinned program and in every row, IS THE sha256 OF THE DUMP (.gsa) THAT YtndlhmnablefpaaProg.lean LOADS. Nothing in Lean hashes anything: it is a label: what it is worth is what the hold of that sum in a sandbox is worth. -/
noncomputable def Try.pinned : Pinned := { name := "ytndlhmnablefpaa", sum := "f026be28bd5adbe08ce9f0d9bf5832f9dfcf83f546808e491b6946fc6fce78c5", checked := Try.checked }
namespace Rows
def none {H : Type} : Left H := { results := [], args := [] }

/-- 'bitemporallaw41.CompactionChoose': WHATEVER THE INPUT: true; the input reads as it did. -/
def compactionChooseSpec : ChangeSpec := { name := "compactionChoose", fn := fun _ => fun
  | [d] => { results := [.lit (.bool true)], args := [d] }
  | _ => none }
def compactionChooseRow : OpenClaim := { program := "ytndlhmnablefpaa", sum := "f026be28bd5adbe08ce9f0d9bf5832f9dfcf83f546808e491b6946fc6fce78c5", func := "bitemporal/bitemporallaw41.CompactionChoose", spec := "compactionChoose", unfollowed := true, recurses := true, apart := false }
def CompactionChooseSaid : Prop := compactionChooseRow.holds Try.pinned (OpenSpec.ofChange compactionChooseSpec)

/-- ITS FALSE NEIGHBOUR: 'it returns false'. Refute it at one input. -/
def compactionChooseWrong : ChangeSpec := { name := "compactionChoose", fn := fun _ => fun
  | [d] => { results := [.lit (.bool false)], args := [d] }
  | _ => none }
def CompactionChooseWrongFalsely : Prop := compactionChooseRow.holds Try.pinned (OpenSpec.ofChange compactionChooseWrong)

/-- 'bitemporallaw41.CompactionMerge': WHATEVER THE INPUT: true; the input reads as it did. -/
def compactionMergeSpec : ChangeSpec := { name := "compactionMerge", fn := fun _ => fun
  | [d] => { results := [.lit (.bool true)], args := [d] }
  | _ => none }
def compactionMergeRow : OpenClaim := { program := "ytndlhmnablefpaa", sum := "f026be28bd5adbe08ce9f0d9bf5832f9dfcf83f546808e491b6946fc6fce78c5", func := "bitemporal/bitemporallaw41.CompactionMerge", spec := "compactionMerge", unfollowed := true, recurses := true, apart := false }
def CompactionMergeSaid : Prop := compactionMergeRow.holds Try.pinned (OpenSpec.ofChange compactionMergeSpec)

/-- ITS FALSE NEIGHBOUR: 'it returns false'. Refute it at one input. -/
def compactionMergeWrong : ChangeSpec := { name := "compactionMerge", fn := fun _ => fun
  | [d] => { results := [.lit (.bool false)], args := [d] }
  | _ => none }
def CompactionMergeWrongFalsely : Prop := compactionMergeRow.holds Try.pinned (OpenSpec.ofChange compactionMergeWrong)

/-- 'bitemporallaw37.SegmentBuild': WHATEVER THE INPUT: true; the input reads as it did. -/
def segmentBuildSpec : ChangeSpec := { name := "segmentBuild", fn := fun _ => fun
  | [d1, d2, d3] => { results := [.lit (.bool true)], args := [d1, d2, d3] }
  | _ => none }
def segmentBuildRow : OpenClaim := { program := "ytndlhmnablefpaa", sum := "f026be28bd5adbe08ce9f0d9bf5832f9dfcf83f546808e491b6946fc6fce78c5", func := "bitemporal/bitemporallaw37.SegmentBuild", spec := "segmentBuild", unfollowed := true, recurses := true, apart := false }
def SegmentBuildSaid : Prop := segmentBuildRow.holds Try.pinned (OpenSpec.ofChange segmentBuildSpec)

/-- ITS FALSE NEIGHBOUR: 'it returns false'. Refute it at one input. -/
def segmentBuildWrong : ChangeSpec := { name := "segmentBuild", fn := fun _ => fun
  | [d1, d2, d3] => { results := [.lit (.bool false)], args := [d1, d2, d3] }
  | _ => none }
def SegmentBuildWrongFalsely : Prop := segmentBuildRow.holds Try.pinned (OpenSpec.ofChange segmentBuildWrong)

/-- 'bitemporallaw37.SegmentBack': WHATEVER THE INPUT: true; the input reads as it did. -/
def segmentBackSpec : ChangeSpec := { name := "segmentBack", fn := fun _ => fun
  | [d1, d2] => { results := [.lit (.bool true)], args := [d1, d2] }
  | _ => none }
def segmentBackRow : OpenClaim := { program := "ytndlhmnablefpaa", sum := "f026be28bd5adbe08ce9f0d9bf5832f9dfcf83f546808e491b6946fc6fce78c5", func := "bitemporal/bitemporallaw37.SegmentBack", spec := "segmentBack", unfollowed := true, recurses := true, apart := false }
def SegmentBackSaid : Prop := segmentBackRow.holds Try.pinned (OpenSpec.ofChange segmentBackSpec)

/-- ITS FALSE NEIGHBOUR: 'it returns false'. Refute it at one input. -/
def segmentBackWrong : ChangeSpec := { name := "segmentBack", fn := fun _ => fun
  | [d1, d2] => { results := [.lit (.bool false)], args := [d1, d2] }
  | _ => none }
def SegmentBackWrongFalsely : Prop := segmentBackRow.holds Try.pinned (OpenSpec.ofChange segmentBackWrong)

/-- 'bitemporallaw37.SegmentSize': WHATEVER THE INPUT: true; the input reads as it did. -/
def segmentSizeSpec : ChangeSpec := { name := "segmentSize", fn := fun _ => fun
  | [d1, d2, d3] => { results := [.lit (.bool true)], args := [d1, d2, d3] }
  | _ => none }
def segmentSizeRow : OpenClaim := { program := "ytndlhmnablefpaa", sum := "f026be28bd5adbe08ce9f0d9bf5832f9dfcf83f546808e491b6946fc6fce78c5", func := "bitemporal/bitemporallaw37.SegmentSize", spec := "segmentSize", unfollowed := true, recurses := true, apart := false }
def SegmentSizeSaid : Prop := segmentSizeRow.holds Try.pinned (OpenSpec.ofChange segmentSizeSpec)

/-- ITS FALSE NEIGHBOUR: 'it returns false'. Refute it at one input. -/
def segmentSizeWrong : ChangeSpec := { name := "segmentSize", fn := fun _ => fun
  | [d1, d2, d3] => { results := [.lit (.bool false)], args := [d1, d2, d3] }
  | _ => none }
def SegmentSizeWrongFalsely : Prop := segmentSizeRow.holds Try.pinned (OpenSpec.ofChange segmentSizeWrong)

/-- 'bitemporallaw37.SegmentTorn': WHATEVER THE INPUT: true; the input reads as it did. -/
def segmentTornSpec : ChangeSpec := { name := "segmentTorn", fn := fun _ => fun
  | [d1, d2, d3] => { results := [.lit (.bool true)], args := [d1, d2, d3] }
  | _ => none }
def segmentTornRow : OpenClaim := { program := "ytndlhmnablefpaa", sum := "f026be28bd5adbe08ce9f0d9bf5832f9dfcf83f546808e491b6946fc6fce78c5", func := "bitemporal/bitemporallaw37.SegmentTorn", spec := "segmentTorn", unfollowed := true, recurses := true, apart := false }
def SegmentTornSaid : Prop := segmentTornRow.holds Try.pinned (OpenSpec.ofChange segmentTornSpec)

/-- ITS FALSE NEIGHBOUR: 'it returns false'. Refute it at one input. -/
def segmentTornWrong : ChangeSpec := { name := "segmentTorn", fn := fun _ => fun
  | [d1, d2, d3] => { results := [.lit (.bool false)], args := [d1, d2, d3] }
  | _ => none }
def SegmentTornWrongFalsely : Prop := segmentTornRow.holds Try.pinned (OpenSpec.ofChange segmentTornWrong)

/- THE SECOND FORM. 'bulk': how many values and letters a reading holds, each counted each time it is reached (what is shared counts as often as it is met; a slice's spare places count too). A statement '..UptoSaid' is the law's where the arguments, and the package variables that the reading takes, are together of bulk at most 1048576: NARROWER than '..Said'. Prove '..Said' where nothing that the law and all that it calls make is longer than what came in: it says more and counts as full. Else prove '..UptoSaid'. A law counts once. -/
mutual
def uptoBulk {H : Type} : DataW H → Nat
  | .lit (.string bytes) => bytes.length + 1
  | .lit _ => 1
  | .nil => 1
  | .ptr d => uptoBulk d + 1
  | .slice elems spare => uptoBulkAll elems + uptoBulkAll spare + 1
  | .agg parts => uptoBulkAll parts + 1
  | .iface _ d => uptoBulk d + 1
  | .map entries => uptoBulkEntries entries + 1
  | .held _ => 1
def uptoBulkAll {H : Type} : List (DataW H) → Nat
  | [] => 0
  | d :: r => uptoBulk d + uptoBulkAll r
def uptoBulkEntries {H : Type} : List (Lit × DataW H) → Nat
  | [] => 0
  | x :: r => uptoBulkEntry x + uptoBulkEntries r
def uptoBulkEntry {H : Type} : Lit × DataW H → Nat
  | (.string bytes, d) => bytes.length + uptoBulk d + 1
  | (_, d) => uptoBulk d + 1
 end
def uptoSmall : (H : Type) → List (DataW H) → Bool := fun _ ds => decide (uptoBulkAll ds ≤ 1048576)
def OpenSpec.upto (s : _root_.Go.ChangeSpec) : _root_.Go.OpenSpec := { _root_.Go.OpenSpec.ofChange s with cond := some uptoSmall }

/-- 'bitemporallaw41.CompactionChoose', WHERE WHAT IT READS IS OF BULK AT MOST 1048576: true; the input reads as it did. -/
def compactionChooseUptoRow : OpenClaim := { program := "ytndlhmnablefpaa", sum := "f026be28bd5adbe08ce9f0d9bf5832f9dfcf83f546808e491b6946fc6fce78c5", func := "bitemporal/bitemporallaw41.CompactionChoose", spec := "compactionChoose", unfollowed := true, recurses := true, apart := false, narrowed := true }
def CompactionChooseUptoSaid : Prop := compactionChooseUptoRow.holds Try.pinned (OpenSpec.upto compactionChooseSpec)

/-- 'bitemporallaw41.CompactionMerge', WHERE WHAT IT READS IS OF BULK AT MOST 1048576: true; the input reads as it did. -/
def compactionMergeUptoRow : OpenClaim := { program := "ytndlhmnablefpaa", sum := "f026be28bd5adbe08ce9f0d9bf5832f9dfcf83f546808e491b6946fc6fce78c5", func := "bitemporal/bitemporallaw41.CompactionMerge", spec := "compactionMerge", unfollowed := true, recurses := true, apart := false, narrowed := true }
def CompactionMergeUptoSaid : Prop := compactionMergeUptoRow.holds Try.pinned (OpenSpec.upto compactionMergeSpec)

/-- 'bitemporallaw37.SegmentBuild', WHERE WHAT IT READS IS OF BULK AT MOST 1048576: true; the input reads as it did. -/
def segmentBuildUptoRow : OpenClaim := { program := "ytndlhmnablefpaa", sum := "f026be28bd5adbe08ce9f0d9bf5832f9dfcf83f546808e491b6946fc6fce78c5", func := "bitemporal/bitemporallaw37.SegmentBuild", spec := "segmentBuild", unfollowed := true, recurses := true, apart := false, narrowed := true }
def SegmentBuildUptoSaid : Prop := segmentBuildUptoRow.holds Try.pinned (OpenSpec.upto segmentBuildSpec)

/-- 'bitemporallaw37.SegmentBack', WHERE WHAT IT READS IS OF BULK AT MOST 1048576: true; the input reads as it did. -/
def segmentBackUptoRow : OpenClaim := { program := "ytndlhmnablefpaa", sum := "f026be28bd5adbe08ce9f0d9bf5832f9dfcf83f546808e491b6946fc6fce78c5", func := "bitemporal/bitemporallaw37.SegmentBack", spec := "segmentBack", unfollowed := true, recurses := true, apart := false, narrowed := true }
def SegmentBackUptoSaid : Prop := segmentBackUptoRow.holds Try.pinned (OpenSpec.upto segmentBackSpec)

/-- 'bitemporallaw37.SegmentSize', WHERE WHAT IT READS IS OF BULK AT MOST 1048576: true; the input reads as it did. -/
def segmentSizeUptoRow : OpenClaim := { program := "ytndlhmnablefpaa", sum := "f026be28bd5adbe08ce9f0d9bf5832f9dfcf83f546808e491b6946fc6fce78c5", func := "bitemporal/bitemporallaw37.SegmentSize", spec := "segmentSize", unfollowed := true, recurses := true, apart := false, narrowed := true }
def SegmentSizeUptoSaid : Prop := segmentSizeUptoRow.holds Try.pinned (OpenSpec.upto segmentSizeSpec)

/-- 'bitemporallaw37.SegmentTorn', WHERE WHAT IT READS IS OF BULK AT MOST 1048576: true; the input reads as it did. -/
def segmentTornUptoRow : OpenClaim := { program := "ytndlhmnablefpaa", sum := "f026be28bd5adbe08ce9f0d9bf5832f9dfcf83f546808e491b6946fc6fce78c5", func := "bitemporal/bitemporallaw37.SegmentTorn", spec := "segmentTorn", unfollowed := true, recurses := true, apart := false, narrowed := true }
def SegmentTornUptoSaid : Prop := segmentTornUptoRow.holds Try.pinned (OpenSpec.upto segmentTornSpec)

end Rows
end Go.Proofs.Ytndlhmnablefpaa
