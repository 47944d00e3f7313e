/-
  No cell of these rows narrows 'for every input' (looked for: loops, veiled, ifaces, maps, wideKeys, modest, calm, conditions, laid).
  DERIVED. THE GIVEN ROWS OF THIS SEAT. 6 by the template 'for every input the law returns true; each argument reads behind the call as it read before'; 0 by the template 'total and deterministic' (their statements: YtonhhbebpcaaeaaTotals.lean).
  GIVEN WITH THE SEED: the statements are not yours to turn. If you find one false, say at which input.
  Laid BY PROGRAM, IN A SANDBOX (cutbox-rows.mjs): the forced cells as the released guide's own fill.sh prints them over the translation 7ae018d7cfa08c15… (all of the seat's roots in one cut). By AI agents, Wed Nov 11 2026. No macro, syntax, notation, axiom, sorry.
-/
import Derived.Test.YtonhhbebpcaaeaaChecked
import GoSem.Claim
import GoSem.ClaimJoined
import GoSem.ClaimMapViews
import Derived.JoinedTies
import Derived.KernelRfl
namespace Go.Proofs.Ytonhhbebpcaaeaa
/- THE CELL 'sum', in the pinned program and in every row, IS THE sha256 OF THE DUMP (.gsa) THAT YtonhhbebpcaaeaaProg.lean LOADS. Nothing in Lean hashes anything: it is a label: what it is worth is what the hold of that sum in a sandbox is worth. -/
noncomputable def Try.pinned : Pinned := { name := "ytonhhbebpcaaeaa", sum := "7ae018d7cfa08c1513732ad6433efbd99389c0bd7ee960b42dcd828e5e616c0a", checked := Try.checked }
namespace Rows
def none {H : Type} : Left H := { results := [], args := [] }

/-- 'sedimentlaw05.WalReads': WHATEVER THE INPUT: true; the input reads as it did. -/
def walReadsSpec : ChangeSpec := { name := "walReads", fn := fun _ => fun
  | [d1, d2] => { results := [.lit (.bool true)], args := [d1, d2] }
  | _ => none }
def walReadsRow : OpenClaim := { program := "ytonhhbebpcaaeaa", sum := "7ae018d7cfa08c1513732ad6433efbd99389c0bd7ee960b42dcd828e5e616c0a", func := "sediment/sedimentlaw05.WalReads", spec := "walReads", unfollowed := true, recurses := true, apart := false }
def WalReadsSaid : Prop := walReadsRow.holds Try.pinned (OpenSpec.ofChange walReadsSpec)

/-- ITS FALSE NEIGHBOUR: 'it returns false'. Refute it at one input. -/
def walReadsWrong : ChangeSpec := { name := "walReads", fn := fun _ => fun
  | [d1, d2] => { results := [.lit (.bool false)], args := [d1, d2] }
  | _ => none }
def WalReadsWrongFalsely : Prop := walReadsRow.holds Try.pinned (OpenSpec.ofChange walReadsWrong)

/-- 'sedimentlaw03.BatchEncodes': WHATEVER THE INPUT: true; the input reads as it did. -/
def batchEncodesSpec : ChangeSpec := { name := "batchEncodes", fn := fun _ => fun
  | [d1, d2] => { results := [.lit (.bool true)], args := [d1, d2] }
  | _ => none }
def batchEncodesRow : OpenClaim := { program := "ytonhhbebpcaaeaa", sum := "7ae018d7cfa08c1513732ad6433efbd99389c0bd7ee960b42dcd828e5e616c0a", func := "sediment/sedimentlaw03.BatchEncodes", spec := "batchEncodes", unfollowed := true, recurses := true, apart := false }
def BatchEncodesSaid : Prop := batchEncodesRow.holds Try.pinned (OpenSpec.ofChange batchEncodesSpec)

/-- ITS FALSE NEIGHBOUR: 'it returns false'. Refute it at one input. -/
def batchEncodesWrong : ChangeSpec := { name := "batchEncodes", fn := fun _ => fun
  | [d1, d2] => { results := [.lit (.bool false)], args := [d1, d2] }
  | _ => none }
def BatchEncodesWrongFalsely : Prop := batchEncodesRow.holds Try.pinned (OpenSpec.ofChange batchEncodesWrong)

/-- 'sedimentlaw03.BatchDecodes': WHATEVER THE INPUT: true; the input reads as it did. -/
def batchDecodesSpec : ChangeSpec := { name := "batchDecodes", fn := fun _ => fun
  | [d] => { results := [.lit (.bool true)], args := [d] }
  | _ => none }
def batchDecodesRow : OpenClaim := { program := "ytonhhbebpcaaeaa", sum := "7ae018d7cfa08c1513732ad6433efbd99389c0bd7ee960b42dcd828e5e616c0a", func := "sediment/sedimentlaw03.BatchDecodes", spec := "batchDecodes", unfollowed := true, recurses := true, apart := false }
def BatchDecodesSaid : Prop := batchDecodesRow.holds Try.pinned (OpenSpec.ofChange batchDecodesSpec)

/-- ITS FALSE NEIGHBOUR: 'it returns false'. Refute it at one input. -/
def batchDecodesWrong : ChangeSpec := { name := "batchDecodes", fn := fun _ => fun
  | [d] => { results := [.lit (.bool false)], args := [d] }
  | _ => none }
def BatchDecodesWrongFalsely : Prop := batchDecodesRow.holds Try.pinned (OpenSpec.ofChange batchDecodesWrong)

/-- 'sedimentlaw22.SnapsRefs': WHATEVER THE INPUT: true; the input reads as it did. -/
def snapsRefsSpec : ChangeSpec := { name := "snapsRefs", fn := fun _ => fun
  | [d] => { results := [.lit (.bool true)], args := [d] }
  | _ => none }
def snapsRefsRow : OpenClaim := { program := "ytonhhbebpcaaeaa", sum := "7ae018d7cfa08c1513732ad6433efbd99389c0bd7ee960b42dcd828e5e616c0a", func := "sediment/sedimentlaw22.SnapsRefs", spec := "snapsRefs", unfollowed := true, recurses := true, apart := false }
def SnapsRefsSaid : Prop := snapsRefsRow.holds Try.pinned (OpenSpec.ofChange snapsRefsSpec)

/-- ITS FALSE NEIGHBOUR: 'it returns false'. Refute it at one input. -/
def snapsRefsWrong : ChangeSpec := { name := "snapsRefs", fn := fun _ => fun
  | [d] => { results := [.lit (.bool false)], args := [d] }
  | _ => none }
def SnapsRefsWrongFalsely : Prop := snapsRefsRow.holds Try.pinned (OpenSpec.ofChange snapsRefsWrong)

/-- 'sedimentlaw22.SnapsCounted': WHATEVER THE INPUT: true; the input reads as it did. -/
def snapsCountedSpec : ChangeSpec := { name := "snapsCounted", fn := fun _ => fun
  | [d] => { results := [.lit (.bool true)], args := [d] }
  | _ => none }
def snapsCountedRow : OpenClaim := { program := "ytonhhbebpcaaeaa", sum := "7ae018d7cfa08c1513732ad6433efbd99389c0bd7ee960b42dcd828e5e616c0a", func := "sediment/sedimentlaw22.SnapsCounted", spec := "snapsCounted", unfollowed := true, recurses := true, apart := false }
def SnapsCountedSaid : Prop := snapsCountedRow.holds Try.pinned (OpenSpec.ofChange snapsCountedSpec)

/-- ITS FALSE NEIGHBOUR: 'it returns false'. Refute it at one input. -/
def snapsCountedWrong : ChangeSpec := { name := "snapsCounted", fn := fun _ => fun
  | [d] => { results := [.lit (.bool false)], args := [d] }
  | _ => none }
def SnapsCountedWrongFalsely : Prop := snapsCountedRow.holds Try.pinned (OpenSpec.ofChange snapsCountedWrong)

/-- 'sedimentlaw03.BatchActs': WHATEVER THE INPUT: true; the input reads as it did. -/
def batchActsSpec : ChangeSpec := { name := "batchActs", fn := fun _ => fun
  | [d] => { results := [.lit (.bool true)], args := [d] }
  | _ => none }
def batchActsRow : OpenClaim := { program := "ytonhhbebpcaaeaa", sum := "7ae018d7cfa08c1513732ad6433efbd99389c0bd7ee960b42dcd828e5e616c0a", func := "sediment/sedimentlaw03.BatchActs", spec := "batchActs", recurses := true, apart := false }
def BatchActsSaid : Prop := batchActsRow.holds Try.pinned (OpenSpec.ofChange batchActsSpec)

/-- ITS FALSE NEIGHBOUR: 'it returns false'. Refute it at one input. -/
def batchActsWrong : ChangeSpec := { name := "batchActs", fn := fun _ => fun
  | [d] => { results := [.lit (.bool false)], args := [d] }
  | _ => none }
def BatchActsWrongFalsely : Prop := batchActsRow.holds Try.pinned (OpenSpec.ofChange batchActsWrong)

/- THE SECOND FORM. 'bulk': how many values and letters a reading holds, each counted each time it is reached (what is shared counts as often as it is met; a slice's spare places count too). A statement '..UptoSaid' is the law's where the arguments, and the package variables that the reading takes, are together of bulk at most 1048576: NARROWER than '..Said'. Prove '..Said' where nothing that the law and all that it calls make is longer than what came in: it says more and counts as full. Else prove '..UptoSaid'. A law counts once. -/
mutual
def uptoBulk {H : Type} : DataW H → Nat
  | .lit (.string bytes) => bytes.length + 1
  | .lit _ => 1
  | .nil => 1
  | .ptr d => uptoBulk d + 1
  | .slice elems spare => uptoBulkAll elems + uptoBulkAll spare + 1
  | .agg parts => uptoBulkAll parts + 1
  | .iface _ d => uptoBulk d + 1
  | .map entries => uptoBulkEntries entries + 1
  | .held _ => 1
def uptoBulkAll {H : Type} : List (DataW H) → Nat
  | [] => 0
  | d :: r => uptoBulk d + uptoBulkAll r
def uptoBulkEntries {H : Type} : List (Lit × DataW H) → Nat
  | [] => 0
  | x :: r => uptoBulkEntry x + uptoBulkEntries r
def uptoBulkEntry {H : Type} : Lit × DataW H → Nat
  | (.string bytes, d) => bytes.length + uptoBulk d + 1
  | (_, d) => uptoBulk d + 1
 end
def uptoSmall : (H : Type) → List (DataW H) → Bool := fun _ ds => decide (uptoBulkAll ds ≤ 1048576)
def OpenSpec.upto (s : _root_.Go.ChangeSpec) : _root_.Go.OpenSpec := { _root_.Go.OpenSpec.ofChange s with cond := some uptoSmall }

/-- 'sedimentlaw05.WalReads', WHERE WHAT IT READS IS OF BULK AT MOST 1048576: true; the input reads as it did. -/
def walReadsUptoRow : OpenClaim := { program := "ytonhhbebpcaaeaa", sum := "7ae018d7cfa08c1513732ad6433efbd99389c0bd7ee960b42dcd828e5e616c0a", func := "sediment/sedimentlaw05.WalReads", spec := "walReads", unfollowed := true, recurses := true, apart := false, narrowed := true }
def WalReadsUptoSaid : Prop := walReadsUptoRow.holds Try.pinned (OpenSpec.upto walReadsSpec)

/-- 'sedimentlaw03.BatchEncodes', WHERE WHAT IT READS IS OF BULK AT MOST 1048576: true; the input reads as it did. -/
def batchEncodesUptoRow : OpenClaim := { program := "ytonhhbebpcaaeaa", sum := "7ae018d7cfa08c1513732ad6433efbd99389c0bd7ee960b42dcd828e5e616c0a", func := "sediment/sedimentlaw03.BatchEncodes", spec := "batchEncodes", unfollowed := true, recurses := true, apart := false, narrowed := true }
def BatchEncodesUptoSaid : Prop := batchEncodesUptoRow.holds Try.pinned (OpenSpec.upto batchEncodesSpec)

/-- 'sedimentlaw03.BatchDecodes', WHERE WHAT IT READS IS OF BULK AT MOST 1048576: true; the input reads as it did. -/
def batchDecodesUptoRow : OpenClaim := { program := "ytonhhbebpcaaeaa", sum := "7ae018d7cfa08c1513732ad6433efbd99389c0bd7ee960b42dcd828e5e616c0a", func := "sediment/sedimentlaw03.BatchDecodes", spec := "batchDecodes", unfollowed := true, recurses := true, apart := false, narrowed := true }
def BatchDecodesUptoSaid : Prop := batchDecodesUptoRow.holds Try.pinned (OpenSpec.upto batchDecodesSpec)

/-- 'sedimentlaw22.SnapsRefs', WHERE WHAT IT READS IS OF BULK AT MOST 1048576: true; the input reads as it did. -/
def snapsRefsUptoRow : OpenClaim := { program := "ytonhhbebpcaaeaa", sum := "7ae018d7cfa08c1513732ad6433efbd99389c0bd7ee960b42dcd828e5e616c0a", func := "sediment/sedimentlaw22.SnapsRefs", spec := "snapsRefs", unfollowed := true, recurses := true, apart := false, narrowed := true }
def SnapsRefsUptoSaid : Prop := snapsRefsUptoRow.holds Try.pinned (OpenSpec.upto snapsRefsSpec)

/-- 'sedimentlaw22.SnapsCounted', WHERE WHAT IT READS IS OF BULK AT MOST 1048576: true; the input reads as it did. -/
def snapsCountedUptoRow : OpenClaim := { program := "ytonhhbebpcaaeaa", sum := "7ae018d7cfa08c1513732ad6433efbd99389c0bd7ee960b42dcd828e5e616c0a", func := "sediment/sedimentlaw22.SnapsCounted", spec := "snapsCounted", unfollowed := true, recurses := true, apart := false, narrowed := true }
def SnapsCountedUptoSaid : Prop := snapsCountedUptoRow.holds Try.pinned (OpenSpec.upto snapsCountedSpec)

/-- 'sedimentlaw03.BatchActs', WHERE WHAT IT READS IS OF BULK AT MOST 1048576: true; the input reads as it did. -/
def batchActsUptoRow : OpenClaim := { program := "ytonhhbebpcaaeaa", sum := "7ae018d7cfa08c1513732ad6433efbd99389c0bd7ee960b42dcd828e5e616c0a", func := "sediment/sedimentlaw03.BatchActs", spec := "batchActs", recurses := true, apart := false, narrowed := true }
def BatchActsUptoSaid : Prop := batchActsUptoRow.holds Try.pinned (OpenSpec.upto batchActsSpec)

end Rows
end Go.Proofs.Ytonhhbebpcaaeaa
