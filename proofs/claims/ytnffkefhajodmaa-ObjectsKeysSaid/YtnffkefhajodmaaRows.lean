/-
  No cell of these rows narrows 'for every input' (looked for: loops, veiled, ifaces, maps, wideKeys, modest, calm, conditions, laid).
  DERIVED. THE GIVEN ROWS OF THIS SEAT. 7 by the template 'for every input the law returns true; each argument reads behind the call as it read before'; 0 by the template 'total and deterministic' (their statements: YtnffkefhajodmaaTotals.lean).
  GIVEN WITH THE SEED: the statements are not yours to turn. If you find one false, say at which input.
  Laid BY PROGRAM, IN A SANDBOX (cutbox-rows.mjs): the forced cells as the released guide's own fill.sh prints them over the translation 87f10d6123ce270c… (all of the seat's roots in one cut). By AI agents, Wed Nov 11 2026. No macro, syntax, notation, axiom, sorry.
-/
import Derived.Test.YtnffkefhajodmaaChecked
import GoSem.Claim
import GoSem.ClaimJoined
import GoSem.ClaimMapViews
import Derived.JoinedTies
import Derived.KernelRfl
namespace Go.Proofs.Ytnffkefhajodmaa
/- THE CELL 'sum', in the pinned program and in every row, IS THE sha256 OF THE DUMP (.gsa) THAT YtnffkefhajodmaaProg.lean LOADS. Nothing in Lean hashes anything: it is a label: what it is worth is what the hold of that sum in a sandbox is worth. -/
noncomputable def Try.pinned : Pinned := { name := "ytnffkefhajodmaa", sum := "87f10d6123ce270c48dedd060635f336103c24953a6b7fb11d36c94d73d9ad7c", checked := Try.checked }
namespace Rows
def none {H : Type} : Left H := { results := [], args := [] }

/-- 'rotuletlaw22.ObjectsCounts': WHATEVER THE INPUT: true; the input reads as it did. -/
def objectsCountsSpec : ChangeSpec := { name := "objectsCounts", fn := fun _ => fun
  | [d] => { results := [.lit (.bool true)], args := [d] }
  | _ => none }
def objectsCountsRow : OpenClaim := { program := "ytnffkefhajodmaa", sum := "87f10d6123ce270c48dedd060635f336103c24953a6b7fb11d36c94d73d9ad7c", func := "rotulet/rotuletlaw22.ObjectsCounts", spec := "objectsCounts", unfollowed := true, recurses := true, apart := false }
def ObjectsCountsSaid : Prop := objectsCountsRow.holds Try.pinned (OpenSpec.ofChange objectsCountsSpec)

/-- ITS FALSE NEIGHBOUR: 'it returns false'. Refute it at one input. -/
def objectsCountsWrong : ChangeSpec := { name := "objectsCounts", fn := fun _ => fun
  | [d] => { results := [.lit (.bool false)], args := [d] }
  | _ => none }
def ObjectsCountsWrongFalsely : Prop := objectsCountsRow.holds Try.pinned (OpenSpec.ofChange objectsCountsWrong)

/-- 'rotuletlaw22.ObjectsQueue': WHATEVER THE INPUT: true; the input reads as it did. -/
def objectsQueueSpec : ChangeSpec := { name := "objectsQueue", fn := fun _ => fun
  | [d] => { results := [.lit (.bool true)], args := [d] }
  | _ => none }
def objectsQueueRow : OpenClaim := { program := "ytnffkefhajodmaa", sum := "87f10d6123ce270c48dedd060635f336103c24953a6b7fb11d36c94d73d9ad7c", func := "rotulet/rotuletlaw22.ObjectsQueue", spec := "objectsQueue", unfollowed := true, recurses := true, apart := false }
def ObjectsQueueSaid : Prop := objectsQueueRow.holds Try.pinned (OpenSpec.ofChange objectsQueueSpec)

/-- ITS FALSE NEIGHBOUR: 'it returns false'. Refute it at one input. -/
def objectsQueueWrong : ChangeSpec := { name := "objectsQueue", fn := fun _ => fun
  | [d] => { results := [.lit (.bool false)], args := [d] }
  | _ => none }
def ObjectsQueueWrongFalsely : Prop := objectsQueueRow.holds Try.pinned (OpenSpec.ofChange objectsQueueWrong)

/-- 'rotuletlaw22.ObjectsKeys': WHATEVER THE INPUT: true; the input reads as it did. -/
def objectsKeysSpec : ChangeSpec := { name := "objectsKeys", fn := fun _ => fun
  | [d1, d2] => { results := [.lit (.bool true)], args := [d1, d2] }
  | _ => none }
def objectsKeysRow : OpenClaim := { program := "ytnffkefhajodmaa", sum := "87f10d6123ce270c48dedd060635f336103c24953a6b7fb11d36c94d73d9ad7c", func := "rotulet/rotuletlaw22.ObjectsKeys", spec := "objectsKeys", unfollowed := true, recurses := true, apart := false }
def ObjectsKeysSaid : Prop := objectsKeysRow.holds Try.pinned (OpenSpec.ofChange objectsKeysSpec)

/-- ITS FALSE NEIGHBOUR: 'it returns false'. Refute it at one input. -/
def objectsKeysWrong : ChangeSpec := { name := "objectsKeys", fn := fun _ => fun
  | [d1, d2] => { results := [.lit (.bool false)], args := [d1, d2] }
  | _ => none }
def ObjectsKeysWrongFalsely : Prop := objectsKeysRow.holds Try.pinned (OpenSpec.ofChange objectsKeysWrong)

/-- 'rotuletlaw22.ObjectsPlays': WHATEVER THE INPUT: true; the input reads as it did. -/
def objectsPlaysSpec : ChangeSpec := { name := "objectsPlays", fn := fun _ => fun
  | [d] => { results := [.lit (.bool true)], args := [d] }
  | _ => none }
def objectsPlaysRow : OpenClaim := { program := "ytnffkefhajodmaa", sum := "87f10d6123ce270c48dedd060635f336103c24953a6b7fb11d36c94d73d9ad7c", func := "rotulet/rotuletlaw22.ObjectsPlays", spec := "objectsPlays", inPlace := ["maps.clone"], unfollowed := true, recurses := true, apart := false }
def ObjectsPlaysSaid : Prop := objectsPlaysRow.holds Try.pinned (OpenSpec.ofChange objectsPlaysSpec)

/-- ITS FALSE NEIGHBOUR: 'it returns false'. Refute it at one input. -/
def objectsPlaysWrong : ChangeSpec := { name := "objectsPlays", fn := fun _ => fun
  | [d] => { results := [.lit (.bool false)], args := [d] }
  | _ => none }
def ObjectsPlaysWrongFalsely : Prop := objectsPlaysRow.holds Try.pinned (OpenSpec.ofChange objectsPlaysWrong)

/-- 'rotuletlaw22.ObjectsNil': WHATEVER THE INPUT: true; the input reads as it did. -/
def objectsNilSpec : ChangeSpec := { name := "objectsNil", fn := fun _ => fun
  | [d] => { results := [.lit (.bool true)], args := [d] }
  | _ => none }
def objectsNilRow : OpenClaim := { program := "ytnffkefhajodmaa", sum := "87f10d6123ce270c48dedd060635f336103c24953a6b7fb11d36c94d73d9ad7c", func := "rotulet/rotuletlaw22.ObjectsNil", spec := "objectsNil", inPlace := ["maps.clone"], unfollowed := true, recurses := true, apart := false }
def ObjectsNilSaid : Prop := objectsNilRow.holds Try.pinned (OpenSpec.ofChange objectsNilSpec)

/-- ITS FALSE NEIGHBOUR: 'it returns false'. Refute it at one input. -/
def objectsNilWrong : ChangeSpec := { name := "objectsNil", fn := fun _ => fun
  | [d] => { results := [.lit (.bool false)], args := [d] }
  | _ => none }
def ObjectsNilWrongFalsely : Prop := objectsNilRow.holds Try.pinned (OpenSpec.ofChange objectsNilWrong)

/-- 'rotuletlaw22.ObjectsBack': WHATEVER THE INPUT: true; the input reads as it did. -/
def objectsBackSpec : ChangeSpec := { name := "objectsBack", fn := fun _ => fun
  | [d1, d2, d3] => { results := [.lit (.bool true)], args := [d1, d2, d3] }
  | _ => none }
def objectsBackRow : OpenClaim := { program := "ytnffkefhajodmaa", sum := "87f10d6123ce270c48dedd060635f336103c24953a6b7fb11d36c94d73d9ad7c", func := "rotulet/rotuletlaw22.ObjectsBack", spec := "objectsBack", unfollowed := true, recurses := true, apart := false }
def ObjectsBackSaid : Prop := objectsBackRow.holds Try.pinned (OpenSpec.ofChange objectsBackSpec)

/-- ITS FALSE NEIGHBOUR: 'it returns false'. Refute it at one input. -/
def objectsBackWrong : ChangeSpec := { name := "objectsBack", fn := fun _ => fun
  | [d1, d2, d3] => { results := [.lit (.bool false)], args := [d1, d2, d3] }
  | _ => none }
def ObjectsBackWrongFalsely : Prop := objectsBackRow.holds Try.pinned (OpenSpec.ofChange objectsBackWrong)

/-- 'rotuletlaw22.ObjectsEncodes': WHATEVER THE INPUT: true; the input reads as it did. -/
def objectsEncodesSpec : ChangeSpec := { name := "objectsEncodes", fn := fun _ => fun
  | [d1, d2, d3] => { results := [.lit (.bool true)], args := [d1, d2, d3] }
  | _ => none }
def objectsEncodesRow : OpenClaim := { program := "ytnffkefhajodmaa", sum := "87f10d6123ce270c48dedd060635f336103c24953a6b7fb11d36c94d73d9ad7c", func := "rotulet/rotuletlaw22.ObjectsEncodes", spec := "objectsEncodes", unfollowed := true, recurses := true, apart := false }
def ObjectsEncodesSaid : Prop := objectsEncodesRow.holds Try.pinned (OpenSpec.ofChange objectsEncodesSpec)

/-- ITS FALSE NEIGHBOUR: 'it returns false'. Refute it at one input. -/
def objectsEncodesWrong : ChangeSpec := { name := "objectsEncodes", fn := fun _ => fun
  | [d1, d2, d3] => { results := [.lit (.bool false)], args := [d1, d2, d3] }
  | _ => none }
def ObjectsEncodesWrongFalsely : Prop := objectsEncodesRow.holds Try.pinned (OpenSpec.ofChange objectsEncodesWrong)

/- THE SECOND FORM. 'bulk': how many values and letters a reading holds, each counted each time it is reached (what is shared counts as often as it is met; a slice's spare places count too). A statement '..UptoSaid' is the law's where the arguments, and the package variables that the reading takes, are together of bulk at most 1048576: NARROWER than '..Said'. Prove '..Said' where nothing that the law and all that it calls make is longer than what came in: it says more and counts as full. Else prove '..UptoSaid'. A law counts once. -/
mutual
def uptoBulk {H : Type} : DataW H → Nat
  | .lit (.string bytes) => bytes.length + 1
  | .lit _ => 1
  | .nil => 1
  | .ptr d => uptoBulk d + 1
  | .slice elems spare => uptoBulkAll elems + uptoBulkAll spare + 1
  | .agg parts => uptoBulkAll parts + 1
  | .iface _ d => uptoBulk d + 1
  | .map entries => uptoBulkEntries entries + 1
  | .held _ => 1
def uptoBulkAll {H : Type} : List (DataW H) → Nat
  | [] => 0
  | d :: r => uptoBulk d + uptoBulkAll r
def uptoBulkEntries {H : Type} : List (Lit × DataW H) → Nat
  | [] => 0
  | x :: r => uptoBulkEntry x + uptoBulkEntries r
def uptoBulkEntry {H : Type} : Lit × DataW H → Nat
  | (.string bytes, d) => bytes.length + uptoBulk d + 1
  | (_, d) => uptoBulk d + 1
 end
def uptoSmall : (H : Type) → List (DataW H) → Bool := fun _ ds => decide (uptoBulkAll ds ≤ 1048576)
def OpenSpec.upto (s : _root_.Go.ChangeSpec) : _root_.Go.OpenSpec := { _root_.Go.OpenSpec.ofChange s with cond := some uptoSmall }

/-- 'rotuletlaw22.ObjectsCounts', WHERE WHAT IT READS IS OF BULK AT MOST 1048576: true; the input reads as it did. -/
def objectsCountsUptoRow : OpenClaim := { program := "ytnffkefhajodmaa", sum := "87f10d6123ce270c48dedd060635f336103c24953a6b7fb11d36c94d73d9ad7c", func := "rotulet/rotuletlaw22.ObjectsCounts", spec := "objectsCounts", unfollowed := true, recurses := true, apart := false, narrowed := true }
def ObjectsCountsUptoSaid : Prop := objectsCountsUptoRow.holds Try.pinned (OpenSpec.upto objectsCountsSpec)

/-- 'rotuletlaw22.ObjectsQueue', WHERE WHAT IT READS IS OF BULK AT MOST 1048576: true; the input reads as it did. -/
def objectsQueueUptoRow : OpenClaim := { program := "ytnffkefhajodmaa", sum := "87f10d6123ce270c48dedd060635f336103c24953a6b7fb11d36c94d73d9ad7c", func := "rotulet/rotuletlaw22.ObjectsQueue", spec := "objectsQueue", unfollowed := true, recurses := true, apart := false, narrowed := true }
def ObjectsQueueUptoSaid : Prop := objectsQueueUptoRow.holds Try.pinned (OpenSpec.upto objectsQueueSpec)

/-- 'rotuletlaw22.ObjectsKeys', WHERE WHAT IT READS IS OF BULK AT MOST 1048576: true; the input reads as it did. -/
def objectsKeysUptoRow : OpenClaim := { program := "ytnffkefhajodmaa", sum := "87f10d6123ce270c48dedd060635f336103c24953a6b7fb11d36c94d73d9ad7c", func := "rotulet/rotuletlaw22.ObjectsKeys", spec := "objectsKeys", unfollowed := true, recurses := true, apart := false, narrowed := true }
def ObjectsKeysUptoSaid : Prop := objectsKeysUptoRow.holds Try.pinned (OpenSpec.upto objectsKeysSpec)

/-- 'rotuletlaw22.ObjectsPlays', WHERE WHAT IT READS IS OF BULK AT MOST 1048576: true; the input reads as it did. -/
def objectsPlaysUptoRow : OpenClaim := { program := "ytnffkefhajodmaa", sum := "87f10d6123ce270c48dedd060635f336103c24953a6b7fb11d36c94d73d9ad7c", func := "rotulet/rotuletlaw22.ObjectsPlays", spec := "objectsPlays", inPlace := ["maps.clone"], unfollowed := true, recurses := true, apart := false, narrowed := true }
def ObjectsPlaysUptoSaid : Prop := objectsPlaysUptoRow.holds Try.pinned (OpenSpec.upto objectsPlaysSpec)

/-- 'rotuletlaw22.ObjectsNil', WHERE WHAT IT READS IS OF BULK AT MOST 1048576: true; the input reads as it did. -/
def objectsNilUptoRow : OpenClaim := { program := "ytnffkefhajodmaa", sum := "87f10d6123ce270c48dedd060635f336103c24953a6b7fb11d36c94d73d9ad7c", func := "rotulet/rotuletlaw22.ObjectsNil", spec := "objectsNil", inPlace := ["maps.clone"], unfollowed := true, recurses := true, apart := false, narrowed := true }
def ObjectsNilUptoSaid : Prop := objectsNilUptoRow.holds Try.pinned (OpenSpec.upto objectsNilSpec)

/-- 'rotuletlaw22.ObjectsBack', WHERE WHAT IT READS IS OF BULK AT MOST 1048576: true; the input reads as it did. -/
def objectsBackUptoRow : OpenClaim := { program := "ytnffkefhajodmaa", sum := "87f10d6123ce270c48dedd060635f336103c24953a6b7fb11d36c94d73d9ad7c", func := "rotulet/rotuletlaw22.ObjectsBack", spec := "objectsBack", unfollowed := true, recurses := true, apart := false, narrowed := true }
def ObjectsBackUptoSaid : Prop := objectsBackUptoRow.holds Try.pinned (OpenSpec.upto objectsBackSpec)

/-- 'rotuletlaw22.ObjectsEncodes', WHERE WHAT IT READS IS OF BULK AT MOST 1048576: true; the input reads as it did. -/
def objectsEncodesUptoRow : OpenClaim := { program := "ytnffkefhajodmaa", sum := "87f10d6123ce270c48dedd060635f336103c24953a6b7fb11d36c94d73d9ad7c", func := "rotulet/rotuletlaw22.ObjectsEncodes", spec := "objectsEncodes", unfollowed := true, recurses := true, apart := false, narrowed := true }
def ObjectsEncodesUptoSaid : Prop := objectsEncodesUptoRow.holds Try.pinned (OpenSpec.upto objectsEncodesSpec)

end Rows
end Go.Proofs.Ytnffkefhajodmaa
