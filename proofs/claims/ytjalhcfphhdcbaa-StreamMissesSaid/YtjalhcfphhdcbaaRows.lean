/-
  No cell of these rows narrows 'for every input' (looked for: loops, veiled, ifaces, maps, wideKeys, modest, calm, conditions, laid).
  DERIVED. THE GIVEN ROWS OF THIS SEAT. 6 by the template 'for every input the law returns true; each argument reads behind the call as it read before'; 0 by the template 'total and deterministic' (their statements: YtjalhcfphhdcbaaTotals.lean).
  GIVEN WITH THE SEED: the statements are not yours to turn. If you find one false, say at which input.
  Laid BY PROGRAM, IN A SANDBOX (cutbox-rows.mjs): the forced cells as the released guide's own fill.sh prints them over the translation f8b85645a3f3f3f7… (all of the seat's roots in one cut). By AI agents, Wed Nov 11 2026. No macro, syntax, notation, axiom, sorry.
-/
import Derived.Test.YtjalhcfphhdcbaaChecked
import GoSem.Claim
import GoSem.ClaimJoined
import GoSem.ClaimMapViews
import Derived.JoinedTies
import Derived.KernelRfl
namespace Go.Proofs.Ytjalhcfphhdcbaa
/- THE CELL 'sum', in the pinned program and in every row, IS THE sha256 OF THE DUMP (.gsa) THAT YtjalhcfphhdcbaaProg.lean LOADS. Nothing in Lean hashes anything: it is a label: what it is worth is what the hold of that sum in a sandbox is worth. -/
noncomputable def Try.pinned : Pinned := { name := "ytjalhcfphhdcbaa", sum := "f8b85645a3f3f3f70681913114a78a355e8ecb9952da550469a44f72688b671a", checked := Try.checked }
namespace Rows
def none {H : Type} : Left H := { results := [], args := [] }

/-- 'rotuletlaw21.StreamMisses': WHATEVER THE INPUT: true; the input reads as it did. -/
def streamMissesSpec : ChangeSpec := { name := "streamMisses", fn := fun _ => fun
  | [d1, d2, d3] => { results := [.lit (.bool true)], args := [d1, d2, d3] }
  | _ => none }
def streamMissesRow : OpenClaim := { program := "ytjalhcfphhdcbaa", sum := "f8b85645a3f3f3f70681913114a78a355e8ecb9952da550469a44f72688b671a", func := "rotulet/rotuletlaw21.StreamMisses", spec := "streamMisses", unfollowed := true, recurses := true, apart := false }
def StreamMissesSaid : Prop := streamMissesRow.holds Try.pinned (OpenSpec.ofChange streamMissesSpec)

/-- ITS FALSE NEIGHBOUR: 'it returns false'. Refute it at one input. -/
def streamMissesWrong : ChangeSpec := { name := "streamMisses", fn := fun _ => fun
  | [d1, d2, d3] => { results := [.lit (.bool false)], args := [d1, d2, d3] }
  | _ => none }
def StreamMissesWrongFalsely : Prop := streamMissesRow.holds Try.pinned (OpenSpec.ofChange streamMissesWrong)

/-- 'rotuletlaw21.StreamReads': WHATEVER THE INPUT: true; the input reads as it did. -/
def streamReadsSpec : ChangeSpec := { name := "streamReads", fn := fun _ => fun
  | [d1, d2, d3] => { results := [.lit (.bool true)], args := [d1, d2, d3] }
  | _ => none }
def streamReadsRow : OpenClaim := { program := "ytjalhcfphhdcbaa", sum := "f8b85645a3f3f3f70681913114a78a355e8ecb9952da550469a44f72688b671a", func := "rotulet/rotuletlaw21.StreamReads", spec := "streamReads", unfollowed := true, recurses := true, apart := false }
def StreamReadsSaid : Prop := streamReadsRow.holds Try.pinned (OpenSpec.ofChange streamReadsSpec)

/-- ITS FALSE NEIGHBOUR: 'it returns false'. Refute it at one input. -/
def streamReadsWrong : ChangeSpec := { name := "streamReads", fn := fun _ => fun
  | [d1, d2, d3] => { results := [.lit (.bool false)], args := [d1, d2, d3] }
  | _ => none }
def StreamReadsWrongFalsely : Prop := streamReadsRow.holds Try.pinned (OpenSpec.ofChange streamReadsWrong)

/-- 'rotuletlaw21.StreamWalks': WHATEVER THE INPUT: true; the input reads as it did. -/
def streamWalksSpec : ChangeSpec := { name := "streamWalks", fn := fun _ => fun
  | [d1, d2, d3] => { results := [.lit (.bool true)], args := [d1, d2, d3] }
  | _ => none }
def streamWalksRow : OpenClaim := { program := "ytjalhcfphhdcbaa", sum := "f8b85645a3f3f3f70681913114a78a355e8ecb9952da550469a44f72688b671a", func := "rotulet/rotuletlaw21.StreamWalks", spec := "streamWalks", unfollowed := true, recurses := true, apart := false }
def StreamWalksSaid : Prop := streamWalksRow.holds Try.pinned (OpenSpec.ofChange streamWalksSpec)

/-- ITS FALSE NEIGHBOUR: 'it returns false'. Refute it at one input. -/
def streamWalksWrong : ChangeSpec := { name := "streamWalks", fn := fun _ => fun
  | [d1, d2, d3] => { results := [.lit (.bool false)], args := [d1, d2, d3] }
  | _ => none }
def StreamWalksWrongFalsely : Prop := streamWalksRow.holds Try.pinned (OpenSpec.ofChange streamWalksWrong)

/-- 'rotuletlaw21.StreamBuilds': WHATEVER THE INPUT: true; the input reads as it did. -/
def streamBuildsSpec : ChangeSpec := { name := "streamBuilds", fn := fun _ => fun
  | [d1, d2] => { results := [.lit (.bool true)], args := [d1, d2] }
  | _ => none }
def streamBuildsRow : OpenClaim := { program := "ytjalhcfphhdcbaa", sum := "f8b85645a3f3f3f70681913114a78a355e8ecb9952da550469a44f72688b671a", func := "rotulet/rotuletlaw21.StreamBuilds", spec := "streamBuilds", unfollowed := true, recurses := true, apart := false }
def StreamBuildsSaid : Prop := streamBuildsRow.holds Try.pinned (OpenSpec.ofChange streamBuildsSpec)

/-- ITS FALSE NEIGHBOUR: 'it returns false'. Refute it at one input. -/
def streamBuildsWrong : ChangeSpec := { name := "streamBuilds", fn := fun _ => fun
  | [d1, d2] => { results := [.lit (.bool false)], args := [d1, d2] }
  | _ => none }
def StreamBuildsWrongFalsely : Prop := streamBuildsRow.holds Try.pinned (OpenSpec.ofChange streamBuildsWrong)

/-- 'rotuletlaw21.StreamMerges': WHATEVER THE INPUT: true; the input reads as it did. -/
def streamMergesSpec : ChangeSpec := { name := "streamMerges", fn := fun _ => fun
  | [d] => { results := [.lit (.bool true)], args := [d] }
  | _ => none }
def streamMergesRow : OpenClaim := { program := "ytjalhcfphhdcbaa", sum := "f8b85645a3f3f3f70681913114a78a355e8ecb9952da550469a44f72688b671a", func := "rotulet/rotuletlaw21.StreamMerges", spec := "streamMerges", unfollowed := true, recurses := true, apart := false }
def StreamMergesSaid : Prop := streamMergesRow.holds Try.pinned (OpenSpec.ofChange streamMergesSpec)

/-- ITS FALSE NEIGHBOUR: 'it returns false'. Refute it at one input. -/
def streamMergesWrong : ChangeSpec := { name := "streamMerges", fn := fun _ => fun
  | [d] => { results := [.lit (.bool false)], args := [d] }
  | _ => none }
def StreamMergesWrongFalsely : Prop := streamMergesRow.holds Try.pinned (OpenSpec.ofChange streamMergesWrong)

/-- 'rotuletlaw21.StreamPieces': WHATEVER THE INPUT: true; the input reads as it did. -/
def streamPiecesSpec : ChangeSpec := { name := "streamPieces", fn := fun _ => fun
  | [d1, d2, d3] => { results := [.lit (.bool true)], args := [d1, d2, d3] }
  | _ => none }
def streamPiecesRow : OpenClaim := { program := "ytjalhcfphhdcbaa", sum := "f8b85645a3f3f3f70681913114a78a355e8ecb9952da550469a44f72688b671a", func := "rotulet/rotuletlaw21.StreamPieces", spec := "streamPieces", unfollowed := true, recurses := true, apart := false }
def StreamPiecesSaid : Prop := streamPiecesRow.holds Try.pinned (OpenSpec.ofChange streamPiecesSpec)

/-- ITS FALSE NEIGHBOUR: 'it returns false'. Refute it at one input. -/
def streamPiecesWrong : ChangeSpec := { name := "streamPieces", fn := fun _ => fun
  | [d1, d2, d3] => { results := [.lit (.bool false)], args := [d1, d2, d3] }
  | _ => none }
def StreamPiecesWrongFalsely : Prop := streamPiecesRow.holds Try.pinned (OpenSpec.ofChange streamPiecesWrong)

/- THE SECOND FORM. 'bulk': how many values and letters a reading holds, each counted each time it is reached (what is shared counts as often as it is met; a slice's spare places count too). A statement '..UptoSaid' is the law's where the arguments, and the package variables that the reading takes, are together of bulk at most 1048576: NARROWER than '..Said'. Prove '..Said' where nothing that the law and all that it calls make is longer than what came in: it says more and counts as full. Else prove '..UptoSaid'. A law counts once. -/
mutual
def uptoBulk {H : Type} : DataW H → Nat
  | .lit (.string bytes) => bytes.length + 1
  | .lit _ => 1
  | .nil => 1
  | .ptr d => uptoBulk d + 1
  | .slice elems spare => uptoBulkAll elems + uptoBulkAll spare + 1
  | .agg parts => uptoBulkAll parts + 1
  | .iface _ d => uptoBulk d + 1
  | .map entries => uptoBulkEntries entries + 1
  | .held _ => 1
def uptoBulkAll {H : Type} : List (DataW H) → Nat
  | [] => 0
  | d :: r => uptoBulk d + uptoBulkAll r
def uptoBulkEntries {H : Type} : List (Lit × DataW H) → Nat
  | [] => 0
  | x :: r => uptoBulkEntry x + uptoBulkEntries r
def uptoBulkEntry {H : Type} : Lit × DataW H → Nat
  | (.string bytes, d) => bytes.length + uptoBulk d + 1
  | (_, d) => uptoBulk d + 1
 end
def uptoSmall : (H : Type) → List (DataW H) → Bool := fun _ ds => decide (uptoBulkAll ds ≤ 1048576)
def OpenSpec.upto (s : _root_.Go.ChangeSpec) : _root_.Go.OpenSpec := { _root_.Go.OpenSpec.ofChange s with cond := some uptoSmall }

/-- 'rotuletlaw21.StreamMisses', WHERE WHAT IT READS IS OF BULK AT MOST 1048576: true; the input reads as it did. -/
def streamMissesUptoRow : OpenClaim := { program := "ytjalhcfphhdcbaa", sum := "f8b85645a3f3f3f70681913114a78a355e8ecb9952da550469a44f72688b671a", func := "rotulet/rotuletlaw21.StreamMisses", spec := "streamMisses", unfollowed := true, recurses := true, apart := false, narrowed := true }
def StreamMissesUptoSaid : Prop := streamMissesUptoRow.holds Try.pinned (OpenSpec.upto streamMissesSpec)

/-- 'rotuletlaw21.StreamReads', WHERE WHAT IT READS IS OF BULK AT MOST 1048576: true; the input reads as it did. -/
def streamReadsUptoRow : OpenClaim := { program := "ytjalhcfphhdcbaa", sum := "f8b85645a3f3f3f70681913114a78a355e8ecb9952da550469a44f72688b671a", func := "rotulet/rotuletlaw21.StreamReads", spec := "streamReads", unfollowed := true, recurses := true, apart := false, narrowed := true }
def StreamReadsUptoSaid : Prop := streamReadsUptoRow.holds Try.pinned (OpenSpec.upto streamReadsSpec)

/-- 'rotuletlaw21.StreamWalks', WHERE WHAT IT READS IS OF BULK AT MOST 1048576: true; the input reads as it did. -/
def streamWalksUptoRow : OpenClaim := { program := "ytjalhcfphhdcbaa", sum := "f8b85645a3f3f3f70681913114a78a355e8ecb9952da550469a44f72688b671a", func := "rotulet/rotuletlaw21.StreamWalks", spec := "streamWalks", unfollowed := true, recurses := true, apart := false, narrowed := true }
def StreamWalksUptoSaid : Prop := streamWalksUptoRow.holds Try.pinned (OpenSpec.upto streamWalksSpec)

/-- 'rotuletlaw21.StreamBuilds', WHERE WHAT IT READS IS OF BULK AT MOST 1048576: true; the input reads as it did. -/
def streamBuildsUptoRow : OpenClaim := { program := "ytjalhcfphhdcbaa", sum := "f8b85645a3f3f3f70681913114a78a355e8ecb9952da550469a44f72688b671a", func := "rotulet/rotuletlaw21.StreamBuilds", spec := "streamBuilds", unfollowed := true, recurses := true, apart := false, narrowed := true }
def StreamBuildsUptoSaid : Prop := streamBuildsUptoRow.holds Try.pinned (OpenSpec.upto streamBuildsSpec)

/-- 'rotuletlaw21.StreamMerges', WHERE WHAT IT READS IS OF BULK AT MOST 1048576: true; the input reads as it did. -/
def streamMergesUptoRow : OpenClaim := { program := "ytjalhcfphhdcbaa", sum := "f8b85645a3f3f3f70681913114a78a355e8ecb9952da550469a44f72688b671a", func := "rotulet/rotuletlaw21.StreamMerges", spec := "streamMerges", unfollowed := true, recurses := true, apart := false, narrowed := true }
def StreamMergesUptoSaid : Prop := streamMergesUptoRow.holds Try.pinned (OpenSpec.upto streamMergesSpec)

/-- 'rotuletlaw21.StreamPieces', WHERE WHAT IT READS IS OF BULK AT MOST 1048576: true; the input reads as it did. -/
def streamPiecesUptoRow : OpenClaim := { program := "ytjalhcfphhdcbaa", sum := "f8b85645a3f3f3f70681913114a78a355e8ecb9952da550469a44f72688b671a", func := "rotulet/rotuletlaw21.StreamPieces", spec := "streamPieces", unfollowed := true, recurses := true, apart := false, narrowed := true }
def StreamPiecesUptoSaid : Prop := streamPiecesUptoRow.holds Try.pinned (OpenSpec.upto streamPiecesSpec)

end Rows
end Go.Proofs.Ytjalhcfphhdcbaa
