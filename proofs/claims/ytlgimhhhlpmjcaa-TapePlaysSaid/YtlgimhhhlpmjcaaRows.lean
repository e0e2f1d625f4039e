/-
  No cell of these rows narrows 'for every input' (looked for: loops, veiled, ifaces, maps, wideKeys, modest, calm, conditions, laid).
  DERIVED. THE GIVEN ROWS OF THIS SEAT. 11 by the template 'for every input the law returns true; each argument reads behind the call as it read before'; 0 by the template 'total and deterministic' (their statements: YtlgimhhhlpmjcaaTotals.lean).
  GIVEN WITH THE SEED: the statements are not yours to turn. If you find one false, say at which input.
  Laid BY PROGRAM, IN A SANDBOX (cutbox-rows.mjs): the forced cells as the released guide's own fill.sh prints them over the translation 88be65d0306aaff4… (all of the seat's roots in one cut). By AI agents, Wed Nov 11 2026. No macro, syntax, notation, axiom, sorry.
-/
import Derived.Test.YtlgimhhhlpmjcaaChecked
import GoSem.Claim
import GoSem.ClaimJoined
import GoSem.ClaimMapViews
import Derived.JoinedTies
import Derived.KernelRfl
namespace Go.Proofs.Ytlgimhhhlpmjcaa
/- THE CELL 'sum', in the pinned program and in every row, IS THE sha256 OF THE DUMP (.gsa) THAT YtlgimhhhlpmjcaaProg.lean LOADS. Nothing in Lean hashes anything: it is a label: what it is worth is what the hold of that sum in a sandbox is worth. -/
noncomputable def Try.pinned : Pinned := { name := "ytlgimhhhlpmjcaa", sum := "88be65d0306aaff4d0c39c995917cd50767aa9b1552c011764c2eff5c293dbb7", checked := Try.checked }
namespace Rows
def none {H : Type} : Left H := { results := [], args := [] }

/-- 'rotuletlaw06.TapeFirst': WHATEVER THE INPUT: true; the input reads as it did. -/
def tapeFirstSpec : ChangeSpec := { name := "tapeFirst", fn := fun _ => fun
  | [d1, d2] => { results := [.lit (.bool true)], args := [d1, d2] }
  | _ => none }
def tapeFirstRow : OpenClaim := { program := "ytlgimhhhlpmjcaa", sum := "88be65d0306aaff4d0c39c995917cd50767aa9b1552c011764c2eff5c293dbb7", func := "rotulet/rotuletlaw06.TapeFirst", spec := "tapeFirst", unfollowed := true, recurses := true, apart := false }
def TapeFirstSaid : Prop := tapeFirstRow.holds Try.pinned (OpenSpec.ofChange tapeFirstSpec)

/-- ITS FALSE NEIGHBOUR: 'it returns false'. Refute it at one input. -/
def tapeFirstWrong : ChangeSpec := { name := "tapeFirst", fn := fun _ => fun
  | [d1, d2] => { results := [.lit (.bool false)], args := [d1, d2] }
  | _ => none }
def TapeFirstWrongFalsely : Prop := tapeFirstRow.holds Try.pinned (OpenSpec.ofChange tapeFirstWrong)

/-- 'rotuletlaw06.TapeRooms': WHATEVER THE INPUT: true; the input reads as it did. -/
def tapeRoomsSpec : ChangeSpec := { name := "tapeRooms", fn := fun _ => fun
  | [d1, d2] => { results := [.lit (.bool true)], args := [d1, d2] }
  | _ => none }
def tapeRoomsRow : OpenClaim := { program := "ytlgimhhhlpmjcaa", sum := "88be65d0306aaff4d0c39c995917cd50767aa9b1552c011764c2eff5c293dbb7", func := "rotulet/rotuletlaw06.TapeRooms", spec := "tapeRooms", unfollowed := true, recurses := true, apart := false }
def TapeRoomsSaid : Prop := tapeRoomsRow.holds Try.pinned (OpenSpec.ofChange tapeRoomsSpec)

/-- ITS FALSE NEIGHBOUR: 'it returns false'. Refute it at one input. -/
def tapeRoomsWrong : ChangeSpec := { name := "tapeRooms", fn := fun _ => fun
  | [d1, d2] => { results := [.lit (.bool false)], args := [d1, d2] }
  | _ => none }
def TapeRoomsWrongFalsely : Prop := tapeRoomsRow.holds Try.pinned (OpenSpec.ofChange tapeRoomsWrong)

/-- 'rotuletlaw06.TapeNil': WHATEVER THE INPUT: true; the input reads as it did. -/
def tapeNilSpec : ChangeSpec := { name := "tapeNil", fn := fun _ => fun
  | [d] => { results := [.lit (.bool true)], args := [d] }
  | _ => none }
def tapeNilRow : OpenClaim := { program := "ytlgimhhhlpmjcaa", sum := "88be65d0306aaff4d0c39c995917cd50767aa9b1552c011764c2eff5c293dbb7", func := "rotulet/rotuletlaw06.TapeNil", spec := "tapeNil", unfollowed := true, recurses := true, apart := false }
def TapeNilSaid : Prop := tapeNilRow.holds Try.pinned (OpenSpec.ofChange tapeNilSpec)

/-- ITS FALSE NEIGHBOUR: 'it returns false'. Refute it at one input. -/
def tapeNilWrong : ChangeSpec := { name := "tapeNil", fn := fun _ => fun
  | [d] => { results := [.lit (.bool false)], args := [d] }
  | _ => none }
def TapeNilWrongFalsely : Prop := tapeNilRow.holds Try.pinned (OpenSpec.ofChange tapeNilWrong)

/-- 'rotuletlaw04.DiskPlays': WHATEVER THE INPUT: true; the input reads as it did. -/
def diskPlaysSpec : ChangeSpec := { name := "diskPlays", fn := fun _ => fun
  | [d1, d2] => { results := [.lit (.bool true)], args := [d1, d2] }
  | _ => none }
def diskPlaysRow : OpenClaim := { program := "ytlgimhhhlpmjcaa", sum := "88be65d0306aaff4d0c39c995917cd50767aa9b1552c011764c2eff5c293dbb7", func := "rotulet/rotuletlaw04.DiskPlays", spec := "diskPlays", unfollowed := true, recurses := true, apart := false }
def DiskPlaysSaid : Prop := diskPlaysRow.holds Try.pinned (OpenSpec.ofChange diskPlaysSpec)

/-- ITS FALSE NEIGHBOUR: 'it returns false'. Refute it at one input. -/
def diskPlaysWrong : ChangeSpec := { name := "diskPlays", fn := fun _ => fun
  | [d1, d2] => { results := [.lit (.bool false)], args := [d1, d2] }
  | _ => none }
def DiskPlaysWrongFalsely : Prop := diskPlaysRow.holds Try.pinned (OpenSpec.ofChange diskPlaysWrong)

/-- 'rotuletlaw04.DiskWhole': WHATEVER THE INPUT: true; the input reads as it did. -/
def diskWholeSpec : ChangeSpec := { name := "diskWhole", fn := fun _ => fun
  | [d1, d2, d3] => { results := [.lit (.bool true)], args := [d1, d2, d3] }
  | _ => none }
def diskWholeRow : OpenClaim := { program := "ytlgimhhhlpmjcaa", sum := "88be65d0306aaff4d0c39c995917cd50767aa9b1552c011764c2eff5c293dbb7", func := "rotulet/rotuletlaw04.DiskWhole", spec := "diskWhole", unfollowed := true, recurses := true, apart := false }
def DiskWholeSaid : Prop := diskWholeRow.holds Try.pinned (OpenSpec.ofChange diskWholeSpec)

/-- ITS FALSE NEIGHBOUR: 'it returns false'. Refute it at one input. -/
def diskWholeWrong : ChangeSpec := { name := "diskWhole", fn := fun _ => fun
  | [d1, d2, d3] => { results := [.lit (.bool false)], args := [d1, d2, d3] }
  | _ => none }
def DiskWholeWrongFalsely : Prop := diskWholeRow.holds Try.pinned (OpenSpec.ofChange diskWholeWrong)

/-- 'rotuletlaw04.DiskKeeps': WHATEVER THE INPUT: true; the input reads as it did. -/
def diskKeepsSpec : ChangeSpec := { name := "diskKeeps", fn := fun _ => fun
  | [d1, d2] => { results := [.lit (.bool true)], args := [d1, d2] }
  | _ => none }
def diskKeepsRow : OpenClaim := { program := "ytlgimhhhlpmjcaa", sum := "88be65d0306aaff4d0c39c995917cd50767aa9b1552c011764c2eff5c293dbb7", func := "rotulet/rotuletlaw04.DiskKeeps", spec := "diskKeeps", unfollowed := true, recurses := true, apart := false }
def DiskKeepsSaid : Prop := diskKeepsRow.holds Try.pinned (OpenSpec.ofChange diskKeepsSpec)

/-- ITS FALSE NEIGHBOUR: 'it returns false'. Refute it at one input. -/
def diskKeepsWrong : ChangeSpec := { name := "diskKeeps", fn := fun _ => fun
  | [d1, d2] => { results := [.lit (.bool false)], args := [d1, d2] }
  | _ => none }
def DiskKeepsWrongFalsely : Prop := diskKeepsRow.holds Try.pinned (OpenSpec.ofChange diskKeepsWrong)

/-- 'rotuletlaw04.DiskNil': WHATEVER THE INPUT: true; the input reads as it did. -/
def diskNilSpec : ChangeSpec := { name := "diskNil", fn := fun _ => fun
  | [d] => { results := [.lit (.bool true)], args := [d] }
  | _ => none }
def diskNilRow : OpenClaim := { program := "ytlgimhhhlpmjcaa", sum := "88be65d0306aaff4d0c39c995917cd50767aa9b1552c011764c2eff5c293dbb7", func := "rotulet/rotuletlaw04.DiskNil", spec := "diskNil", unfollowed := true, recurses := true, apart := false }
def DiskNilSaid : Prop := diskNilRow.holds Try.pinned (OpenSpec.ofChange diskNilSpec)

/-- ITS FALSE NEIGHBOUR: 'it returns false'. Refute it at one input. -/
def diskNilWrong : ChangeSpec := { name := "diskNil", fn := fun _ => fun
  | [d] => { results := [.lit (.bool false)], args := [d] }
  | _ => none }
def DiskNilWrongFalsely : Prop := diskNilRow.holds Try.pinned (OpenSpec.ofChange diskNilWrong)

/-- 'rotuletlaw04.DiskApart': WHATEVER THE INPUT: true; the input reads as it did. -/
def diskApartSpec : ChangeSpec := { name := "diskApart", fn := fun _ => fun
  | [d1, d2, d3] => { results := [.lit (.bool true)], args := [d1, d2, d3] }
  | _ => none }
def diskApartRow : OpenClaim := { program := "ytlgimhhhlpmjcaa", sum := "88be65d0306aaff4d0c39c995917cd50767aa9b1552c011764c2eff5c293dbb7", func := "rotulet/rotuletlaw04.DiskApart", spec := "diskApart", unfollowed := true, recurses := true, apart := false }
def DiskApartSaid : Prop := diskApartRow.holds Try.pinned (OpenSpec.ofChange diskApartSpec)

/-- ITS FALSE NEIGHBOUR: 'it returns false'. Refute it at one input. -/
def diskApartWrong : ChangeSpec := { name := "diskApart", fn := fun _ => fun
  | [d1, d2, d3] => { results := [.lit (.bool false)], args := [d1, d2, d3] }
  | _ => none }
def DiskApartWrongFalsely : Prop := diskApartRow.holds Try.pinned (OpenSpec.ofChange diskApartWrong)

/-- 'rotuletlaw06.TapeOpens': WHATEVER THE INPUT: true; the input reads as it did. -/
def tapeOpensSpec : ChangeSpec := { name := "tapeOpens", fn := fun _ => fun
  | [d1, d2, d3] => { results := [.lit (.bool true)], args := [d1, d2, d3] }
  | _ => none }
def tapeOpensRow : OpenClaim := { program := "ytlgimhhhlpmjcaa", sum := "88be65d0306aaff4d0c39c995917cd50767aa9b1552c011764c2eff5c293dbb7", func := "rotulet/rotuletlaw06.TapeOpens", spec := "tapeOpens", unfollowed := true, recurses := true, apart := false }
def TapeOpensSaid : Prop := tapeOpensRow.holds Try.pinned (OpenSpec.ofChange tapeOpensSpec)

/-- ITS FALSE NEIGHBOUR: 'it returns false'. Refute it at one input. -/
def tapeOpensWrong : ChangeSpec := { name := "tapeOpens", fn := fun _ => fun
  | [d1, d2, d3] => { results := [.lit (.bool false)], args := [d1, d2, d3] }
  | _ => none }
def TapeOpensWrongFalsely : Prop := tapeOpensRow.holds Try.pinned (OpenSpec.ofChange tapeOpensWrong)

/-- 'rotuletlaw06.TapeWhole': WHATEVER THE INPUT: true; the input reads as it did. -/
def tapeWholeSpec : ChangeSpec := { name := "tapeWhole", fn := fun _ => fun
  | [d1, d2, d3] => { results := [.lit (.bool true)], args := [d1, d2, d3] }
  | _ => none }
def tapeWholeRow : OpenClaim := { program := "ytlgimhhhlpmjcaa", sum := "88be65d0306aaff4d0c39c995917cd50767aa9b1552c011764c2eff5c293dbb7", func := "rotulet/rotuletlaw06.TapeWhole", spec := "tapeWhole", unfollowed := true, recurses := true, apart := false }
def TapeWholeSaid : Prop := tapeWholeRow.holds Try.pinned (OpenSpec.ofChange tapeWholeSpec)

/-- ITS FALSE NEIGHBOUR: 'it returns false'. Refute it at one input. -/
def tapeWholeWrong : ChangeSpec := { name := "tapeWhole", fn := fun _ => fun
  | [d1, d2, d3] => { results := [.lit (.bool false)], args := [d1, d2, d3] }
  | _ => none }
def TapeWholeWrongFalsely : Prop := tapeWholeRow.holds Try.pinned (OpenSpec.ofChange tapeWholeWrong)

/-- 'rotuletlaw06.TapePlays': WHATEVER THE INPUT: true; the input reads as it did. -/
def tapePlaysSpec : ChangeSpec := { name := "tapePlays", fn := fun _ => fun
  | [d1, d2] => { results := [.lit (.bool true)], args := [d1, d2] }
  | _ => none }
def tapePlaysRow : OpenClaim := { program := "ytlgimhhhlpmjcaa", sum := "88be65d0306aaff4d0c39c995917cd50767aa9b1552c011764c2eff5c293dbb7", func := "rotulet/rotuletlaw06.TapePlays", spec := "tapePlays", unfollowed := true, recurses := true, apart := false }
def TapePlaysSaid : Prop := tapePlaysRow.holds Try.pinned (OpenSpec.ofChange tapePlaysSpec)

/-- ITS FALSE NEIGHBOUR: 'it returns false'. Refute it at one input. -/
def tapePlaysWrong : ChangeSpec := { name := "tapePlays", fn := fun _ => fun
  | [d1, d2] => { results := [.lit (.bool false)], args := [d1, d2] }
  | _ => none }
def TapePlaysWrongFalsely : Prop := tapePlaysRow.holds Try.pinned (OpenSpec.ofChange tapePlaysWrong)

/- THE SECOND FORM. 'bulk': how many values and letters a reading holds, each counted each time it is reached (what is shared counts as often as it is met; a slice's spare places count too). A statement '..UptoSaid' is the law's where the arguments, and the package variables that the reading takes, are together of bulk at most 1048576: NARROWER than '..Said'. Prove '..Said' where nothing that the law and all that it calls make is longer than what came in: it says more and counts as full. Else prove '..UptoSaid'. A law counts once. -/
mutual
def uptoBulk {H : Type} : DataW H → Nat
  | .lit (.string bytes) => bytes.length + 1
  | .lit _ => 1
  | .nil => 1
  | .ptr d => uptoBulk d + 1
  | .slice elems spare => uptoBulkAll elems + uptoBulkAll spare + 1
  | .agg parts => uptoBulkAll parts + 1
  | .iface _ d => uptoBulk d + 1
  | .map entries => uptoBulkEntries entries + 1
  | .held _ => 1
def uptoBulkAll {H : Type} : List (DataW H) → Nat
  | [] => 0
  | d :: r => uptoBulk d + uptoBulkAll r
def uptoBulkEntries {H : Type} : List (Lit × DataW H) → Nat
  | [] => 0
  | x :: r => uptoBulkEntry x + uptoBulkEntries r
def uptoBulkEntry {H : Type} : Lit × DataW H → Nat
  | (.string bytes, d) => bytes.length + uptoBulk d + 1
  | (_, d) => uptoBulk d + 1
 end
def uptoSmall : (H : Type) → List (DataW H) → Bool := fun _ ds => decide (uptoBulkAll ds ≤ 1048576)
def OpenSpec.upto (s : _root_.Go.ChangeSpec) : _root_.Go.OpenSpec := { _root_.Go.OpenSpec.ofChange s with cond := some uptoSmall }

/-- 'rotuletlaw06.TapeFirst', WHERE WHAT IT READS IS OF BULK AT MOST 1048576: true; the input reads as it did. -/
def tapeFirstUptoRow : OpenClaim := { program := "ytlgimhhhlpmjcaa", sum := "88be65d0306aaff4d0c39c995917cd50767aa9b1552c011764c2eff5c293dbb7", func := "rotulet/rotuletlaw06.TapeFirst", spec := "tapeFirst", unfollowed := true, recurses := true, apart := false, narrowed := true }
def TapeFirstUptoSaid : Prop := tapeFirstUptoRow.holds Try.pinned (OpenSpec.upto tapeFirstSpec)

/-- 'rotuletlaw06.TapeRooms', WHERE WHAT IT READS IS OF BULK AT MOST 1048576: true; the input reads as it did. -/
def tapeRoomsUptoRow : OpenClaim := { program := "ytlgimhhhlpmjcaa", sum := "88be65d0306aaff4d0c39c995917cd50767aa9b1552c011764c2eff5c293dbb7", func := "rotulet/rotuletlaw06.TapeRooms", spec := "tapeRooms", unfollowed := true, recurses := true, apart := false, narrowed := true }
def TapeRoomsUptoSaid : Prop := tapeRoomsUptoRow.holds Try.pinned (OpenSpec.upto tapeRoomsSpec)

/-- 'rotuletlaw06.TapeNil', WHERE WHAT IT READS IS OF BULK AT MOST 1048576: true; the input reads as it did. -/
def tapeNilUptoRow : OpenClaim := { program := "ytlgimhhhlpmjcaa", sum := "88be65d0306aaff4d0c39c995917cd50767aa9b1552c011764c2eff5c293dbb7", func := "rotulet/rotuletlaw06.TapeNil", spec := "tapeNil", unfollowed := true, recurses := true, apart := false, narrowed := true }
def TapeNilUptoSaid : Prop := tapeNilUptoRow.holds Try.pinned (OpenSpec.upto tapeNilSpec)

/-- 'rotuletlaw04.DiskPlays', WHERE WHAT IT READS IS OF BULK AT MOST 1048576: true; the input reads as it did. -/
def diskPlaysUptoRow : OpenClaim := { program := "ytlgimhhhlpmjcaa", sum := "88be65d0306aaff4d0c39c995917cd50767aa9b1552c011764c2eff5c293dbb7", func := "rotulet/rotuletlaw04.DiskPlays", spec := "diskPlays", unfollowed := true, recurses := true, apart := false, narrowed := true }
def DiskPlaysUptoSaid : Prop := diskPlaysUptoRow.holds Try.pinned (OpenSpec.upto diskPlaysSpec)

/-- 'rotuletlaw04.DiskWhole', WHERE WHAT IT READS IS OF BULK AT MOST 1048576: true; the input reads as it did. -/
def diskWholeUptoRow : OpenClaim := { program := "ytlgimhhhlpmjcaa", sum := "88be65d0306aaff4d0c39c995917cd50767aa9b1552c011764c2eff5c293dbb7", func := "rotulet/rotuletlaw04.DiskWhole", spec := "diskWhole", unfollowed := true, recurses := true, apart := false, narrowed := true }
def DiskWholeUptoSaid : Prop := diskWholeUptoRow.holds Try.pinned (OpenSpec.upto diskWholeSpec)

/-- 'rotuletlaw04.DiskKeeps', WHERE WHAT IT READS IS OF BULK AT MOST 1048576: true; the input reads as it did. -/
def diskKeepsUptoRow : OpenClaim := { program := "ytlgimhhhlpmjcaa", sum := "88be65d0306aaff4d0c39c995917cd50767aa9b1552c011764c2eff5c293dbb7", func := "rotulet/rotuletlaw04.DiskKeeps", spec := "diskKeeps", unfollowed := true, recurses := true, apart := false, narrowed := true }
def DiskKeepsUptoSaid : Prop := diskKeepsUptoRow.holds Try.pinned (OpenSpec.upto diskKeepsSpec)

/-- 'rotuletlaw04.DiskNil', WHERE WHAT IT READS IS OF BULK AT MOST 1048576: true; the input reads as it did. -/
def diskNilUptoRow : OpenClaim := { program := "ytlgimhhhlpmjcaa", sum := "88be65d0306aaff4d0c39c995917cd50767aa9b1552c011764c2eff5c293dbb7", func := "rotulet/rotuletlaw04.DiskNil", spec := "diskNil", unfollowed := true, recurses := true, apart := false, narrowed := true }
def DiskNilUptoSaid : Prop := diskNilUptoRow.holds Try.pinned (OpenSpec.upto diskNilSpec)

/-- 'rotuletlaw04.DiskApart', WHERE WHAT IT READS IS OF BULK AT MOST 1048576: true; the input reads as it did. -/
def diskApartUptoRow : OpenClaim := { program := "ytlgimhhhlpmjcaa", sum := "88be65d0306aaff4d0c39c995917cd50767aa9b1552c011764c2eff5c293dbb7", func := "rotulet/rotuletlaw04.DiskApart", spec := "diskApart", unfollowed := true, recurses := true, apart := false, narrowed := true }
def DiskApartUptoSaid : Prop := diskApartUptoRow.holds Try.pinned (OpenSpec.upto diskApartSpec)

/-- 'rotuletlaw06.TapeOpens', WHERE WHAT IT READS IS OF BULK AT MOST 1048576: true; the input reads as it did. -/
def tapeOpensUptoRow : OpenClaim := { program := "ytlgimhhhlpmjcaa", sum := "88be65d0306aaff4d0c39c995917cd50767aa9b1552c011764c2eff5c293dbb7", func := "rotulet/rotuletlaw06.TapeOpens", spec := "tapeOpens", unfollowed := true, recurses := true, apart := false, narrowed := true }
def TapeOpensUptoSaid : Prop := tapeOpensUptoRow.holds Try.pinned (OpenSpec.upto tapeOpensSpec)

/-- 'rotuletlaw06.TapeWhole', WHERE WHAT IT READS IS OF BULK AT MOST 1048576: true; the input reads as it did. -/
def tapeWholeUptoRow : OpenClaim := { program := "ytlgimhhhlpmjcaa", sum := "88be65d0306aaff4d0c39c995917cd50767aa9b1552c011764c2eff5c293dbb7", func := "rotulet/rotuletlaw06.TapeWhole", spec := "tapeWhole", unfollowed := true, recurses := true, apart := false, narrowed := true }
def TapeWholeUptoSaid : Prop := tapeWholeUptoRow.holds Try.pinned (OpenSpec.upto tapeWholeSpec)

/-- 'rotuletlaw06.TapePlays', WHERE WHAT IT READS IS OF BULK AT MOST 1048576: true; the input reads as it did. -/
def tapePlaysUptoRow : OpenClaim := { program := "ytlgimhhhlpmjcaa", sum := "88be65d0306aaff4d0c39c995917cd50767aa9b1552c011764c2eff5c293dbb7", func := "rotulet/rotuletlaw06.TapePlays", spec := "tapePlays", unfollowed := true, recurses := true, apart := false, narrowed := true }
def TapePlaysUptoSaid : Prop := tapePlaysUptoRow.holds Try.pinned (OpenSpec.upto tapePlaysSpec)

end Rows
end Go.Proofs.Ytlgimhhhlpmjcaa
