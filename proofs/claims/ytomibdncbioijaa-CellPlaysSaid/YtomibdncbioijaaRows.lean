/-
  No cell of these rows narrows 'for every input' (looked for: loops, veiled, ifaces, maps, wideKeys, modest, calm, conditions, laid).
  DERIVED. THE GIVEN ROWS OF THIS SEAT. 9 by the template 'for every input the law returns true; each argument reads behind the call as it read before'; 0 by the template 'total and deterministic' (their statements: YtomibdncbioijaaTotals.lean).
  GIVEN WITH THE SEED: the statements are not yours to turn. If you find one false, say at which input.
  Laid BY PROGRAM, IN A SANDBOX (cutbox-rows.mjs): the forced cells as the released guide's own fill.sh prints them over the translation 20b7e1c3a74ca839… (all of the seat's roots in one cut). By AI agents, Wed Nov 11 2026. No macro, syntax, notation, axiom, sorry.
-/
import Derived.Test.YtomibdncbioijaaChecked
import GoSem.Claim
import GoSem.ClaimJoined
import GoSem.ClaimMapViews
import Derived.JoinedTies
import Derived.KernelRfl
namespace Go.Proofs.Ytomibdncbioijaa
/- THE CELL 'sum', in the pinned program and in every row, IS THE sha256 OF THE DUMP (.gsa) THAT YtomibdncbioijaaProg.lean LOADS. Nothing in Lean hashes anything: it is a label: what it is worth is what the hold of that sum in a sandbox is worth. -/
noncomputable def Try.pinned : Pinned := { name := "ytomibdncbioijaa", sum := "20b7e1c3a74ca8392a2a1d1268b0065901a637d71be767dfbf0470e352824a11", checked := Try.checked }
namespace Rows
def none {H : Type} : Left H := { results := [], args := [] }

/-- 'campanilelaw9.SlotForms': WHATEVER THE INPUT: true; the input reads as it did. -/
def slotFormsSpec : ChangeSpec := { name := "slotForms", fn := fun _ => fun
  | [d1, d2, d3] => { results := [.lit (.bool true)], args := [d1, d2, d3] }
  | _ => none }
def slotFormsRow : OpenClaim := { program := "ytomibdncbioijaa", sum := "20b7e1c3a74ca8392a2a1d1268b0065901a637d71be767dfbf0470e352824a11", func := "campanile/campanilelaw9.SlotForms", spec := "slotForms", unfollowed := true, recurses := true, apart := false }
def SlotFormsSaid : Prop := slotFormsRow.holds Try.pinned (OpenSpec.ofChange slotFormsSpec)

/-- ITS FALSE NEIGHBOUR: 'it returns false'. Refute it at one input. -/
def slotFormsWrong : ChangeSpec := { name := "slotForms", fn := fun _ => fun
  | [d1, d2, d3] => { results := [.lit (.bool false)], args := [d1, d2, d3] }
  | _ => none }
def SlotFormsWrongFalsely : Prop := slotFormsRow.holds Try.pinned (OpenSpec.ofChange slotFormsWrong)

/-- 'campanilelaw9.SlotFirst': WHATEVER THE INPUT: true; the input reads as it did. -/
def slotFirstSpec : ChangeSpec := { name := "slotFirst", fn := fun _ => fun
  | [d1, d2, d3, d4] => { results := [.lit (.bool true)], args := [d1, d2, d3, d4] }
  | _ => none }
def slotFirstRow : OpenClaim := { program := "ytomibdncbioijaa", sum := "20b7e1c3a74ca8392a2a1d1268b0065901a637d71be767dfbf0470e352824a11", func := "campanile/campanilelaw9.SlotFirst", spec := "slotFirst", unfollowed := true, recurses := true, apart := false }
def SlotFirstSaid : Prop := slotFirstRow.holds Try.pinned (OpenSpec.ofChange slotFirstSpec)

/-- ITS FALSE NEIGHBOUR: 'it returns false'. Refute it at one input. -/
def slotFirstWrong : ChangeSpec := { name := "slotFirst", fn := fun _ => fun
  | [d1, d2, d3, d4] => { results := [.lit (.bool false)], args := [d1, d2, d3, d4] }
  | _ => none }
def SlotFirstWrongFalsely : Prop := slotFirstRow.holds Try.pinned (OpenSpec.ofChange slotFirstWrong)

/-- 'campanilelaw9.SlotWaits': WHATEVER THE INPUT: true; the input reads as it did. -/
def slotWaitsSpec : ChangeSpec := { name := "slotWaits", fn := fun _ => fun
  | [d1, d2, d3] => { results := [.lit (.bool true)], args := [d1, d2, d3] }
  | _ => none }
def slotWaitsRow : OpenClaim := { program := "ytomibdncbioijaa", sum := "20b7e1c3a74ca8392a2a1d1268b0065901a637d71be767dfbf0470e352824a11", func := "campanile/campanilelaw9.SlotWaits", spec := "slotWaits", unfollowed := true, recurses := true, apart := false }
def SlotWaitsSaid : Prop := slotWaitsRow.holds Try.pinned (OpenSpec.ofChange slotWaitsSpec)

/-- ITS FALSE NEIGHBOUR: 'it returns false'. Refute it at one input. -/
def slotWaitsWrong : ChangeSpec := { name := "slotWaits", fn := fun _ => fun
  | [d1, d2, d3] => { results := [.lit (.bool false)], args := [d1, d2, d3] }
  | _ => none }
def SlotWaitsWrongFalsely : Prop := slotWaitsRow.holds Try.pinned (OpenSpec.ofChange slotWaitsWrong)

/-- 'campanilelaw8.CellRound': WHATEVER THE INPUT: true; the input reads as it did. -/
def cellRoundSpec : ChangeSpec := { name := "cellRound", fn := fun _ => fun
  | [d1, d2, d3] => { results := [.lit (.bool true)], args := [d1, d2, d3] }
  | _ => none }
def cellRoundRow : OpenClaim := { program := "ytomibdncbioijaa", sum := "20b7e1c3a74ca8392a2a1d1268b0065901a637d71be767dfbf0470e352824a11", func := "campanile/campanilelaw8.CellRound", spec := "cellRound", inPlace := ["slices.overlaps[campanile/api.Cell]"], unfollowed := true, recurses := true, apart := false }
def CellRoundSaid : Prop := cellRoundRow.holds Try.pinned (OpenSpec.ofChange cellRoundSpec)

/-- ITS FALSE NEIGHBOUR: 'it returns false'. Refute it at one input. -/
def cellRoundWrong : ChangeSpec := { name := "cellRound", fn := fun _ => fun
  | [d1, d2, d3] => { results := [.lit (.bool false)], args := [d1, d2, d3] }
  | _ => none }
def CellRoundWrongFalsely : Prop := cellRoundRow.holds Try.pinned (OpenSpec.ofChange cellRoundWrong)

/-- 'campanilelaw8.CellLess': WHATEVER THE INPUT: true; the input reads as it did. -/
def cellLessSpec : ChangeSpec := { name := "cellLess", fn := fun _ => fun
  | [d1, d2, d3] => { results := [.lit (.bool true)], args := [d1, d2, d3] }
  | _ => none }
def cellLessRow : OpenClaim := { program := "ytomibdncbioijaa", sum := "20b7e1c3a74ca8392a2a1d1268b0065901a637d71be767dfbf0470e352824a11", func := "campanile/campanilelaw8.CellLess", spec := "cellLess", inPlace := ["slices.overlaps[campanile/api.Cell]"], unfollowed := true, recurses := true, apart := false }
def CellLessSaid : Prop := cellLessRow.holds Try.pinned (OpenSpec.ofChange cellLessSpec)

/-- ITS FALSE NEIGHBOUR: 'it returns false'. Refute it at one input. -/
def cellLessWrong : ChangeSpec := { name := "cellLess", fn := fun _ => fun
  | [d1, d2, d3] => { results := [.lit (.bool false)], args := [d1, d2, d3] }
  | _ => none }
def CellLessWrongFalsely : Prop := cellLessRow.holds Try.pinned (OpenSpec.ofChange cellLessWrong)

/-- 'campanilelaw8.CellFrames': WHATEVER THE INPUT: true; the input reads as it did. -/
def cellFramesSpec : ChangeSpec := { name := "cellFrames", fn := fun _ => fun
  | [d1, d2] => { results := [.lit (.bool true)], args := [d1, d2] }
  | _ => none }
def cellFramesRow : OpenClaim := { program := "ytomibdncbioijaa", sum := "20b7e1c3a74ca8392a2a1d1268b0065901a637d71be767dfbf0470e352824a11", func := "campanile/campanilelaw8.CellFrames", spec := "cellFrames", inPlace := ["slices.overlaps[campanile/api.Cell]"], unfollowed := true, recurses := true, apart := false }
def CellFramesSaid : Prop := cellFramesRow.holds Try.pinned (OpenSpec.ofChange cellFramesSpec)

/-- ITS FALSE NEIGHBOUR: 'it returns false'. Refute it at one input. -/
def cellFramesWrong : ChangeSpec := { name := "cellFrames", fn := fun _ => fun
  | [d1, d2] => { results := [.lit (.bool false)], args := [d1, d2] }
  | _ => none }
def CellFramesWrongFalsely : Prop := cellFramesRow.holds Try.pinned (OpenSpec.ofChange cellFramesWrong)

/-- 'campanilelaw8.CellApart': WHATEVER THE INPUT: true; the input reads as it did. -/
def cellApartSpec : ChangeSpec := { name := "cellApart", fn := fun _ => fun
  | [d1, d2] => { results := [.lit (.bool true)], args := [d1, d2] }
  | _ => none }
def cellApartRow : OpenClaim := { program := "ytomibdncbioijaa", sum := "20b7e1c3a74ca8392a2a1d1268b0065901a637d71be767dfbf0470e352824a11", func := "campanile/campanilelaw8.CellApart", spec := "cellApart", inPlace := ["slices.overlaps[campanile/api.Cell]"], unfollowed := true, recurses := true, apart := false }
def CellApartSaid : Prop := cellApartRow.holds Try.pinned (OpenSpec.ofChange cellApartSpec)

/-- ITS FALSE NEIGHBOUR: 'it returns false'. Refute it at one input. -/
def cellApartWrong : ChangeSpec := { name := "cellApart", fn := fun _ => fun
  | [d1, d2] => { results := [.lit (.bool false)], args := [d1, d2] }
  | _ => none }
def CellApartWrongFalsely : Prop := cellApartRow.holds Try.pinned (OpenSpec.ofChange cellApartWrong)

/-- 'campanilelaw8.CellPlays': WHATEVER THE INPUT: true; the input reads as it did. -/
def cellPlaysSpec : ChangeSpec := { name := "cellPlays", fn := fun _ => fun
  | [d1, d2] => { results := [.lit (.bool true)], args := [d1, d2] }
  | _ => none }
def cellPlaysRow : OpenClaim := { program := "ytomibdncbioijaa", sum := "20b7e1c3a74ca8392a2a1d1268b0065901a637d71be767dfbf0470e352824a11", func := "campanile/campanilelaw8.CellPlays", spec := "cellPlays", inPlace := ["slices.overlaps[campanile/api.Cell]"], unfollowed := true, recurses := true, apart := false }
def CellPlaysSaid : Prop := cellPlaysRow.holds Try.pinned (OpenSpec.ofChange cellPlaysSpec)

/-- ITS FALSE NEIGHBOUR: 'it returns false'. Refute it at one input. -/
def cellPlaysWrong : ChangeSpec := { name := "cellPlays", fn := fun _ => fun
  | [d1, d2] => { results := [.lit (.bool false)], args := [d1, d2] }
  | _ => none }
def CellPlaysWrongFalsely : Prop := cellPlaysRow.holds Try.pinned (OpenSpec.ofChange cellPlaysWrong)

/-- 'campanilelaw8.CellNil': WHATEVER THE INPUT: true; the input reads as it did. -/
def cellNilSpec : ChangeSpec := { name := "cellNil", fn := fun _ => fun
  | [d1, d2] => { results := [.lit (.bool true)], args := [d1, d2] }
  | _ => none }
def cellNilRow : OpenClaim := { program := "ytomibdncbioijaa", sum := "20b7e1c3a74ca8392a2a1d1268b0065901a637d71be767dfbf0470e352824a11", func := "campanile/campanilelaw8.CellNil", spec := "cellNil", inPlace := ["slices.overlaps[campanile/api.Cell]"], unfollowed := true, recurses := true, apart := false }
def CellNilSaid : Prop := cellNilRow.holds Try.pinned (OpenSpec.ofChange cellNilSpec)

/-- ITS FALSE NEIGHBOUR: 'it returns false'. Refute it at one input. -/
def cellNilWrong : ChangeSpec := { name := "cellNil", fn := fun _ => fun
  | [d1, d2] => { results := [.lit (.bool false)], args := [d1, d2] }
  | _ => none }
def CellNilWrongFalsely : Prop := cellNilRow.holds Try.pinned (OpenSpec.ofChange cellNilWrong)

/- THE SECOND FORM. 'bulk': how many values and letters a reading holds, each counted each time it is reached (what is shared counts as often as it is met; a slice's spare places count too). A statement '..UptoSaid' is the law's where the arguments, and the package variables that the reading takes, are together of bulk at most 1048576: NARROWER than '..Said'. Prove '..Said' where nothing that the law and all that it calls make is longer than what came in: it says more and counts as full. Else prove '..UptoSaid'. A law counts once. -/
mutual
def uptoBulk {H : Type} : DataW H → Nat
  | .lit (.string bytes) => bytes.length + 1
  | .lit _ => 1
  | .nil => 1
  | .ptr d => uptoBulk d + 1
  | .slice elems spare => uptoBulkAll elems + uptoBulkAll spare + 1
  | .agg parts => uptoBulkAll parts + 1
  | .iface _ d => uptoBulk d + 1
  | .map entries => uptoBulkEntries entries + 1
  | .held _ => 1
def uptoBulkAll {H : Type} : List (DataW H) → Nat
  | [] => 0
  | d :: r => uptoBulk d + uptoBulkAll r
def uptoBulkEntries {H : Type} : List (Lit × DataW H) → Nat
  | [] => 0
  | x :: r => uptoBulkEntry x + uptoBulkEntries r
def uptoBulkEntry {H : Type} : Lit × DataW H → Nat
  | (.string bytes, d) => bytes.length + uptoBulk d + 1
  | (_, d) => uptoBulk d + 1
 end
def uptoSmall : (H : Type) → List (DataW H) → Bool := fun _ ds => decide (uptoBulkAll ds ≤ 1048576)
def OpenSpec.upto (s : _root_.Go.ChangeSpec) : _root_.Go.OpenSpec := { _root_.Go.OpenSpec.ofChange s with cond := some uptoSmall }

/-- 'campanilelaw9.SlotForms', WHERE WHAT IT READS IS OF BULK AT MOST 1048576: true; the input reads as it did. -/
def slotFormsUptoRow : OpenClaim := { program := "ytomibdncbioijaa", sum := "20b7e1c3a74ca8392a2a1d1268b0065901a637d71be767dfbf0470e352824a11", func := "campanile/campanilelaw9.SlotForms", spec := "slotForms", unfollowed := true, recurses := true, apart := false, narrowed := true }
def SlotFormsUptoSaid : Prop := slotFormsUptoRow.holds Try.pinned (OpenSpec.upto slotFormsSpec)

/-- 'campanilelaw9.SlotFirst', WHERE WHAT IT READS IS OF BULK AT MOST 1048576: true; the input reads as it did. -/
def slotFirstUptoRow : OpenClaim := { program := "ytomibdncbioijaa", sum := "20b7e1c3a74ca8392a2a1d1268b0065901a637d71be767dfbf0470e352824a11", func := "campanile/campanilelaw9.SlotFirst", spec := "slotFirst", unfollowed := true, recurses := true, apart := false, narrowed := true }
def SlotFirstUptoSaid : Prop := slotFirstUptoRow.holds Try.pinned (OpenSpec.upto slotFirstSpec)

/-- 'campanilelaw9.SlotWaits', WHERE WHAT IT READS IS OF BULK AT MOST 1048576: true; the input reads as it did. -/
def slotWaitsUptoRow : OpenClaim := { program := "ytomibdncbioijaa", sum := "20b7e1c3a74ca8392a2a1d1268b0065901a637d71be767dfbf0470e352824a11", func := "campanile/campanilelaw9.SlotWaits", spec := "slotWaits", unfollowed := true, recurses := true, apart := false, narrowed := true }
def SlotWaitsUptoSaid : Prop := slotWaitsUptoRow.holds Try.pinned (OpenSpec.upto slotWaitsSpec)

/-- 'campanilelaw8.CellRound', WHERE WHAT IT READS IS OF BULK AT MOST 1048576: true; the input reads as it did. -/
def cellRoundUptoRow : OpenClaim := { program := "ytomibdncbioijaa", sum := "20b7e1c3a74ca8392a2a1d1268b0065901a637d71be767dfbf0470e352824a11", func := "campanile/campanilelaw8.CellRound", spec := "cellRound", inPlace := ["slices.overlaps[campanile/api.Cell]"], unfollowed := true, recurses := true, apart := false, narrowed := true }
def CellRoundUptoSaid : Prop := cellRoundUptoRow.holds Try.pinned (OpenSpec.upto cellRoundSpec)

/-- 'campanilelaw8.CellLess', WHERE WHAT IT READS IS OF BULK AT MOST 1048576: true; the input reads as it did. -/
def cellLessUptoRow : OpenClaim := { program := "ytomibdncbioijaa", sum := "20b7e1c3a74ca8392a2a1d1268b0065901a637d71be767dfbf0470e352824a11", func := "campanile/campanilelaw8.CellLess", spec := "cellLess", inPlace := ["slices.overlaps[campanile/api.Cell]"], unfollowed := true, recurses := true, apart := false, narrowed := true }
def CellLessUptoSaid : Prop := cellLessUptoRow.holds Try.pinned (OpenSpec.upto cellLessSpec)

/-- 'campanilelaw8.CellFrames', WHERE WHAT IT READS IS OF BULK AT MOST 1048576: true; the input reads as it did. -/
def cellFramesUptoRow : OpenClaim := { program := "ytomibdncbioijaa", sum := "20b7e1c3a74ca8392a2a1d1268b0065901a637d71be767dfbf0470e352824a11", func := "campanile/campanilelaw8.CellFrames", spec := "cellFrames", inPlace := ["slices.overlaps[campanile/api.Cell]"], unfollowed := true, recurses := true, apart := false, narrowed := true }
def CellFramesUptoSaid : Prop := cellFramesUptoRow.holds Try.pinned (OpenSpec.upto cellFramesSpec)

/-- 'campanilelaw8.CellApart', WHERE WHAT IT READS IS OF BULK AT MOST 1048576: true; the input reads as it did. -/
def cellApartUptoRow : OpenClaim := { program := "ytomibdncbioijaa", sum := "20b7e1c3a74ca8392a2a1d1268b0065901a637d71be767dfbf0470e352824a11", func := "campanile/campanilelaw8.CellApart", spec := "cellApart", inPlace := ["slices.overlaps[campanile/api.Cell]"], unfollowed := true, recurses := true, apart := false, narrowed := true }
def CellApartUptoSaid : Prop := cellApartUptoRow.holds Try.pinned (OpenSpec.upto cellApartSpec)

/-- 'campanilelaw8.CellPlays', WHERE WHAT IT READS IS OF BULK AT MOST 1048576: true; the input reads as it did. -/
def cellPlaysUptoRow : OpenClaim := { program := "ytomibdncbioijaa", sum := "20b7e1c3a74ca8392a2a1d1268b0065901a637d71be767dfbf0470e352824a11", func := "campanile/campanilelaw8.CellPlays", spec := "cellPlays", inPlace := ["slices.overlaps[campanile/api.Cell]"], unfollowed := true, recurses := true, apart := false, narrowed := true }
def CellPlaysUptoSaid : Prop := cellPlaysUptoRow.holds Try.pinned (OpenSpec.upto cellPlaysSpec)

/-- 'campanilelaw8.CellNil', WHERE WHAT IT READS IS OF BULK AT MOST 1048576: true; the input reads as it did. -/
def cellNilUptoRow : OpenClaim := { program := "ytomibdncbioijaa", sum := "20b7e1c3a74ca8392a2a1d1268b0065901a637d71be767dfbf0470e352824a11", func := "campanile/campanilelaw8.CellNil", spec := "cellNil", inPlace := ["slices.overlaps[campanile/api.Cell]"], unfollowed := true, recurses := true, apart := false, narrowed := true }
def CellNilUptoSaid : Prop := cellNilUptoRow.holds Try.pinned (OpenSpec.upto cellNilSpec)

end Rows
end Go.Proofs.Ytomibdncbioijaa
