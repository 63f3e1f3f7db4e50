/-
  No cell of these rows narrows 'for every input' (looked for: loops, veiled, ifaces, maps, wideKeys, modest, calm, conditions, laid).
  DERIVED. THE GIVEN ROWS OF THIS SEAT. 10 by the template 'for every input the law returns true; each argument reads behind the call as it read before'; 0 by the template 'total and deterministic' (their statements: YtbfjajoekcbodaaTotals.lean).
  GIVEN WITH THE SEED: the statements are not yours to turn. If you find one false, say at which input.
  Laid BY PROGRAM, IN A SANDBOX (cutbox-rows.mjs): the forced cells as the released guide's own fill.sh prints them over the translation f0330e75e450ce27… (all of the seat's roots in one cut). By AI agents, Wed Nov 11 2026. No macro, syntax, notation, axiom, sorry.
-/
import Derived.Test.YtbfjajoekcbodaaChecked
import GoSem.Claim
import GoSem.ClaimJoined
import GoSem.ClaimMapViews
import Derived.JoinedTies
import Derived.KernelRfl
namespace Go.Proofs.Ytbfjajoekcbodaa
/- THE CELL 'sum', in the pinned program and in every row, IS THE sha256 OF THE DUMP (.gsa) THAT YtbfjajoekcbodaaProg.lean LOADS. Nothing in Lean hashes anything: it is a label: what it is worth is what the hold of that sum in a sandbox is worth. -/
noncomputable def Try.pinned : Pinned := { name := "ytbfjajoekcbodaa", sum := "f0330e75e450ce27cf81782dbb90083d8869b7d4ea2f48c5050169989f948c0c", checked := Try.checked }
namespace Rows
def none {H : Type} : Left H := { results := [], args := [] }

/-- 'campanilelaw6.IeFields': WHATEVER THE INPUT: true; the input reads as it did. -/
def ieFieldsSpec : ChangeSpec := { name := "ieFields", fn := fun _ => fun
  | [d1, d2] => { results := [.lit (.bool true)], args := [d1, d2] }
  | _ => none }
def ieFieldsRow : OpenClaim := { program := "ytbfjajoekcbodaa", sum := "f0330e75e450ce27cf81782dbb90083d8869b7d4ea2f48c5050169989f948c0c", func := "campanile/campanilelaw6.IeFields", spec := "ieFields", unfollowed := true, recurses := true, apart := false }
def IeFieldsSaid : Prop := ieFieldsRow.holds Try.pinned (OpenSpec.ofChange ieFieldsSpec)

/-- ITS FALSE NEIGHBOUR: 'it returns false'. Refute it at one input. -/
def ieFieldsWrong : ChangeSpec := { name := "ieFields", fn := fun _ => fun
  | [d1, d2] => { results := [.lit (.bool false)], args := [d1, d2] }
  | _ => none }
def IeFieldsWrongFalsely : Prop := ieFieldsRow.holds Try.pinned (OpenSpec.ofChange ieFieldsWrong)

/-- 'campanilelaw6.IeForms': WHATEVER THE INPUT: true; the input reads as it did. -/
def ieFormsSpec : ChangeSpec := { name := "ieForms", fn := fun _ => fun
  | [d1, d2] => { results := [.lit (.bool true)], args := [d1, d2] }
  | _ => none }
def ieFormsRow : OpenClaim := { program := "ytbfjajoekcbodaa", sum := "f0330e75e450ce27cf81782dbb90083d8869b7d4ea2f48c5050169989f948c0c", func := "campanile/campanilelaw6.IeForms", spec := "ieForms", unfollowed := true, recurses := true, apart := false }
def IeFormsSaid : Prop := ieFormsRow.holds Try.pinned (OpenSpec.ofChange ieFormsSpec)

/-- ITS FALSE NEIGHBOUR: 'it returns false'. Refute it at one input. -/
def ieFormsWrong : ChangeSpec := { name := "ieForms", fn := fun _ => fun
  | [d1, d2] => { results := [.lit (.bool false)], args := [d1, d2] }
  | _ => none }
def IeFormsWrongFalsely : Prop := ieFormsRow.holds Try.pinned (OpenSpec.ofChange ieFormsWrong)

/-- 'campanilelaw6.IeFinds': WHATEVER THE INPUT: true; the input reads as it did. -/
def ieFindsSpec : ChangeSpec := { name := "ieFinds", fn := fun _ => fun
  | [d1, d2] => { results := [.lit (.bool true)], args := [d1, d2] }
  | _ => none }
def ieFindsRow : OpenClaim := { program := "ytbfjajoekcbodaa", sum := "f0330e75e450ce27cf81782dbb90083d8869b7d4ea2f48c5050169989f948c0c", func := "campanile/campanilelaw6.IeFinds", spec := "ieFinds", unfollowed := true, recurses := true, apart := false }
def IeFindsSaid : Prop := ieFindsRow.holds Try.pinned (OpenSpec.ofChange ieFindsSpec)

/-- ITS FALSE NEIGHBOUR: 'it returns false'. Refute it at one input. -/
def ieFindsWrong : ChangeSpec := { name := "ieFinds", fn := fun _ => fun
  | [d1, d2] => { results := [.lit (.bool false)], args := [d1, d2] }
  | _ => none }
def IeFindsWrongFalsely : Prop := ieFindsRow.holds Try.pinned (OpenSpec.ofChange ieFindsWrong)

/-- 'campanilelaw6.IeDecodes': WHATEVER THE INPUT: true; the input reads as it did. -/
def ieDecodesSpec : ChangeSpec := { name := "ieDecodes", fn := fun _ => fun
  | [d1, d2, d3, d4, d5] => { results := [.lit (.bool true)], args := [d1, d2, d3, d4, d5] }
  | _ => none }
def ieDecodesRow : OpenClaim := { program := "ytbfjajoekcbodaa", sum := "f0330e75e450ce27cf81782dbb90083d8869b7d4ea2f48c5050169989f948c0c", func := "campanile/campanilelaw6.IeDecodes", spec := "ieDecodes", unfollowed := true, recurses := true, apart := false }
def IeDecodesSaid : Prop := ieDecodesRow.holds Try.pinned (OpenSpec.ofChange ieDecodesSpec)

/-- ITS FALSE NEIGHBOUR: 'it returns false'. Refute it at one input. -/
def ieDecodesWrong : ChangeSpec := { name := "ieDecodes", fn := fun _ => fun
  | [d1, d2, d3, d4, d5] => { results := [.lit (.bool false)], args := [d1, d2, d3, d4, d5] }
  | _ => none }
def IeDecodesWrongFalsely : Prop := ieDecodesRow.holds Try.pinned (OpenSpec.ofChange ieDecodesWrong)

/-- 'campanilelaw7.FrameDecodes': WHATEVER THE INPUT: true; the input reads as it did. -/
def frameDecodesSpec : ChangeSpec := { name := "frameDecodes", fn := fun _ => fun
  | [d1, d2, d3, d4, d5, d6, d7] => { results := [.lit (.bool true)], args := [d1, d2, d3, d4, d5, d6, d7] }
  | _ => none }
def frameDecodesRow : OpenClaim := { program := "ytbfjajoekcbodaa", sum := "f0330e75e450ce27cf81782dbb90083d8869b7d4ea2f48c5050169989f948c0c", func := "campanile/campanilelaw7.FrameDecodes", spec := "frameDecodes", unfollowed := true, recurses := true, apart := false }
def FrameDecodesSaid : Prop := frameDecodesRow.holds Try.pinned (OpenSpec.ofChange frameDecodesSpec)

/-- ITS FALSE NEIGHBOUR: 'it returns false'. Refute it at one input. -/
def frameDecodesWrong : ChangeSpec := { name := "frameDecodes", fn := fun _ => fun
  | [d1, d2, d3, d4, d5, d6, d7] => { results := [.lit (.bool false)], args := [d1, d2, d3, d4, d5, d6, d7] }
  | _ => none }
def FrameDecodesWrongFalsely : Prop := frameDecodesRow.holds Try.pinned (OpenSpec.ofChange frameDecodesWrong)

/-- 'campanilelaw7.FrameBack': WHATEVER THE INPUT: true; the input reads as it did. -/
def frameBackSpec : ChangeSpec := { name := "frameBack", fn := fun _ => fun
  | [d1, d2, d3, d4, d5] => { results := [.lit (.bool true)], args := [d1, d2, d3, d4, d5] }
  | _ => none }
def frameBackRow : OpenClaim := { program := "ytbfjajoekcbodaa", sum := "f0330e75e450ce27cf81782dbb90083d8869b7d4ea2f48c5050169989f948c0c", func := "campanile/campanilelaw7.FrameBack", spec := "frameBack", unfollowed := true, recurses := true, apart := false }
def FrameBackSaid : Prop := frameBackRow.holds Try.pinned (OpenSpec.ofChange frameBackSpec)

/-- ITS FALSE NEIGHBOUR: 'it returns false'. Refute it at one input. -/
def frameBackWrong : ChangeSpec := { name := "frameBack", fn := fun _ => fun
  | [d1, d2, d3, d4, d5] => { results := [.lit (.bool false)], args := [d1, d2, d3, d4, d5] }
  | _ => none }
def FrameBackWrongFalsely : Prop := frameBackRow.holds Try.pinned (OpenSpec.ofChange frameBackWrong)

/-- 'campanilelaw7.FrameLengths': WHATEVER THE INPUT: true; the input reads as it did. -/
def frameLengthsSpec : ChangeSpec := { name := "frameLengths", fn := fun _ => fun
  | [d] => { results := [.lit (.bool true)], args := [d] }
  | _ => none }
def frameLengthsRow : OpenClaim := { program := "ytbfjajoekcbodaa", sum := "f0330e75e450ce27cf81782dbb90083d8869b7d4ea2f48c5050169989f948c0c", func := "campanile/campanilelaw7.FrameLengths", spec := "frameLengths", unfollowed := true, recurses := true, apart := false }
def FrameLengthsSaid : Prop := frameLengthsRow.holds Try.pinned (OpenSpec.ofChange frameLengthsSpec)

/-- ITS FALSE NEIGHBOUR: 'it returns false'. Refute it at one input. -/
def frameLengthsWrong : ChangeSpec := { name := "frameLengths", fn := fun _ => fun
  | [d] => { results := [.lit (.bool false)], args := [d] }
  | _ => none }
def FrameLengthsWrongFalsely : Prop := frameLengthsRow.holds Try.pinned (OpenSpec.ofChange frameLengthsWrong)

/-- 'campanilelaw7.FrameForms': WHATEVER THE INPUT: true; the input reads as it did. -/
def frameFormsSpec : ChangeSpec := { name := "frameForms", fn := fun _ => fun
  | [d1, d2] => { results := [.lit (.bool true)], args := [d1, d2] }
  | _ => none }
def frameFormsRow : OpenClaim := { program := "ytbfjajoekcbodaa", sum := "f0330e75e450ce27cf81782dbb90083d8869b7d4ea2f48c5050169989f948c0c", func := "campanile/campanilelaw7.FrameForms", spec := "frameForms", unfollowed := true, recurses := true, apart := false }
def FrameFormsSaid : Prop := frameFormsRow.holds Try.pinned (OpenSpec.ofChange frameFormsSpec)

/-- ITS FALSE NEIGHBOUR: 'it returns false'. Refute it at one input. -/
def frameFormsWrong : ChangeSpec := { name := "frameForms", fn := fun _ => fun
  | [d1, d2] => { results := [.lit (.bool false)], args := [d1, d2] }
  | _ => none }
def FrameFormsWrongFalsely : Prop := frameFormsRow.holds Try.pinned (OpenSpec.ofChange frameFormsWrong)

/-- 'campanilelaw7.FrameShort': WHATEVER THE INPUT: true; the input reads as it did. -/
def frameShortSpec : ChangeSpec := { name := "frameShort", fn := fun _ => fun
  | [d1, d2] => { results := [.lit (.bool true)], args := [d1, d2] }
  | _ => none }
def frameShortRow : OpenClaim := { program := "ytbfjajoekcbodaa", sum := "f0330e75e450ce27cf81782dbb90083d8869b7d4ea2f48c5050169989f948c0c", func := "campanile/campanilelaw7.FrameShort", spec := "frameShort", unfollowed := true, recurses := true, apart := false }
def FrameShortSaid : Prop := frameShortRow.holds Try.pinned (OpenSpec.ofChange frameShortSpec)

/-- ITS FALSE NEIGHBOUR: 'it returns false'. Refute it at one input. -/
def frameShortWrong : ChangeSpec := { name := "frameShort", fn := fun _ => fun
  | [d1, d2] => { results := [.lit (.bool false)], args := [d1, d2] }
  | _ => none }
def FrameShortWrongFalsely : Prop := frameShortRow.holds Try.pinned (OpenSpec.ofChange frameShortWrong)

/-- 'campanilelaw7.FrameOne': WHATEVER THE INPUT: true; the input reads as it did. -/
def frameOneSpec : ChangeSpec := { name := "frameOne", fn := fun _ => fun
  | [d1, d2] => { results := [.lit (.bool true)], args := [d1, d2] }
  | _ => none }
def frameOneRow : OpenClaim := { program := "ytbfjajoekcbodaa", sum := "f0330e75e450ce27cf81782dbb90083d8869b7d4ea2f48c5050169989f948c0c", func := "campanile/campanilelaw7.FrameOne", spec := "frameOne", unfollowed := true, recurses := true, apart := false }
def FrameOneSaid : Prop := frameOneRow.holds Try.pinned (OpenSpec.ofChange frameOneSpec)

/-- ITS FALSE NEIGHBOUR: 'it returns false'. Refute it at one input. -/
def frameOneWrong : ChangeSpec := { name := "frameOne", fn := fun _ => fun
  | [d1, d2] => { results := [.lit (.bool false)], args := [d1, d2] }
  | _ => none }
def FrameOneWrongFalsely : Prop := frameOneRow.holds Try.pinned (OpenSpec.ofChange frameOneWrong)

/- THE SECOND FORM. 'bulk': how many values and letters a reading holds, each counted each time it is reached (what is shared counts as often as it is met; a slice's spare places count too). A statement '..UptoSaid' is the law's where the arguments, and the package variables that the reading takes, are together of bulk at most 1048576: NARROWER than '..Said'. Prove '..Said' where nothing that the law and all that it calls make is longer than what came in: it says more and counts as full. Else prove '..UptoSaid'. A law counts once. -/
mutual
def uptoBulk {H : Type} : DataW H → Nat
  | .lit (.string bytes) => bytes.length + 1
  | .lit _ => 1
  | .nil => 1
  | .ptr d => uptoBulk d + 1
  | .slice elems spare => uptoBulkAll elems + uptoBulkAll spare + 1
  | .agg parts => uptoBulkAll parts + 1
  | .iface _ d => uptoBulk d + 1
  | .map entries => uptoBulkEntries entries + 1
  | .held _ => 1
def uptoBulkAll {H : Type} : List (DataW H) → Nat
  | [] => 0
  | d :: r => uptoBulk d + uptoBulkAll r
def uptoBulkEntries {H : Type} : List (Lit × DataW H) → Nat
  | [] => 0
  | x :: r => uptoBulkEntry x + uptoBulkEntries r
def uptoBulkEntry {H : Type} : Lit × DataW H → Nat
  | (.string bytes, d) => bytes.length + uptoBulk d + 1
  | (_, d) => uptoBulk d + 1
 end
def uptoSmall : (H : Type) → List (DataW H) → Bool := fun _ ds => decide (uptoBulkAll ds ≤ 1048576)
def OpenSpec.upto (s : _root_.Go.ChangeSpec) : _root_.Go.OpenSpec := { _root_.Go.OpenSpec.ofChange s with cond := some uptoSmall }

/-- 'campanilelaw6.IeFields', WHERE WHAT IT READS IS OF BULK AT MOST 1048576: true; the input reads as it did. -/
def ieFieldsUptoRow : OpenClaim := { program := "ytbfjajoekcbodaa", sum := "f0330e75e450ce27cf81782dbb90083d8869b7d4ea2f48c5050169989f948c0c", func := "campanile/campanilelaw6.IeFields", spec := "ieFields", unfollowed := true, recurses := true, apart := false, narrowed := true }
def IeFieldsUptoSaid : Prop := ieFieldsUptoRow.holds Try.pinned (OpenSpec.upto ieFieldsSpec)

/-- 'campanilelaw6.IeForms', WHERE WHAT IT READS IS OF BULK AT MOST 1048576: true; the input reads as it did. -/
def ieFormsUptoRow : OpenClaim := { program := "ytbfjajoekcbodaa", sum := "f0330e75e450ce27cf81782dbb90083d8869b7d4ea2f48c5050169989f948c0c", func := "campanile/campanilelaw6.IeForms", spec := "ieForms", unfollowed := true, recurses := true, apart := false, narrowed := true }
def IeFormsUptoSaid : Prop := ieFormsUptoRow.holds Try.pinned (OpenSpec.upto ieFormsSpec)

/-- 'campanilelaw6.IeFinds', WHERE WHAT IT READS IS OF BULK AT MOST 1048576: true; the input reads as it did. -/
def ieFindsUptoRow : OpenClaim := { program := "ytbfjajoekcbodaa", sum := "f0330e75e450ce27cf81782dbb90083d8869b7d4ea2f48c5050169989f948c0c", func := "campanile/campanilelaw6.IeFinds", spec := "ieFinds", unfollowed := true, recurses := true, apart := false, narrowed := true }
def IeFindsUptoSaid : Prop := ieFindsUptoRow.holds Try.pinned (OpenSpec.upto ieFindsSpec)

/-- 'campanilelaw6.IeDecodes', WHERE WHAT IT READS IS OF BULK AT MOST 1048576: true; the input reads as it did. -/
def ieDecodesUptoRow : OpenClaim := { program := "ytbfjajoekcbodaa", sum := "f0330e75e450ce27cf81782dbb90083d8869b7d4ea2f48c5050169989f948c0c", func := "campanile/campanilelaw6.IeDecodes", spec := "ieDecodes", unfollowed := true, recurses := true, apart := false, narrowed := true }
def IeDecodesUptoSaid : Prop := ieDecodesUptoRow.holds Try.pinned (OpenSpec.upto ieDecodesSpec)

/-- 'campanilelaw7.FrameDecodes', WHERE WHAT IT READS IS OF BULK AT MOST 1048576: true; the input reads as it did. -/
def frameDecodesUptoRow : OpenClaim := { program := "ytbfjajoekcbodaa", sum := "f0330e75e450ce27cf81782dbb90083d8869b7d4ea2f48c5050169989f948c0c", func := "campanile/campanilelaw7.FrameDecodes", spec := "frameDecodes", unfollowed := true, recurses := true, apart := false, narrowed := true }
def FrameDecodesUptoSaid : Prop := frameDecodesUptoRow.holds Try.pinned (OpenSpec.upto frameDecodesSpec)

/-- 'campanilelaw7.FrameBack', WHERE WHAT IT READS IS OF BULK AT MOST 1048576: true; the input reads as it did. -/
def frameBackUptoRow : OpenClaim := { program := "ytbfjajoekcbodaa", sum := "f0330e75e450ce27cf81782dbb90083d8869b7d4ea2f48c5050169989f948c0c", func := "campanile/campanilelaw7.FrameBack", spec := "frameBack", unfollowed := true, recurses := true, apart := false, narrowed := true }
def FrameBackUptoSaid : Prop := frameBackUptoRow.holds Try.pinned (OpenSpec.upto frameBackSpec)

/-- 'campanilelaw7.FrameLengths', WHERE WHAT IT READS IS OF BULK AT MOST 1048576: true; the input reads as it did. -/
def frameLengthsUptoRow : OpenClaim := { program := "ytbfjajoekcbodaa", sum := "f0330e75e450ce27cf81782dbb90083d8869b7d4ea2f48c5050169989f948c0c", func := "campanile/campanilelaw7.FrameLengths", spec := "frameLengths", unfollowed := true, recurses := true, apart := false, narrowed := true }
def FrameLengthsUptoSaid : Prop := frameLengthsUptoRow.holds Try.pinned (OpenSpec.upto frameLengthsSpec)

/-- 'campanilelaw7.FrameForms', WHERE WHAT IT READS IS OF BULK AT MOST 1048576: true; the input reads as it did. -/
def frameFormsUptoRow : OpenClaim := { program := "ytbfjajoekcbodaa", sum := "f0330e75e450ce27cf81782dbb90083d8869b7d4ea2f48c5050169989f948c0c", func := "campanile/campanilelaw7.FrameForms", spec := "frameForms", unfollowed := true, recurses := true, apart := false, narrowed := true }
def FrameFormsUptoSaid : Prop := frameFormsUptoRow.holds Try.pinned (OpenSpec.upto frameFormsSpec)

/-- 'campanilelaw7.FrameShort', WHERE WHAT IT READS IS OF BULK AT MOST 1048576: true; the input reads as it did. -/
def frameShortUptoRow : OpenClaim := { program := "ytbfjajoekcbodaa", sum := "f0330e75e450ce27cf81782dbb90083d8869b7d4ea2f48c5050169989f948c0c", func := "campanile/campanilelaw7.FrameShort", spec := "frameShort", unfollowed := true, recurses := true, apart := false, narrowed := true }
def FrameShortUptoSaid : Prop := frameShortUptoRow.holds Try.pinned (OpenSpec.upto frameShortSpec)

/-- 'campanilelaw7.FrameOne', WHERE WHAT IT READS IS OF BULK AT MOST 1048576: true; the input reads as it did. -/
def frameOneUptoRow : OpenClaim := { program := "ytbfjajoekcbodaa", sum := "f0330e75e450ce27cf81782dbb90083d8869b7d4ea2f48c5050169989f948c0c", func := "campanile/campanilelaw7.FrameOne", spec := "frameOne", unfollowed := true, recurses := true, apart := false, narrowed := true }
def FrameOneUptoSaid : Prop := frameOneUptoRow.holds Try.pinned (OpenSpec.upto frameOneSpec)

end Rows
end Go.Proofs.Ytbfjajoekcbodaa
