/-
  No cell of these rows narrows 'for every input' (looked for: loops, veiled, ifaces, maps, wideKeys, modest, calm, conditions, laid).
  DERIVED. THE GIVEN ROWS OF THIS SEAT. 9 by the template 'for every input the law returns true; each argument reads behind the call as it read before'; 0 by the template 'total and deterministic' (their statements: YtnpogbgialgkhaaTotals.lean).
  GIVEN WITH THE SEED: the statements are not yours to turn. If you find one false, say at which input.
  Laid BY PROGRAM, IN A SANDBOX (cutbox-rows.mjs): the forced cells as the released guide's own fill.sh prints them over the translation 10c63f8d567c60f2… (all of the seat's roots in one cut). By AI agents, Wed Nov 11 2026. No macro, syntax, notation, axiom, sorry.
-/
import Derived.Test.YtnpogbgialgkhaaChecked
import GoSem.Claim
import GoSem.ClaimJoined
import GoSem.ClaimMapViews
import Derived.JoinedTies
import Derived.KernelRfl
namespace Go.Proofs.Ytnpogbgialgkhaa
/- THE CELL 'sum', in the pinned program and in every row, IS THE sha256 OF THE DUMP (.gsa) THAT YtnpogbgialgkhaaProg.lean LOADS. Nothing in Lean hashes anything: it is a label: what it is worth is what the hold of that sum in a sandbox is worth. -/
noncomputable def Try.pinned : Pinned := { name := "ytnpogbgialgkhaa", sum := "10c63f8d567c60f238635460bd68c6d8e0c0d4b848882e5fd80df9e4152bbf99", checked := Try.checked }
namespace Rows
def none {H : Type} : Left H := { results := [], args := [] }

/-- 'campanilelaw10.QueueMoves': WHATEVER THE INPUT: true; the input reads as it did. -/
def queueMovesSpec : ChangeSpec := { name := "queueMoves", fn := fun _ => fun
  | [d1, d2, d3] => { results := [.lit (.bool true)], args := [d1, d2, d3] }
  | _ => none }
def queueMovesRow : OpenClaim := { program := "ytnpogbgialgkhaa", sum := "10c63f8d567c60f238635460bd68c6d8e0c0d4b848882e5fd80df9e4152bbf99", func := "campanile/campanilelaw10.QueueMoves", spec := "queueMoves", apart := false }
def QueueMovesSaid : Prop := queueMovesRow.holds Try.pinned (OpenSpec.ofChange queueMovesSpec)

/-- ITS FALSE NEIGHBOUR: 'it returns false'. Refute it at one input. -/
def queueMovesWrong : ChangeSpec := { name := "queueMoves", fn := fun _ => fun
  | [d1, d2, d3] => { results := [.lit (.bool false)], args := [d1, d2, d3] }
  | _ => none }
def QueueMovesWrongFalsely : Prop := queueMovesRow.holds Try.pinned (OpenSpec.ofChange queueMovesWrong)

/-- 'campanilelaw10.QueueOwn': WHATEVER THE INPUT: true; the input reads as it did. -/
def queueOwnSpec : ChangeSpec := { name := "queueOwn", fn := fun _ => fun
  | [d] => { results := [.lit (.bool true)], args := [d] }
  | _ => none }
def queueOwnRow : OpenClaim := { program := "ytnpogbgialgkhaa", sum := "10c63f8d567c60f238635460bd68c6d8e0c0d4b848882e5fd80df9e4152bbf99", func := "campanile/campanilelaw10.QueueOwn", spec := "queueOwn", apart := false }
def QueueOwnSaid : Prop := queueOwnRow.holds Try.pinned (OpenSpec.ofChange queueOwnSpec)

/-- ITS FALSE NEIGHBOUR: 'it returns false'. Refute it at one input. -/
def queueOwnWrong : ChangeSpec := { name := "queueOwn", fn := fun _ => fun
  | [d] => { results := [.lit (.bool false)], args := [d] }
  | _ => none }
def QueueOwnWrongFalsely : Prop := queueOwnRow.holds Try.pinned (OpenSpec.ofChange queueOwnWrong)

/-- 'campanilelaw10.QueueOrder': WHATEVER THE INPUT: true; the input reads as it did. -/
def queueOrderSpec : ChangeSpec := { name := "queueOrder", fn := fun _ => fun
  | [d1, d2] => { results := [.lit (.bool true)], args := [d1, d2] }
  | _ => none }
def queueOrderRow : OpenClaim := { program := "ytnpogbgialgkhaa", sum := "10c63f8d567c60f238635460bd68c6d8e0c0d4b848882e5fd80df9e4152bbf99", func := "campanile/campanilelaw10.QueueOrder", spec := "queueOrder", apart := false }
def QueueOrderSaid : Prop := queueOrderRow.holds Try.pinned (OpenSpec.ofChange queueOrderSpec)

/-- ITS FALSE NEIGHBOUR: 'it returns false'. Refute it at one input. -/
def queueOrderWrong : ChangeSpec := { name := "queueOrder", fn := fun _ => fun
  | [d1, d2] => { results := [.lit (.bool false)], args := [d1, d2] }
  | _ => none }
def QueueOrderWrongFalsely : Prop := queueOrderRow.holds Try.pinned (OpenSpec.ofChange queueOrderWrong)

/-- 'campanilelaw5.HopForms': WHATEVER THE INPUT: true; the input reads as it did. -/
def hopFormsSpec : ChangeSpec := { name := "hopForms", fn := fun _ => fun
  | [d1, d2, d3, d4] => { results := [.lit (.bool true)], args := [d1, d2, d3, d4] }
  | _ => none }
def hopFormsRow : OpenClaim := { program := "ytnpogbgialgkhaa", sum := "10c63f8d567c60f238635460bd68c6d8e0c0d4b848882e5fd80df9e4152bbf99", func := "campanile/campanilelaw5.HopForms", spec := "hopForms", unfollowed := true, recurses := true, apart := false }
def HopFormsSaid : Prop := hopFormsRow.holds Try.pinned (OpenSpec.ofChange hopFormsSpec)

/-- ITS FALSE NEIGHBOUR: 'it returns false'. Refute it at one input. -/
def hopFormsWrong : ChangeSpec := { name := "hopForms", fn := fun _ => fun
  | [d1, d2, d3, d4] => { results := [.lit (.bool false)], args := [d1, d2, d3, d4] }
  | _ => none }
def HopFormsWrongFalsely : Prop := hopFormsRow.holds Try.pinned (OpenSpec.ofChange hopFormsWrong)

/-- 'campanilelaw5.HopApart': WHATEVER THE INPUT: true; the input reads as it did. -/
def hopApartSpec : ChangeSpec := { name := "hopApart", fn := fun _ => fun
  | [d1, d2, d3, d4, d5] => { results := [.lit (.bool true)], args := [d1, d2, d3, d4, d5] }
  | _ => none }
def hopApartRow : OpenClaim := { program := "ytnpogbgialgkhaa", sum := "10c63f8d567c60f238635460bd68c6d8e0c0d4b848882e5fd80df9e4152bbf99", func := "campanile/campanilelaw5.HopApart", spec := "hopApart", unfollowed := true, recurses := true, apart := false }
def HopApartSaid : Prop := hopApartRow.holds Try.pinned (OpenSpec.ofChange hopApartSpec)

/-- ITS FALSE NEIGHBOUR: 'it returns false'. Refute it at one input. -/
def hopApartWrong : ChangeSpec := { name := "hopApart", fn := fun _ => fun
  | [d1, d2, d3, d4, d5] => { results := [.lit (.bool false)], args := [d1, d2, d3, d4, d5] }
  | _ => none }
def HopApartWrongFalsely : Prop := hopApartRow.holds Try.pinned (OpenSpec.ofChange hopApartWrong)

/-- 'campanilelaw5.HopShift': WHATEVER THE INPUT: true; the input reads as it did. -/
def hopShiftSpec : ChangeSpec := { name := "hopShift", fn := fun _ => fun
  | [d1, d2, d3, d4, d5] => { results := [.lit (.bool true)], args := [d1, d2, d3, d4, d5] }
  | _ => none }
def hopShiftRow : OpenClaim := { program := "ytnpogbgialgkhaa", sum := "10c63f8d567c60f238635460bd68c6d8e0c0d4b848882e5fd80df9e4152bbf99", func := "campanile/campanilelaw5.HopShift", spec := "hopShift", unfollowed := true, recurses := true, apart := false }
def HopShiftSaid : Prop := hopShiftRow.holds Try.pinned (OpenSpec.ofChange hopShiftSpec)

/-- ITS FALSE NEIGHBOUR: 'it returns false'. Refute it at one input. -/
def hopShiftWrong : ChangeSpec := { name := "hopShift", fn := fun _ => fun
  | [d1, d2, d3, d4, d5] => { results := [.lit (.bool false)], args := [d1, d2, d3, d4, d5] }
  | _ => none }
def HopShiftWrongFalsely : Prop := hopShiftRow.holds Try.pinned (OpenSpec.ofChange hopShiftWrong)

/-- 'campanilelaw5.HopOpen': WHATEVER THE INPUT: true; the input reads as it did. -/
def hopOpenSpec : ChangeSpec := { name := "hopOpen", fn := fun _ => fun
  | [d1, d2] => { results := [.lit (.bool true)], args := [d1, d2] }
  | _ => none }
def hopOpenRow : OpenClaim := { program := "ytnpogbgialgkhaa", sum := "10c63f8d567c60f238635460bd68c6d8e0c0d4b848882e5fd80df9e4152bbf99", func := "campanile/campanilelaw5.HopOpen", spec := "hopOpen", unfollowed := true, recurses := true, apart := false }
def HopOpenSaid : Prop := hopOpenRow.holds Try.pinned (OpenSpec.ofChange hopOpenSpec)

/-- ITS FALSE NEIGHBOUR: 'it returns false'. Refute it at one input. -/
def hopOpenWrong : ChangeSpec := { name := "hopOpen", fn := fun _ => fun
  | [d1, d2] => { results := [.lit (.bool false)], args := [d1, d2] }
  | _ => none }
def HopOpenWrongFalsely : Prop := hopOpenRow.holds Try.pinned (OpenSpec.ofChange hopOpenWrong)

/-- 'campanilelaw10.QueuePlays': WHATEVER THE INPUT: true; the input reads as it did. -/
def queuePlaysSpec : ChangeSpec := { name := "queuePlays", fn := fun _ => fun
  | [d1, d2] => { results := [.lit (.bool true)], args := [d1, d2] }
  | _ => none }
def queuePlaysRow : OpenClaim := { program := "ytnpogbgialgkhaa", sum := "10c63f8d567c60f238635460bd68c6d8e0c0d4b848882e5fd80df9e4152bbf99", func := "campanile/campanilelaw10.QueuePlays", spec := "queuePlays", apart := false }
def QueuePlaysSaid : Prop := queuePlaysRow.holds Try.pinned (OpenSpec.ofChange queuePlaysSpec)

/-- ITS FALSE NEIGHBOUR: 'it returns false'. Refute it at one input. -/
def queuePlaysWrong : ChangeSpec := { name := "queuePlays", fn := fun _ => fun
  | [d1, d2] => { results := [.lit (.bool false)], args := [d1, d2] }
  | _ => none }
def QueuePlaysWrongFalsely : Prop := queuePlaysRow.holds Try.pinned (OpenSpec.ofChange queuePlaysWrong)

/-- 'campanilelaw10.QueueNil': WHATEVER THE INPUT: true; the input reads as it did. -/
def queueNilSpec : ChangeSpec := { name := "queueNil", fn := fun _ => fun
  | [d] => { results := [.lit (.bool true)], args := [d] }
  | _ => none }
def queueNilRow : OpenClaim := { program := "ytnpogbgialgkhaa", sum := "10c63f8d567c60f238635460bd68c6d8e0c0d4b848882e5fd80df9e4152bbf99", func := "campanile/campanilelaw10.QueueNil", spec := "queueNil", apart := false }
def QueueNilSaid : Prop := queueNilRow.holds Try.pinned (OpenSpec.ofChange queueNilSpec)

/-- ITS FALSE NEIGHBOUR: 'it returns false'. Refute it at one input. -/
def queueNilWrong : ChangeSpec := { name := "queueNil", fn := fun _ => fun
  | [d] => { results := [.lit (.bool false)], args := [d] }
  | _ => none }
def QueueNilWrongFalsely : Prop := queueNilRow.holds Try.pinned (OpenSpec.ofChange queueNilWrong)

/- THE SECOND FORM. 'bulk': how many values and letters a reading holds, each counted each time it is reached (what is shared counts as often as it is met; a slice's spare places count too). A statement '..UptoSaid' is the law's where the arguments, and the package variables that the reading takes, are together of bulk at most 1048576: NARROWER than '..Said'. Prove '..Said' where nothing that the law and all that it calls make is longer than what came in: it says more and counts as full. Else prove '..UptoSaid'. A law counts once. -/
mutual
def uptoBulk {H : Type} : DataW H → Nat
  | .lit (.string bytes) => bytes.length + 1
  | .lit _ => 1
  | .nil => 1
  | .ptr d => uptoBulk d + 1
  | .slice elems spare => uptoBulkAll elems + uptoBulkAll spare + 1
  | .agg parts => uptoBulkAll parts + 1
  | .iface _ d => uptoBulk d + 1
  | .map entries => uptoBulkEntries entries + 1
  | .held _ => 1
def uptoBulkAll {H : Type} : List (DataW H) → Nat
  | [] => 0
  | d :: r => uptoBulk d + uptoBulkAll r
def uptoBulkEntries {H : Type} : List (Lit × DataW H) → Nat
  | [] => 0
  | x :: r => uptoBulkEntry x + uptoBulkEntries r
def uptoBulkEntry {H : Type} : Lit × DataW H → Nat
  | (.string bytes, d) => bytes.length + uptoBulk d + 1
  | (_, d) => uptoBulk d + 1
 end
def uptoSmall : (H : Type) → List (DataW H) → Bool := fun _ ds => decide (uptoBulkAll ds ≤ 1048576)
def OpenSpec.upto (s : _root_.Go.ChangeSpec) : _root_.Go.OpenSpec := { _root_.Go.OpenSpec.ofChange s with cond := some uptoSmall }

/-- 'campanilelaw10.QueueMoves', WHERE WHAT IT READS IS OF BULK AT MOST 1048576: true; the input reads as it did. -/
def queueMovesUptoRow : OpenClaim := { program := "ytnpogbgialgkhaa", sum := "10c63f8d567c60f238635460bd68c6d8e0c0d4b848882e5fd80df9e4152bbf99", func := "campanile/campanilelaw10.QueueMoves", spec := "queueMoves", apart := false, narrowed := true }
def QueueMovesUptoSaid : Prop := queueMovesUptoRow.holds Try.pinned (OpenSpec.upto queueMovesSpec)

/-- 'campanilelaw10.QueueOwn', WHERE WHAT IT READS IS OF BULK AT MOST 1048576: true; the input reads as it did. -/
def queueOwnUptoRow : OpenClaim := { program := "ytnpogbgialgkhaa", sum := "10c63f8d567c60f238635460bd68c6d8e0c0d4b848882e5fd80df9e4152bbf99", func := "campanile/campanilelaw10.QueueOwn", spec := "queueOwn", apart := false, narrowed := true }
def QueueOwnUptoSaid : Prop := queueOwnUptoRow.holds Try.pinned (OpenSpec.upto queueOwnSpec)

/-- 'campanilelaw10.QueueOrder', WHERE WHAT IT READS IS OF BULK AT MOST 1048576: true; the input reads as it did. -/
def queueOrderUptoRow : OpenClaim := { program := "ytnpogbgialgkhaa", sum := "10c63f8d567c60f238635460bd68c6d8e0c0d4b848882e5fd80df9e4152bbf99", func := "campanile/campanilelaw10.QueueOrder", spec := "queueOrder", apart := false, narrowed := true }
def QueueOrderUptoSaid : Prop := queueOrderUptoRow.holds Try.pinned (OpenSpec.upto queueOrderSpec)

/-- 'campanilelaw5.HopForms', WHERE WHAT IT READS IS OF BULK AT MOST 1048576: true; the input reads as it did. -/
def hopFormsUptoRow : OpenClaim := { program := "ytnpogbgialgkhaa", sum := "10c63f8d567c60f238635460bd68c6d8e0c0d4b848882e5fd80df9e4152bbf99", func := "campanile/campanilelaw5.HopForms", spec := "hopForms", unfollowed := true, recurses := true, apart := false, narrowed := true }
def HopFormsUptoSaid : Prop := hopFormsUptoRow.holds Try.pinned (OpenSpec.upto hopFormsSpec)

/-- 'campanilelaw5.HopApart', WHERE WHAT IT READS IS OF BULK AT MOST 1048576: true; the input reads as it did. -/
def hopApartUptoRow : OpenClaim := { program := "ytnpogbgialgkhaa", sum := "10c63f8d567c60f238635460bd68c6d8e0c0d4b848882e5fd80df9e4152bbf99", func := "campanile/campanilelaw5.HopApart", spec := "hopApart", unfollowed := true, recurses := true, apart := false, narrowed := true }
def HopApartUptoSaid : Prop := hopApartUptoRow.holds Try.pinned (OpenSpec.upto hopApartSpec)

/-- 'campanilelaw5.HopShift', WHERE WHAT IT READS IS OF BULK AT MOST 1048576: true; the input reads as it did. -/
def hopShiftUptoRow : OpenClaim := { program := "ytnpogbgialgkhaa", sum := "10c63f8d567c60f238635460bd68c6d8e0c0d4b848882e5fd80df9e4152bbf99", func := "campanile/campanilelaw5.HopShift", spec := "hopShift", unfollowed := true, recurses := true, apart := false, narrowed := true }
def HopShiftUptoSaid : Prop := hopShiftUptoRow.holds Try.pinned (OpenSpec.upto hopShiftSpec)

/-- 'campanilelaw5.HopOpen', WHERE WHAT IT READS IS OF BULK AT MOST 1048576: true; the input reads as it did. -/
def hopOpenUptoRow : OpenClaim := { program := "ytnpogbgialgkhaa", sum := "10c63f8d567c60f238635460bd68c6d8e0c0d4b848882e5fd80df9e4152bbf99", func := "campanile/campanilelaw5.HopOpen", spec := "hopOpen", unfollowed := true, recurses := true, apart := false, narrowed := true }
def HopOpenUptoSaid : Prop := hopOpenUptoRow.holds Try.pinned (OpenSpec.upto hopOpenSpec)

/-- 'campanilelaw10.QueuePlays', WHERE WHAT IT READS IS OF BULK AT MOST 1048576: true; the input reads as it did. -/
def queuePlaysUptoRow : OpenClaim := { program := "ytnpogbgialgkhaa", sum := "10c63f8d567c60f238635460bd68c6d8e0c0d4b848882e5fd80df9e4152bbf99", func := "campanile/campanilelaw10.QueuePlays", spec := "queuePlays", apart := false, narrowed := true }
def QueuePlaysUptoSaid : Prop := queuePlaysUptoRow.holds Try.pinned (OpenSpec.upto queuePlaysSpec)

/-- 'campanilelaw10.QueueNil', WHERE WHAT IT READS IS OF BULK AT MOST 1048576: true; the input reads as it did. -/
def queueNilUptoRow : OpenClaim := { program := "ytnpogbgialgkhaa", sum := "10c63f8d567c60f238635460bd68c6d8e0c0d4b848882e5fd80df9e4152bbf99", func := "campanile/campanilelaw10.QueueNil", spec := "queueNil", apart := false, narrowed := true }
def QueueNilUptoSaid : Prop := queueNilUptoRow.holds Try.pinned (OpenSpec.upto queueNilSpec)

end Rows
end Go.Proofs.Ytnpogbgialgkhaa
