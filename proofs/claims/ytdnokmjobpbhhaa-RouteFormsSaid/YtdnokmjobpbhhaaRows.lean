/-
  No cell of these rows narrows 'for every input' (looked for: loops, veiled, ifaces, maps, wideKeys, modest, calm, conditions, laid).
  DERIVED. THE GIVEN ROWS OF THIS SEAT. 11 by the template 'for every input the law returns true; each argument reads behind the call as it read before'; 0 by the template 'total and deterministic' (their statements: YtdnokmjobpbhhaaTotals.lean).
  GIVEN WITH THE SEED: the statements are not yours to turn. If you find one false, say at which input.
  Laid BY PROGRAM, IN A SANDBOX (cutbox-rows.mjs): the forced cells as the released guide's own fill.sh prints them over the translation 2b5ed1ec82293484… (all of the seat's roots in one cut). By AI agents, Wed Nov 11 2026. No macro, syntax, notation, axiom, sorry.
-/
import Derived.Test.YtdnokmjobpbhhaaChecked
import GoSem.Claim
import GoSem.ClaimJoined
import GoSem.ClaimMapViews
import Derived.JoinedTies
import Derived.KernelRfl
namespace Go.Proofs.Ytdnokmjobpbhhaa
/- THE CELL 'sum', in the pinned program and in every row, IS THE sha256 OF THE DUMP (.gsa) THAT YtdnokmjobpbhhaaProg.lean LOADS. Nothing in Lean hashes anything: it is a label: what it is worth is what the hold of that sum in a sandbox is worth. -/
noncomputable def Try.pinned : Pinned := { name := "ytdnokmjobpbhhaa", sum := "2b5ed1ec82293484b0b2362d0e106808d0762bf232b104f7cfb59949c4cac5f6", checked := Try.checked }
namespace Rows
def none {H : Type} : Left H := { results := [], args := [] }

/-- 'campanilelaw3.BitsCuts': WHATEVER THE INPUT: true; the input reads as it did. -/
def bitsCutsSpec : ChangeSpec := { name := "bitsCuts", fn := fun _ => fun
  | [d1, d2, d3, d4] => { results := [.lit (.bool true)], args := [d1, d2, d3, d4] }
  | _ => none }
def bitsCutsRow : OpenClaim := { program := "ytdnokmjobpbhhaa", sum := "2b5ed1ec82293484b0b2362d0e106808d0762bf232b104f7cfb59949c4cac5f6", func := "campanile/campanilelaw3.BitsCuts", spec := "bitsCuts", apart := false }
def BitsCutsSaid : Prop := bitsCutsRow.holds Try.pinned (OpenSpec.ofChange bitsCutsSpec)

/-- ITS FALSE NEIGHBOUR: 'it returns false'. Refute it at one input. -/
def bitsCutsWrong : ChangeSpec := { name := "bitsCuts", fn := fun _ => fun
  | [d1, d2, d3, d4] => { results := [.lit (.bool false)], args := [d1, d2, d3, d4] }
  | _ => none }
def BitsCutsWrongFalsely : Prop := bitsCutsRow.holds Try.pinned (OpenSpec.ofChange bitsCutsWrong)

/-- 'campanilelaw19.RouteTurns': WHATEVER THE INPUT: true; the input reads as it did. -/
def routeTurnsSpec : ChangeSpec := { name := "routeTurns", fn := fun _ => fun
  | [d] => { results := [.lit (.bool true)], args := [d] }
  | _ => none }
def routeTurnsRow : OpenClaim := { program := "ytdnokmjobpbhhaa", sum := "2b5ed1ec82293484b0b2362d0e106808d0762bf232b104f7cfb59949c4cac5f6", func := "campanile/campanilelaw19.RouteTurns", spec := "routeTurns", apart := false }
def RouteTurnsSaid : Prop := routeTurnsRow.holds Try.pinned (OpenSpec.ofChange routeTurnsSpec)

/-- ITS FALSE NEIGHBOUR: 'it returns false'. Refute it at one input. -/
def routeTurnsWrong : ChangeSpec := { name := "routeTurns", fn := fun _ => fun
  | [d] => { results := [.lit (.bool false)], args := [d] }
  | _ => none }
def RouteTurnsWrongFalsely : Prop := routeTurnsRow.holds Try.pinned (OpenSpec.ofChange routeTurnsWrong)

/-- 'campanilelaw19.RouteWays': WHATEVER THE INPUT: true; the input reads as it did. -/
def routeWaysSpec : ChangeSpec := { name := "routeWays", fn := fun _ => fun
  | [d1, d2, d3, d4] => { results := [.lit (.bool true)], args := [d1, d2, d3, d4] }
  | _ => none }
def routeWaysRow : OpenClaim := { program := "ytdnokmjobpbhhaa", sum := "2b5ed1ec82293484b0b2362d0e106808d0762bf232b104f7cfb59949c4cac5f6", func := "campanile/campanilelaw19.RouteWays", spec := "routeWays", apart := false }
def RouteWaysSaid : Prop := routeWaysRow.holds Try.pinned (OpenSpec.ofChange routeWaysSpec)

/-- ITS FALSE NEIGHBOUR: 'it returns false'. Refute it at one input. -/
def routeWaysWrong : ChangeSpec := { name := "routeWays", fn := fun _ => fun
  | [d1, d2, d3, d4] => { results := [.lit (.bool false)], args := [d1, d2, d3, d4] }
  | _ => none }
def RouteWaysWrongFalsely : Prop := routeWaysRow.holds Try.pinned (OpenSpec.ofChange routeWaysWrong)

/-- 'campanilelaw19.RouteLife': WHATEVER THE INPUT: true; the input reads as it did. -/
def routeLifeSpec : ChangeSpec := { name := "routeLife", fn := fun _ => fun
  | [d1, d2] => { results := [.lit (.bool true)], args := [d1, d2] }
  | _ => none }
def routeLifeRow : OpenClaim := { program := "ytdnokmjobpbhhaa", sum := "2b5ed1ec82293484b0b2362d0e106808d0762bf232b104f7cfb59949c4cac5f6", func := "campanile/campanilelaw19.RouteLife", spec := "routeLife", apart := false }
def RouteLifeSaid : Prop := routeLifeRow.holds Try.pinned (OpenSpec.ofChange routeLifeSpec)

/-- ITS FALSE NEIGHBOUR: 'it returns false'. Refute it at one input. -/
def routeLifeWrong : ChangeSpec := { name := "routeLife", fn := fun _ => fun
  | [d1, d2] => { results := [.lit (.bool false)], args := [d1, d2] }
  | _ => none }
def RouteLifeWrongFalsely : Prop := routeLifeRow.holds Try.pinned (OpenSpec.ofChange routeLifeWrong)

/-- 'campanilelaw3.BitsReads': WHATEVER THE INPUT: true; the input reads as it did. -/
def bitsReadsSpec : ChangeSpec := { name := "bitsReads", fn := fun _ => fun
  | [d1, d2] => { results := [.lit (.bool true)], args := [d1, d2] }
  | _ => none }
def bitsReadsRow : OpenClaim := { program := "ytdnokmjobpbhhaa", sum := "2b5ed1ec82293484b0b2362d0e106808d0762bf232b104f7cfb59949c4cac5f6", func := "campanile/campanilelaw3.BitsReads", spec := "bitsReads", apart := false }
def BitsReadsSaid : Prop := bitsReadsRow.holds Try.pinned (OpenSpec.ofChange bitsReadsSpec)

/-- ITS FALSE NEIGHBOUR: 'it returns false'. Refute it at one input. -/
def bitsReadsWrong : ChangeSpec := { name := "bitsReads", fn := fun _ => fun
  | [d1, d2] => { results := [.lit (.bool false)], args := [d1, d2] }
  | _ => none }
def BitsReadsWrongFalsely : Prop := bitsReadsRow.holds Try.pinned (OpenSpec.ofChange bitsReadsWrong)

/-- 'campanilelaw3.BitsShort': WHATEVER THE INPUT: true; the input reads as it did. -/
def bitsShortSpec : ChangeSpec := { name := "bitsShort", fn := fun _ => fun
  | [d1, d2, d3, d4] => { results := [.lit (.bool true)], args := [d1, d2, d3, d4] }
  | _ => none }
def bitsShortRow : OpenClaim := { program := "ytdnokmjobpbhhaa", sum := "2b5ed1ec82293484b0b2362d0e106808d0762bf232b104f7cfb59949c4cac5f6", func := "campanile/campanilelaw3.BitsShort", spec := "bitsShort", apart := false }
def BitsShortSaid : Prop := bitsShortRow.holds Try.pinned (OpenSpec.ofChange bitsShortSpec)

/-- ITS FALSE NEIGHBOUR: 'it returns false'. Refute it at one input. -/
def bitsShortWrong : ChangeSpec := { name := "bitsShort", fn := fun _ => fun
  | [d1, d2, d3, d4] => { results := [.lit (.bool false)], args := [d1, d2, d3, d4] }
  | _ => none }
def BitsShortWrongFalsely : Prop := bitsShortRow.holds Try.pinned (OpenSpec.ofChange bitsShortWrong)

/-- 'campanilelaw3.BitsNil': WHATEVER THE INPUT: true; the input reads as it did. -/
def bitsNilSpec : ChangeSpec := { name := "bitsNil", fn := fun _ => fun
  | [d] => { results := [.lit (.bool true)], args := [d] }
  | _ => none }
def bitsNilRow : OpenClaim := { program := "ytdnokmjobpbhhaa", sum := "2b5ed1ec82293484b0b2362d0e106808d0762bf232b104f7cfb59949c4cac5f6", func := "campanile/campanilelaw3.BitsNil", spec := "bitsNil", apart := false }
def BitsNilSaid : Prop := bitsNilRow.holds Try.pinned (OpenSpec.ofChange bitsNilSpec)

/-- ITS FALSE NEIGHBOUR: 'it returns false'. Refute it at one input. -/
def bitsNilWrong : ChangeSpec := { name := "bitsNil", fn := fun _ => fun
  | [d] => { results := [.lit (.bool false)], args := [d] }
  | _ => none }
def BitsNilWrongFalsely : Prop := bitsNilRow.holds Try.pinned (OpenSpec.ofChange bitsNilWrong)

/-- 'campanilelaw3.BitsBack': WHATEVER THE INPUT: true; the input reads as it did. -/
def bitsBackSpec : ChangeSpec := { name := "bitsBack", fn := fun _ => fun
  | [d] => { results := [.lit (.bool true)], args := [d] }
  | _ => none }
def bitsBackRow : OpenClaim := { program := "ytdnokmjobpbhhaa", sum := "2b5ed1ec82293484b0b2362d0e106808d0762bf232b104f7cfb59949c4cac5f6", func := "campanile/campanilelaw3.BitsBack", spec := "bitsBack", apart := false }
def BitsBackSaid : Prop := bitsBackRow.holds Try.pinned (OpenSpec.ofChange bitsBackSpec)

/-- ITS FALSE NEIGHBOUR: 'it returns false'. Refute it at one input. -/
def bitsBackWrong : ChangeSpec := { name := "bitsBack", fn := fun _ => fun
  | [d] => { results := [.lit (.bool false)], args := [d] }
  | _ => none }
def BitsBackWrongFalsely : Prop := bitsBackRow.holds Try.pinned (OpenSpec.ofChange bitsBackWrong)

/-- 'campanilelaw19.RouteOne': WHATEVER THE INPUT: true; the input reads as it did. -/
def routeOneSpec : ChangeSpec := { name := "routeOne", fn := fun _ => fun
  | [d1, d2] => { results := [.lit (.bool true)], args := [d1, d2] }
  | _ => none }
def routeOneRow : OpenClaim := { program := "ytdnokmjobpbhhaa", sum := "2b5ed1ec82293484b0b2362d0e106808d0762bf232b104f7cfb59949c4cac5f6", func := "campanile/campanilelaw19.RouteOne", spec := "routeOne", apart := false }
def RouteOneSaid : Prop := routeOneRow.holds Try.pinned (OpenSpec.ofChange routeOneSpec)

/-- ITS FALSE NEIGHBOUR: 'it returns false'. Refute it at one input. -/
def routeOneWrong : ChangeSpec := { name := "routeOne", fn := fun _ => fun
  | [d1, d2] => { results := [.lit (.bool false)], args := [d1, d2] }
  | _ => none }
def RouteOneWrongFalsely : Prop := routeOneRow.holds Try.pinned (OpenSpec.ofChange routeOneWrong)

/-- 'campanilelaw19.RouteBack': WHATEVER THE INPUT: true; the input reads as it did. -/
def routeBackSpec : ChangeSpec := { name := "routeBack", fn := fun _ => fun
  | [d1, d2] => { results := [.lit (.bool true)], args := [d1, d2] }
  | _ => none }
def routeBackRow : OpenClaim := { program := "ytdnokmjobpbhhaa", sum := "2b5ed1ec82293484b0b2362d0e106808d0762bf232b104f7cfb59949c4cac5f6", func := "campanile/campanilelaw19.RouteBack", spec := "routeBack", apart := false }
def RouteBackSaid : Prop := routeBackRow.holds Try.pinned (OpenSpec.ofChange routeBackSpec)

/-- ITS FALSE NEIGHBOUR: 'it returns false'. Refute it at one input. -/
def routeBackWrong : ChangeSpec := { name := "routeBack", fn := fun _ => fun
  | [d1, d2] => { results := [.lit (.bool false)], args := [d1, d2] }
  | _ => none }
def RouteBackWrongFalsely : Prop := routeBackRow.holds Try.pinned (OpenSpec.ofChange routeBackWrong)

/-- 'campanilelaw19.RouteForms': WHATEVER THE INPUT: true; the input reads as it did. -/
def routeFormsSpec : ChangeSpec := { name := "routeForms", fn := fun _ => fun
  | [d1, d2, d3, d4, d5, d6, d7, d8] => { results := [.lit (.bool true)], args := [d1, d2, d3, d4, d5, d6, d7, d8] }
  | _ => none }
def routeFormsRow : OpenClaim := { program := "ytdnokmjobpbhhaa", sum := "2b5ed1ec82293484b0b2362d0e106808d0762bf232b104f7cfb59949c4cac5f6", func := "campanile/campanilelaw19.RouteForms", spec := "routeForms", apart := false }
def RouteFormsSaid : Prop := routeFormsRow.holds Try.pinned (OpenSpec.ofChange routeFormsSpec)

/-- ITS FALSE NEIGHBOUR: 'it returns false'. Refute it at one input. -/
def routeFormsWrong : ChangeSpec := { name := "routeForms", fn := fun _ => fun
  | [d1, d2, d3, d4, d5, d6, d7, d8] => { results := [.lit (.bool false)], args := [d1, d2, d3, d4, d5, d6, d7, d8] }
  | _ => none }
def RouteFormsWrongFalsely : Prop := routeFormsRow.holds Try.pinned (OpenSpec.ofChange routeFormsWrong)

/- THE SECOND FORM. 'bulk': how many values and letters a reading holds, each counted each time it is reached (what is shared counts as often as it is met; a slice's spare places count too). A statement '..UptoSaid' is the law's where the arguments, and the package variables that the reading takes, are together of bulk at most 1048576: NARROWER than '..Said'. Prove '..Said' where nothing that the law and all that it calls make is longer than what came in: it says more and counts as full. Else prove '..UptoSaid'. A law counts once. -/
mutual
def uptoBulk {H : Type} : DataW H → Nat
  | .lit (.string bytes) => bytes.length + 1
  | .lit _ => 1
  | .nil => 1
  | .ptr d => uptoBulk d + 1
  | .slice elems spare => uptoBulkAll elems + uptoBulkAll spare + 1
  | .agg parts => uptoBulkAll parts + 1
  | .iface _ d => uptoBulk d + 1
  | .map entries => uptoBulkEntries entries + 1
  | .held _ => 1
def uptoBulkAll {H : Type} : List (DataW H) → Nat
  | [] => 0
  | d :: r => uptoBulk d + uptoBulkAll r
def uptoBulkEntries {H : Type} : List (Lit × DataW H) → Nat
  | [] => 0
  | x :: r => uptoBulkEntry x + uptoBulkEntries r
def uptoBulkEntry {H : Type} : Lit × DataW H → Nat
  | (.string bytes, d) => bytes.length + uptoBulk d + 1
  | (_, d) => uptoBulk d + 1
 end
def uptoSmall : (H : Type) → List (DataW H) → Bool := fun _ ds => decide (uptoBulkAll ds ≤ 1048576)
def OpenSpec.upto (s : _root_.Go.ChangeSpec) : _root_.Go.OpenSpec := { _root_.Go.OpenSpec.ofChange s with cond := some uptoSmall }

/-- 'campanilelaw3.BitsCuts', WHERE WHAT IT READS IS OF BULK AT MOST 1048576: true; the input reads as it did. -/
def bitsCutsUptoRow : OpenClaim := { program := "ytdnokmjobpbhhaa", sum := "2b5ed1ec82293484b0b2362d0e106808d0762bf232b104f7cfb59949c4cac5f6", func := "campanile/campanilelaw3.BitsCuts", spec := "bitsCuts", apart := false, narrowed := true }
def BitsCutsUptoSaid : Prop := bitsCutsUptoRow.holds Try.pinned (OpenSpec.upto bitsCutsSpec)

/-- 'campanilelaw19.RouteTurns', WHERE WHAT IT READS IS OF BULK AT MOST 1048576: true; the input reads as it did. -/
def routeTurnsUptoRow : OpenClaim := { program := "ytdnokmjobpbhhaa", sum := "2b5ed1ec82293484b0b2362d0e106808d0762bf232b104f7cfb59949c4cac5f6", func := "campanile/campanilelaw19.RouteTurns", spec := "routeTurns", apart := false, narrowed := true }
def RouteTurnsUptoSaid : Prop := routeTurnsUptoRow.holds Try.pinned (OpenSpec.upto routeTurnsSpec)

/-- 'campanilelaw19.RouteWays', WHERE WHAT IT READS IS OF BULK AT MOST 1048576: true; the input reads as it did. -/
def routeWaysUptoRow : OpenClaim := { program := "ytdnokmjobpbhhaa", sum := "2b5ed1ec82293484b0b2362d0e106808d0762bf232b104f7cfb59949c4cac5f6", func := "campanile/campanilelaw19.RouteWays", spec := "routeWays", apart := false, narrowed := true }
def RouteWaysUptoSaid : Prop := routeWaysUptoRow.holds Try.pinned (OpenSpec.upto routeWaysSpec)

/-- 'campanilelaw19.RouteLife', WHERE WHAT IT READS IS OF BULK AT MOST 1048576: true; the input reads as it did. -/
def routeLifeUptoRow : OpenClaim := { program := "ytdnokmjobpbhhaa", sum := "2b5ed1ec82293484b0b2362d0e106808d0762bf232b104f7cfb59949c4cac5f6", func := "campanile/campanilelaw19.RouteLife", spec := "routeLife", apart := false, narrowed := true }
def RouteLifeUptoSaid : Prop := routeLifeUptoRow.holds Try.pinned (OpenSpec.upto routeLifeSpec)

/-- 'campanilelaw3.BitsReads', WHERE WHAT IT READS IS OF BULK AT MOST 1048576: true; the input reads as it did. -/
def bitsReadsUptoRow : OpenClaim := { program := "ytdnokmjobpbhhaa", sum := "2b5ed1ec82293484b0b2362d0e106808d0762bf232b104f7cfb59949c4cac5f6", func := "campanile/campanilelaw3.BitsReads", spec := "bitsReads", apart := false, narrowed := true }
def BitsReadsUptoSaid : Prop := bitsReadsUptoRow.holds Try.pinned (OpenSpec.upto bitsReadsSpec)

/-- 'campanilelaw3.BitsShort', WHERE WHAT IT READS IS OF BULK AT MOST 1048576: true; the input reads as it did. -/
def bitsShortUptoRow : OpenClaim := { program := "ytdnokmjobpbhhaa", sum := "2b5ed1ec82293484b0b2362d0e106808d0762bf232b104f7cfb59949c4cac5f6", func := "campanile/campanilelaw3.BitsShort", spec := "bitsShort", apart := false, narrowed := true }
def BitsShortUptoSaid : Prop := bitsShortUptoRow.holds Try.pinned (OpenSpec.upto bitsShortSpec)

/-- 'campanilelaw3.BitsNil', WHERE WHAT IT READS IS OF BULK AT MOST 1048576: true; the input reads as it did. -/
def bitsNilUptoRow : OpenClaim := { program := "ytdnokmjobpbhhaa", sum := "2b5ed1ec82293484b0b2362d0e106808d0762bf232b104f7cfb59949c4cac5f6", func := "campanile/campanilelaw3.BitsNil", spec := "bitsNil", apart := false, narrowed := true }
def BitsNilUptoSaid : Prop := bitsNilUptoRow.holds Try.pinned (OpenSpec.upto bitsNilSpec)

/-- 'campanilelaw3.BitsBack', WHERE WHAT IT READS IS OF BULK AT MOST 1048576: true; the input reads as it did. -/
def bitsBackUptoRow : OpenClaim := { program := "ytdnokmjobpbhhaa", sum := "2b5ed1ec82293484b0b2362d0e106808d0762bf232b104f7cfb59949c4cac5f6", func := "campanile/campanilelaw3.BitsBack", spec := "bitsBack", apart := false, narrowed := true }
def BitsBackUptoSaid : Prop := bitsBackUptoRow.holds Try.pinned (OpenSpec.upto bitsBackSpec)

/-- 'campanilelaw19.RouteOne', WHERE WHAT IT READS IS OF BULK AT MOST 1048576: true; the input reads as it did. -/
def routeOneUptoRow : OpenClaim := { program := "ytdnokmjobpbhhaa", sum := "2b5ed1ec82293484b0b2362d0e106808d0762bf232b104f7cfb59949c4cac5f6", func := "campanile/campanilelaw19.RouteOne", spec := "routeOne", apart := false, narrowed := true }
def RouteOneUptoSaid : Prop := routeOneUptoRow.holds Try.pinned (OpenSpec.upto routeOneSpec)

/-- 'campanilelaw19.RouteBack', WHERE WHAT IT READS IS OF BULK AT MOST 1048576: true; the input reads as it did. -/
def routeBackUptoRow : OpenClaim := { program := "ytdnokmjobpbhhaa", sum := "2b5ed1ec82293484b0b2362d0e106808d0762bf232b104f7cfb59949c4cac5f6", func := "campanile/campanilelaw19.RouteBack", spec := "routeBack", apart := false, narrowed := true }
def RouteBackUptoSaid : Prop := routeBackUptoRow.holds Try.pinned (OpenSpec.upto routeBackSpec)

/-- 'campanilelaw19.RouteForms', WHERE WHAT IT READS IS OF BULK AT MOST 1048576: true; the input reads as it did. -/
def routeFormsUptoRow : OpenClaim := { program := "ytdnokmjobpbhhaa", sum := "2b5ed1ec82293484b0b2362d0e106808d0762bf232b104f7cfb59949c4cac5f6", func := "campanile/campanilelaw19.RouteForms", spec := "routeForms", apart := false, narrowed := true }
def RouteFormsUptoSaid : Prop := routeFormsUptoRow.holds Try.pinned (OpenSpec.upto routeFormsSpec)

end Rows
end Go.Proofs.Ytdnokmjobpbhhaa
