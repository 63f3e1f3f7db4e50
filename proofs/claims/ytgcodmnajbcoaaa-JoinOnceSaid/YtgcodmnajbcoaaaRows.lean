/-
  No cell of these rows narrows 'for every input' (looked for: loops, veiled, ifaces, maps, wideKeys, modest, calm, conditions, laid).
  DERIVED. THE GIVEN ROWS OF THIS SEAT. 4 by the template 'for every input the law returns true; each argument reads behind the call as it read before'; 0 by the template 'total and deterministic' (their statements: YtgcodmnajbcoaaaTotals.lean).
  GIVEN WITH THE SEED: the statements are not yours to turn. If you find one false, say at which input.
  Laid BY PROGRAM, IN A SANDBOX (cutbox-rows.mjs): the forced cells as the released guide's own fill.sh prints them over the translation 35c6d523fb7c9c25… (all of the seat's roots in one cut). By AI agents, Wed Nov 11 2026. No macro, syntax, notation, axiom, sorry.
-/
import Derived.Test.YtgcodmnajbcoaaaChecked
import GoSem.Claim
import GoSem.ClaimJoined
import GoSem.ClaimMapViews
import Derived.JoinedTies
import Derived.KernelRfl
namespace Go.Proofs.Ytgcodmnajbcoaaa
/- THE CELL 'sum', in the pinned program and in every row, IS THE sha256 OF THE DUMP (.gsa) THAT YtgcodmnajbcoaaaProg.lean LOADS. Nothing in Lean hashes anything: it is a label: what it is worth is what the hold of that sum in a sandbox is worth. -/
noncomputable def Try.pinned : Pinned := { name := "ytgcodmnajbcoaaa", sum := "35c6d523fb7c9c25f2b1599f711a032b03906965708c49084d89bd619dfa2014", checked := Try.checked }
namespace Rows
def none {H : Type} : Left H := { results := [], args := [] }

/-- 'campanilelaw18.JoinForms': WHATEVER THE INPUT: true; the input reads as it did. -/
def joinFormsSpec : ChangeSpec := { name := "joinForms", fn := fun _ => fun
  | [d1, d2, d3, d4, d5, d6, d7] => { results := [.lit (.bool true)], args := [d1, d2, d3, d4, d5, d6, d7] }
  | _ => none }
def joinFormsRow : OpenClaim := { program := "ytgcodmnajbcoaaa", sum := "35c6d523fb7c9c25f2b1599f711a032b03906965708c49084d89bd619dfa2014", func := "campanile/campanilelaw18.JoinForms", spec := "joinForms", unfollowed := true, recurses := true, apart := false }
def JoinFormsSaid : Prop := joinFormsRow.holds Try.pinned (OpenSpec.ofChange joinFormsSpec)

/-- ITS FALSE NEIGHBOUR: 'it returns false'. Refute it at one input. -/
def joinFormsWrong : ChangeSpec := { name := "joinForms", fn := fun _ => fun
  | [d1, d2, d3, d4, d5, d6, d7] => { results := [.lit (.bool false)], args := [d1, d2, d3, d4, d5, d6, d7] }
  | _ => none }
def JoinFormsWrongFalsely : Prop := joinFormsRow.holds Try.pinned (OpenSpec.ofChange joinFormsWrong)

/-- 'campanilelaw18.JoinOnce': WHATEVER THE INPUT: true; the input reads as it did. -/
def joinOnceSpec : ChangeSpec := { name := "joinOnce", fn := fun _ => fun
  | [d1, d2, d3, d4, d5, d6, d7] => { results := [.lit (.bool true)], args := [d1, d2, d3, d4, d5, d6, d7] }
  | _ => none }
def joinOnceRow : OpenClaim := { program := "ytgcodmnajbcoaaa", sum := "35c6d523fb7c9c25f2b1599f711a032b03906965708c49084d89bd619dfa2014", func := "campanile/campanilelaw18.JoinOnce", spec := "joinOnce", unfollowed := true, recurses := true, apart := false }
def JoinOnceSaid : Prop := joinOnceRow.holds Try.pinned (OpenSpec.ofChange joinOnceSpec)

/-- ITS FALSE NEIGHBOUR: 'it returns false'. Refute it at one input. -/
def joinOnceWrong : ChangeSpec := { name := "joinOnce", fn := fun _ => fun
  | [d1, d2, d3, d4, d5, d6, d7] => { results := [.lit (.bool false)], args := [d1, d2, d3, d4, d5, d6, d7] }
  | _ => none }
def JoinOnceWrongFalsely : Prop := joinOnceRow.holds Try.pinned (OpenSpec.ofChange joinOnceWrong)

/-- 'campanilelaw18.JoinKeys': WHATEVER THE INPUT: true; the input reads as it did. -/
def joinKeysSpec : ChangeSpec := { name := "joinKeys", fn := fun _ => fun
  | [d1, d2, d3] => { results := [.lit (.bool true)], args := [d1, d2, d3] }
  | _ => none }
def joinKeysRow : OpenClaim := { program := "ytgcodmnajbcoaaa", sum := "35c6d523fb7c9c25f2b1599f711a032b03906965708c49084d89bd619dfa2014", func := "campanile/campanilelaw18.JoinKeys", spec := "joinKeys", unfollowed := true, recurses := true, apart := false }
def JoinKeysSaid : Prop := joinKeysRow.holds Try.pinned (OpenSpec.ofChange joinKeysSpec)

/-- ITS FALSE NEIGHBOUR: 'it returns false'. Refute it at one input. -/
def joinKeysWrong : ChangeSpec := { name := "joinKeys", fn := fun _ => fun
  | [d1, d2, d3] => { results := [.lit (.bool false)], args := [d1, d2, d3] }
  | _ => none }
def JoinKeysWrongFalsely : Prop := joinKeysRow.holds Try.pinned (OpenSpec.ofChange joinKeysWrong)

/-- 'campanilelaw18.JoinCounts': WHATEVER THE INPUT: true; the input reads as it did. -/
def joinCountsSpec : ChangeSpec := { name := "joinCounts", fn := fun _ => fun
  | [d1, d2, d3] => { results := [.lit (.bool true)], args := [d1, d2, d3] }
  | _ => none }
def joinCountsRow : OpenClaim := { program := "ytgcodmnajbcoaaa", sum := "35c6d523fb7c9c25f2b1599f711a032b03906965708c49084d89bd619dfa2014", func := "campanile/campanilelaw18.JoinCounts", spec := "joinCounts", unfollowed := true, recurses := true, apart := false }
def JoinCountsSaid : Prop := joinCountsRow.holds Try.pinned (OpenSpec.ofChange joinCountsSpec)

/-- ITS FALSE NEIGHBOUR: 'it returns false'. Refute it at one input. -/
def joinCountsWrong : ChangeSpec := { name := "joinCounts", fn := fun _ => fun
  | [d1, d2, d3] => { results := [.lit (.bool false)], args := [d1, d2, d3] }
  | _ => none }
def JoinCountsWrongFalsely : Prop := joinCountsRow.holds Try.pinned (OpenSpec.ofChange joinCountsWrong)

/- THE SECOND FORM. 'bulk': how many values and letters a reading holds, each counted each time it is reached (what is shared counts as often as it is met; a slice's spare places count too). A statement '..UptoSaid' is the law's where the arguments, and the package variables that the reading takes, are together of bulk at most 1048576: NARROWER than '..Said'. Prove '..Said' where nothing that the law and all that it calls make is longer than what came in: it says more and counts as full. Else prove '..UptoSaid'. A law counts once. -/
mutual
def uptoBulk {H : Type} : DataW H → Nat
  | .lit (.string bytes) => bytes.length + 1
  | .lit _ => 1
  | .nil => 1
  | .ptr d => uptoBulk d + 1
  | .slice elems spare => uptoBulkAll elems + uptoBulkAll spare + 1
  | .agg parts => uptoBulkAll parts + 1
  | .iface _ d => uptoBulk d + 1
  | .map entries => uptoBulkEntries entries + 1
  | .held _ => 1
def uptoBulkAll {H : Type} : List (DataW H) → Nat
  | [] => 0
  | d :: r => uptoBulk d + uptoBulkAll r
def uptoBulkEntries {H : Type} : List (Lit × DataW H) → Nat
  | [] => 0
  | x :: r => uptoBulkEntry x + uptoBulkEntries r
def uptoBulkEntry {H : Type} : Lit × DataW H → Nat
  | (.string bytes, d) => bytes.length + uptoBulk d + 1
  | (_, d) => uptoBulk d + 1
 end
def uptoSmall : (H : Type) → List (DataW H) → Bool := fun _ ds => decide (uptoBulkAll ds ≤ 1048576)
def OpenSpec.upto (s : _root_.Go.ChangeSpec) : _root_.Go.OpenSpec := { _root_.Go.OpenSpec.ofChange s with cond := some uptoSmall }

/-- 'campanilelaw18.JoinForms', WHERE WHAT IT READS IS OF BULK AT MOST 1048576: true; the input reads as it did. -/
def joinFormsUptoRow : OpenClaim := { program := "ytgcodmnajbcoaaa", sum := "35c6d523fb7c9c25f2b1599f711a032b03906965708c49084d89bd619dfa2014", func := "campanile/campanilelaw18.JoinForms", spec := "joinForms", unfollowed := true, recurses := true, apart := false, narrowed := true }
def JoinFormsUptoSaid : Prop := joinFormsUptoRow.holds Try.pinned (OpenSpec.upto joinFormsSpec)

/-- 'campanilelaw18.JoinOnce', WHERE WHAT IT READS IS OF BULK AT MOST 1048576: true; the input reads as it did. -/
def joinOnceUptoRow : OpenClaim := { program := "ytgcodmnajbcoaaa", sum := "35c6d523fb7c9c25f2b1599f711a032b03906965708c49084d89bd619dfa2014", func := "campanile/campanilelaw18.JoinOnce", spec := "joinOnce", unfollowed := true, recurses := true, apart := false, narrowed := true }
def JoinOnceUptoSaid : Prop := joinOnceUptoRow.holds Try.pinned (OpenSpec.upto joinOnceSpec)

/-- 'campanilelaw18.JoinKeys', WHERE WHAT IT READS IS OF BULK AT MOST 1048576: true; the input reads as it did. -/
def joinKeysUptoRow : OpenClaim := { program := "ytgcodmnajbcoaaa", sum := "35c6d523fb7c9c25f2b1599f711a032b03906965708c49084d89bd619dfa2014", func := "campanile/campanilelaw18.JoinKeys", spec := "joinKeys", unfollowed := true, recurses := true, apart := false, narrowed := true }
def JoinKeysUptoSaid : Prop := joinKeysUptoRow.holds Try.pinned (OpenSpec.upto joinKeysSpec)

/-- 'campanilelaw18.JoinCounts', WHERE WHAT IT READS IS OF BULK AT MOST 1048576: true; the input reads as it did. -/
def joinCountsUptoRow : OpenClaim := { program := "ytgcodmnajbcoaaa", sum := "35c6d523fb7c9c25f2b1599f711a032b03906965708c49084d89bd619dfa2014", func := "campanile/campanilelaw18.JoinCounts", spec := "joinCounts", unfollowed := true, recurses := true, apart := false, narrowed := true }
def JoinCountsUptoSaid : Prop := joinCountsUptoRow.holds Try.pinned (OpenSpec.upto joinCountsSpec)

end Rows
end Go.Proofs.Ytgcodmnajbcoaaa
