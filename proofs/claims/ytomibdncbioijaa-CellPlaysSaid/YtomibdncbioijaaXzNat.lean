/- A function of the library that is not walked: slices.Insert of one element of five cells. -/
import Derived.Test.YtomibdncbioijaaXzCoreG
set_option linter.unusedVariables false
namespace Go.X
open Go Go.RowKit
/-- What slices.Insert comes to (function 43 of the program). -/
def natC (f : FuncId) (args : List Value) (H : Heap) : Option (Value × Heap) :=
  if f = 43 then
    match args with
    | [.slice a n k, .int .i64 i, .slice a2 1 k2] =>
      if i = n then xappend H 5 40 (.slice a n k) (.slice a2 1 k2)
      else match a, a2 with
      | some ⟨b, o, none⟩, some ⟨b2, o2, none⟩ => match H.get b, H.get b2 with
        | .row cs true, .row cs2 true =>
          if b ≠ b2 ∧ k = UNK 5 ∧ 0 ≤ i ∧ i < n ∧ n ≤ 1000 ∧ o + n * 5 ≤ cs.length ∧ o2 + 5 ≤ cs2.length then
            some (.slice (some ⟨H.next, 0, none⟩) (n + 1) (UNK 5), (H.set b .dead).push (.row ((cs.drop o).take (i.toNat * 5) ++ (cs2.drop o2).take 5 ++ ((cs.drop o).take (n * 5)).drop (i.toNat * 5)) true))
          else none
        | _, _ => none
      | _, _ => none
    | _ => none
  else none
end Go.X
