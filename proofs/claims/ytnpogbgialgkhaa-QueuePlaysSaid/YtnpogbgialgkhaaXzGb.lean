/- The functions that the walks go through. -/
import Derived.Test.YtnpogbgialgkhaaXzMore
import Derived.Test.YtnpogbgialgkhaaProg
import Derived.KernelRfl
set_option linter.unusedVariables false
set_option maxRecDepth 100000
namespace Go.X
open Go Go.RowKit Go.Proofs
abbrev goods : List Nat := [3, 4, 5, 6, 7, 8, 9, 10, 11, 12, 13, 14, 15, 16, 17, 18, 19, 20, 21, 22, 23, 24, 25, 26, 27, 28, 29, 30, 31, 32, 33, 34, 35, 36, 37, 38, 39, 40, 41]
abbrev good (f : Nat) : Bool := goods.contains f
end Go.X
