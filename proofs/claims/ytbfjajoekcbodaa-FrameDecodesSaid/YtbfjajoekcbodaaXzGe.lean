/- The functions that the walks go through. -/
import Derived.Test.YtbfjajoekcbodaaXzMore
import Derived.Test.YtbfjajoekcbodaaProg
import Derived.KernelRfl
set_option linter.unusedVariables false
set_option maxRecDepth 100000
namespace Go.X
open Go Go.RowKit Go.Proofs
abbrev goods : List Nat := [3, 4, 5, 6, 7, 8, 9, 10, 11, 12, 13, 14, 15, 16, 17, 18, 19, 20, 21, 22, 23, 24, 25, 26, 27, 28, 29, 30, 31, 32, 33, 34, 35, 36, 37, 38, 39, 40, 41, 42, 43, 44, 45, 46, 47, 48, 49, 50, 51, 52, 53, 54, 55, 56, 57, 58, 59, 60, 61, 62, 63, 64, 65, 66, 67, 68, 69, 70, 71, 72, 73, 74, 75, 76, 77, 78, 79, 80, 98, 99, 100, 101, 102, 103, 104, 105, 106]
abbrev good (f : Nat) : Bool := goods.contains f
theorem KR.go {P : Program} {good : Nat → Bool} {fn : Func} {s s' : List It} {ts : Ts} {H : Heap} {r : Value × Heap} (n : Nat) (al : List (Nat × Value)) (N : Nat) (hk : ∀ J, KR P good fn s' (mat J N al) H r) (h : (mrun P n s ts H).map (seen al) = some (s', N, al, H) := by kernel_rfl) : KR P good fn s ts H r := KR.run n al N h hk
section
variable {P : Program} {good : Nat → Bool} {fn : Func} {s : List It} {ts : Ts} {H : Heap} {r : Value × Heap}
theorem KR.fi {v : Value} (h : r = (v, H)) (hx : xresults P fn ts H = some v := by kernel_rfl) : KR P good fn (.code .ret :: s) ts H r := KR.fin hx h
theorem KR.bb {c : Code} {e : Bool} (t : Bool) (he : e = t) (h : KR P good fn (.code (child (bif t then 0 else 1) c) :: s) ts H r) (hx : brChk ts c = some e := by kernel_rfl) : KR P good fn (.code c :: s) ts H r := KR.br t hx he h
end
end Go.X
