/- The walks of the functions: printed. -/
import Derived.Test.YtdnokmjobpbhhaaXzGc
set_option linter.unusedVariables false
set_option maxRecDepth 100000
namespace Go.X
open Go Go.RowKit Go.Proofs
/-! #### 13 campanile/campanilelaw19.RouteForms -/
namespace F13
noncomputable def B : Code := bodyOf Try.f13
noncomputable def S0 : List It := (.code (sub B [1]) :: [])
noncomputable def S1 : List It := (.code (sub B [1, 1]) :: [])
noncomputable def S4 : List It := (.code (sub B [1, 1, 1]) :: [])
noncomputable def S5 : List It := (.code (sub B [1, 1, 1, 1]) :: [])
noncomputable def S6 : List It := (.code (sub B [1, 1, 1, 1, 1]) :: [])
noncomputable def S7 : List It := (.code (sub B [1, 1, 1, 1, 1, 1]) :: [])
noncomputable def S8 : List It := (.code (sub B [1, 1, 1, 1, 1, 1, 1]) :: [])
noncomputable def S9 : List It := (.code (sub B [1, 1, 1, 1, 1, 1, 1, 1]) :: [])
noncomputable def S10 : List It := (.code (sub B [1, 1, 1, 1, 1, 1, 1, 1, 1]) :: [])
noncomputable def S12 : List It := (.code (sub B [1, 1, 1, 1, 1, 1, 1, 1, 1, 1]) :: [])
noncomputable def S13 : List It := (.code (sub B [1, 1, 1, 1, 1, 1, 1, 1, 1, 1, 1]) :: [])
noncomputable def S16 : List It := (.code (sub B [1, 1, 1, 1, 1, 1, 1, 1, 1, 1, 1, 1]) :: [])
noncomputable def S32 : List It := (.code (sub B [1, 1, 1, 1, 1, 1, 1, 1, 1, 1, 1, 1, 1]) :: [])
noncomputable def S2 : List It := (.code (sub B [1, 0, 1]) :: S1)
noncomputable def S3 : List It := (.code (sub B [1, 0, 1, 0, 1]) :: S1)
noncomputable def S11 : List It := (.code (sub B [1, 1, 1, 1, 1, 1, 1, 1, 0, 1]) :: S10)
noncomputable def S14 : List It := (.code (sub B [1, 1, 1, 1, 1, 1, 1, 1, 1, 1, 0, 1, 1, 0, 1]) :: S13)
noncomputable def S17 : List It := (.code (sub B [1, 1, 1, 1, 1, 1, 1, 1, 1, 1, 1, 0, 1]) :: S16)
noncomputable def S23 : List It := (.blk 2 :: S16)
noncomputable def S15 : List It := (.blk 0 :: S14)
noncomputable def S24 : List It := (.lp (sub B [1, 1, 1, 1, 1, 1, 1, 1, 1, 1, 1, 0, 1, 0, 0]) :: S23)
noncomputable def S33 : List It := (.reg (opsAt (sub B [1, 1, 1, 1, 1, 1, 1, 1, 1, 1, 1, 0, 0])) [0, 1, 2, 3] :: S17)
noncomputable def S18 : List It := (.lp (sub B [1, 1, 1, 1, 1, 1, 1, 1, 1, 1, 0, 1, 1, 0, 0, 1, 0, 0]) :: S15)
noncomputable def S25 : List It := (.code (sub B [1, 1, 1, 1, 1, 1, 1, 1, 1, 1, 1, 0, 1, 0, 0, 1, 1]) :: S24)
noncomputable def S26 : List It := (.code (sub B [1, 1, 1, 1, 1, 1, 1, 1, 1, 1, 1, 0, 1, 0, 0, 1, 1, 1]) :: S24)
noncomputable def S19 : List It := (.code (sub B [1, 1, 1, 1, 1, 1, 1, 1, 1, 1, 0, 1, 1, 0, 0, 1, 0, 0, 1, 1]) :: S18)
noncomputable def S20 : List It := (.code (sub B [1, 1, 1, 1, 1, 1, 1, 1, 1, 1, 0, 1, 1, 0, 0, 1, 0, 0, 1, 1, 1]) :: S18)
noncomputable def S27 : List It := (.blk 3 :: S26)
noncomputable def S21 : List It := (.blk 1 :: S20)
noncomputable def S28 : List It := (.code (sub B [1, 1, 1, 1, 1, 1, 1, 1, 1, 1, 1, 0, 1, 0, 0, 1, 1, 0, 0, 1]) :: S27)
noncomputable def S29 : List It := (.code (sub B [1, 1, 1, 1, 1, 1, 1, 1, 1, 1, 1, 0, 1, 0, 0, 1, 1, 0, 0, 1, 1]) :: S27)
noncomputable def S30 : List It := (.code (sub B [1, 1, 1, 1, 1, 1, 1, 1, 1, 1, 1, 0, 1, 0, 0, 1, 1, 0, 0, 1, 1, 1]) :: S27)
noncomputable def S31 : List It := (.code (sub B [1, 1, 1, 1, 1, 1, 1, 1, 1, 1, 1, 0, 1, 0, 0, 1, 1, 0, 0, 1, 1, 1, 1]) :: S27)
noncomputable def S22 : List It := (.code (sub B [1, 1, 1, 1, 1, 1, 1, 1, 1, 1, 0, 1, 1, 0, 0, 1, 0, 0, 1, 1, 0, 0, 1]) :: S21)
def L0 (t2 : Int) (t3a : Option Addr) (t3n : Nat) (t3k : Nat) (t4a : Option Addr) (t4n : Nat) (t4k : Nat) (t5 : Int) (t6 : Int) (t7a : Option Addr) (t7n : Nat) (t7k : Nat) (t8b : Nat) (t8o : Nat) (t9b : Nat) (t9o : Nat) (t58 : Bool) (H : Heap) (r : Value × Heap) : Prop := ∀ J, KR Try.prog good Try.f13 S2 (mat J 223 [(2, .int .i64 t2), (3, .slice t3a t3n t3k), (4, .slice t4a t4n t4k), (5, .int .u8 t5), (6, .int .i64 t6), (7, .slice t7a t7n t7k), (8, .pointer (some ⟨t8b, t8o, none⟩)), (9, .pointer (some ⟨t9b, t9o, none⟩)), (58, .bool t58)]) H r
def L1 (t4a : Option Addr) (t4n : Nat) (t4k : Nat) (t5 : Int) (t6 : Int) (t7a : Option Addr) (t7n : Nat) (t7k : Nat) (t19a : Option Addr) (t19n : Nat) (t19k : Nat) (t156 : Bool) (H : Heap) (r : Value × Heap) : Prop := ∀ J, KR Try.prog good Try.f13 S11 (mat J 223 [(4, .slice t4a t4n t4k), (5, .int .u8 t5), (6, .int .i64 t6), (7, .slice t7a t7n t7k), (19, .slice t19a t19n t19k), (156, .bool t156)]) H r
def L2 (t5 : Int) (t6 : Int) (t7a : Option Addr) (t7n : Nat) (t7k : Nat) (t31a : Option Addr) (t31n : Nat) (t31k : Nat) (t32 : Int) (t164a : Option Addr) (t164n : Nat) (t164k : Nat) (t165 : Int) (t166 : Int) (H : Heap) (r : Value × Heap) : Prop := ∀ J, KR Try.prog good Try.f13 S18 (mat J 223 [(5, .int .u8 t5), (6, .int .i64 t6), (7, .slice t7a t7n t7k), (31, .slice t31a t31n t31k), (32, .int .i64 t32), (164, .slice t164a t164n t164k), (165, .int .i64 t165), (166, .int .i64 t166)]) H r
def L3 (t7a : Option Addr) (t7n : Nat) (t7k : Nat) (t31a : Option Addr) (t31n : Nat) (t31k : Nat) (H : Heap) (r : Value × Heap) : Prop := ∀ J, KR Try.prog good Try.f13 S33 (mat J 223 [(7, .slice t7a t7n t7k), (31, .slice t31a t31n t31k)]) H r
def L4 (t198c0a : Option Addr) (t198c0n : Nat) (t198c0k : Nat) (t198c1a : Option Addr) (t198c1n : Nat) (t198c1k : Nat) (t199 : Int) (H : Heap) (r : Value × Heap) : Prop := ∀ J, KR Try.prog good Try.f13 S24 (mat J 223 [(198, .agg #[.slice t198c0a t198c0n t198c0k, .slice t198c1a t198c1n t198c1k]), (199, .int .i64 t199)]) H r
def L5 (t198c0a : Option Addr) (t198c0n : Nat) (t198c0k : Nat) (t198c1a : Option Addr) (t198c1n : Nat) (t198c1k : Nat) (t199 : Int) (t220 : Bool) (H : Heap) (r : Value × Heap) : Prop := ∀ J, KR Try.prog good Try.f13 S31 (mat J 223 [(198, .agg #[.slice t198c0a t198c0n t198c0k, .slice t198c1a t198c1n t198c1k]), (199, .int .i64 t199), (220, .bool t220)]) H r
theorem L0_step {t2 : Int} {t3a : Option Addr} {t3n : Nat} {t3k : Nat} {t4a : Option Addr} {t4n : Nat} {t4k : Nat} {t5 : Int} {t6 : Int} {t7a : Option Addr} {t7n : Nat} {t7k : Nat} {t8b : Nat} {t8o : Nat} {t9b : Nat} {t9o : Nat} {t58 : Bool} {H : Heap} {r : Value × Heap} (h :
    if t58 = true then
    (∃ (t59 : Bool) (H_1 : Heap), xC Try.prog good 20 [] H = some (.bool t59, H_1) ∧
    (r = (.bool t59, H_1)))
    else
    (∃ (t61c0 : Int) (t61c1 : Int) (t61c2 : Int) (t61c3 : Int) (t61c4a : Option Addr) (t61c4n : Nat) (t61c4k : Nat) (t61c5a : Option Addr) (t61c5n : Nat) (t61c5k : Nat), ldAll H t8b t8o [.int .i64 t61c0, .int .i64 t61c1, .int .i64 t61c2, .int .i64 t61c3, .slice t61c4a t61c4n t61c4k, .slice t61c5a t61c5n t61c5k] ∧
    (∃ (t62r0a : Option Addr) (t62r0n : Nat) (t62r0k : Nat) (t62r1 : Int) (H_2 : Heap), xC Try.prog good 41 [.agg #[.int .i64 t61c0, .int .i64 t61c1, .int .i64 t61c2, .int .i64 t61c3, .slice t61c4a t61c4n t61c4k, .slice t61c5a t61c5n t61c5k]] H = some (.tuple #[.slice t62r0a t62r0n t62r0k, .int .i64 t62r1], H_2) ∧
    (∃ (t66c0 : Int) (t66c1 : Int) (t66c2 : Int) (t66c3 : Int) (t66c4a : Option Addr) (t66c4n : Nat) (t66c4k : Nat) (t66c5a : Option Addr) (t66c5n : Nat) (t66c5k : Nat), ldAll H_2 t8b t8o [.int .i64 t66c0, .int .i64 t66c1, .int .i64 t66c2, .int .i64 t66c3, .slice t66c4a t66c4n t66c4k, .slice t66c5a t66c5n t66c5k] ∧
    (∃ (t67r0a : Option Addr) (t67r0n : Nat) (t67r0k : Nat) (t67r1 : Int) (H_3 : Heap), xC Try.prog good 45 [.agg #[.int .i64 t66c0, .int .i64 t66c1, .int .i64 t66c2, .int .i64 t66c3, .slice t66c4a t66c4n t66c4k, .slice t66c5a t66c5n t66c5k]] H_2 = some (.tuple #[.slice t67r0a t67r0n t67r0k, .int .i64 t67r1], H_3) ∧
    (∃ (t71c0 : Int) (t71c1 : Int) (t71c2 : Int) (t71c3 : Int) (t71c4a : Option Addr) (t71c4n : Nat) (t71c4k : Nat) (t71c5a : Option Addr) (t71c5n : Nat) (t71c5k : Nat), ldAll H_3 t8b t8o [.int .i64 t71c0, .int .i64 t71c1, .int .i64 t71c2, .int .i64 t71c3, .slice t71c4a t71c4n t71c4k, .slice t71c5a t71c5n t71c5k] ∧
    (∃ (t73r0c0 : Int) (t73r0c1 : Int) (t73r0c2 : Int) (t73r0c3 : Int) (t73r0c4a : Option Addr) (t73r0c4n : Nat) (t73r0c4k : Nat) (t73r0c5a : Option Addr) (t73r0c5n : Nat) (t73r0c5k : Nat) (t73r1 : Int) (H_4 : Heap), xC Try.prog good 24 [.agg #[.int .i64 t71c0, .int .i64 t71c1, .int .i64 t71c2, .int .i64 t71c3, .slice t71c4a t71c4n t71c4k, .slice t71c5a t71c5n t71c5k], .int .i64 t2] H_3 = some (.tuple #[.agg #[.int .i64 t73r0c0, .int .i64 t73r0c1, .int .i64 t73r0c2, .int .i64 t73r0c3, .slice t73r0c4a t73r0c4n t73r0c4k, .slice t73r0c5a t73r0c5n t73r0c5k], .int .i64 t73r1], H_4) ∧
    (∃ (H_5 : Heap), H_5 = H_4.push (.row [.int .i64 0, .int .i64 0, .int .i64 0, .int .i64 0, .slice none 0 0, .slice none 0 0] true) ∧
    (∃ (H_6 : Heap), stc H_5 H_4.next 0 [.int .i64 t73r0c0, .int .i64 t73r0c1, .int .i64 t73r0c2, .int .i64 t73r0c3, .slice t73r0c4a t73r0c4n t73r0c4k, .slice t73r0c5a t73r0c5n t73r0c5k] = some H_6 ∧
    (∃ (t77c0 : Int) (t77c1 : Int) (t77c2 : Int) (t77c3 : Int) (t77c4a : Option Addr) (t77c4n : Nat) (t77c4k : Nat) (t77c5a : Option Addr) (t77c5n : Nat) (t77c5k : Nat), ldAll H_6 t8b t8o [.int .i64 t77c0, .int .i64 t77c1, .int .i64 t77c2, .int .i64 t77c3, .slice t77c4a t77c4n t77c4k, .slice t77c5a t77c5n t77c5k] ∧
    (∃ (t79r0c0 : Int) (t79r0c1 : Int) (t79r0c2 : Int) (t79r0c3 : Int) (t79r0c4a : Option Addr) (t79r0c4n : Nat) (t79r0c4k : Nat) (t79r0c5a : Option Addr) (t79r0c5n : Nat) (t79r0c5k : Nat) (t79r1 : Int) (H_7 : Heap), xC Try.prog good 46 [.agg #[.int .i64 t77c0, .int .i64 t77c1, .int .i64 t77c2, .int .i64 t77c3, .slice t77c4a t77c4n t77c4k, .slice t77c5a t77c5n t77c5k], .int .i64 t2] H_6 = some (.tuple #[.agg #[.int .i64 t79r0c0, .int .i64 t79r0c1, .int .i64 t79r0c2, .int .i64 t79r0c3, .slice t79r0c4a t79r0c4n t79r0c4k, .slice t79r0c5a t79r0c5n t79r0c5k], .int .i64 t79r1], H_7) ∧
    (∃ (H_8 : Heap), H_8 = H_7.push (.row [.int .i64 0, .int .i64 0, .int .i64 0, .int .i64 0, .slice none 0 0, .slice none 0 0] true) ∧
    (∃ (H_9 : Heap), stc H_8 H_7.next 0 [.int .i64 t79r0c0, .int .i64 t79r0c1, .int .i64 t79r0c2, .int .i64 t79r0c3, .slice t79r0c4a t79r0c4n t79r0c4k, .slice t79r0c5a t79r0c5n t79r0c5k] = some H_9 ∧
    (∃ (t83c0 : Int) (t83c1 : Int) (t83c2 : Int) (t83c3 : Int) (t83c4a : Option Addr) (t83c4n : Nat) (t83c4k : Nat) (t83c5a : Option Addr) (t83c5n : Nat) (t83c5k : Nat), ldAll H_9 t8b t8o [.int .i64 t83c0, .int .i64 t83c1, .int .i64 t83c2, .int .i64 t83c3, .slice t83c4a t83c4n t83c4k, .slice t83c5a t83c5n t83c5k] ∧
    (∃ (t85r0c0 : Int) (t85r0c1 : Int) (t85r0c2 : Int) (t85r0c3 : Int) (t85r0c4a : Option Addr) (t85r0c4n : Nat) (t85r0c4k : Nat) (t85r0c5a : Option Addr) (t85r0c5n : Nat) (t85r0c5k : Nat) (t85r1 : Int) (t85r2 : Int) (H_10 : Heap), xC Try.prog good 26 [.agg #[.int .i64 t83c0, .int .i64 t83c1, .int .i64 t83c2, .int .i64 t83c3, .slice t83c4a t83c4n t83c4k, .slice t83c5a t83c5n t83c5k], .int .i64 t2] H_9 = some (.tuple #[.agg #[.int .i64 t85r0c0, .int .i64 t85r0c1, .int .i64 t85r0c2, .int .i64 t85r0c3, .slice t85r0c4a t85r0c4n t85r0c4k, .slice t85r0c5a t85r0c5n t85r0c5k], .int .i64 t85r1, .int .i64 t85r2], H_10) ∧
    (∃ (H_11 : Heap), H_11 = H_10.push (.row [.int .i64 0, .int .i64 0, .int .i64 0, .int .i64 0, .slice none 0 0, .slice none 0 0] true) ∧
    (∃ (H_12 : Heap), stc H_11 H_10.next 0 [.int .i64 t85r0c0, .int .i64 t85r0c1, .int .i64 t85r0c2, .int .i64 t85r0c3, .slice t85r0c4a t85r0c4n t85r0c4k, .slice t85r0c5a t85r0c5n t85r0c5k] = some H_12 ∧
    (∃ (t90c0 : Int) (t90c1 : Int) (t90c2 : Int) (t90c3 : Int) (t90c4a : Option Addr) (t90c4n : Nat) (t90c4k : Nat) (t90c5a : Option Addr) (t90c5n : Nat) (t90c5k : Nat), ldAll H_12 t8b t8o [.int .i64 t90c0, .int .i64 t90c1, .int .i64 t90c2, .int .i64 t90c3, .slice t90c4a t90c4n t90c4k, .slice t90c5a t90c5n t90c5k] ∧
    (∃ (t92r0c0 : Int) (t92r0c1 : Int) (t92r0c2 : Int) (t92r0c3 : Int) (t92r0c4a : Option Addr) (t92r0c4n : Nat) (t92r0c4k : Nat) (t92r0c5a : Option Addr) (t92r0c5n : Nat) (t92r0c5k : Nat) (t92r1 : Int) (t92r2 : Int) (H_13 : Heap), xC Try.prog good 47 [.agg #[.int .i64 t90c0, .int .i64 t90c1, .int .i64 t90c2, .int .i64 t90c3, .slice t90c4a t90c4n t90c4k, .slice t90c5a t90c5n t90c5k], .int .i64 t2] H_12 = some (.tuple #[.agg #[.int .i64 t92r0c0, .int .i64 t92r0c1, .int .i64 t92r0c2, .int .i64 t92r0c3, .slice t92r0c4a t92r0c4n t92r0c4k, .slice t92r0c5a t92r0c5n t92r0c5k], .int .i64 t92r1, .int .i64 t92r2], H_13) ∧
    (∃ (H_14 : Heap), H_14 = H_13.push (.row [.int .i64 0, .int .i64 0, .int .i64 0, .int .i64 0, .slice none 0 0, .slice none 0 0] true) ∧
    (∃ (H_15 : Heap), stc H_14 H_13.next 0 [.int .i64 t92r0c0, .int .i64 t92r0c1, .int .i64 t92r0c2, .int .i64 t92r0c3, .slice t92r0c4a t92r0c4n t92r0c4k, .slice t92r0c5a t92r0c5n t92r0c5k] = some H_15 ∧
    (∃ (t96c0 : Int) (t96c1 : Int) (t96c2 : Int) (t96c3 : Int) (t96c4a : Option Addr) (t96c4n : Nat) (t96c4k : Nat) (t96c5a : Option Addr) (t96c5n : Nat) (t96c5k : Nat), ldAll H_15 t8b t8o [.int .i64 t96c0, .int .i64 t96c1, .int .i64 t96c2, .int .i64 t96c3, .slice t96c4a t96c4n t96c4k, .slice t96c5a t96c5n t96c5k] ∧
    (∃ (t97 : Bool) (H_16 : Heap), xC Try.prog good 28 [.agg #[.int .i64 t96c0, .int .i64 t96c1, .int .i64 t96c2, .int .i64 t96c3, .slice t96c4a t96c4n t96c4k, .slice t96c5a t96c5n t96c5k]] H_15 = some (.bool t97, H_16) ∧
    (∃ (t98c0 : Int) (t98c1 : Int) (t98c2 : Int) (t98c3 : Int) (t98c4a : Option Addr) (t98c4n : Nat) (t98c4k : Nat) (t98c5a : Option Addr) (t98c5n : Nat) (t98c5k : Nat), ldAll H_15 t8b t8o [.int .i64 t98c0, .int .i64 t98c1, .int .i64 t98c2, .int .i64 t98c3, .slice t98c4a t98c4n t98c4k, .slice t98c5a t98c5n t98c5k] ∧
    (∃ (t99 : Bool) (H_17 : Heap), xC Try.prog good 48 [.agg #[.int .i64 t98c0, .int .i64 t98c1, .int .i64 t98c2, .int .i64 t98c3, .slice t98c4a t98c4n t98c4k, .slice t98c5a t98c5n t98c5k]] H_16 = some (.bool t99, H_17) ∧
    (if (t97 == t99) = true then
    (∃ (t102c0 : Int) (t102c1 : Int) (t102c2 : Int) (t102c3 : Int) (t102c4a : Option Addr) (t102c4n : Nat) (t102c4k : Nat) (t102c5a : Option Addr) (t102c5n : Nat) (t102c5k : Nat), ldAll H_17 t8b t8o [.int .i64 t102c0, .int .i64 t102c1, .int .i64 t102c2, .int .i64 t102c3, .slice t102c4a t102c4n t102c4k, .slice t102c5a t102c5n t102c5k] ∧
    (∃ (t103c0 : Int) (t103c1 : Int) (t103c2 : Int) (t103c3 : Int) (t103c4a : Option Addr) (t103c4n : Nat) (t103c4k : Nat) (t103c5a : Option Addr) (t103c5n : Nat) (t103c5k : Nat), ldAll H_17 t9b t9o [.int .i64 t103c0, .int .i64 t103c1, .int .i64 t103c2, .int .i64 t103c3, .slice t103c4a t103c4n t103c4k, .slice t103c5a t103c5n t103c5k] ∧
    (∃ (t104 : Bool) (H_18 : Heap), xC Try.prog good 42 [.agg #[.int .i64 t102c0, .int .i64 t102c1, .int .i64 t102c2, .int .i64 t102c3, .slice t102c4a t102c4n t102c4k, .slice t102c5a t102c5n t102c5k], .agg #[.int .i64 t103c0, .int .i64 t103c1, .int .i64 t103c2, .int .i64 t103c3, .slice t103c4a t103c4n t103c4k, .slice t103c5a t103c5n t103c5k]] H_17 = some (.bool t104, H_18) ∧
    (∃ (t105c0 : Int) (t105c1 : Int) (t105c2 : Int) (t105c3 : Int) (t105c4a : Option Addr) (t105c4n : Nat) (t105c4k : Nat) (t105c5a : Option Addr) (t105c5n : Nat) (t105c5k : Nat), ldAll H_17 t8b t8o [.int .i64 t105c0, .int .i64 t105c1, .int .i64 t105c2, .int .i64 t105c3, .slice t105c4a t105c4n t105c4k, .slice t105c5a t105c5n t105c5k] ∧
    (∃ (t106c0 : Int) (t106c1 : Int) (t106c2 : Int) (t106c3 : Int) (t106c4a : Option Addr) (t106c4n : Nat) (t106c4k : Nat) (t106c5a : Option Addr) (t106c5n : Nat) (t106c5k : Nat), ldAll H_17 t9b t9o [.int .i64 t106c0, .int .i64 t106c1, .int .i64 t106c2, .int .i64 t106c3, .slice t106c4a t106c4n t106c4k, .slice t106c5a t106c5n t106c5k] ∧
    (∃ (t107 : Bool) (H_19 : Heap), xC Try.prog good 44 [.agg #[.int .i64 t105c0, .int .i64 t105c1, .int .i64 t105c2, .int .i64 t105c3, .slice t105c4a t105c4n t105c4k, .slice t105c5a t105c5n t105c5k], .agg #[.int .i64 t106c0, .int .i64 t106c1, .int .i64 t106c2, .int .i64 t106c3, .slice t106c4a t106c4n t106c4k, .slice t106c5a t106c5n t106c5k]] H_18 = some (.bool t107, H_19) ∧
    (if (t104 == t107) = true then
    (∃ (t112 : ByteArray), pstrb H_19 t62r0a t62r0n = some t112 ∧
    (∃ (t114 : ByteArray), pstrb H_19 t67r0a t67r0n = some t114 ∧
    (if t112.toList = t114.toList then
    (if t62r1 = t67r1 then
    (∃ (t123c0 : Int) (t123c1 : Int) (t123c2 : Int) (t123c3 : Int) (t123c4a : Option Addr) (t123c4n : Nat) (t123c4k : Nat) (t123c5a : Option Addr) (t123c5n : Nat) (t123c5k : Nat), ldAll H_19 H_4.next 0 [.int .i64 t123c0, .int .i64 t123c1, .int .i64 t123c2, .int .i64 t123c3, .slice t123c4a t123c4n t123c4k, .slice t123c5a t123c5n t123c5k] ∧
    (∃ (t124c0 : Int) (t124c1 : Int) (t124c2 : Int) (t124c3 : Int) (t124c4a : Option Addr) (t124c4n : Nat) (t124c4k : Nat) (t124c5a : Option Addr) (t124c5n : Nat) (t124c5k : Nat), ldAll H_19 H_7.next 0 [.int .i64 t124c0, .int .i64 t124c1, .int .i64 t124c2, .int .i64 t124c3, .slice t124c4a t124c4n t124c4k, .slice t124c5a t124c5n t124c5k] ∧
    (∃ (t125 : Bool) (H_20 : Heap), xC Try.prog good 44 [.agg #[.int .i64 t123c0, .int .i64 t123c1, .int .i64 t123c2, .int .i64 t123c3, .slice t123c4a t123c4n t123c4k, .slice t123c5a t123c5n t123c5k], .agg #[.int .i64 t124c0, .int .i64 t124c1, .int .i64 t124c2, .int .i64 t124c3, .slice t124c4a t124c4n t124c4k, .slice t124c5a t124c5n t124c5k]] H_19 = some (.bool t125, H_20) ∧
    (if t125 = true then
    (if t73r1 = t79r1 then
    (∃ (t134c0 : Int) (t134c1 : Int) (t134c2 : Int) (t134c3 : Int) (t134c4a : Option Addr) (t134c4n : Nat) (t134c4k : Nat) (t134c5a : Option Addr) (t134c5n : Nat) (t134c5k : Nat), ldAll H_20 H_10.next 0 [.int .i64 t134c0, .int .i64 t134c1, .int .i64 t134c2, .int .i64 t134c3, .slice t134c4a t134c4n t134c4k, .slice t134c5a t134c5n t134c5k] ∧
    (∃ (t135c0 : Int) (t135c1 : Int) (t135c2 : Int) (t135c3 : Int) (t135c4a : Option Addr) (t135c4n : Nat) (t135c4k : Nat) (t135c5a : Option Addr) (t135c5n : Nat) (t135c5k : Nat), ldAll H_20 H_13.next 0 [.int .i64 t135c0, .int .i64 t135c1, .int .i64 t135c2, .int .i64 t135c3, .slice t135c4a t135c4n t135c4k, .slice t135c5a t135c5n t135c5k] ∧
    (∃ (t136 : Bool) (H_21 : Heap), xC Try.prog good 44 [.agg #[.int .i64 t134c0, .int .i64 t134c1, .int .i64 t134c2, .int .i64 t134c3, .slice t134c4a t134c4n t134c4k, .slice t134c5a t134c5n t134c5k], .agg #[.int .i64 t135c0, .int .i64 t135c1, .int .i64 t135c2, .int .i64 t135c3, .slice t135c4a t135c4n t135c4k, .slice t135c5a t135c5n t135c5k]] H_20 = some (.bool t136, H_21) ∧
    (if t136 = true then
    (if t85r1 = t92r1 then
    (if t85r2 = t92r2 then
    (∃ (t151a : Option Addr) (t151n : Nat) (t151k : Nat) (H_22 : Heap), xC Try.prog good 21 [.slice t3a t3n t3k] H_21 = some (.slice t151a t151n t151k, H_22) ∧
    (∃ (t153a : Option Addr) (t153n : Nat) (t153k : Nat) (H_23 : Heap), xC Try.prog good 49 [.slice t3a t3n t3k] H_22 = some (.slice t153a t153n t153k, H_23) ∧
    (∃ (t154 : Bool) (H_24 : Heap), xC Try.prog good 25 [.slice t151a t151n t151k, .slice t153a t153n t153k] H_23 = some (.bool t154, H_24) ∧
    (ldAll H_16 t8b t8o [.int .i64 t98c0, .int .i64 t98c1, .int .i64 t98c2, .int .i64 t98c3, .slice t98c4a t98c4n t98c4k, .slice t98c5a t98c5n t98c5k] ∧
    ldAll H_18 t8b t8o [.int .i64 t105c0, .int .i64 t105c1, .int .i64 t105c2, .int .i64 t105c3, .slice t105c4a t105c4n t105c4k, .slice t105c5a t105c5n t105c5k] ∧
    ldAll H_18 t9b t9o [.int .i64 t106c0, .int .i64 t106c1, .int .i64 t106c2, .int .i64 t106c3, .slice t106c4a t106c4n t106c4k, .slice t106c5a t106c5n t106c5k] ∧
    (L1 (t4a) (t4n) (t4k) (t5) (t6) (t7a) (t7n) (t7k) (t67r0a) (t67r0n) (t67r0k) ((!t154)) H_24 r)))))
    else
    (ldAll H_16 t8b t8o [.int .i64 t98c0, .int .i64 t98c1, .int .i64 t98c2, .int .i64 t98c3, .slice t98c4a t98c4n t98c4k, .slice t98c5a t98c5n t98c5k] ∧
    ldAll H_18 t8b t8o [.int .i64 t105c0, .int .i64 t105c1, .int .i64 t105c2, .int .i64 t105c3, .slice t105c4a t105c4n t105c4k, .slice t105c5a t105c5n t105c5k] ∧
    ldAll H_18 t9b t9o [.int .i64 t106c0, .int .i64 t106c1, .int .i64 t106c2, .int .i64 t106c3, .slice t106c4a t106c4n t106c4k, .slice t106c5a t106c5n t106c5k] ∧
    (L1 (t4a) (t4n) (t4k) (t5) (t6) (t7a) (t7n) (t7k) (t67r0a) (t67r0n) (t67r0k) (true) H_21 r)))
    else
    (ldAll H_16 t8b t8o [.int .i64 t98c0, .int .i64 t98c1, .int .i64 t98c2, .int .i64 t98c3, .slice t98c4a t98c4n t98c4k, .slice t98c5a t98c5n t98c5k] ∧
    ldAll H_18 t8b t8o [.int .i64 t105c0, .int .i64 t105c1, .int .i64 t105c2, .int .i64 t105c3, .slice t105c4a t105c4n t105c4k, .slice t105c5a t105c5n t105c5k] ∧
    ldAll H_18 t9b t9o [.int .i64 t106c0, .int .i64 t106c1, .int .i64 t106c2, .int .i64 t106c3, .slice t106c4a t106c4n t106c4k, .slice t106c5a t106c5n t106c5k] ∧
    (L1 (t4a) (t4n) (t4k) (t5) (t6) (t7a) (t7n) (t7k) (t67r0a) (t67r0n) (t67r0k) (true) H_21 r)))
    else
    (ldAll H_16 t8b t8o [.int .i64 t98c0, .int .i64 t98c1, .int .i64 t98c2, .int .i64 t98c3, .slice t98c4a t98c4n t98c4k, .slice t98c5a t98c5n t98c5k] ∧
    ldAll H_18 t8b t8o [.int .i64 t105c0, .int .i64 t105c1, .int .i64 t105c2, .int .i64 t105c3, .slice t105c4a t105c4n t105c4k, .slice t105c5a t105c5n t105c5k] ∧
    ldAll H_18 t9b t9o [.int .i64 t106c0, .int .i64 t106c1, .int .i64 t106c2, .int .i64 t106c3, .slice t106c4a t106c4n t106c4k, .slice t106c5a t106c5n t106c5k] ∧
    (L1 (t4a) (t4n) (t4k) (t5) (t6) (t7a) (t7n) (t7k) (t67r0a) (t67r0n) (t67r0k) (true) H_21 r))))))
    else
    (ldAll H_16 t8b t8o [.int .i64 t98c0, .int .i64 t98c1, .int .i64 t98c2, .int .i64 t98c3, .slice t98c4a t98c4n t98c4k, .slice t98c5a t98c5n t98c5k] ∧
    ldAll H_18 t8b t8o [.int .i64 t105c0, .int .i64 t105c1, .int .i64 t105c2, .int .i64 t105c3, .slice t105c4a t105c4n t105c4k, .slice t105c5a t105c5n t105c5k] ∧
    ldAll H_18 t9b t9o [.int .i64 t106c0, .int .i64 t106c1, .int .i64 t106c2, .int .i64 t106c3, .slice t106c4a t106c4n t106c4k, .slice t106c5a t106c5n t106c5k] ∧
    (L1 (t4a) (t4n) (t4k) (t5) (t6) (t7a) (t7n) (t7k) (t67r0a) (t67r0n) (t67r0k) (true) H_20 r)))
    else
    (ldAll H_16 t8b t8o [.int .i64 t98c0, .int .i64 t98c1, .int .i64 t98c2, .int .i64 t98c3, .slice t98c4a t98c4n t98c4k, .slice t98c5a t98c5n t98c5k] ∧
    ldAll H_18 t8b t8o [.int .i64 t105c0, .int .i64 t105c1, .int .i64 t105c2, .int .i64 t105c3, .slice t105c4a t105c4n t105c4k, .slice t105c5a t105c5n t105c5k] ∧
    ldAll H_18 t9b t9o [.int .i64 t106c0, .int .i64 t106c1, .int .i64 t106c2, .int .i64 t106c3, .slice t106c4a t106c4n t106c4k, .slice t106c5a t106c5n t106c5k] ∧
    (L1 (t4a) (t4n) (t4k) (t5) (t6) (t7a) (t7n) (t7k) (t67r0a) (t67r0n) (t67r0k) (true) H_20 r))))))
    else
    (ldAll H_16 t8b t8o [.int .i64 t98c0, .int .i64 t98c1, .int .i64 t98c2, .int .i64 t98c3, .slice t98c4a t98c4n t98c4k, .slice t98c5a t98c5n t98c5k] ∧
    ldAll H_18 t8b t8o [.int .i64 t105c0, .int .i64 t105c1, .int .i64 t105c2, .int .i64 t105c3, .slice t105c4a t105c4n t105c4k, .slice t105c5a t105c5n t105c5k] ∧
    ldAll H_18 t9b t9o [.int .i64 t106c0, .int .i64 t106c1, .int .i64 t106c2, .int .i64 t106c3, .slice t106c4a t106c4n t106c4k, .slice t106c5a t106c5n t106c5k] ∧
    (L1 (t4a) (t4n) (t4k) (t5) (t6) (t7a) (t7n) (t7k) (t67r0a) (t67r0n) (t67r0k) (true) H_19 r)))
    else
    (ldAll H_16 t8b t8o [.int .i64 t98c0, .int .i64 t98c1, .int .i64 t98c2, .int .i64 t98c3, .slice t98c4a t98c4n t98c4k, .slice t98c5a t98c5n t98c5k] ∧
    ldAll H_18 t8b t8o [.int .i64 t105c0, .int .i64 t105c1, .int .i64 t105c2, .int .i64 t105c3, .slice t105c4a t105c4n t105c4k, .slice t105c5a t105c5n t105c5k] ∧
    ldAll H_18 t9b t9o [.int .i64 t106c0, .int .i64 t106c1, .int .i64 t106c2, .int .i64 t106c3, .slice t106c4a t106c4n t106c4k, .slice t106c5a t106c5n t106c5k] ∧
    (L1 (t4a) (t4n) (t4k) (t5) (t6) (t7a) (t7n) (t7k) (t67r0a) (t67r0n) (t67r0k) (true) H_19 r)))))
    else
    (ldAll H_16 t8b t8o [.int .i64 t98c0, .int .i64 t98c1, .int .i64 t98c2, .int .i64 t98c3, .slice t98c4a t98c4n t98c4k, .slice t98c5a t98c5n t98c5k] ∧
    ldAll H_18 t8b t8o [.int .i64 t105c0, .int .i64 t105c1, .int .i64 t105c2, .int .i64 t105c3, .slice t105c4a t105c4n t105c4k, .slice t105c5a t105c5n t105c5k] ∧
    ldAll H_18 t9b t9o [.int .i64 t106c0, .int .i64 t106c1, .int .i64 t106c2, .int .i64 t106c3, .slice t106c4a t106c4n t106c4k, .slice t106c5a t106c5n t106c5k] ∧
    (L1 (t4a) (t4n) (t4k) (t5) (t6) (t7a) (t7n) (t7k) (t67r0a) (t67r0n) (t67r0k) (true) H_19 r)))))))))
    else
    (ldAll H_16 t8b t8o [.int .i64 t98c0, .int .i64 t98c1, .int .i64 t98c2, .int .i64 t98c3, .slice t98c4a t98c4n t98c4k, .slice t98c5a t98c5n t98c5k] ∧
    (L1 (t4a) (t4n) (t4k) (t5) (t6) (t7a) (t7n) (t7k) (t67r0a) (t67r0n) (t67r0k) (true) H_17 r)))))))))))))))))))))))))))) :
    L0 t2 t3a t3n t3k t4a t4n t4k t5 t6 t7a t7n t7k t8b t8o t9b t9o t58 H r := by
  intro J
  show KR _ _ _ (.code (sub B [1, 0, 1]) :: S1) _ _ _
  by_cases c10 : t58 = true
  · replace h := iteT c10 h
    refine KR.br true (by kernel_rfl) (vB (bT c10)) ?_
    refine KR.run 2 [] 223 (s' := (.reg (opsAt (sub B [1, 0, 1, 0, 0])) [0, 1] :: S3)) (by kernel_rfl) fun J => ?_
    obtain ⟨t59, H_1, q11, h⟩ := h
    refine KR.se (one_ca (by kernel_rfl) q11) ?_
    refine KR.run 2 [(16, .bool t59)] 223 (s' := (.code (sub B [1, 0, 1, 0, 1]) :: S1)) (by kernel_rfl) fun J => ?_
    exact KR.fin (by kernel_rfl) h
  · replace h := iteF c10 h
    refine KR.br false (by kernel_rfl) (vB (bF c10)) ?_
    refine KR.run 3 [(2, .int .i64 t2), (3, .slice t3a t3n t3k), (4, .slice t4a t4n t4k), (5, .int .u8 t5), (6, .int .i64 t6), (7, .slice t7a t7n t7k), (8, .pointer (some ⟨t8b, t8o, none⟩)), (9, .pointer (some ⟨t9b, t9o, none⟩))] 223 (s' := (.reg (opsAt (sub B [1, 1, 0])) [0, 1, 2, 3, 4, 5, 6] :: S4)) (by kernel_rfl) fun J => ?_
    obtain ⟨t61c0, t61c1, t61c2, t61c3, t61c4a, t61c4n, t61c4k, t61c5a, t61c5n, t61c5k, q12, h⟩ := h
    refine KR.rd (one_ldA (by kernel_rfl) q12) ?_
    obtain ⟨t62r0a, t62r0n, t62r0k, t62r1, H_2, q13, h⟩ := h
    refine KR.se (one_ca (by kernel_rfl) q13) ?_
    refine KR.run 8 [(2, .int .i64 t2), (3, .slice t3a t3n t3k), (4, .slice t4a t4n t4k), (5, .int .u8 t5), (6, .int .i64 t6), (7, .slice t7a t7n t7k), (8, .pointer (some ⟨t8b, t8o, none⟩)), (9, .pointer (some ⟨t9b, t9o, none⟩)), (17, .slice t62r0a t62r0n t62r0k), (18, .int .i64 t62r1)] 223 (s' := (.reg (opsAt (sub B [1, 1, 1, 0])) [0, 1, 2, 3, 4, 5, 6] :: S5)) (by kernel_rfl) fun J => ?_
    obtain ⟨t66c0, t66c1, t66c2, t66c3, t66c4a, t66c4n, t66c4k, t66c5a, t66c5n, t66c5k, q14, h⟩ := h
    refine KR.rd (one_ldA (by kernel_rfl) q14) ?_
    obtain ⟨t67r0a, t67r0n, t67r0k, t67r1, H_3, q15, h⟩ := h
    refine KR.se (one_ca (by kernel_rfl) q15) ?_
    refine KR.run 8 [(2, .int .i64 t2), (3, .slice t3a t3n t3k), (4, .slice t4a t4n t4k), (5, .int .u8 t5), (6, .int .i64 t6), (7, .slice t7a t7n t7k), (8, .pointer (some ⟨t8b, t8o, none⟩)), (9, .pointer (some ⟨t9b, t9o, none⟩)), (17, .slice t62r0a t62r0n t62r0k), (18, .int .i64 t62r1), (19, .slice t67r0a t67r0n t67r0k), (20, .int .i64 t67r1)] 223 (s' := (.reg (opsAt (sub B [1, 1, 1, 1, 0])) [0, 1, 2, 3, 4, 5, 6, 7, 8] :: S6)) (by kernel_rfl) fun J => ?_
    obtain ⟨t71c0, t71c1, t71c2, t71c3, t71c4a, t71c4n, t71c4k, t71c5a, t71c5n, t71c5k, q16, h⟩ := h
    refine KR.rd (one_ldA (by kernel_rfl) q16) ?_
    refine KR.run 1 [(2, .int .i64 t2), (3, .slice t3a t3n t3k), (4, .slice t4a t4n t4k), (5, .int .u8 t5), (6, .int .i64 t6), (7, .slice t7a t7n t7k), (8, .pointer (some ⟨t8b, t8o, none⟩)), (9, .pointer (some ⟨t9b, t9o, none⟩)), (17, .slice t62r0a t62r0n t62r0k), (18, .int .i64 t62r1), (19, .slice t67r0a t67r0n t67r0k), (20, .int .i64 t67r1), (71, .agg #[.int .i64 t71c0, .int .i64 t71c1, .int .i64 t71c2, .int .i64 t71c3, .slice t71c4a t71c4n t71c4k, .slice t71c5a t71c5n t71c5k]), (72, .int .i64 t2)] 223 (s' := (.reg (opsAt (sub B [1, 1, 1, 1, 0])) [2, 3, 4, 5, 6, 7, 8] :: S6)) (by kernel_rfl) fun J => ?_
    obtain ⟨t73r0c0, t73r0c1, t73r0c2, t73r0c3, t73r0c4a, t73r0c4n, t73r0c4k, t73r0c5a, t73r0c5n, t73r0c5k, t73r1, H_4, q17, h⟩ := h
    refine KR.se (one_ca (by kernel_rfl) q17) ?_
    refine KR.run 3 [(2, .int .i64 t2), (3, .slice t3a t3n t3k), (4, .slice t4a t4n t4k), (5, .int .u8 t5), (6, .int .i64 t6), (7, .slice t7a t7n t7k), (8, .pointer (some ⟨t8b, t8o, none⟩)), (9, .pointer (some ⟨t9b, t9o, none⟩)), (17, .slice t62r0a t62r0n t62r0k), (18, .int .i64 t62r1), (19, .slice t67r0a t67r0n t67r0k), (20, .int .i64 t67r1), (74, .agg #[.int .i64 t73r0c0, .int .i64 t73r0c1, .int .i64 t73r0c2, .int .i64 t73r0c3, .slice t73r0c4a t73r0c4n t73r0c4k, .slice t73r0c5a t73r0c5n t73r0c5k]), (75, .int .i64 t73r1)] 223 (s' := (.reg (opsAt (sub B [1, 1, 1, 1, 0])) [6, 7, 8] :: S6)) (by kernel_rfl) fun J => ?_
    obtain ⟨H_5, q18, h⟩ := h
    refine KR.mk (w := pRow [.int .i64 0, .int .i64 0, .int .i64 0, .int .i64 0, .slice none 0 0, .slice none 0 0]) (one_al (by kernel_rfl)) q18 ?_
    obtain ⟨H_6, q19, h⟩ := h
    refine KR.se (one_st (by kernel_rfl) q19) ?_
    refine KR.run 4 [(2, .int .i64 t2), (3, .slice t3a t3n t3k), (4, .slice t4a t4n t4k), (5, .int .u8 t5), (6, .int .i64 t6), (7, .slice t7a t7n t7k), (8, .pointer (some ⟨t8b, t8o, none⟩)), (9, .pointer (some ⟨t9b, t9o, none⟩)), (17, .slice t62r0a t62r0n t62r0k), (18, .int .i64 t62r1), (19, .slice t67r0a t67r0n t67r0k), (20, .int .i64 t67r1), (21, .pointer (some ⟨H_4.next, 0, none⟩)), (22, .int .i64 t73r1)] 223 (s' := (.reg (opsAt (sub B [1, 1, 1, 1, 1, 0])) [0, 1, 2, 3, 4, 5, 6, 7, 8] :: S7)) (by kernel_rfl) fun J => ?_
    obtain ⟨t77c0, t77c1, t77c2, t77c3, t77c4a, t77c4n, t77c4k, t77c5a, t77c5n, t77c5k, q20, h⟩ := h
    refine KR.rd (one_ldA (by kernel_rfl) q20) ?_
    refine KR.run 1 [(2, .int .i64 t2), (3, .slice t3a t3n t3k), (4, .slice t4a t4n t4k), (5, .int .u8 t5), (6, .int .i64 t6), (7, .slice t7a t7n t7k), (8, .pointer (some ⟨t8b, t8o, none⟩)), (9, .pointer (some ⟨t9b, t9o, none⟩)), (17, .slice t62r0a t62r0n t62r0k), (18, .int .i64 t62r1), (19, .slice t67r0a t67r0n t67r0k), (20, .int .i64 t67r1), (21, .pointer (some ⟨H_4.next, 0, none⟩)), (22, .int .i64 t73r1), (77, .agg #[.int .i64 t77c0, .int .i64 t77c1, .int .i64 t77c2, .int .i64 t77c3, .slice t77c4a t77c4n t77c4k, .slice t77c5a t77c5n t77c5k]), (78, .int .i64 t2)] 223 (s' := (.reg (opsAt (sub B [1, 1, 1, 1, 1, 0])) [2, 3, 4, 5, 6, 7, 8] :: S7)) (by kernel_rfl) fun J => ?_
    obtain ⟨t79r0c0, t79r0c1, t79r0c2, t79r0c3, t79r0c4a, t79r0c4n, t79r0c4k, t79r0c5a, t79r0c5n, t79r0c5k, t79r1, H_7, q21, h⟩ := h
    refine KR.se (one_ca (by kernel_rfl) q21) ?_
    refine KR.run 3 [(2, .int .i64 t2), (3, .slice t3a t3n t3k), (4, .slice t4a t4n t4k), (5, .int .u8 t5), (6, .int .i64 t6), (7, .slice t7a t7n t7k), (8, .pointer (some ⟨t8b, t8o, none⟩)), (9, .pointer (some ⟨t9b, t9o, none⟩)), (17, .slice t62r0a t62r0n t62r0k), (18, .int .i64 t62r1), (19, .slice t67r0a t67r0n t67r0k), (20, .int .i64 t67r1), (21, .pointer (some ⟨H_4.next, 0, none⟩)), (22, .int .i64 t73r1), (80, .agg #[.int .i64 t79r0c0, .int .i64 t79r0c1, .int .i64 t79r0c2, .int .i64 t79r0c3, .slice t79r0c4a t79r0c4n t79r0c4k, .slice t79r0c5a t79r0c5n t79r0c5k]), (81, .int .i64 t79r1)] 223 (s' := (.reg (opsAt (sub B [1, 1, 1, 1, 1, 0])) [6, 7, 8] :: S7)) (by kernel_rfl) fun J => ?_
    obtain ⟨H_8, q22, h⟩ := h
    refine KR.mk (w := pRow [.int .i64 0, .int .i64 0, .int .i64 0, .int .i64 0, .slice none 0 0, .slice none 0 0]) (one_al (by kernel_rfl)) q22 ?_
    obtain ⟨H_9, q23, h⟩ := h
    refine KR.se (one_st (by kernel_rfl) q23) ?_
    refine KR.run 4 [(2, .int .i64 t2), (3, .slice t3a t3n t3k), (4, .slice t4a t4n t4k), (5, .int .u8 t5), (6, .int .i64 t6), (7, .slice t7a t7n t7k), (8, .pointer (some ⟨t8b, t8o, none⟩)), (9, .pointer (some ⟨t9b, t9o, none⟩)), (17, .slice t62r0a t62r0n t62r0k), (18, .int .i64 t62r1), (19, .slice t67r0a t67r0n t67r0k), (20, .int .i64 t67r1), (21, .pointer (some ⟨H_4.next, 0, none⟩)), (22, .int .i64 t73r1), (23, .pointer (some ⟨H_7.next, 0, none⟩)), (24, .int .i64 t79r1)] 223 (s' := (.reg (opsAt (sub B [1, 1, 1, 1, 1, 1, 0])) [0, 1, 2, 3, 4, 5, 6, 7, 8, 9, 10] :: S8)) (by kernel_rfl) fun J => ?_
    obtain ⟨t83c0, t83c1, t83c2, t83c3, t83c4a, t83c4n, t83c4k, t83c5a, t83c5n, t83c5k, q24, h⟩ := h
    refine KR.rd (one_ldA (by kernel_rfl) q24) ?_
    refine KR.run 1 [(2, .int .i64 t2), (3, .slice t3a t3n t3k), (4, .slice t4a t4n t4k), (5, .int .u8 t5), (6, .int .i64 t6), (7, .slice t7a t7n t7k), (8, .pointer (some ⟨t8b, t8o, none⟩)), (9, .pointer (some ⟨t9b, t9o, none⟩)), (17, .slice t62r0a t62r0n t62r0k), (18, .int .i64 t62r1), (19, .slice t67r0a t67r0n t67r0k), (20, .int .i64 t67r1), (21, .pointer (some ⟨H_4.next, 0, none⟩)), (22, .int .i64 t73r1), (23, .pointer (some ⟨H_7.next, 0, none⟩)), (24, .int .i64 t79r1), (83, .agg #[.int .i64 t83c0, .int .i64 t83c1, .int .i64 t83c2, .int .i64 t83c3, .slice t83c4a t83c4n t83c4k, .slice t83c5a t83c5n t83c5k]), (84, .int .i64 t2)] 223 (s' := (.reg (opsAt (sub B [1, 1, 1, 1, 1, 1, 0])) [2, 3, 4, 5, 6, 7, 8, 9, 10] :: S8)) (by kernel_rfl) fun J => ?_
    obtain ⟨t85r0c0, t85r0c1, t85r0c2, t85r0c3, t85r0c4a, t85r0c4n, t85r0c4k, t85r0c5a, t85r0c5n, t85r0c5k, t85r1, t85r2, H_10, q25, h⟩ := h
    refine KR.se (one_ca (by kernel_rfl) q25) ?_
    refine KR.run 4 [(2, .int .i64 t2), (3, .slice t3a t3n t3k), (4, .slice t4a t4n t4k), (5, .int .u8 t5), (6, .int .i64 t6), (7, .slice t7a t7n t7k), (8, .pointer (some ⟨t8b, t8o, none⟩)), (9, .pointer (some ⟨t9b, t9o, none⟩)), (17, .slice t62r0a t62r0n t62r0k), (18, .int .i64 t62r1), (19, .slice t67r0a t67r0n t67r0k), (20, .int .i64 t67r1), (21, .pointer (some ⟨H_4.next, 0, none⟩)), (22, .int .i64 t73r1), (23, .pointer (some ⟨H_7.next, 0, none⟩)), (24, .int .i64 t79r1), (86, .agg #[.int .i64 t85r0c0, .int .i64 t85r0c1, .int .i64 t85r0c2, .int .i64 t85r0c3, .slice t85r0c4a t85r0c4n t85r0c4k, .slice t85r0c5a t85r0c5n t85r0c5k]), (87, .int .i64 t85r1), (88, .int .i64 t85r2)] 223 (s' := (.reg (opsAt (sub B [1, 1, 1, 1, 1, 1, 0])) [7, 8, 9, 10] :: S8)) (by kernel_rfl) fun J => ?_
    obtain ⟨H_11, q26, h⟩ := h
    refine KR.mk (w := pRow [.int .i64 0, .int .i64 0, .int .i64 0, .int .i64 0, .slice none 0 0, .slice none 0 0]) (one_al (by kernel_rfl)) q26 ?_
    obtain ⟨H_12, q27, h⟩ := h
    refine KR.se (one_st (by kernel_rfl) q27) ?_
    refine KR.run 5 [(2, .int .i64 t2), (3, .slice t3a t3n t3k), (4, .slice t4a t4n t4k), (5, .int .u8 t5), (6, .int .i64 t6), (7, .slice t7a t7n t7k), (8, .pointer (some ⟨t8b, t8o, none⟩)), (9, .pointer (some ⟨t9b, t9o, none⟩)), (17, .slice t62r0a t62r0n t62r0k), (18, .int .i64 t62r1), (19, .slice t67r0a t67r0n t67r0k), (20, .int .i64 t67r1), (21, .pointer (some ⟨H_4.next, 0, none⟩)), (22, .int .i64 t73r1), (23, .pointer (some ⟨H_7.next, 0, none⟩)), (24, .int .i64 t79r1), (25, .pointer (some ⟨H_10.next, 0, none⟩)), (26, .int .i64 t85r1), (27, .int .i64 t85r2)] 223 (s' := (.reg (opsAt (sub B [1, 1, 1, 1, 1, 1, 1, 0])) [0, 1, 2, 3, 4, 5, 6, 7, 8, 9, 10] :: S9)) (by kernel_rfl) fun J => ?_
    obtain ⟨t90c0, t90c1, t90c2, t90c3, t90c4a, t90c4n, t90c4k, t90c5a, t90c5n, t90c5k, q28, h⟩ := h
    refine KR.rd (one_ldA (by kernel_rfl) q28) ?_
    refine KR.run 1 [(3, .slice t3a t3n t3k), (4, .slice t4a t4n t4k), (5, .int .u8 t5), (6, .int .i64 t6), (7, .slice t7a t7n t7k), (8, .pointer (some ⟨t8b, t8o, none⟩)), (9, .pointer (some ⟨t9b, t9o, none⟩)), (17, .slice t62r0a t62r0n t62r0k), (18, .int .i64 t62r1), (19, .slice t67r0a t67r0n t67r0k), (20, .int .i64 t67r1), (21, .pointer (some ⟨H_4.next, 0, none⟩)), (22, .int .i64 t73r1), (23, .pointer (some ⟨H_7.next, 0, none⟩)), (24, .int .i64 t79r1), (25, .pointer (some ⟨H_10.next, 0, none⟩)), (26, .int .i64 t85r1), (27, .int .i64 t85r2), (90, .agg #[.int .i64 t90c0, .int .i64 t90c1, .int .i64 t90c2, .int .i64 t90c3, .slice t90c4a t90c4n t90c4k, .slice t90c5a t90c5n t90c5k]), (91, .int .i64 t2)] 223 (s' := (.reg (opsAt (sub B [1, 1, 1, 1, 1, 1, 1, 0])) [2, 3, 4, 5, 6, 7, 8, 9, 10] :: S9)) (by kernel_rfl) fun J => ?_
    obtain ⟨t92r0c0, t92r0c1, t92r0c2, t92r0c3, t92r0c4a, t92r0c4n, t92r0c4k, t92r0c5a, t92r0c5n, t92r0c5k, t92r1, t92r2, H_13, q29, h⟩ := h
    refine KR.se (one_ca (by kernel_rfl) q29) ?_
    refine KR.run 4 [(3, .slice t3a t3n t3k), (4, .slice t4a t4n t4k), (5, .int .u8 t5), (6, .int .i64 t6), (7, .slice t7a t7n t7k), (8, .pointer (some ⟨t8b, t8o, none⟩)), (9, .pointer (some ⟨t9b, t9o, none⟩)), (17, .slice t62r0a t62r0n t62r0k), (18, .int .i64 t62r1), (19, .slice t67r0a t67r0n t67r0k), (20, .int .i64 t67r1), (21, .pointer (some ⟨H_4.next, 0, none⟩)), (22, .int .i64 t73r1), (23, .pointer (some ⟨H_7.next, 0, none⟩)), (24, .int .i64 t79r1), (25, .pointer (some ⟨H_10.next, 0, none⟩)), (26, .int .i64 t85r1), (27, .int .i64 t85r2), (93, .agg #[.int .i64 t92r0c0, .int .i64 t92r0c1, .int .i64 t92r0c2, .int .i64 t92r0c3, .slice t92r0c4a t92r0c4n t92r0c4k, .slice t92r0c5a t92r0c5n t92r0c5k]), (94, .int .i64 t92r1), (95, .int .i64 t92r2)] 223 (s' := (.reg (opsAt (sub B [1, 1, 1, 1, 1, 1, 1, 0])) [7, 8, 9, 10] :: S9)) (by kernel_rfl) fun J => ?_
    obtain ⟨H_14, q30, h⟩ := h
    refine KR.mk (w := pRow [.int .i64 0, .int .i64 0, .int .i64 0, .int .i64 0, .slice none 0 0, .slice none 0 0]) (one_al (by kernel_rfl)) q30 ?_
    obtain ⟨H_15, q31, h⟩ := h
    refine KR.se (one_st (by kernel_rfl) q31) ?_
    refine KR.run 5 [(3, .slice t3a t3n t3k), (4, .slice t4a t4n t4k), (5, .int .u8 t5), (6, .int .i64 t6), (7, .slice t7a t7n t7k), (8, .pointer (some ⟨t8b, t8o, none⟩)), (9, .pointer (some ⟨t9b, t9o, none⟩)), (17, .slice t62r0a t62r0n t62r0k), (18, .int .i64 t62r1), (19, .slice t67r0a t67r0n t67r0k), (20, .int .i64 t67r1), (21, .pointer (some ⟨H_4.next, 0, none⟩)), (22, .int .i64 t73r1), (23, .pointer (some ⟨H_7.next, 0, none⟩)), (24, .int .i64 t79r1), (25, .pointer (some ⟨H_10.next, 0, none⟩)), (26, .int .i64 t85r1), (27, .int .i64 t85r2), (28, .pointer (some ⟨H_13.next, 0, none⟩)), (29, .int .i64 t92r1), (30, .int .i64 t92r2)] 223 (s' := (.code (sub B [1, 1, 1, 1, 1, 1, 1, 1, 0, 0]) :: S11)) (by kernel_rfl) fun J => ?_
    refine KE.start H_15 (by kernel_rfl) (by kernel_rfl) ?_
    obtain ⟨t96c0, t96c1, t96c2, t96c3, t96c4a, t96c4n, t96c4k, t96c5a, t96c5n, t96c5k, q32, h⟩ := h
    refine KE.rdN (one_ldA (by kernel_rfl) q32) (by kernel_rfl) ?_
    obtain ⟨t97, H_16, q33, h⟩ := h
    refine KE.se (one_ca (by kernel_rfl) q33) (by kernel_rfl) ?_
    obtain ⟨t98c0, t98c1, t98c2, t98c3, t98c4a, t98c4n, t98c4k, t98c5a, t98c5n, t98c5k, q34, h⟩ := h
    refine KE.rdF (one_ldA (by kernel_rfl) q34) (by kernel_rfl) ?_
    obtain ⟨t99, H_17, q35, h⟩ := h
    refine KE.se (one_ca (by kernel_rfl) q35) (by kernel_rfl) ?_
    refine KE.run 2 [(3, .slice t3a t3n t3k), (4, .slice t4a t4n t4k), (5, .int .u8 t5), (6, .int .i64 t6), (7, .slice t7a t7n t7k), (8, .pointer (some ⟨t8b, t8o, none⟩)), (9, .pointer (some ⟨t9b, t9o, none⟩)), (17, .slice t62r0a t62r0n t62r0k), (18, .int .i64 t62r1), (19, .slice t67r0a t67r0n t67r0k), (20, .int .i64 t67r1), (21, .pointer (some ⟨H_4.next, 0, none⟩)), (22, .int .i64 t73r1), (23, .pointer (some ⟨H_7.next, 0, none⟩)), (24, .int .i64 t79r1), (25, .pointer (some ⟨H_10.next, 0, none⟩)), (26, .int .i64 t85r1), (27, .int .i64 t85r2), (28, .pointer (some ⟨H_13.next, 0, none⟩)), (29, .int .i64 t92r1), (30, .int .i64 t92r2), (101, .bool (!(t97 == t99)))] 223 6 (by kernel_rfl) fun J => ?_
    by_cases c36 : (t97 == t99) = true
    · replace h := iteT c36 h
      refine KE.setV 101 (by kernel_rfl) (nB (bT c36)) ?_
      obtain ⟨t102c0, t102c1, t102c2, t102c3, t102c4a, t102c4n, t102c4k, t102c5a, t102c5n, t102c5k, q37, h⟩ := h
      refine KE.rdN (one_ldA (by kernel_rfl) q37) (by kernel_rfl) ?_
      obtain ⟨t103c0, t103c1, t103c2, t103c3, t103c4a, t103c4n, t103c4k, t103c5a, t103c5n, t103c5k, q38, h⟩ := h
      refine KE.rdN (one_ldA (by kernel_rfl) q38) (by kernel_rfl) ?_
      obtain ⟨t104, H_18, q39, h⟩ := h
      refine KE.se (one_ca (by kernel_rfl) q39) (by kernel_rfl) ?_
      obtain ⟨t105c0, t105c1, t105c2, t105c3, t105c4a, t105c4n, t105c4k, t105c5a, t105c5n, t105c5k, q40, h⟩ := h
      refine KE.rdF (one_ldA (by kernel_rfl) q40) (by kernel_rfl) ?_
      obtain ⟨t106c0, t106c1, t106c2, t106c3, t106c4a, t106c4n, t106c4k, t106c5a, t106c5n, t106c5k, q41, h⟩ := h
      refine KE.rdF (one_ldA (by kernel_rfl) q41) (by kernel_rfl) ?_
      obtain ⟨t107, H_19, q42, h⟩ := h
      refine KE.se (one_ca (by kernel_rfl) q42) (by kernel_rfl) ?_
      refine KE.run 3 [(3, .slice t3a t3n t3k), (4, .slice t4a t4n t4k), (5, .int .u8 t5), (6, .int .i64 t6), (7, .slice t7a t7n t7k), (17, .slice t62r0a t62r0n t62r0k), (18, .int .i64 t62r1), (19, .slice t67r0a t67r0n t67r0k), (20, .int .i64 t67r1), (21, .pointer (some ⟨H_4.next, 0, none⟩)), (22, .int .i64 t73r1), (23, .pointer (some ⟨H_7.next, 0, none⟩)), (24, .int .i64 t79r1), (25, .pointer (some ⟨H_10.next, 0, none⟩)), (26, .int .i64 t85r1), (27, .int .i64 t85r2), (28, .pointer (some ⟨H_13.next, 0, none⟩)), (29, .int .i64 t92r1), (30, .int .i64 t92r2), (110, .bool (!(t104 == t107)))] 223 15 (by kernel_rfl) fun J => ?_
      by_cases c43 : (t104 == t107) = true
      · replace h := iteT c43 h
        refine KE.setV 110 (by kernel_rfl) (nB (bT c43)) ?_
        refine KE.run 1 [(3, .slice t3a t3n t3k), (4, .slice t4a t4n t4k), (5, .int .u8 t5), (6, .int .i64 t6), (7, .slice t7a t7n t7k), (18, .int .i64 t62r1), (19, .slice t67r0a t67r0n t67r0k), (20, .int .i64 t67r1), (21, .pointer (some ⟨H_4.next, 0, none⟩)), (22, .int .i64 t73r1), (23, .pointer (some ⟨H_7.next, 0, none⟩)), (24, .int .i64 t79r1), (25, .pointer (some ⟨H_10.next, 0, none⟩)), (26, .int .i64 t85r1), (27, .int .i64 t85r2), (28, .pointer (some ⟨H_13.next, 0, none⟩)), (29, .int .i64 t92r1), (30, .int .i64 t92r2), (110, .bool false), (111, .slice t62r0a t62r0n t62r0k)] 223 16 (by kernel_rfl) fun J => ?_
        obtain ⟨t112, q44, h⟩ := h
        refine KE.rdN (one_str (by kernel_rfl) q44) (by kernel_rfl) ?_
        refine KE.run 1 [(3, .slice t3a t3n t3k), (4, .slice t4a t4n t4k), (5, .int .u8 t5), (6, .int .i64 t6), (7, .slice t7a t7n t7k), (18, .int .i64 t62r1), (19, .slice t67r0a t67r0n t67r0k), (20, .int .i64 t67r1), (21, .pointer (some ⟨H_4.next, 0, none⟩)), (22, .int .i64 t73r1), (23, .pointer (some ⟨H_7.next, 0, none⟩)), (24, .int .i64 t79r1), (25, .pointer (some ⟨H_10.next, 0, none⟩)), (26, .int .i64 t85r1), (27, .int .i64 t85r2), (28, .pointer (some ⟨H_13.next, 0, none⟩)), (29, .int .i64 t92r1), (30, .int .i64 t92r2), (110, .bool false), (112, .string t112), (113, .slice t67r0a t67r0n t67r0k)] 223 18 (by kernel_rfl) fun J => ?_
        obtain ⟨t114, q45, h⟩ := h
        refine KE.rdN (one_str (by kernel_rfl) q45) (by kernel_rfl) ?_
        refine KE.run 3 [(3, .slice t3a t3n t3k), (4, .slice t4a t4n t4k), (5, .int .u8 t5), (6, .int .i64 t6), (7, .slice t7a t7n t7k), (18, .int .i64 t62r1), (19, .slice t67r0a t67r0n t67r0k), (20, .int .i64 t67r1), (21, .pointer (some ⟨H_4.next, 0, none⟩)), (22, .int .i64 t73r1), (23, .pointer (some ⟨H_7.next, 0, none⟩)), (24, .int .i64 t79r1), (25, .pointer (some ⟨H_10.next, 0, none⟩)), (26, .int .i64 t85r1), (27, .int .i64 t85r2), (28, .pointer (some ⟨H_13.next, 0, none⟩)), (29, .int .i64 t92r1), (30, .int .i64 t92r2), (117, .bool (!(t112.toList == t114.toList)))] 223 22 (by kernel_rfl) fun J => ?_
        by_cases c46 : t112.toList = t114.toList
        · replace h := iteT c46 h
          refine KE.setV 117 (by kernel_rfl) (nB (eT c46)) ?_
          refine KE.run 5 [(3, .slice t3a t3n t3k), (4, .slice t4a t4n t4k), (5, .int .u8 t5), (6, .int .i64 t6), (7, .slice t7a t7n t7k), (19, .slice t67r0a t67r0n t67r0k), (21, .pointer (some ⟨H_4.next, 0, none⟩)), (22, .int .i64 t73r1), (23, .pointer (some ⟨H_7.next, 0, none⟩)), (24, .int .i64 t79r1), (25, .pointer (some ⟨H_10.next, 0, none⟩)), (26, .int .i64 t85r1), (27, .int .i64 t85r2), (28, .pointer (some ⟨H_13.next, 0, none⟩)), (29, .int .i64 t92r1), (30, .int .i64 t92r2), (122, .bool (!(t62r1 == t67r1)))] 223 27 (by kernel_rfl) fun J => ?_
          by_cases c47 : t62r1 = t67r1
          · replace h := iteT c47 h
            refine KE.setV 122 (by kernel_rfl) (nB (eT c47)) ?_
            obtain ⟨t123c0, t123c1, t123c2, t123c3, t123c4a, t123c4n, t123c4k, t123c5a, t123c5n, t123c5k, q48, h⟩ := h
            refine KE.rdN (one_ldA (by kernel_rfl) q48) (by kernel_rfl) ?_
            obtain ⟨t124c0, t124c1, t124c2, t124c3, t124c4a, t124c4n, t124c4k, t124c5a, t124c5n, t124c5k, q49, h⟩ := h
            refine KE.rdN (one_ldA (by kernel_rfl) q49) (by kernel_rfl) ?_
            obtain ⟨t125, H_20, q50, h⟩ := h
            refine KE.se (one_ca (by kernel_rfl) q50) (by kernel_rfl) ?_
            refine KE.run 3 [(3, .slice t3a t3n t3k), (4, .slice t4a t4n t4k), (5, .int .u8 t5), (6, .int .i64 t6), (7, .slice t7a t7n t7k), (19, .slice t67r0a t67r0n t67r0k), (22, .int .i64 t73r1), (24, .int .i64 t79r1), (25, .pointer (some ⟨H_10.next, 0, none⟩)), (26, .int .i64 t85r1), (27, .int .i64 t85r2), (28, .pointer (some ⟨H_13.next, 0, none⟩)), (29, .int .i64 t92r1), (30, .int .i64 t92r2), (128, .bool (!t125))] 223 33 (by kernel_rfl) fun J => ?_
            by_cases c51 : t125 = true
            · replace h := iteT c51 h
              refine KE.setV 128 (by kernel_rfl) (nB (bT c51)) ?_
              refine KE.run 5 [(3, .slice t3a t3n t3k), (4, .slice t4a t4n t4k), (5, .int .u8 t5), (6, .int .i64 t6), (7, .slice t7a t7n t7k), (19, .slice t67r0a t67r0n t67r0k), (25, .pointer (some ⟨H_10.next, 0, none⟩)), (26, .int .i64 t85r1), (27, .int .i64 t85r2), (28, .pointer (some ⟨H_13.next, 0, none⟩)), (29, .int .i64 t92r1), (30, .int .i64 t92r2), (133, .bool (!(t73r1 == t79r1)))] 223 38 (by kernel_rfl) fun J => ?_
              by_cases c52 : t73r1 = t79r1
              · replace h := iteT c52 h
                refine KE.setV 133 (by kernel_rfl) (nB (eT c52)) ?_
                obtain ⟨t134c0, t134c1, t134c2, t134c3, t134c4a, t134c4n, t134c4k, t134c5a, t134c5n, t134c5k, q53, h⟩ := h
                refine KE.rdN (one_ldA (by kernel_rfl) q53) (by kernel_rfl) ?_
                obtain ⟨t135c0, t135c1, t135c2, t135c3, t135c4a, t135c4n, t135c4k, t135c5a, t135c5n, t135c5k, q54, h⟩ := h
                refine KE.rdN (one_ldA (by kernel_rfl) q54) (by kernel_rfl) ?_
                obtain ⟨t136, H_21, q55, h⟩ := h
                refine KE.se (one_ca (by kernel_rfl) q55) (by kernel_rfl) ?_
                refine KE.run 3 [(3, .slice t3a t3n t3k), (4, .slice t4a t4n t4k), (5, .int .u8 t5), (6, .int .i64 t6), (7, .slice t7a t7n t7k), (19, .slice t67r0a t67r0n t67r0k), (26, .int .i64 t85r1), (27, .int .i64 t85r2), (29, .int .i64 t92r1), (30, .int .i64 t92r2), (139, .bool (!t136))] 223 44 (by kernel_rfl) fun J => ?_
                by_cases c56 : t136 = true
                · replace h := iteT c56 h
                  refine KE.setV 139 (by kernel_rfl) (nB (bT c56)) ?_
                  refine KE.run 5 [(3, .slice t3a t3n t3k), (4, .slice t4a t4n t4k), (5, .int .u8 t5), (6, .int .i64 t6), (7, .slice t7a t7n t7k), (19, .slice t67r0a t67r0n t67r0k), (27, .int .i64 t85r2), (30, .int .i64 t92r2), (144, .bool (!(t85r1 == t92r1)))] 223 49 (by kernel_rfl) fun J => ?_
                  by_cases c57 : t85r1 = t92r1
                  · replace h := iteT c57 h
                    refine KE.setV 144 (by kernel_rfl) (nB (eT c57)) ?_
                    refine KE.run 5 [(3, .slice t3a t3n t3k), (4, .slice t4a t4n t4k), (5, .int .u8 t5), (6, .int .i64 t6), (7, .slice t7a t7n t7k), (19, .slice t67r0a t67r0n t67r0k), (149, .bool (!(t85r2 == t92r2)))] 223 54 (by kernel_rfl) fun J => ?_
                    by_cases c58 : t85r2 = t92r2
                    · replace h := iteT c58 h
                      refine KE.setV 149 (by kernel_rfl) (nB (eT c58)) ?_
                      refine KE.run 1 [(3, .slice t3a t3n t3k), (4, .slice t4a t4n t4k), (5, .int .u8 t5), (6, .int .i64 t6), (7, .slice t7a t7n t7k), (19, .slice t67r0a t67r0n t67r0k), (149, .bool false), (150, .slice t3a t3n t3k)] 223 55 (by kernel_rfl) fun J => ?_
                      obtain ⟨t151a, t151n, t151k, H_22, q59, h⟩ := h
                      refine KE.se (one_ca (by kernel_rfl) q59) (by kernel_rfl) ?_
                      refine KE.run 1 [(4, .slice t4a t4n t4k), (5, .int .u8 t5), (6, .int .i64 t6), (7, .slice t7a t7n t7k), (19, .slice t67r0a t67r0n t67r0k), (149, .bool false), (151, .slice t151a t151n t151k), (152, .slice t3a t3n t3k)] 223 57 (by kernel_rfl) fun J => ?_
                      obtain ⟨t153a, t153n, t153k, H_23, q60, h⟩ := h
                      refine KE.se (one_ca (by kernel_rfl) q60) (by kernel_rfl) ?_
                      obtain ⟨t154, H_24, q61, h⟩ := h
                      refine KE.se (one_ca (by kernel_rfl) q61) (by kernel_rfl) ?_
                      refine KE.run 2 [(4, .slice t4a t4n t4k), (5, .int .u8 t5), (6, .int .i64 t6), (7, .slice t7a t7n t7k), (19, .slice t67r0a t67r0n t67r0k), (156, .bool (!t154))] 223 61 (by kernel_rfl) fun J => ?_
                      obtain ⟨q62, q63, q64, h⟩ := h
                      refine KE.fin (H' := H_24) (by kernel_rfl) (rdsS (rdsS (rdsS (rfl) (rd_ok (Hs := [H_16]) (by kernel_rfl) (by kernel_rfl) ⟨one_ldA (by kernel_rfl) q62, trivial⟩)) (rd_ok (Hs := [H_18]) (by kernel_rfl) (by kernel_rfl) ⟨one_ldA (by kernel_rfl) q63, trivial⟩)) (rd_ok (Hs := [H_18]) (by kernel_rfl) (by kernel_rfl) ⟨one_ldA (by kernel_rfl) q64, trivial⟩)) (by kernel_rfl) ?_
                      exact KR.run 0 [(4, .slice t4a t4n t4k), (5, .int .u8 t5), (6, .int .i64 t6), (7, .slice t7a t7n t7k), (19, .slice t67r0a t67r0n t67r0k), (156, .bool (!t154))] 223 (s' := (.code (sub B [1, 1, 1, 1, 1, 1, 1, 1, 0, 1]) :: S10)) (by kernel_rfl) h
                    · replace h := iteF c58 h
                      refine KE.setV 149 (by kernel_rfl) (nB (eF c58)) ?_
                      refine KE.run 1 [(3, .slice t3a t3n t3k), (4, .slice t4a t4n t4k), (5, .int .u8 t5), (6, .int .i64 t6), (7, .slice t7a t7n t7k), (19, .slice t67r0a t67r0n t67r0k), (149, .bool true), (150, undef)] 223 55 (by kernel_rfl) fun J => ?_
                      refine KE.no (Gc := H_21) (by kernel_rfl) (by kernel_rfl) (by kernel_rfl) ?_
                      refine KE.run 1 [(4, .slice t4a t4n t4k), (5, .int .u8 t5), (6, .int .i64 t6), (7, .slice t7a t7n t7k), (19, .slice t67r0a t67r0n t67r0k), (149, .bool true), (151, undef), (152, undef)] 223 57 (by kernel_rfl) fun J => ?_
                      refine KE.no (Gc := H_21) (by kernel_rfl) (by kernel_rfl) (by kernel_rfl) ?_
                      refine KE.no (Gc := H_21) (by kernel_rfl) (by kernel_rfl) (by kernel_rfl) ?_
                      refine KE.run 2 [(4, .slice t4a t4n t4k), (5, .int .u8 t5), (6, .int .i64 t6), (7, .slice t7a t7n t7k), (19, .slice t67r0a t67r0n t67r0k), (156, .bool true)] 223 61 (by kernel_rfl) fun J => ?_
                      obtain ⟨q65, q66, q67, h⟩ := h
                      refine KE.fin (H' := H_21) (by kernel_rfl) (rdsS (rdsS (rdsS (rfl) (rd_ok (Hs := [H_16]) (by kernel_rfl) (by kernel_rfl) ⟨one_ldA (by kernel_rfl) q65, trivial⟩)) (rd_ok (Hs := [H_18]) (by kernel_rfl) (by kernel_rfl) ⟨one_ldA (by kernel_rfl) q66, trivial⟩)) (rd_ok (Hs := [H_18]) (by kernel_rfl) (by kernel_rfl) ⟨one_ldA (by kernel_rfl) q67, trivial⟩)) (by kernel_rfl) ?_
                      exact KR.run 0 [(4, .slice t4a t4n t4k), (5, .int .u8 t5), (6, .int .i64 t6), (7, .slice t7a t7n t7k), (19, .slice t67r0a t67r0n t67r0k), (156, .bool true)] 223 (s' := (.code (sub B [1, 1, 1, 1, 1, 1, 1, 1, 0, 1]) :: S10)) (by kernel_rfl) h
                  · replace h := iteF c57 h
                    refine KE.setV 144 (by kernel_rfl) (nB (eF c57)) ?_
                    refine KE.run 6 [(3, .slice t3a t3n t3k), (4, .slice t4a t4n t4k), (5, .int .u8 t5), (6, .int .i64 t6), (7, .slice t7a t7n t7k), (19, .slice t67r0a t67r0n t67r0k), (149, .bool true), (150, undef)] 223 55 (by kernel_rfl) fun J => ?_
                    refine KE.no (Gc := H_21) (by kernel_rfl) (by kernel_rfl) (by kernel_rfl) ?_
                    refine KE.run 1 [(4, .slice t4a t4n t4k), (5, .int .u8 t5), (6, .int .i64 t6), (7, .slice t7a t7n t7k), (19, .slice t67r0a t67r0n t67r0k), (149, .bool true), (151, undef), (152, undef)] 223 57 (by kernel_rfl) fun J => ?_
                    refine KE.no (Gc := H_21) (by kernel_rfl) (by kernel_rfl) (by kernel_rfl) ?_
                    refine KE.no (Gc := H_21) (by kernel_rfl) (by kernel_rfl) (by kernel_rfl) ?_
                    refine KE.run 2 [(4, .slice t4a t4n t4k), (5, .int .u8 t5), (6, .int .i64 t6), (7, .slice t7a t7n t7k), (19, .slice t67r0a t67r0n t67r0k), (156, .bool true)] 223 61 (by kernel_rfl) fun J => ?_
                    obtain ⟨q68, q69, q70, h⟩ := h
                    refine KE.fin (H' := H_21) (by kernel_rfl) (rdsS (rdsS (rdsS (rfl) (rd_ok (Hs := [H_16]) (by kernel_rfl) (by kernel_rfl) ⟨one_ldA (by kernel_rfl) q68, trivial⟩)) (rd_ok (Hs := [H_18]) (by kernel_rfl) (by kernel_rfl) ⟨one_ldA (by kernel_rfl) q69, trivial⟩)) (rd_ok (Hs := [H_18]) (by kernel_rfl) (by kernel_rfl) ⟨one_ldA (by kernel_rfl) q70, trivial⟩)) (by kernel_rfl) ?_
                    exact KR.run 0 [(4, .slice t4a t4n t4k), (5, .int .u8 t5), (6, .int .i64 t6), (7, .slice t7a t7n t7k), (19, .slice t67r0a t67r0n t67r0k), (156, .bool true)] 223 (s' := (.code (sub B [1, 1, 1, 1, 1, 1, 1, 1, 0, 1]) :: S10)) (by kernel_rfl) h
                · replace h := iteF c56 h
                  refine KE.setV 139 (by kernel_rfl) (nB (bF c56)) ?_
                  refine KE.run 11 [(3, .slice t3a t3n t3k), (4, .slice t4a t4n t4k), (5, .int .u8 t5), (6, .int .i64 t6), (7, .slice t7a t7n t7k), (19, .slice t67r0a t67r0n t67r0k), (149, .bool true), (150, undef)] 223 55 (by kernel_rfl) fun J => ?_
                  refine KE.no (Gc := H_21) (by kernel_rfl) (by kernel_rfl) (by kernel_rfl) ?_
                  refine KE.run 1 [(4, .slice t4a t4n t4k), (5, .int .u8 t5), (6, .int .i64 t6), (7, .slice t7a t7n t7k), (19, .slice t67r0a t67r0n t67r0k), (149, .bool true), (151, undef), (152, undef)] 223 57 (by kernel_rfl) fun J => ?_
                  refine KE.no (Gc := H_21) (by kernel_rfl) (by kernel_rfl) (by kernel_rfl) ?_
                  refine KE.no (Gc := H_21) (by kernel_rfl) (by kernel_rfl) (by kernel_rfl) ?_
                  refine KE.run 2 [(4, .slice t4a t4n t4k), (5, .int .u8 t5), (6, .int .i64 t6), (7, .slice t7a t7n t7k), (19, .slice t67r0a t67r0n t67r0k), (156, .bool true)] 223 61 (by kernel_rfl) fun J => ?_
                  obtain ⟨q71, q72, q73, h⟩ := h
                  refine KE.fin (H' := H_21) (by kernel_rfl) (rdsS (rdsS (rdsS (rfl) (rd_ok (Hs := [H_16]) (by kernel_rfl) (by kernel_rfl) ⟨one_ldA (by kernel_rfl) q71, trivial⟩)) (rd_ok (Hs := [H_18]) (by kernel_rfl) (by kernel_rfl) ⟨one_ldA (by kernel_rfl) q72, trivial⟩)) (rd_ok (Hs := [H_18]) (by kernel_rfl) (by kernel_rfl) ⟨one_ldA (by kernel_rfl) q73, trivial⟩)) (by kernel_rfl) ?_
                  exact KR.run 0 [(4, .slice t4a t4n t4k), (5, .int .u8 t5), (6, .int .i64 t6), (7, .slice t7a t7n t7k), (19, .slice t67r0a t67r0n t67r0k), (156, .bool true)] 223 (s' := (.code (sub B [1, 1, 1, 1, 1, 1, 1, 1, 0, 1]) :: S10)) (by kernel_rfl) h
              · replace h := iteF c52 h
                refine KE.setV 133 (by kernel_rfl) (nB (eF c52)) ?_
                refine KE.run 2 [(3, .slice t3a t3n t3k), (4, .slice t4a t4n t4k), (5, .int .u8 t5), (6, .int .i64 t6), (7, .slice t7a t7n t7k), (19, .slice t67r0a t67r0n t67r0k), (26, .int .i64 t85r1), (27, .int .i64 t85r2), (29, .int .i64 t92r1), (30, .int .i64 t92r2), (133, .bool true), (134, undef), (135, undef)] 223 40 (by kernel_rfl) fun J => ?_
                refine KE.no (Gc := H_20) (by kernel_rfl) (by kernel_rfl) (by kernel_rfl) ?_
                refine KE.run 14 [(3, .slice t3a t3n t3k), (4, .slice t4a t4n t4k), (5, .int .u8 t5), (6, .int .i64 t6), (7, .slice t7a t7n t7k), (19, .slice t67r0a t67r0n t67r0k), (149, .bool true), (150, undef)] 223 55 (by kernel_rfl) fun J => ?_
                refine KE.no (Gc := H_20) (by kernel_rfl) (by kernel_rfl) (by kernel_rfl) ?_
                refine KE.run 1 [(4, .slice t4a t4n t4k), (5, .int .u8 t5), (6, .int .i64 t6), (7, .slice t7a t7n t7k), (19, .slice t67r0a t67r0n t67r0k), (149, .bool true), (151, undef), (152, undef)] 223 57 (by kernel_rfl) fun J => ?_
                refine KE.no (Gc := H_20) (by kernel_rfl) (by kernel_rfl) (by kernel_rfl) ?_
                refine KE.no (Gc := H_20) (by kernel_rfl) (by kernel_rfl) (by kernel_rfl) ?_
                refine KE.run 2 [(4, .slice t4a t4n t4k), (5, .int .u8 t5), (6, .int .i64 t6), (7, .slice t7a t7n t7k), (19, .slice t67r0a t67r0n t67r0k), (156, .bool true)] 223 61 (by kernel_rfl) fun J => ?_
                obtain ⟨q74, q75, q76, h⟩ := h
                refine KE.fin (H' := H_20) (by kernel_rfl) (rdsS (rdsS (rdsS (rfl) (rd_ok (Hs := [H_16]) (by kernel_rfl) (by kernel_rfl) ⟨one_ldA (by kernel_rfl) q74, trivial⟩)) (rd_ok (Hs := [H_18]) (by kernel_rfl) (by kernel_rfl) ⟨one_ldA (by kernel_rfl) q75, trivial⟩)) (rd_ok (Hs := [H_18]) (by kernel_rfl) (by kernel_rfl) ⟨one_ldA (by kernel_rfl) q76, trivial⟩)) (by kernel_rfl) ?_
                exact KR.run 0 [(4, .slice t4a t4n t4k), (5, .int .u8 t5), (6, .int .i64 t6), (7, .slice t7a t7n t7k), (19, .slice t67r0a t67r0n t67r0k), (156, .bool true)] 223 (s' := (.code (sub B [1, 1, 1, 1, 1, 1, 1, 1, 0, 1]) :: S10)) (by kernel_rfl) h
            · replace h := iteF c51 h
              refine KE.setV 128 (by kernel_rfl) (nB (bF c51)) ?_
              refine KE.run 7 [(3, .slice t3a t3n t3k), (4, .slice t4a t4n t4k), (5, .int .u8 t5), (6, .int .i64 t6), (7, .slice t7a t7n t7k), (19, .slice t67r0a t67r0n t67r0k), (26, .int .i64 t85r1), (27, .int .i64 t85r2), (29, .int .i64 t92r1), (30, .int .i64 t92r2), (133, .bool true), (134, undef), (135, undef)] 223 40 (by kernel_rfl) fun J => ?_
              refine KE.no (Gc := H_20) (by kernel_rfl) (by kernel_rfl) (by kernel_rfl) ?_
              refine KE.run 14 [(3, .slice t3a t3n t3k), (4, .slice t4a t4n t4k), (5, .int .u8 t5), (6, .int .i64 t6), (7, .slice t7a t7n t7k), (19, .slice t67r0a t67r0n t67r0k), (149, .bool true), (150, undef)] 223 55 (by kernel_rfl) fun J => ?_
              refine KE.no (Gc := H_20) (by kernel_rfl) (by kernel_rfl) (by kernel_rfl) ?_
              refine KE.run 1 [(4, .slice t4a t4n t4k), (5, .int .u8 t5), (6, .int .i64 t6), (7, .slice t7a t7n t7k), (19, .slice t67r0a t67r0n t67r0k), (149, .bool true), (151, undef), (152, undef)] 223 57 (by kernel_rfl) fun J => ?_
              refine KE.no (Gc := H_20) (by kernel_rfl) (by kernel_rfl) (by kernel_rfl) ?_
              refine KE.no (Gc := H_20) (by kernel_rfl) (by kernel_rfl) (by kernel_rfl) ?_
              refine KE.run 2 [(4, .slice t4a t4n t4k), (5, .int .u8 t5), (6, .int .i64 t6), (7, .slice t7a t7n t7k), (19, .slice t67r0a t67r0n t67r0k), (156, .bool true)] 223 61 (by kernel_rfl) fun J => ?_
              obtain ⟨q77, q78, q79, h⟩ := h
              refine KE.fin (H' := H_20) (by kernel_rfl) (rdsS (rdsS (rdsS (rfl) (rd_ok (Hs := [H_16]) (by kernel_rfl) (by kernel_rfl) ⟨one_ldA (by kernel_rfl) q77, trivial⟩)) (rd_ok (Hs := [H_18]) (by kernel_rfl) (by kernel_rfl) ⟨one_ldA (by kernel_rfl) q78, trivial⟩)) (rd_ok (Hs := [H_18]) (by kernel_rfl) (by kernel_rfl) ⟨one_ldA (by kernel_rfl) q79, trivial⟩)) (by kernel_rfl) ?_
              exact KR.run 0 [(4, .slice t4a t4n t4k), (5, .int .u8 t5), (6, .int .i64 t6), (7, .slice t7a t7n t7k), (19, .slice t67r0a t67r0n t67r0k), (156, .bool true)] 223 (s' := (.code (sub B [1, 1, 1, 1, 1, 1, 1, 1, 0, 1]) :: S10)) (by kernel_rfl) h
          · replace h := iteF c47 h
            refine KE.setV 122 (by kernel_rfl) (nB (eF c47)) ?_
            refine KE.run 2 [(3, .slice t3a t3n t3k), (4, .slice t4a t4n t4k), (5, .int .u8 t5), (6, .int .i64 t6), (7, .slice t7a t7n t7k), (19, .slice t67r0a t67r0n t67r0k), (22, .int .i64 t73r1), (24, .int .i64 t79r1), (25, .pointer (some ⟨H_10.next, 0, none⟩)), (26, .int .i64 t85r1), (27, .int .i64 t85r2), (28, .pointer (some ⟨H_13.next, 0, none⟩)), (29, .int .i64 t92r1), (30, .int .i64 t92r2), (122, .bool true), (123, undef), (124, undef)] 223 29 (by kernel_rfl) fun J => ?_
            refine KE.no (Gc := H_19) (by kernel_rfl) (by kernel_rfl) (by kernel_rfl) ?_
            refine KE.run 10 [(3, .slice t3a t3n t3k), (4, .slice t4a t4n t4k), (5, .int .u8 t5), (6, .int .i64 t6), (7, .slice t7a t7n t7k), (19, .slice t67r0a t67r0n t67r0k), (26, .int .i64 t85r1), (27, .int .i64 t85r2), (29, .int .i64 t92r1), (30, .int .i64 t92r2), (133, .bool true), (134, undef), (135, undef)] 223 40 (by kernel_rfl) fun J => ?_
            refine KE.no (Gc := H_19) (by kernel_rfl) (by kernel_rfl) (by kernel_rfl) ?_
            refine KE.run 14 [(3, .slice t3a t3n t3k), (4, .slice t4a t4n t4k), (5, .int .u8 t5), (6, .int .i64 t6), (7, .slice t7a t7n t7k), (19, .slice t67r0a t67r0n t67r0k), (149, .bool true), (150, undef)] 223 55 (by kernel_rfl) fun J => ?_
            refine KE.no (Gc := H_19) (by kernel_rfl) (by kernel_rfl) (by kernel_rfl) ?_
            refine KE.run 1 [(4, .slice t4a t4n t4k), (5, .int .u8 t5), (6, .int .i64 t6), (7, .slice t7a t7n t7k), (19, .slice t67r0a t67r0n t67r0k), (149, .bool true), (151, undef), (152, undef)] 223 57 (by kernel_rfl) fun J => ?_
            refine KE.no (Gc := H_19) (by kernel_rfl) (by kernel_rfl) (by kernel_rfl) ?_
            refine KE.no (Gc := H_19) (by kernel_rfl) (by kernel_rfl) (by kernel_rfl) ?_
            refine KE.run 2 [(4, .slice t4a t4n t4k), (5, .int .u8 t5), (6, .int .i64 t6), (7, .slice t7a t7n t7k), (19, .slice t67r0a t67r0n t67r0k), (156, .bool true)] 223 61 (by kernel_rfl) fun J => ?_
            obtain ⟨q80, q81, q82, h⟩ := h
            refine KE.fin (H' := H_19) (by kernel_rfl) (rdsS (rdsS (rdsS (rfl) (rd_ok (Hs := [H_16]) (by kernel_rfl) (by kernel_rfl) ⟨one_ldA (by kernel_rfl) q80, trivial⟩)) (rd_ok (Hs := [H_18]) (by kernel_rfl) (by kernel_rfl) ⟨one_ldA (by kernel_rfl) q81, trivial⟩)) (rd_ok (Hs := [H_18]) (by kernel_rfl) (by kernel_rfl) ⟨one_ldA (by kernel_rfl) q82, trivial⟩)) (by kernel_rfl) ?_
            exact KR.run 0 [(4, .slice t4a t4n t4k), (5, .int .u8 t5), (6, .int .i64 t6), (7, .slice t7a t7n t7k), (19, .slice t67r0a t67r0n t67r0k), (156, .bool true)] 223 (s' := (.code (sub B [1, 1, 1, 1, 1, 1, 1, 1, 0, 1]) :: S10)) (by kernel_rfl) h
        · replace h := iteF c46 h
          refine KE.setV 117 (by kernel_rfl) (nB (eF c46)) ?_
          refine KE.run 7 [(3, .slice t3a t3n t3k), (4, .slice t4a t4n t4k), (5, .int .u8 t5), (6, .int .i64 t6), (7, .slice t7a t7n t7k), (19, .slice t67r0a t67r0n t67r0k), (22, .int .i64 t73r1), (24, .int .i64 t79r1), (25, .pointer (some ⟨H_10.next, 0, none⟩)), (26, .int .i64 t85r1), (27, .int .i64 t85r2), (28, .pointer (some ⟨H_13.next, 0, none⟩)), (29, .int .i64 t92r1), (30, .int .i64 t92r2), (122, .bool true), (123, undef), (124, undef)] 223 29 (by kernel_rfl) fun J => ?_
          refine KE.no (Gc := H_19) (by kernel_rfl) (by kernel_rfl) (by kernel_rfl) ?_
          refine KE.run 10 [(3, .slice t3a t3n t3k), (4, .slice t4a t4n t4k), (5, .int .u8 t5), (6, .int .i64 t6), (7, .slice t7a t7n t7k), (19, .slice t67r0a t67r0n t67r0k), (26, .int .i64 t85r1), (27, .int .i64 t85r2), (29, .int .i64 t92r1), (30, .int .i64 t92r2), (133, .bool true), (134, undef), (135, undef)] 223 40 (by kernel_rfl) fun J => ?_
          refine KE.no (Gc := H_19) (by kernel_rfl) (by kernel_rfl) (by kernel_rfl) ?_
          refine KE.run 14 [(3, .slice t3a t3n t3k), (4, .slice t4a t4n t4k), (5, .int .u8 t5), (6, .int .i64 t6), (7, .slice t7a t7n t7k), (19, .slice t67r0a t67r0n t67r0k), (149, .bool true), (150, undef)] 223 55 (by kernel_rfl) fun J => ?_
          refine KE.no (Gc := H_19) (by kernel_rfl) (by kernel_rfl) (by kernel_rfl) ?_
          refine KE.run 1 [(4, .slice t4a t4n t4k), (5, .int .u8 t5), (6, .int .i64 t6), (7, .slice t7a t7n t7k), (19, .slice t67r0a t67r0n t67r0k), (149, .bool true), (151, undef), (152, undef)] 223 57 (by kernel_rfl) fun J => ?_
          refine KE.no (Gc := H_19) (by kernel_rfl) (by kernel_rfl) (by kernel_rfl) ?_
          refine KE.no (Gc := H_19) (by kernel_rfl) (by kernel_rfl) (by kernel_rfl) ?_
          refine KE.run 2 [(4, .slice t4a t4n t4k), (5, .int .u8 t5), (6, .int .i64 t6), (7, .slice t7a t7n t7k), (19, .slice t67r0a t67r0n t67r0k), (156, .bool true)] 223 61 (by kernel_rfl) fun J => ?_
          obtain ⟨q83, q84, q85, h⟩ := h
          refine KE.fin (H' := H_19) (by kernel_rfl) (rdsS (rdsS (rdsS (rfl) (rd_ok (Hs := [H_16]) (by kernel_rfl) (by kernel_rfl) ⟨one_ldA (by kernel_rfl) q83, trivial⟩)) (rd_ok (Hs := [H_18]) (by kernel_rfl) (by kernel_rfl) ⟨one_ldA (by kernel_rfl) q84, trivial⟩)) (rd_ok (Hs := [H_18]) (by kernel_rfl) (by kernel_rfl) ⟨one_ldA (by kernel_rfl) q85, trivial⟩)) (by kernel_rfl) ?_
          exact KR.run 0 [(4, .slice t4a t4n t4k), (5, .int .u8 t5), (6, .int .i64 t6), (7, .slice t7a t7n t7k), (19, .slice t67r0a t67r0n t67r0k), (156, .bool true)] 223 (s' := (.code (sub B [1, 1, 1, 1, 1, 1, 1, 1, 0, 1]) :: S10)) (by kernel_rfl) h
      · replace h := iteF c43 h
        refine KE.setV 110 (by kernel_rfl) (nB (bF c43)) ?_
        refine KE.run 14 [(3, .slice t3a t3n t3k), (4, .slice t4a t4n t4k), (5, .int .u8 t5), (6, .int .i64 t6), (7, .slice t7a t7n t7k), (19, .slice t67r0a t67r0n t67r0k), (22, .int .i64 t73r1), (24, .int .i64 t79r1), (25, .pointer (some ⟨H_10.next, 0, none⟩)), (26, .int .i64 t85r1), (27, .int .i64 t85r2), (28, .pointer (some ⟨H_13.next, 0, none⟩)), (29, .int .i64 t92r1), (30, .int .i64 t92r2), (122, .bool true), (123, undef), (124, undef)] 223 29 (by kernel_rfl) fun J => ?_
        refine KE.no (Gc := H_19) (by kernel_rfl) (by kernel_rfl) (by kernel_rfl) ?_
        refine KE.run 10 [(3, .slice t3a t3n t3k), (4, .slice t4a t4n t4k), (5, .int .u8 t5), (6, .int .i64 t6), (7, .slice t7a t7n t7k), (19, .slice t67r0a t67r0n t67r0k), (26, .int .i64 t85r1), (27, .int .i64 t85r2), (29, .int .i64 t92r1), (30, .int .i64 t92r2), (133, .bool true), (134, undef), (135, undef)] 223 40 (by kernel_rfl) fun J => ?_
        refine KE.no (Gc := H_19) (by kernel_rfl) (by kernel_rfl) (by kernel_rfl) ?_
        refine KE.run 14 [(3, .slice t3a t3n t3k), (4, .slice t4a t4n t4k), (5, .int .u8 t5), (6, .int .i64 t6), (7, .slice t7a t7n t7k), (19, .slice t67r0a t67r0n t67r0k), (149, .bool true), (150, undef)] 223 55 (by kernel_rfl) fun J => ?_
        refine KE.no (Gc := H_19) (by kernel_rfl) (by kernel_rfl) (by kernel_rfl) ?_
        refine KE.run 1 [(4, .slice t4a t4n t4k), (5, .int .u8 t5), (6, .int .i64 t6), (7, .slice t7a t7n t7k), (19, .slice t67r0a t67r0n t67r0k), (149, .bool true), (151, undef), (152, undef)] 223 57 (by kernel_rfl) fun J => ?_
        refine KE.no (Gc := H_19) (by kernel_rfl) (by kernel_rfl) (by kernel_rfl) ?_
        refine KE.no (Gc := H_19) (by kernel_rfl) (by kernel_rfl) (by kernel_rfl) ?_
        refine KE.run 2 [(4, .slice t4a t4n t4k), (5, .int .u8 t5), (6, .int .i64 t6), (7, .slice t7a t7n t7k), (19, .slice t67r0a t67r0n t67r0k), (156, .bool true)] 223 61 (by kernel_rfl) fun J => ?_
        obtain ⟨q86, q87, q88, h⟩ := h
        refine KE.fin (H' := H_19) (by kernel_rfl) (rdsS (rdsS (rdsS (rfl) (rd_ok (Hs := [H_16]) (by kernel_rfl) (by kernel_rfl) ⟨one_ldA (by kernel_rfl) q86, trivial⟩)) (rd_ok (Hs := [H_18]) (by kernel_rfl) (by kernel_rfl) ⟨one_ldA (by kernel_rfl) q87, trivial⟩)) (rd_ok (Hs := [H_18]) (by kernel_rfl) (by kernel_rfl) ⟨one_ldA (by kernel_rfl) q88, trivial⟩)) (by kernel_rfl) ?_
        exact KR.run 0 [(4, .slice t4a t4n t4k), (5, .int .u8 t5), (6, .int .i64 t6), (7, .slice t7a t7n t7k), (19, .slice t67r0a t67r0n t67r0k), (156, .bool true)] 223 (s' := (.code (sub B [1, 1, 1, 1, 1, 1, 1, 1, 0, 1]) :: S10)) (by kernel_rfl) h
    · replace h := iteF c36 h
      refine KE.setV 101 (by kernel_rfl) (nB (bF c36)) ?_
      refine KE.run 2 [(3, .slice t3a t3n t3k), (4, .slice t4a t4n t4k), (5, .int .u8 t5), (6, .int .i64 t6), (7, .slice t7a t7n t7k), (8, .pointer (some ⟨t8b, t8o, none⟩)), (9, .pointer (some ⟨t9b, t9o, none⟩)), (17, .slice t62r0a t62r0n t62r0k), (18, .int .i64 t62r1), (19, .slice t67r0a t67r0n t67r0k), (20, .int .i64 t67r1), (21, .pointer (some ⟨H_4.next, 0, none⟩)), (22, .int .i64 t73r1), (23, .pointer (some ⟨H_7.next, 0, none⟩)), (24, .int .i64 t79r1), (25, .pointer (some ⟨H_10.next, 0, none⟩)), (26, .int .i64 t85r1), (27, .int .i64 t85r2), (28, .pointer (some ⟨H_13.next, 0, none⟩)), (29, .int .i64 t92r1), (30, .int .i64 t92r2), (101, .bool true), (102, undef), (103, undef)] 223 8 (by kernel_rfl) fun J => ?_
      refine KE.no (Gc := H_17) (by kernel_rfl) (by kernel_rfl) (by kernel_rfl) ?_
      refine KE.run 2 [(3, .slice t3a t3n t3k), (4, .slice t4a t4n t4k), (5, .int .u8 t5), (6, .int .i64 t6), (7, .slice t7a t7n t7k), (17, .slice t62r0a t62r0n t62r0k), (18, .int .i64 t62r1), (19, .slice t67r0a t67r0n t67r0k), (20, .int .i64 t67r1), (21, .pointer (some ⟨H_4.next, 0, none⟩)), (22, .int .i64 t73r1), (23, .pointer (some ⟨H_7.next, 0, none⟩)), (24, .int .i64 t79r1), (25, .pointer (some ⟨H_10.next, 0, none⟩)), (26, .int .i64 t85r1), (27, .int .i64 t85r2), (28, .pointer (some ⟨H_13.next, 0, none⟩)), (29, .int .i64 t92r1), (30, .int .i64 t92r2), (101, .bool true), (104, undef), (105, undef), (106, undef)] 223 11 (by kernel_rfl) fun J => ?_
      refine KE.no (Gc := H_17) (by kernel_rfl) (by kernel_rfl) (by kernel_rfl) ?_
      refine KE.run 17 [(3, .slice t3a t3n t3k), (4, .slice t4a t4n t4k), (5, .int .u8 t5), (6, .int .i64 t6), (7, .slice t7a t7n t7k), (19, .slice t67r0a t67r0n t67r0k), (22, .int .i64 t73r1), (24, .int .i64 t79r1), (25, .pointer (some ⟨H_10.next, 0, none⟩)), (26, .int .i64 t85r1), (27, .int .i64 t85r2), (28, .pointer (some ⟨H_13.next, 0, none⟩)), (29, .int .i64 t92r1), (30, .int .i64 t92r2), (122, .bool true), (123, undef), (124, undef)] 223 29 (by kernel_rfl) fun J => ?_
      refine KE.no (Gc := H_17) (by kernel_rfl) (by kernel_rfl) (by kernel_rfl) ?_
      refine KE.run 10 [(3, .slice t3a t3n t3k), (4, .slice t4a t4n t4k), (5, .int .u8 t5), (6, .int .i64 t6), (7, .slice t7a t7n t7k), (19, .slice t67r0a t67r0n t67r0k), (26, .int .i64 t85r1), (27, .int .i64 t85r2), (29, .int .i64 t92r1), (30, .int .i64 t92r2), (133, .bool true), (134, undef), (135, undef)] 223 40 (by kernel_rfl) fun J => ?_
      refine KE.no (Gc := H_17) (by kernel_rfl) (by kernel_rfl) (by kernel_rfl) ?_
      refine KE.run 14 [(3, .slice t3a t3n t3k), (4, .slice t4a t4n t4k), (5, .int .u8 t5), (6, .int .i64 t6), (7, .slice t7a t7n t7k), (19, .slice t67r0a t67r0n t67r0k), (149, .bool true), (150, undef)] 223 55 (by kernel_rfl) fun J => ?_
      refine KE.no (Gc := H_17) (by kernel_rfl) (by kernel_rfl) (by kernel_rfl) ?_
      refine KE.run 1 [(4, .slice t4a t4n t4k), (5, .int .u8 t5), (6, .int .i64 t6), (7, .slice t7a t7n t7k), (19, .slice t67r0a t67r0n t67r0k), (149, .bool true), (151, undef), (152, undef)] 223 57 (by kernel_rfl) fun J => ?_
      refine KE.no (Gc := H_17) (by kernel_rfl) (by kernel_rfl) (by kernel_rfl) ?_
      refine KE.no (Gc := H_17) (by kernel_rfl) (by kernel_rfl) (by kernel_rfl) ?_
      refine KE.run 2 [(4, .slice t4a t4n t4k), (5, .int .u8 t5), (6, .int .i64 t6), (7, .slice t7a t7n t7k), (19, .slice t67r0a t67r0n t67r0k), (156, .bool true)] 223 61 (by kernel_rfl) fun J => ?_
      obtain ⟨q89, h⟩ := h
      refine KE.fin (H' := H_17) (by kernel_rfl) (rdsS (rfl) (rd_ok (Hs := [H_16]) (by kernel_rfl) (by kernel_rfl) ⟨one_ldA (by kernel_rfl) q89, trivial⟩)) (by kernel_rfl) ?_
      exact KR.run 0 [(4, .slice t4a t4n t4k), (5, .int .u8 t5), (6, .int .i64 t6), (7, .slice t7a t7n t7k), (19, .slice t67r0a t67r0n t67r0k), (156, .bool true)] 223 (s' := (.code (sub B [1, 1, 1, 1, 1, 1, 1, 1, 0, 1]) :: S10)) (by kernel_rfl) h
theorem L1_step {t4a : Option Addr} {t4n : Nat} {t4k : Nat} {t5 : Int} {t6 : Int} {t7a : Option Addr} {t7n : Nat} {t7k : Nat} {t19a : Option Addr} {t19n : Nat} {t19k : Nat} {t156 : Bool} {H : Heap} {r : Value × Heap} (h :
    if t156 = true then
    (r = (.bool false, H))
    else
    (∃ (H_1 : Heap), H_1 = H.push (.row [] true) ∧
    (∃ (t159a : Option Addr) (t159n : Nat) (t159k : Nat) (H_2 : Heap), papp H_1 1 1 (some ⟨H.next, 0, none⟩) 0 (UNK 1) t19a t19n t19k = some ((t159a, t159n, t159k), H_2) ∧
    (if ((t159n : Nat) : Int) > 0 then
    (L2 (t5) (t6) (t7a) (t7n) (t7k) (t159a) (t159n) (t159k) (((t159n : Nat) : Int)) (t4a) (t4n) (t4k) (((t4n : Nat) : Int)) 0 H_2 r)
    else
    (L3 (t7a) (t7n) (t7k) (t159a) (t159n) (t159k) H_2 r))))) :
    L1 t4a t4n t4k t5 t6 t7a t7n t7k t19a t19n t19k t156 H r := by
  intro J
  show KR _ _ _ (.code (sub B [1, 1, 1, 1, 1, 1, 1, 1, 0, 1]) :: S10) _ _ _
  by_cases c90 : t156 = true
  · replace h := iteT c90 h
    refine KR.br true (by kernel_rfl) (vB (bT c90)) ?_
    refine KR.run 4 [(16, .bool false)] 223 (s' := (.code (sub B [1, 1, 1, 1, 1, 1, 1, 1, 0, 1, 0, 1]) :: S10)) (by kernel_rfl) fun J => ?_
    exact KR.fin (by kernel_rfl) h
  · replace h := iteF c90 h
    refine KR.br false (by kernel_rfl) (vB (bF c90)) ?_
    refine KR.run 3 [(4, .slice t4a t4n t4k), (5, .int .u8 t5), (6, .int .i64 t6), (7, .slice t7a t7n t7k), (19, .slice t19a t19n t19k)] 223 (s' := (.reg (opsAt (sub B [1, 1, 1, 1, 1, 1, 1, 1, 1, 0])) [0, 1, 2, 3] :: S12)) (by kernel_rfl) fun J => ?_
    obtain ⟨H_1, q91, h⟩ := h
    refine KR.mk (w := sRow 0 1 []) (one_al (by kernel_rfl)) q91 ?_
    refine KR.run 1 [(4, .slice t4a t4n t4k), (5, .int .u8 t5), (6, .int .i64 t6), (7, .slice t7a t7n t7k), (157, .slice (some ⟨H.next, 0, none⟩) 0 (UNK 1)), (158, .slice t19a t19n t19k)] 223 (s' := (.reg (opsAt (sub B [1, 1, 1, 1, 1, 1, 1, 1, 1, 0])) [2, 3] :: S12)) (by kernel_rfl) fun J => ?_
    obtain ⟨t159a, t159n, t159k, H_2, q92, h⟩ := h
    refine KR.se (one_ap 1 1 (by kernel_rfl) q92) ?_
    refine KR.run 14 [(4, .slice t4a t4n t4k), (5, .int .u8 t5), (6, .int .i64 t6), (7, .slice t7a t7n t7k), (31, .slice t159a t159n t159k), (32, .int .i64 ((t159n : Nat) : Int)), (163, .bool (decide (((t159n : Nat) : Int) > 0)))] 223 (s' := (.code (sub B [1, 1, 1, 1, 1, 1, 1, 1, 1, 1, 0, 1, 1]) :: S13)) (by kernel_rfl) fun J => ?_
    by_cases c93 : ((t159n : Nat) : Int) > 0
    · replace h := iteT c93 h
      refine KR.br true (by kernel_rfl) (vB (dT c93)) ?_
      exact KR.run 9 [(5, .int .u8 t5), (6, .int .i64 t6), (7, .slice t7a t7n t7k), (31, .slice t159a t159n t159k), (32, .int .i64 ((t159n : Nat) : Int)), (164, .slice t4a t4n t4k), (165, .int .i64 ((t4n : Nat) : Int)), (166, .int .i64 0)] 223 (s' := (.lp (sub B [1, 1, 1, 1, 1, 1, 1, 1, 1, 1, 0, 1, 1, 0, 0, 1, 0, 0]) :: S15)) (by kernel_rfl) h
    · replace h := iteF c93 h
      refine KR.br false (by kernel_rfl) (vB (dF c93)) ?_
      exact KR.run 4 [(7, .slice t7a t7n t7k), (31, .slice t159a t159n t159k)] 223 (s' := (.reg (opsAt (sub B [1, 1, 1, 1, 1, 1, 1, 1, 1, 1, 1, 0, 0])) [0, 1, 2, 3] :: S17)) (by kernel_rfl) h
theorem L2_step {t5 : Int} {t6 : Int} {t7a : Option Addr} {t7n : Nat} {t7k : Nat} {t31a : Option Addr} {t31n : Nat} {t31k : Nat} {t32 : Int} {t164a : Option Addr} {t164n : Nat} {t164k : Nat} {t165 : Int} {t166 : Int} {H : Heap} {r : Value × Heap} (h :
    if t166 < t165 then
    (∃ (t164ab t164ao : Nat), t164a = some ⟨t164ab, t164ao, none⟩ ∧
    ((0 : Int) ≤ t166 ∧ t166 < ((t164n : Nat) : Int) ∧
    (∃ (t170 : Int), ldc H t164ab (t164ao + Int.toNat t166 * 1) = some (.int .i64 t170) ∧
    (if t166 < 3 then
    ((IntKind.wrap .u64 t32) ≠ 0 ∧
    (∃ (t31ab t31ao : Nat), t31a = some ⟨t31ab, t31ao, none⟩ ∧
    ((0 : Int) ≤ (IntKind.wrap .i64 (Int.tmod (IntKind.wrap .u64 t170) (IntKind.wrap .u64 t32))) ∧ (IntKind.wrap .i64 (Int.tmod (IntKind.wrap .u64 t170) (IntKind.wrap .u64 t32))) < ((t31n : Nat) : Int) ∧
    (∃ (t181 : Int), ldc H t31ab (t31ao + Int.toNat (IntKind.wrap .i64 (Int.tmod (IntKind.wrap .u64 t170) (IntKind.wrap .u64 t32))) * 1) = some (.int .u8 t181) ∧
    ((0 : Int) ≤ (IntKind.wrap .i64 (Int.tmod (IntKind.wrap .u64 t170) (IntKind.wrap .u64 t32))) ∧ (IntKind.wrap .i64 (Int.tmod (IntKind.wrap .u64 t170) (IntKind.wrap .u64 t32))) < ((t31n : Nat) : Int) ∧
    (∃ (H_1 : Heap), stc H t31ab (t31ao + Int.toNat (IntKind.wrap .i64 (Int.tmod (IntKind.wrap .u64 t170) (IntKind.wrap .u64 t32))) * 1) [.int .u8 (ixor .u8 t181 t5)] = some H_1 ∧
    (L2 (t5) (t6) (t7a) (t7n) (t7k) ((some ⟨t31ab, t31ao, none⟩)) (t31n) (t31k) (t32) ((some ⟨t164ab, t164ao, none⟩)) (t164n) (t164k) (t165) ((IntKind.wrap .i64 (t166 + 1))) H_1 r)))))))
    else
    (L2 (t5) (t6) (t7a) (t7n) (t7k) (t31a) (t31n) (t31k) (t32) ((some ⟨t164ab, t164ao, none⟩)) (t164n) (t164k) (t165) ((IntKind.wrap .i64 (t166 + 1))) H r)))))
    else
    ((IntKind.wrap .u64 t32) ≠ 0 ∧
    (∃ (t195a : Option Addr) (t195n : Nat) (t195k : Nat), psl 1 t31a t31n t31k none (some (IntKind.wrap .i64 (t32 - (IntKind.wrap .i64 (Int.tmod (IntKind.wrap .u64 t6) (IntKind.wrap .u64 t32)))))) none = some (t195a, t195n, t195k) ∧
    (L3 (t7a) (t7n) (t7k) (t195a) (t195n) (t195k) H r)))) :
    L2 t5 t6 t7a t7n t7k t31a t31n t31k t32 t164a t164n t164k t165 t166 H r := by
  intro J
  show KR _ _ _ (.lp (sub B [1, 1, 1, 1, 1, 1, 1, 1, 1, 1, 0, 1, 1, 0, 0, 1, 0, 0]) :: S15) _ _ _
  refine KR.run 6 [(5, .int .u8 t5), (6, .int .i64 t6), (7, .slice t7a t7n t7k), (31, .slice t31a t31n t31k), (32, .int .i64 t32), (164, .slice t164a t164n t164k), (165, .int .i64 t165), (166, .int .i64 t166), (167, .bool (decide (t166 < t165)))] 223 (s' := (.code (sub B [1, 1, 1, 1, 1, 1, 1, 1, 1, 1, 0, 1, 1, 0, 0, 1, 0, 0, 1, 0]) :: S19)) (by kernel_rfl) fun J => ?_
  by_cases c94 : t166 < t165
  · replace h := iteT c94 h
    refine KR.br true (by kernel_rfl) (vB (dT c94)) ?_
    obtain ⟨t164ab, t164ao, rfl, h⟩ := h
    refine KR.run 6 [(5, .int .u8 t5), (6, .int .i64 t6), (7, .slice t7a t7n t7k), (31, .slice t31a t31n t31k), (32, .int .i64 t32), (164, .slice (some ⟨t164ab, t164ao, none⟩) t164n t164k), (165, .int .i64 t165), (166, .int .i64 t166), (168, .int .i64 t166)] 223 (s' := (.reg (opsAt (sub B [1, 1, 1, 1, 1, 1, 1, 1, 1, 1, 0, 1, 1, 0, 0, 1, 0, 0, 1, 1, 0, 0, 0])) [1, 2, 3, 4] :: S22)) (by kernel_rfl) fun J => ?_
    obtain ⟨q95, q95x, h⟩ := h
    refine KR.p (one_ix 1 t164ab t164ao (by kernel_rfl) q95 q95x) ?_
    obtain ⟨t170, q96, h⟩ := h
    refine KR.rd (one_ld (by kernel_rfl) q96) ?_
    refine KR.run 8 [(5, .int .u8 t5), (6, .int .i64 t6), (7, .slice t7a t7n t7k), (31, .slice t31a t31n t31k), (32, .int .i64 t32), (34, .int .i64 t170), (164, .slice (some ⟨t164ab, t164ao, none⟩) t164n t164k), (165, .int .i64 t165), (166, .int .i64 t166), (172, .bool (decide (t166 < 3)))] 223 (s' := (.code (sub B [1, 1, 1, 1, 1, 1, 1, 1, 1, 1, 0, 1, 1, 0, 0, 1, 0, 0, 1, 1, 0, 0, 1, 1]) :: S21)) (by kernel_rfl) fun J => ?_
    by_cases c97 : t166 < 3
    · replace h := iteT c97 h
      refine KR.br true (by kernel_rfl) (vB (dT c97)) ?_
      refine KR.run 6 [(5, .int .u8 t5), (6, .int .i64 t6), (7, .slice t7a t7n t7k), (31, .slice t31a t31n t31k), (32, .int .i64 t32), (164, .slice (some ⟨t164ab, t164ao, none⟩) t164n t164k), (165, .int .i64 t165), (166, .int .i64 t166), (173, .slice t31a t31n t31k), (175, .int .u64 (IntKind.wrap .u64 t170)), (177, .int .u64 (IntKind.wrap .u64 t32))] 223 (s' := (.reg (opsAt (sub B [1, 1, 1, 1, 1, 1, 1, 1, 1, 1, 0, 1, 1, 0, 0, 1, 0, 0, 1, 1, 0, 0, 1, 1, 0])) [5, 6, 7, 8, 9, 10, 11, 12] :: S21)) (by kernel_rfl) fun J => ?_
      obtain ⟨q98, h⟩ := h
      refine KR.p (one_rem .u64 (IntKind.wrap .u64 t170) (by kernel_rfl) q98) ?_
      obtain ⟨t31ab, t31ao, rfl, h⟩ := h
      refine KR.run 1 [(5, .int .u8 t5), (6, .int .i64 t6), (7, .slice t7a t7n t7k), (31, .slice (some ⟨t31ab, t31ao, none⟩) t31n t31k), (32, .int .i64 t32), (164, .slice (some ⟨t164ab, t164ao, none⟩) t164n t164k), (165, .int .i64 t165), (166, .int .i64 t166), (173, .slice (some ⟨t31ab, t31ao, none⟩) t31n t31k), (179, .int .i64 (IntKind.wrap .i64 (Int.tmod (IntKind.wrap .u64 t170) (IntKind.wrap .u64 t32))))] 223 (s' := (.reg (opsAt (sub B [1, 1, 1, 1, 1, 1, 1, 1, 1, 1, 0, 1, 1, 0, 0, 1, 0, 0, 1, 1, 0, 0, 1, 1, 0])) [7, 8, 9, 10, 11, 12] :: S21)) (by kernel_rfl) fun J => ?_
      obtain ⟨q99, q99x, h⟩ := h
      refine KR.p (one_ix 1 t31ab t31ao (by kernel_rfl) q99 q99x) ?_
      obtain ⟨t181, q100, h⟩ := h
      refine KR.rd (one_ld (by kernel_rfl) q100) ?_
      refine KR.run 2 [(5, .int .u8 t5), (6, .int .i64 t6), (7, .slice t7a t7n t7k), (31, .slice (some ⟨t31ab, t31ao, none⟩) t31n t31k), (32, .int .i64 t32), (164, .slice (some ⟨t164ab, t164ao, none⟩) t164n t164k), (165, .int .i64 t165), (166, .int .i64 t166), (173, .slice (some ⟨t31ab, t31ao, none⟩) t31n t31k), (179, .int .i64 (IntKind.wrap .i64 (Int.tmod (IntKind.wrap .u64 t170) (IntKind.wrap .u64 t32)))), (183, .int .u8 (ixor .u8 t181 t5))] 223 (s' := (.reg (opsAt (sub B [1, 1, 1, 1, 1, 1, 1, 1, 1, 1, 0, 1, 1, 0, 0, 1, 0, 0, 1, 1, 0, 0, 1, 1, 0])) [11, 12] :: S21)) (by kernel_rfl) fun J => ?_
      obtain ⟨q101, q101x, h⟩ := h
      refine KR.p (one_ix 1 t31ab t31ao (by kernel_rfl) q101 q101x) ?_
      obtain ⟨H_1, q102, h⟩ := h
      refine KR.se (one_st (by kernel_rfl) q102) ?_
      exact KR.run 6 [(5, .int .u8 t5), (6, .int .i64 t6), (7, .slice t7a t7n t7k), (31, .slice (some ⟨t31ab, t31ao, none⟩) t31n t31k), (32, .int .i64 t32), (164, .slice (some ⟨t164ab, t164ao, none⟩) t164n t164k), (165, .int .i64 t165), (166, .int .i64 (IntKind.wrap .i64 (t166 + 1)))] 223 (s' := (.lp (sub B [1, 1, 1, 1, 1, 1, 1, 1, 1, 1, 0, 1, 1, 0, 0, 1, 0, 0]) :: S15)) (by kernel_rfl) h
    · replace h := iteF c97 h
      refine KR.br false (by kernel_rfl) (vB (dF c97)) ?_
      exact KR.run 6 [(5, .int .u8 t5), (6, .int .i64 t6), (7, .slice t7a t7n t7k), (31, .slice t31a t31n t31k), (32, .int .i64 t32), (164, .slice (some ⟨t164ab, t164ao, none⟩) t164n t164k), (165, .int .i64 t165), (166, .int .i64 (IntKind.wrap .i64 (t166 + 1)))] 223 (s' := (.lp (sub B [1, 1, 1, 1, 1, 1, 1, 1, 1, 1, 0, 1, 1, 0, 0, 1, 0, 0]) :: S15)) (by kernel_rfl) h
  · replace h := iteF c94 h
    refine KR.br false (by kernel_rfl) (vB (dF c94)) ?_
    refine KR.run 8 [(7, .slice t7a t7n t7k), (186, .slice t31a t31n t31k), (187, .int .i64 t32), (189, .int .u64 (IntKind.wrap .u64 t6)), (191, .int .u64 (IntKind.wrap .u64 t32))] 223 (s' := (.reg (opsAt (sub B [1, 1, 1, 1, 1, 1, 1, 1, 1, 1, 0, 1, 1, 0, 1])) [6, 7, 8, 9, 10] :: S13)) (by kernel_rfl) fun J => ?_
    obtain ⟨q103, h⟩ := h
    refine KR.p (one_rem .u64 (IntKind.wrap .u64 t6) (by kernel_rfl) q103) ?_
    refine KR.run 2 [(7, .slice t7a t7n t7k), (186, .slice t31a t31n t31k), (194, .int .i64 (IntKind.wrap .i64 (t32 - (IntKind.wrap .i64 (Int.tmod (IntKind.wrap .u64 t6) (IntKind.wrap .u64 t32))))))] 223 (s' := (.reg (opsAt (sub B [1, 1, 1, 1, 1, 1, 1, 1, 1, 1, 0, 1, 1, 0, 1])) [9, 10] :: S13)) (by kernel_rfl) fun J => ?_
    obtain ⟨t195a, t195n, t195k, q104, h⟩ := h
    refine KR.p (one_sl (by kernel_rfl) q104) ?_
    exact KR.run 5 [(7, .slice t7a t7n t7k), (31, .slice t195a t195n t195k)] 223 (s' := (.reg (opsAt (sub B [1, 1, 1, 1, 1, 1, 1, 1, 1, 1, 1, 0, 0])) [0, 1, 2, 3] :: S17)) (by kernel_rfl) h
theorem L3_step {t7a : Option Addr} {t7n : Nat} {t7k : Nat} {t31a : Option Addr} {t31n : Nat} {t31k : Nat} {H : Heap} {r : Value × Heap} (h :
    L4 (t31a) (t31n) (t31k) (t7a) (t7n) (t7k) 0 H r) :
    L3 t7a t7n t7k t31a t31n t31k H r := by
  intro J
  show KR _ _ _ (.reg (opsAt (sub B [1, 1, 1, 1, 1, 1, 1, 1, 1, 1, 1, 0, 0])) [0, 1, 2, 3] :: S17) _ _ _
  exact KR.run 7 [(198, .agg #[.slice t31a t31n t31k, .slice t7a t7n t7k]), (199, .int .i64 0)] 223 (s' := (.lp (sub B [1, 1, 1, 1, 1, 1, 1, 1, 1, 1, 1, 0, 1, 0, 0]) :: S23)) (by kernel_rfl) h
theorem L4_step {t198c0a : Option Addr} {t198c0n : Nat} {t198c0k : Nat} {t198c1a : Option Addr} {t198c1n : Nat} {t198c1k : Nat} {t199 : Int} {H : Heap} {r : Value × Heap} (h :
    if t199 < 2 then
    (∃ (t201a : Option Addr) (t201n : Nat) (t201k : Nat), pag [.slice t198c0a t198c0n t198c0k, .slice t198c1a t198c1n t198c1k] t199 = some (.slice t201a t201n t201k) ∧
    (∃ (t204r0c0 : Int) (t204r0c1 : Int) (t204r0c2 : Int) (t204r0c3 : Int) (t204r0c4a : Option Addr) (t204r0c4n : Nat) (t204r0c4k : Nat) (t204r0c5a : Option Addr) (t204r0c5n : Nat) (t204r0c5k : Nat) (t204r1 : Int) (H_1 : Heap), xC Try.prog good 43 [.slice t201a t201n t201k] H = some (.tuple #[.agg #[.int .i64 t204r0c0, .int .i64 t204r0c1, .int .i64 t204r0c2, .int .i64 t204r0c3, .slice t204r0c4a t204r0c4n t204r0c4k, .slice t204r0c5a t204r0c5n t204r0c5k], .int .i64 t204r1], H_1) ∧
    (∃ (H_2 : Heap), H_2 = H_1.push (.row [.int .i64 0, .int .i64 0, .int .i64 0, .int .i64 0, .slice none 0 0, .slice none 0 0] true) ∧
    (∃ (H_3 : Heap), stc H_2 H_1.next 0 [.int .i64 t204r0c0, .int .i64 t204r0c1, .int .i64 t204r0c2, .int .i64 t204r0c3, .slice t204r0c4a t204r0c4n t204r0c4k, .slice t204r0c5a t204r0c5n t204r0c5k] = some H_3 ∧
    (∃ (t209r0c0 : Int) (t209r0c1 : Int) (t209r0c2 : Int) (t209r0c3 : Int) (t209r0c4a : Option Addr) (t209r0c4n : Nat) (t209r0c4k : Nat) (t209r0c5a : Option Addr) (t209r0c5n : Nat) (t209r0c5k : Nat) (t209r1 : Int) (H_4 : Heap), xC Try.prog good 50 [.slice t201a t201n t201k] H_3 = some (.tuple #[.agg #[.int .i64 t209r0c0, .int .i64 t209r0c1, .int .i64 t209r0c2, .int .i64 t209r0c3, .slice t209r0c4a t209r0c4n t209r0c4k, .slice t209r0c5a t209r0c5n t209r0c5k], .int .i64 t209r1], H_4) ∧
    (∃ (H_5 : Heap), H_5 = H_4.push (.row [.int .i64 0, .int .i64 0, .int .i64 0, .int .i64 0, .slice none 0 0, .slice none 0 0] true) ∧
    (∃ (H_6 : Heap), stc H_5 H_4.next 0 [.int .i64 t209r0c0, .int .i64 t209r0c1, .int .i64 t209r0c2, .int .i64 t209r0c3, .slice t209r0c4a t209r0c4n t209r0c4k, .slice t209r0c5a t209r0c5n t209r0c5k] = some H_6 ∧
    (∃ (t212c0 : Int) (t212c1 : Int) (t212c2 : Int) (t212c3 : Int) (t212c4a : Option Addr) (t212c4n : Nat) (t212c4k : Nat) (t212c5a : Option Addr) (t212c5n : Nat) (t212c5k : Nat), ldAll H_6 H_1.next 0 [.int .i64 t212c0, .int .i64 t212c1, .int .i64 t212c2, .int .i64 t212c3, .slice t212c4a t212c4n t212c4k, .slice t212c5a t212c5n t212c5k] ∧
    (∃ (t213c0 : Int) (t213c1 : Int) (t213c2 : Int) (t213c3 : Int) (t213c4a : Option Addr) (t213c4n : Nat) (t213c4k : Nat) (t213c5a : Option Addr) (t213c5n : Nat) (t213c5k : Nat), ldAll H_6 H_4.next 0 [.int .i64 t213c0, .int .i64 t213c1, .int .i64 t213c2, .int .i64 t213c3, .slice t213c4a t213c4n t213c4k, .slice t213c5a t213c5n t213c5k] ∧
    (∃ (t214 : Bool) (H_7 : Heap), xC Try.prog good 44 [.agg #[.int .i64 t212c0, .int .i64 t212c1, .int .i64 t212c2, .int .i64 t212c3, .slice t212c4a t212c4n t212c4k, .slice t212c5a t212c5n t212c5k], .agg #[.int .i64 t213c0, .int .i64 t213c1, .int .i64 t213c2, .int .i64 t213c3, .slice t213c4a t213c4n t213c4k, .slice t213c5a t213c5n t213c5k]] H_6 = some (.bool t214, H_7) ∧
    (if t214 = true then
    (L5 (t198c0a) (t198c0n) (t198c0k) (t198c1a) (t198c1n) (t198c1k) (t199) ((!(t204r1 == t209r1))) H_7 r)
    else
    (L5 (t198c0a) (t198c0n) (t198c0k) (t198c1a) (t198c1n) (t198c1k) (t199) (true) H_7 r))))))))))))
    else
    (∃ (t222 : Bool) (H_8 : Heap), xC Try.prog good 20 [] H = some (.bool t222, H_8) ∧
    (r = (.bool t222, H_8)))) :
    L4 t198c0a t198c0n t198c0k t198c1a t198c1n t198c1k t199 H r := by
  intro J
  show KR _ _ _ (.lp (sub B [1, 1, 1, 1, 1, 1, 1, 1, 1, 1, 1, 0, 1, 0, 0]) :: S23) _ _ _
  refine KR.run 6 [(198, .agg #[.slice t198c0a t198c0n t198c0k, .slice t198c1a t198c1n t198c1k]), (199, .int .i64 t199), (200, .bool (decide (t199 < 2)))] 223 (s' := (.code (sub B [1, 1, 1, 1, 1, 1, 1, 1, 1, 1, 1, 0, 1, 0, 0, 1, 0]) :: S25)) (by kernel_rfl) fun J => ?_
  by_cases c105 : t199 < 2
  · replace h := iteT c105 h
    refine KR.br true (by kernel_rfl) (vB (dT c105)) ?_
    refine KR.run 5 [(198, .agg #[.slice t198c0a t198c0n t198c0k, .slice t198c1a t198c1n t198c1k]), (199, .int .i64 t199)] 223 (s' := (.reg (opsAt (sub B [1, 1, 1, 1, 1, 1, 1, 1, 1, 1, 1, 0, 1, 0, 0, 1, 1, 0, 0, 0])) [0, 1] :: S28)) (by kernel_rfl) fun J => ?_
    obtain ⟨t201a, t201n, t201k, q106, h⟩ := h
    refine KR.p (one_ag (by kernel_rfl) q106) ?_
    refine KR.run 5 [(36, .slice t201a t201n t201k), (198, .agg #[.slice t198c0a t198c0n t198c0k, .slice t198c1a t198c1n t198c1k]), (199, .int .i64 t199), (203, .slice t201a t201n t201k)] 223 (s' := (.reg (opsAt (sub B [1, 1, 1, 1, 1, 1, 1, 1, 1, 1, 1, 0, 1, 0, 0, 1, 1, 0, 0, 1, 0])) [1, 2, 3, 4, 5, 6, 7] :: S29)) (by kernel_rfl) fun J => ?_
    obtain ⟨t204r0c0, t204r0c1, t204r0c2, t204r0c3, t204r0c4a, t204r0c4n, t204r0c4k, t204r0c5a, t204r0c5n, t204r0c5k, t204r1, H_1, q107, h⟩ := h
    refine KR.se (one_ca (by kernel_rfl) q107) ?_
    refine KR.run 3 [(36, .slice t201a t201n t201k), (198, .agg #[.slice t198c0a t198c0n t198c0k, .slice t198c1a t198c1n t198c1k]), (199, .int .i64 t199), (205, .agg #[.int .i64 t204r0c0, .int .i64 t204r0c1, .int .i64 t204r0c2, .int .i64 t204r0c3, .slice t204r0c4a t204r0c4n t204r0c4k, .slice t204r0c5a t204r0c5n t204r0c5k]), (206, .int .i64 t204r1)] 223 (s' := (.reg (opsAt (sub B [1, 1, 1, 1, 1, 1, 1, 1, 1, 1, 1, 0, 1, 0, 0, 1, 1, 0, 0, 1, 0])) [5, 6, 7] :: S29)) (by kernel_rfl) fun J => ?_
    obtain ⟨H_2, q108, h⟩ := h
    refine KR.mk (w := pRow [.int .i64 0, .int .i64 0, .int .i64 0, .int .i64 0, .slice none 0 0, .slice none 0 0]) (one_al (by kernel_rfl)) q108 ?_
    obtain ⟨H_3, q109, h⟩ := h
    refine KR.se (one_st (by kernel_rfl) q109) ?_
    refine KR.run 5 [(37, .pointer (some ⟨H_1.next, 0, none⟩)), (38, .int .i64 t204r1), (198, .agg #[.slice t198c0a t198c0n t198c0k, .slice t198c1a t198c1n t198c1k]), (199, .int .i64 t199), (208, .slice t201a t201n t201k)] 223 (s' := (.reg (opsAt (sub B [1, 1, 1, 1, 1, 1, 1, 1, 1, 1, 1, 0, 1, 0, 0, 1, 1, 0, 0, 1, 1, 0])) [1, 2, 3, 4, 5, 6, 7] :: S30)) (by kernel_rfl) fun J => ?_
    obtain ⟨t209r0c0, t209r0c1, t209r0c2, t209r0c3, t209r0c4a, t209r0c4n, t209r0c4k, t209r0c5a, t209r0c5n, t209r0c5k, t209r1, H_4, q110, h⟩ := h
    refine KR.se (one_ca (by kernel_rfl) q110) ?_
    refine KR.run 3 [(37, .pointer (some ⟨H_1.next, 0, none⟩)), (38, .int .i64 t204r1), (198, .agg #[.slice t198c0a t198c0n t198c0k, .slice t198c1a t198c1n t198c1k]), (199, .int .i64 t199), (210, .agg #[.int .i64 t209r0c0, .int .i64 t209r0c1, .int .i64 t209r0c2, .int .i64 t209r0c3, .slice t209r0c4a t209r0c4n t209r0c4k, .slice t209r0c5a t209r0c5n t209r0c5k]), (211, .int .i64 t209r1)] 223 (s' := (.reg (opsAt (sub B [1, 1, 1, 1, 1, 1, 1, 1, 1, 1, 1, 0, 1, 0, 0, 1, 1, 0, 0, 1, 1, 0])) [5, 6, 7] :: S30)) (by kernel_rfl) fun J => ?_
    obtain ⟨H_5, q111, h⟩ := h
    refine KR.mk (w := pRow [.int .i64 0, .int .i64 0, .int .i64 0, .int .i64 0, .slice none 0 0, .slice none 0 0]) (one_al (by kernel_rfl)) q111 ?_
    obtain ⟨H_6, q112, h⟩ := h
    refine KR.se (one_st (by kernel_rfl) q112) ?_
    refine KR.run 4 [(37, .pointer (some ⟨H_1.next, 0, none⟩)), (38, .int .i64 t204r1), (39, .pointer (some ⟨H_4.next, 0, none⟩)), (40, .int .i64 t209r1), (198, .agg #[.slice t198c0a t198c0n t198c0k, .slice t198c1a t198c1n t198c1k]), (199, .int .i64 t199)] 223 (s' := (.reg (opsAt (sub B [1, 1, 1, 1, 1, 1, 1, 1, 1, 1, 1, 0, 1, 0, 0, 1, 1, 0, 0, 1, 1, 1, 0])) [0, 1, 2, 3, 4, 5, 6, 7, 8] :: S31)) (by kernel_rfl) fun J => ?_
    obtain ⟨t212c0, t212c1, t212c2, t212c3, t212c4a, t212c4n, t212c4k, t212c5a, t212c5n, t212c5k, q113, h⟩ := h
    refine KR.rd (one_ldA (by kernel_rfl) q113) ?_
    obtain ⟨t213c0, t213c1, t213c2, t213c3, t213c4a, t213c4n, t213c4k, t213c5a, t213c5n, t213c5k, q114, h⟩ := h
    refine KR.rd (one_ldA (by kernel_rfl) q114) ?_
    obtain ⟨t214, H_7, q115, h⟩ := h
    refine KR.se (one_ca (by kernel_rfl) q115) ?_
    refine KR.run 2 [(38, .int .i64 t204r1), (40, .int .i64 t209r1), (198, .agg #[.slice t198c0a t198c0n t198c0k, .slice t198c1a t198c1n t198c1k]), (199, .int .i64 t199), (216, .bool (!t214))] 223 (s' := (.reg (opsAt (sub B [1, 1, 1, 1, 1, 1, 1, 1, 1, 1, 1, 0, 1, 0, 0, 1, 1, 0, 0, 1, 1, 1, 0])) [5, 6, 7, 8] :: S31)) (by kernel_rfl) fun J => ?_
    by_cases c116 : t214 = true
    · replace h := iteT c116 h
      refine KR.setV 216 (by kernel_rfl) (nB (bT c116)) ?_
      exact KR.run 5 [(198, .agg #[.slice t198c0a t198c0n t198c0k, .slice t198c1a t198c1n t198c1k]), (199, .int .i64 t199), (220, .bool (!(t204r1 == t209r1)))] 223 (s' := (.code (sub B [1, 1, 1, 1, 1, 1, 1, 1, 1, 1, 1, 0, 1, 0, 0, 1, 1, 0, 0, 1, 1, 1, 1]) :: S27)) (by kernel_rfl) h
    · replace h := iteF c116 h
      refine KR.setV 216 (by kernel_rfl) (nB (bF c116)) ?_
      exact KR.run 5 [(198, .agg #[.slice t198c0a t198c0n t198c0k, .slice t198c1a t198c1n t198c1k]), (199, .int .i64 t199), (220, .bool true)] 223 (s' := (.code (sub B [1, 1, 1, 1, 1, 1, 1, 1, 1, 1, 1, 0, 1, 0, 0, 1, 1, 0, 0, 1, 1, 1, 1]) :: S27)) (by kernel_rfl) h
  · replace h := iteF c105 h
    refine KR.br false (by kernel_rfl) (vB (dF c105)) ?_
    refine KR.run 3 [] 223 (s' := (.reg (opsAt (sub B [1, 1, 1, 1, 1, 1, 1, 1, 1, 1, 1, 1, 0])) [0, 1] :: S32)) (by kernel_rfl) fun J => ?_
    obtain ⟨t222, H_8, q117, h⟩ := h
    refine KR.se (one_ca (by kernel_rfl) q117) ?_
    refine KR.run 2 [(16, .bool t222)] 223 (s' := (.code (sub B [1, 1, 1, 1, 1, 1, 1, 1, 1, 1, 1, 1, 1]) :: [])) (by kernel_rfl) fun J => ?_
    exact KR.fin (by kernel_rfl) h
theorem L5_step {t198c0a : Option Addr} {t198c0n : Nat} {t198c0k : Nat} {t198c1a : Option Addr} {t198c1n : Nat} {t198c1k : Nat} {t199 : Int} {t220 : Bool} {H : Heap} {r : Value × Heap} (h :
    if t220 = true then
    (r = (.bool false, H))
    else
    (L4 (t198c0a) (t198c0n) (t198c0k) (t198c1a) (t198c1n) (t198c1k) ((IntKind.wrap .i64 (t199 + 1))) H r)) :
    L5 t198c0a t198c0n t198c0k t198c1a t198c1n t198c1k t199 t220 H r := by
  intro J
  show KR _ _ _ (.code (sub B [1, 1, 1, 1, 1, 1, 1, 1, 1, 1, 1, 0, 1, 0, 0, 1, 1, 0, 0, 1, 1, 1, 1]) :: S27) _ _ _
  by_cases c118 : t220 = true
  · replace h := iteT c118 h
    refine KR.br true (by kernel_rfl) (vB (bT c118)) ?_
    refine KR.run 4 [(16, .bool false)] 223 (s' := (.code (sub B [1, 1, 1, 1, 1, 1, 1, 1, 1, 1, 1, 0, 1, 0, 0, 1, 1, 0, 0, 1, 1, 1, 1, 0, 1]) :: S27)) (by kernel_rfl) fun J => ?_
    exact KR.fin (by kernel_rfl) h
  · replace h := iteF c118 h
    refine KR.br false (by kernel_rfl) (vB (bF c118)) ?_
    exact KR.run 6 [(198, .agg #[.slice t198c0a t198c0n t198c0k, .slice t198c1a t198c1n t198c1k]), (199, .int .i64 (IntKind.wrap .i64 (t199 + 1)))] 223 (s' := (.lp (sub B [1, 1, 1, 1, 1, 1, 1, 1, 1, 1, 1, 0, 1, 0, 0]) :: S23)) (by kernel_rfl) h
theorem call {a0c0 : Int} {a0c1 : Int} {a0c2 : Int} {a0c3 : Int} {a0c4a : Option Addr} {a0c4n : Nat} {a0c4k : Nat} {a0c5a : Option Addr} {a0c5n : Nat} {a0c5k : Nat} {a1c0 : Int} {a1c1 : Int} {a1c2 : Int} {a1c3 : Int} {a1c4a : Option Addr} {a1c4n : Nat} {a1c4k : Nat} {a1c5a : Option Addr} {a1c5n : Nat} {a1c5k : Nat} {a2 : Int} {a3a : Option Addr} {a3n : Nat} {a3k : Nat} {a4a : Option Addr} {a4n : Nat} {a4k : Nat} {a5 : Int} {a6 : Int} {a7a : Option Addr} {a7n : Nat} {a7k : Nat} {H : Heap} {r : Value × Heap} (h :
    ∃ (H_1 : Heap), H_1 = H.push (.row [.int .i64 a0c0, .int .i64 a0c1, .int .i64 a0c2, .int .i64 a0c3, .slice a0c4a a0c4n a0c4k, .slice a0c5a a0c5n a0c5k] true) ∧
    (∃ (H_2 : Heap), H_2 = H_1.push (.row [.int .i64 a1c0, .int .i64 a1c1, .int .i64 a1c2, .int .i64 a1c3, .slice a1c4a a1c4n a1c4k, .slice a1c5a a1c5n a1c5k] true) ∧
    (∃ (t41c0 : Int) (t41c1 : Int) (t41c2 : Int) (t41c3 : Int) (t41c4a : Option Addr) (t41c4n : Nat) (t41c4k : Nat) (t41c5a : Option Addr) (t41c5n : Nat) (t41c5k : Nat), ldAll H_2 H.next 0 [.int .i64 t41c0, .int .i64 t41c1, .int .i64 t41c2, .int .i64 t41c3, .slice t41c4a t41c4n t41c4k, .slice t41c5a t41c5n t41c5k] ∧
    (∃ (t42 : Bool) (H_3 : Heap), xC Try.prog good 27 [.agg #[.int .i64 t41c0, .int .i64 t41c1, .int .i64 t41c2, .int .i64 t41c3, .slice t41c4a t41c4n t41c4k, .slice t41c5a t41c5n t41c5k]] H_2 = some (.bool t42, H_3) ∧
    (if t42 = true then
    (∃ (t45c0 : Int) (t45c1 : Int) (t45c2 : Int) (t45c3 : Int) (t45c4a : Option Addr) (t45c4n : Nat) (t45c4k : Nat) (t45c5a : Option Addr) (t45c5n : Nat) (t45c5k : Nat), ldAll H_3 H_1.next 0 [.int .i64 t45c0, .int .i64 t45c1, .int .i64 t45c2, .int .i64 t45c3, .slice t45c4a t45c4n t45c4k, .slice t45c5a t45c5n t45c5k] ∧
    (∃ (t46 : Bool) (H_4 : Heap), xC Try.prog good 27 [.agg #[.int .i64 t45c0, .int .i64 t45c1, .int .i64 t45c2, .int .i64 t45c3, .slice t45c4a t45c4n t45c4k, .slice t45c5a t45c5n t45c5k]] H_3 = some (.bool t46, H_4) ∧
    (if t46 = true then
    (if ((a3n : Nat) : Int) > 60 then
    (L0 (a2) (a3a) (a3n) (a3k) (a4a) (a4n) (a4k) (a5) (a6) (a7a) (a7n) (a7k) (H.next) (0) (H_1.next) (0) (true) H_4 r)
    else
    (L0 (a2) (a3a) (a3n) (a3k) (a4a) (a4n) (a4k) (a5) (a6) (a7a) (a7n) (a7k) (H.next) (0) (H_1.next) (0) ((decide (((a7n : Nat) : Int) > 200))) H_4 r))
    else
    (L0 (a2) (a3a) (a3n) (a3k) (a4a) (a4n) (a4k) (a5) (a6) (a7a) (a7n) (a7k) (H.next) (0) (H_1.next) (0) (true) H_4 r))))
    else
    (L0 (a2) (a3a) (a3n) (a3k) (a4a) (a4n) (a4k) (a5) (a6) (a7a) (a7n) (a7k) (H.next) (0) (H_1.next) (0) (true) H_3 r)))))) :
    xC Try.prog good 13 [.agg #[.int .i64 a0c0, .int .i64 a0c1, .int .i64 a0c2, .int .i64 a0c3, .slice a0c4a a0c4n a0c4k, .slice a0c5a a0c5n a0c5k], .agg #[.int .i64 a1c0, .int .i64 a1c1, .int .i64 a1c2, .int .i64 a1c3, .slice a1c4a a1c4n a1c4k, .slice a1c5a a1c5n a1c5k], .int .i64 a2, .slice a3a a3n a3k, .slice a4a a4n a4k, .int .u8 a5, .int .i64 a6, .slice a7a a7n a7k] H = some r := by
  refine KR.enter (fn := Try.f13) (c := B) (by kernel_rfl) (by kernel_rfl) ?_
  refine KR.run 2 [(0, .agg #[.int .i64 a0c0, .int .i64 a0c1, .int .i64 a0c2, .int .i64 a0c3, .slice a0c4a a0c4n a0c4k, .slice a0c5a a0c5n a0c5k]), (1, .agg #[.int .i64 a1c0, .int .i64 a1c1, .int .i64 a1c2, .int .i64 a1c3, .slice a1c4a a1c4n a1c4k, .slice a1c5a a1c5n a1c5k]), (2, .int .i64 a2), (3, .slice a3a a3n a3k), (4, .slice a4a a4n a4k), (5, .int .u8 a5), (6, .int .i64 a6), (7, .slice a7a a7n a7k)] 223 (s' := (.reg (opsAt (sub B [0])) [0, 1, 2] :: S0)) (by kernel_rfl) fun J => ?_
  obtain ⟨H_1, q1, h⟩ := h
  refine KR.mk (w := pRow [.int .i64 a0c0, .int .i64 a0c1, .int .i64 a0c2, .int .i64 a0c3, .slice a0c4a a0c4n a0c4k, .slice a0c5a a0c5n a0c5k]) (one_al (by kernel_rfl)) q1 ?_
  obtain ⟨H_2, q2, h⟩ := h
  refine KR.mk (w := pRow [.int .i64 a1c0, .int .i64 a1c1, .int .i64 a1c2, .int .i64 a1c3, .slice a1c4a a1c4n a1c4k, .slice a1c5a a1c5n a1c5k]) (one_al (by kernel_rfl)) q2 ?_
  refine KR.run 5 [(2, .int .i64 a2), (3, .slice a3a a3n a3k), (4, .slice a4a a4n a4k), (5, .int .u8 a5), (6, .int .i64 a6), (7, .slice a7a a7n a7k), (8, .pointer (some ⟨H.next, 0, none⟩)), (9, .pointer (some ⟨H_1.next, 0, none⟩))] 223 (s' := (.reg (opsAt (sub B [1, 0, 0])) [0, 1, 2, 3, 4, 5, 6, 7, 8, 9, 10, 11, 12, 13, 14, 15, 16, 17] :: S2)) (by kernel_rfl) fun J => ?_
  obtain ⟨t41c0, t41c1, t41c2, t41c3, t41c4a, t41c4n, t41c4k, t41c5a, t41c5n, t41c5k, q3, h⟩ := h
  refine KR.rd (one_ldA (by kernel_rfl) q3) ?_
  obtain ⟨t42, H_3, q4, h⟩ := h
  refine KR.se (one_ca (by kernel_rfl) q4) ?_
  refine KR.run 2 [(2, .int .i64 a2), (3, .slice a3a a3n a3k), (4, .slice a4a a4n a4k), (5, .int .u8 a5), (6, .int .i64 a6), (7, .slice a7a a7n a7k), (8, .pointer (some ⟨H.next, 0, none⟩)), (9, .pointer (some ⟨H_1.next, 0, none⟩)), (44, .bool (!t42))] 223 (s' := (.reg (opsAt (sub B [1, 0, 0])) [4, 5, 6, 7, 8, 9, 10, 11, 12, 13, 14, 15, 16, 17] :: S2)) (by kernel_rfl) fun J => ?_
  by_cases c5 : t42 = true
  · replace h := iteT c5 h
    refine KR.setV 44 (by kernel_rfl) (nB (bT c5)) ?_
    obtain ⟨t45c0, t45c1, t45c2, t45c3, t45c4a, t45c4n, t45c4k, t45c5a, t45c5n, t45c5k, q6, h⟩ := h
    refine KR.rd (one_ldA (by kernel_rfl) q6) ?_
    obtain ⟨t46, H_4, q7, h⟩ := h
    refine KR.se (one_ca (by kernel_rfl) q7) ?_
    refine KR.run 3 [(2, .int .i64 a2), (3, .slice a3a a3n a3k), (4, .slice a4a a4n a4k), (5, .int .u8 a5), (6, .int .i64 a6), (7, .slice a7a a7n a7k), (8, .pointer (some ⟨H.next, 0, none⟩)), (9, .pointer (some ⟨H_1.next, 0, none⟩)), (49, .bool (!t46))] 223 (s' := (.reg (opsAt (sub B [1, 0, 0])) [9, 10, 11, 12, 13, 14, 15, 16, 17] :: S2)) (by kernel_rfl) fun J => ?_
    by_cases c8 : t46 = true
    · replace h := iteT c8 h
      refine KR.setV 49 (by kernel_rfl) (nB (bT c8)) ?_
      refine KR.run 5 [(2, .int .i64 a2), (3, .slice a3a a3n a3k), (4, .slice a4a a4n a4k), (5, .int .u8 a5), (6, .int .i64 a6), (7, .slice a7a a7n a7k), (8, .pointer (some ⟨H.next, 0, none⟩)), (9, .pointer (some ⟨H_1.next, 0, none⟩)), (54, .bool (decide (((a3n : Nat) : Int) > 60)))] 223 (s' := (.reg (opsAt (sub B [1, 0, 0])) [14, 15, 16, 17] :: S2)) (by kernel_rfl) fun J => ?_
      by_cases c9 : ((a3n : Nat) : Int) > 60
      · replace h := iteT c9 h
        refine KR.setV 54 (by kernel_rfl) (dT c9) ?_
        exact KR.run 5 [(2, .int .i64 a2), (3, .slice a3a a3n a3k), (4, .slice a4a a4n a4k), (5, .int .u8 a5), (6, .int .i64 a6), (7, .slice a7a a7n a7k), (8, .pointer (some ⟨H.next, 0, none⟩)), (9, .pointer (some ⟨H_1.next, 0, none⟩)), (58, .bool true)] 223 (s' := (.code (sub B [1, 0, 1]) :: S1)) (by kernel_rfl) h
      · replace h := iteF c9 h
        refine KR.setV 54 (by kernel_rfl) (dF c9) ?_
        exact KR.run 5 [(2, .int .i64 a2), (3, .slice a3a a3n a3k), (4, .slice a4a a4n a4k), (5, .int .u8 a5), (6, .int .i64 a6), (7, .slice a7a a7n a7k), (8, .pointer (some ⟨H.next, 0, none⟩)), (9, .pointer (some ⟨H_1.next, 0, none⟩)), (58, .bool (decide (((a7n : Nat) : Int) > 200)))] 223 (s' := (.code (sub B [1, 0, 1]) :: S1)) (by kernel_rfl) h
    · replace h := iteF c8 h
      refine KR.setV 49 (by kernel_rfl) (nB (bF c8)) ?_
      exact KR.run 10 [(2, .int .i64 a2), (3, .slice a3a a3n a3k), (4, .slice a4a a4n a4k), (5, .int .u8 a5), (6, .int .i64 a6), (7, .slice a7a a7n a7k), (8, .pointer (some ⟨H.next, 0, none⟩)), (9, .pointer (some ⟨H_1.next, 0, none⟩)), (58, .bool true)] 223 (s' := (.code (sub B [1, 0, 1]) :: S1)) (by kernel_rfl) h
  · replace h := iteF c5 h
    refine KR.setV 44 (by kernel_rfl) (nB (bF c5)) ?_
    exact KR.run 15 [(2, .int .i64 a2), (3, .slice a3a a3n a3k), (4, .slice a4a a4n a4k), (5, .int .u8 a5), (6, .int .i64 a6), (7, .slice a7a a7n a7k), (8, .pointer (some ⟨H.next, 0, none⟩)), (9, .pointer (some ⟨H_1.next, 0, none⟩)), (58, .bool true)] 223 (s' := (.code (sub B [1, 0, 1]) :: S1)) (by kernel_rfl) h
end F13
end Go.X
