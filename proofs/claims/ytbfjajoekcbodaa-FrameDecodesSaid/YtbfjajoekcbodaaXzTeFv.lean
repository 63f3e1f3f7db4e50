/- The walks of the functions: printed. -/
import Derived.Test.YtbfjajoekcbodaaXzGe
set_option linter.unusedVariables false
set_option maxRecDepth 100000
namespace Go.X
open Go Go.RowKit Go.Proofs
/-! #### 26 campanile/campanilelaw7.light -/
namespace F26
noncomputable def B : Code := bodyOf Try.f26
noncomputable def S0 : List It := (.code (sub B [1]) :: [])
noncomputable def S1 : List It := (.code (sub B [1, 1]) :: [])
theorem call {a0c0 a0c1 a0c2 a0c3 : Int} {a0c4a : Option Addr} {a0c4n a0c4k : Nat} {a0c5a : Option Addr} {a0c5n a0c5k : Nat} {H : Heap} {r : Value × Heap} (h :
    ∃ (H_1 : Heap), H_1 = H.push (.row [.int .i64 a0c0, .int .i64 a0c1, .int .i64 a0c2, .int .i64 a0c3, .slice a0c4a a0c4n a0c4k, .slice a0c5a a0c5n a0c5k] true) ∧
    (∃ (t4a : Option Addr) (t4n t4k : Nat), ldc H_1 H.next 4 = some (.slice t4a t4n t4k) ∧
    (∃ (t5 : Int) (H_2 : Heap), xC Try.prog good 13 [.slice t4a t4n t4k] H_1 = some (.int .i64 t5, H_2) ∧
    (if t5 = 0 then
    (∃ (t9a : Option Addr) (t9n t9k : Nat), ldc H_2 H.next 5 = some (.slice t9a t9n t9k) ∧
    (r = (.bool (decide ((t9n : Int) ≤ 200)), H_2)))
    else
    (r = (.bool false, H_2)))))) :
    xC Try.prog good 26 [.agg #[.int .i64 a0c0, .int .i64 a0c1, .int .i64 a0c2, .int .i64 a0c3, .slice a0c4a a0c4n a0c4k, .slice a0c5a a0c5n a0c5k]] H = some r := by
  refine KR.enter (fn := Try.f26) (c := B) (by kernel_rfl) (by kernel_rfl) ?_
  refine KR.go 2 [(0, .agg #[.int .i64 a0c0, .int .i64 a0c1, .int .i64 a0c2, .int .i64 a0c3, .slice a0c4a a0c4n a0c4k, .slice a0c5a a0c5n a0c5k])] 13 (s' := (.reg (opsAt (sub B [0])) [0, 1] :: S0)) fun J => ?_
  obtain ⟨H_1, q1, h⟩ := h
  refine KR.mk (w := pRow [.int .i64 a0c0, .int .i64 a0c1, .int .i64 a0c2, .int .i64 a0c3, .slice a0c4a a0c4n a0c4k, .slice a0c5a a0c5n a0c5k]) (one_al (by kernel_rfl)) q1 ?_
  refine KR.go 5 [(1, .pointer (some ⟨H.next, 0, none⟩)), (3, .pointer (some ⟨H.next, 4, none⟩))] 13 (s' := (.reg (opsAt (sub B [1, 0])) [1, 2, 3, 4, 5, 6, 7, 8, 9, 10] :: S1)) fun J => ?_
  obtain ⟨t4a, t4n, t4k, q2, h⟩ := h
  refine KR.rd (one_ld (by kernel_rfl) q2) ?_
  obtain ⟨t5, H_2, q3, h⟩ := h
  refine KR.se (one_ca (by kernel_rfl) q3) ?_
  refine KR.go 2 [(1, .pointer (some ⟨H.next, 0, none⟩)), (7, .bool (t5 == 0))] 13 (s' := (.reg (opsAt (sub B [1, 0])) [5, 6, 7, 8, 9, 10] :: S1)) fun J => ?_
  by_cases c4 : t5 = 0
  · replace h := iteT c4 h
    refine KR.setV 7 (by kernel_rfl) (eT c4) ?_
    refine KR.go 1 [(7, .bool true), (8, .pointer (some ⟨H.next, 5, none⟩))] 13 (s' := (.reg (opsAt (sub B [1, 0])) [6, 7, 8, 9, 10] :: S1)) fun J => ?_
    obtain ⟨t9a, t9n, t9k, q5, h⟩ := h
    refine KR.rd (one_ld (by kernel_rfl) q5) ?_
    refine KR.go 5 [(2, .bool (decide ((t9n : Int) ≤ 200)))] 13 (s' := (.code (sub B [1, 1]) :: [])) fun J => ?_
    exact KR.fi h
  · replace h := iteF c4 h
    refine KR.setV 7 (by kernel_rfl) (eF c4) ?_
    refine KR.go 7 [(2, .bool false)] 13 (s' := (.code (sub B [1, 1]) :: [])) fun J => ?_
    exact KR.fi h
end F26
/-! #### 27 campanile/campanilelaw7.awake -/
namespace F27
noncomputable def B : Code := bodyOf Try.f27
noncomputable def S0 : List It := (.code (sub B [1, 1]) :: [])
noncomputable def S1 : List It := (.code (sub B [1, 1, 1]) :: [])
noncomputable def S2 : List It := (.code (sub B [1, 1, 1, 1]) :: [])
theorem call  {H : Heap} {r : Value × Heap} (h :
    ∃ (t7r0a : Option Addr) (t7r0n t7r0k : Nat) (t7r1 : Int) (H_1 : Heap), xC Try.prog good 33 [.agg #[.int .i64 4, .int .i64 1, .int .i64 2, .int .i64 3, .slice none 0 0, .slice none 0 0]] H = some (.tuple #[.slice t7r0a t7r0n t7r0k, .int .i64 t7r1], H_1) ∧
    (∃ (t12r0c0 t12r0c1 t12r0c2 t12r0c3 : Int) (t12r0c4a : Option Addr) (t12r0c4n t12r0c4k : Nat) (t12r0c5a : Option Addr) (t12r0c5n t12r0c5k : Nat) (t12r1 : Int) (H_2 : Heap), xC Try.prog good 30 [.slice t7r0a t7r0n t7r0k] H_1 = some (.tuple #[.agg #[.int .i64 t12r0c0, .int .i64 t12r0c1, .int .i64 t12r0c2, .int .i64 t12r0c3, .slice t12r0c4a t12r0c4n t12r0c4k, .slice t12r0c5a t12r0c5n t12r0c5k], .int .i64 t12r1], H_2) ∧
    (∃ (H_3 : Heap), H_3 = H_2.push (.row [.int .i64 0, .int .i64 0, .int .i64 0, .int .i64 0, .slice none 0 0, .slice none 0 0] true) ∧
    (∃ (H_4 : Heap), stc H_3 H_2.next 0 [.int .i64 t12r0c0, .int .i64 t12r0c1, .int .i64 t12r0c2, .int .i64 t12r0c3, .slice t12r0c4a t12r0c4n t12r0c4k, .slice t12r0c5a t12r0c5n t12r0c5k] = some H_4 ∧
    (if t7r1 = 0 then
    (if (t7r0n : Int) = 10 then
    (∃ (t7r0ab t7r0ao : Nat), t7r0a = some ⟨t7r0ab, t7r0ao, none⟩ ∧
    ((0 : Int) ≤ 0 ∧ 0 < (t7r0n : Int) ∧
    (∃ (t25 : Int), ldc H_4 t7r0ab t7r0ao = some (.int .u8 t25) ∧
    (if t25 = 197 then
    (if t12r1 = 0 then
    (∃ (t34 : Int), ldc H_4 H_2.next 2 = some (.int .i64 t34) ∧
    (if t34 = 2 then
    (∃ (t39 : Int), ldc H_4 H_2.next 3 = some (.int .i64 t39) ∧
    (r = (.bool (t39 == 3), H_4)))
    else
    (r = (.bool false, H_4))))
    else
    (r = (.bool false, H_4)))
    else
    (r = (.bool false, H_4))))))
    else
    (r = (.bool false, H_4)))
    else
    (r = (.bool false, H_4))))))) :
    xC Try.prog good 27 [] H = some r := by
  refine KR.enter (fn := Try.f27) (c := B) (by kernel_rfl) (by kernel_rfl) ?_
  refine KR.go 7 [(6, .agg #[.int .i64 4, .int .i64 1, .int .i64 2, .int .i64 3, .slice none 0 0, .slice none 0 0])] 42 (s' := (.reg (opsAt (sub B [1, 0])) [1, 2, 3, 4, 5, 6] :: S0)) fun J => ?_
  obtain ⟨t7r0a, t7r0n, t7r0k, t7r1, H_1, q1, h⟩ := h
  refine KR.se (one_ca (by kernel_rfl) q1) ?_
  refine KR.go 9 [(1, .slice t7r0a t7r0n t7r0k), (2, .int .i64 t7r1), (11, .slice t7r0a t7r0n t7r0k)] 42 (s' := (.reg (opsAt (sub B [1, 1, 0])) [1, 2, 3, 4, 5, 6, 7] :: S1)) fun J => ?_
  obtain ⟨t12r0c0, t12r0c1, t12r0c2, t12r0c3, t12r0c4a, t12r0c4n, t12r0c4k, t12r0c5a, t12r0c5n, t12r0c5k, t12r1, H_2, q2, h⟩ := h
  refine KR.se (one_ca (by kernel_rfl) q2) ?_
  refine KR.go 3 [(1, .slice t7r0a t7r0n t7r0k), (2, .int .i64 t7r1), (13, .agg #[.int .i64 t12r0c0, .int .i64 t12r0c1, .int .i64 t12r0c2, .int .i64 t12r0c3, .slice t12r0c4a t12r0c4n t12r0c4k, .slice t12r0c5a t12r0c5n t12r0c5k]), (14, .int .i64 t12r1)] 42 (s' := (.reg (opsAt (sub B [1, 1, 0])) [5, 6, 7] :: S1)) fun J => ?_
  obtain ⟨H_3, q3, h⟩ := h
  refine KR.mk (w := pRow [.int .i64 0, .int .i64 0, .int .i64 0, .int .i64 0, .slice none 0 0, .slice none 0 0]) (one_al (by kernel_rfl)) q3 ?_
  obtain ⟨H_4, q4, h⟩ := h
  refine KR.se (one_st (by kernel_rfl) q4) ?_
  refine KR.go 7 [(1, .slice t7r0a t7r0n t7r0k), (3, .pointer (some ⟨H_2.next, 0, none⟩)), (4, .int .i64 t12r1), (17, .bool (t7r1 == 0))] 42 (s' := (.reg (opsAt (sub B [1, 1, 1, 0])) [3, 4, 5, 6, 7, 8, 9, 10, 11, 12, 13, 14, 15, 16, 17, 18, 19, 20, 21, 22, 23, 24, 25, 26, 27] :: S2)) fun J => ?_
  by_cases c5 : t7r1 = 0
  · replace h := iteT c5 h
    refine KR.setV 17 (by kernel_rfl) (eT c5) ?_
    refine KR.go 5 [(1, .slice t7r0a t7r0n t7r0k), (3, .pointer (some ⟨H_2.next, 0, none⟩)), (4, .int .i64 t12r1), (22, .bool ((t7r0n : Int) == 10))] 42 (s' := (.reg (opsAt (sub B [1, 1, 1, 0])) [8, 9, 10, 11, 12, 13, 14, 15, 16, 17, 18, 19, 20, 21, 22, 23, 24, 25, 26, 27] :: S2)) fun J => ?_
    by_cases c6 : (t7r0n : Int) = 10
    · replace h := iteT c6 h
      refine KR.setV 22 (by kernel_rfl) (eT c6) ?_
      obtain ⟨t7r0ab, t7r0ao, rfl, h⟩ := h
      refine KR.go 1 [(3, .pointer (some ⟨H_2.next, 0, none⟩)), (4, .int .i64 t12r1), (22, .bool true), (23, .slice (some ⟨t7r0ab, t7r0ao, none⟩) t7r0n t7r0k)] 42 (s' := (.reg (opsAt (sub B [1, 1, 1, 0])) [9, 10, 11, 12, 13, 14, 15, 16, 17, 18, 19, 20, 21, 22, 23, 24, 25, 26, 27] :: S2)) fun J => ?_
      obtain ⟨q7, q7x, h⟩ := h
      refine KR.p (one_ix 1 t7r0ab t7r0ao (by kernel_rfl) q7 q7x) ?_
      obtain ⟨t25, q8, h⟩ := h
      refine KR.rd (one_ld (by kernel_rfl) q8) ?_
      refine KR.go 3 [(3, .pointer (some ⟨H_2.next, 0, none⟩)), (4, .int .i64 t12r1), (28, .bool (t25 == 197))] 42 (s' := (.reg (opsAt (sub B [1, 1, 1, 0])) [14, 15, 16, 17, 18, 19, 20, 21, 22, 23, 24, 25, 26, 27] :: S2)) fun J => ?_
      by_cases c9 : t25 = 197
      · replace h := iteT c9 h
        refine KR.setV 28 (by kernel_rfl) (eT c9) ?_
        refine KR.go 4 [(3, .pointer (some ⟨H_2.next, 0, none⟩)), (32, .bool (t12r1 == 0))] 42 (s' := (.reg (opsAt (sub B [1, 1, 1, 0])) [18, 19, 20, 21, 22, 23, 24, 25, 26, 27] :: S2)) fun J => ?_
        by_cases c10 : t12r1 = 0
        · replace h := iteT c10 h
          refine KR.setV 32 (by kernel_rfl) (eT c10) ?_
          refine KR.go 1 [(3, .pointer (some ⟨H_2.next, 0, none⟩)), (32, .bool true), (33, .pointer (some ⟨H_2.next, 2, none⟩))] 42 (s' := (.reg (opsAt (sub B [1, 1, 1, 0])) [19, 20, 21, 22, 23, 24, 25, 26, 27] :: S2)) fun J => ?_
          obtain ⟨t34, q11, h⟩ := h
          refine KR.rd (one_ld (by kernel_rfl) q11) ?_
          refine KR.go 3 [(3, .pointer (some ⟨H_2.next, 0, none⟩)), (37, .bool (t34 == 2))] 42 (s' := (.reg (opsAt (sub B [1, 1, 1, 0])) [23, 24, 25, 26, 27] :: S2)) fun J => ?_
          by_cases c12 : t34 = 2
          · replace h := iteT c12 h
            refine KR.setV 37 (by kernel_rfl) (eT c12) ?_
            refine KR.go 1 [(37, .bool true), (38, .pointer (some ⟨H_2.next, 3, none⟩))] 42 (s' := (.reg (opsAt (sub B [1, 1, 1, 0])) [24, 25, 26, 27] :: S2)) fun J => ?_
            obtain ⟨t39, q13, h⟩ := h
            refine KR.rd (one_ld (by kernel_rfl) q13) ?_
            refine KR.go 4 [(0, .bool (t39 == 3))] 42 (s' := (.code (sub B [1, 1, 1, 1]) :: [])) fun J => ?_
            exact KR.fi h
          · replace h := iteF c12 h
            refine KR.setV 37 (by kernel_rfl) (eF c12) ?_
            refine KR.go 6 [(0, .bool false)] 42 (s' := (.code (sub B [1, 1, 1, 1]) :: [])) fun J => ?_
            exact KR.fi h
        · replace h := iteF c10 h
          refine KR.setV 32 (by kernel_rfl) (eF c10) ?_
          refine KR.go 11 [(0, .bool false)] 42 (s' := (.code (sub B [1, 1, 1, 1]) :: [])) fun J => ?_
          exact KR.fi h
      · replace h := iteF c9 h
        refine KR.setV 28 (by kernel_rfl) (eF c9) ?_
        refine KR.go 15 [(0, .bool false)] 42 (s' := (.code (sub B [1, 1, 1, 1]) :: [])) fun J => ?_
        exact KR.fi h
    · replace h := iteF c6 h
      refine KR.setV 22 (by kernel_rfl) (eF c6) ?_
      refine KR.go 21 [(0, .bool false)] 42 (s' := (.code (sub B [1, 1, 1, 1]) :: [])) fun J => ?_
      exact KR.fi h
  · replace h := iteF c5 h
    refine KR.setV 17 (by kernel_rfl) (eF c5) ?_
    refine KR.go 26 [(0, .bool false)] 42 (s' := (.code (sub B [1, 1, 1, 1]) :: [])) fun J => ?_
    exact KR.fi h
end F27
/-! #### 30 campanile/frame.Decode -/
namespace F30
noncomputable def B : Code := bodyOf Try.f30
noncomputable def S0 : List It := (.code (sub B [1]) :: [])
noncomputable def S1 : List It := (.code (sub B [1, 1]) :: [])
noncomputable def S5 : List It := (.code (sub B [1, 1, 1]) :: [])
noncomputable def S6 : List It := (.code (sub B [1, 1, 1, 1]) :: [])
noncomputable def S7 : List It := (.code (sub B [1, 1, 1, 1, 1]) :: [])
noncomputable def S8 : List It := (.code (sub B [1, 1, 1, 1, 1, 1]) :: [])
noncomputable def S9 : List It := (.code (sub B [1, 1, 1, 1, 1, 1, 1]) :: [])
noncomputable def S10 : List It := (.code (sub B [1, 1, 1, 1, 1, 1, 1, 1]) :: [])
noncomputable def S14 : List It := (.code (sub B [1, 1, 1, 1, 1, 1, 1, 1, 1, 1]) :: [])
noncomputable def S16 : List It := (.code (sub B [1, 1, 1, 1, 1, 1, 1, 1, 1, 1, 1]) :: [])
noncomputable def S18 : List It := (.code (sub B [1, 1, 1, 1, 1, 1, 1, 1, 1, 1, 1, 1]) :: [])
noncomputable def S2 : List It := (.blk 0 :: S1)
noncomputable def S11 : List It := (.code (sub B [1, 1, 1, 1, 1, 1, 1, 0, 1]) :: S10)
noncomputable def S13 : List It := (.code (sub B [1, 1, 1, 1, 1, 1, 1, 0, 1, 0, 1]) :: S10)
noncomputable def S15 : List It := (.code (sub B [1, 1, 1, 1, 1, 1, 1, 1, 1, 0, 1]) :: S14)
noncomputable def S17 : List It := (.code (sub B [1, 1, 1, 1, 1, 1, 1, 1, 1, 1, 0, 1]) :: S16)
noncomputable def S19 : List It := (.code (sub B [1, 1, 1, 1, 1, 1, 1, 1, 1, 1, 0, 1, 0, 1]) :: S16)
noncomputable def S20 : List It := (.code (sub B [1, 1, 1, 1, 1, 1, 1, 1, 1, 0, 1, 1, 0, 1]) :: S14)
noncomputable def S3 : List It := (.code (sub B [1, 0, 0, 1, 0, 1]) :: S2)
noncomputable def S4 : List It := (.code (sub B [1, 0, 0, 1, 1, 1]) :: S2)
noncomputable def S12 : List It := (.code (sub B [1, 0, 0, 1, 1, 1, 0, 1]) :: S2)
def L0 (t2b t2o t6b t6o : Nat) (t7a : Option Addr) (t7n t7k : Nat) (t51 : Bool) (H : Heap) (r : Value × Heap) : Prop := ∀ J, KR Try.prog good Try.f30 S11 (mat J 68 [(2, .pointer (some ⟨t2b, t2o, none⟩)), (6, .pointer (some ⟨t6b, t6o, none⟩)), (7, .slice t7a t7n t7k), (51, .bool t51)]) H r
theorem L0_step {t2b t2o t6b t6o : Nat} {t7a : Option Addr} {t7n t7k : Nat} {t51 : Bool} {H : Heap} {r : Value × Heap} (h :
    if t51 = true then
    (∃ (H_1 : Heap), stc H t2b t2o [.int .i64 0, .int .i64 0, .int .i64 0, .int .i64 0, .slice none 0 0, .slice none 0 0] = some H_1 ∧
    (∃ (r2c0 r2c1 r2c2 r2c3 : Int) (r2c4a : Option Addr) (r2c4n r2c4k : Nat) (r2c5a : Option Addr) (r2c5n r2c5k : Nat), ldAll H_1 t2b t2o [.int .i64 r2c0, .int .i64 r2c1, .int .i64 r2c2, .int .i64 r2c3, .slice r2c4a r2c4n r2c4k, .slice r2c5a r2c5n r2c5k] ∧
    (r = (.tuple #[.agg #[.int .i64 r2c0, .int .i64 r2c1, .int .i64 r2c2, .int .i64 r2c3, .slice r2c4a r2c4n r2c4k, .slice r2c5a r2c5n r2c5k], .int .i64 3], H_1))))
    else
    (∃ (t55r0a : Option Addr) (t55r0n t55r0k : Nat) (t55r1 : Int) (H_2 : Heap), xC Try.prog good 23 [.slice t7a t7n t7k] H = some (.tuple #[.slice t55r0a t55r0n t55r0k, .int .i64 t55r1], H_2) ∧
    (∃ (H_3 : Heap), stc H_2 t6b (t6o + 4) [.slice t55r0a t55r0n t55r0k] = some H_3 ∧
    (if t55r1 = 0 then
    (∃ (t63c0 t63c1 t63c2 t63c3 : Int) (t63c4a : Option Addr) (t63c4n t63c4k : Nat) (t63c5a : Option Addr) (t63c5n t63c5k : Nat), ldAll H_3 t6b t6o [.int .i64 t63c0, .int .i64 t63c1, .int .i64 t63c2, .int .i64 t63c3, .slice t63c4a t63c4n t63c4k, .slice t63c5a t63c5n t63c5k] ∧
    (∃ (t64 : Bool) (H_4 : Heap), xC Try.prog good 34 [.agg #[.int .i64 t63c0, .int .i64 t63c1, .int .i64 t63c2, .int .i64 t63c3, .slice t63c4a t63c4n t63c4k, .slice t63c5a t63c5n t63c5k]] H_3 = some (.bool t64, H_4) ∧
    (if t64 = true then
    (∃ (t67c0 t67c1 t67c2 t67c3 : Int) (t67c4a : Option Addr) (t67c4n t67c4k : Nat) (t67c5a : Option Addr) (t67c5n t67c5k : Nat), ldAll H_4 t6b t6o [.int .i64 t67c0, .int .i64 t67c1, .int .i64 t67c2, .int .i64 t67c3, .slice t67c4a t67c4n t67c4k, .slice t67c5a t67c5n t67c5k] ∧
    (∃ (H_5 : Heap), stc H_4 t2b t2o [.int .i64 t67c0, .int .i64 t67c1, .int .i64 t67c2, .int .i64 t67c3, .slice t67c4a t67c4n t67c4k, .slice t67c5a t67c5n t67c5k] = some H_5 ∧
    (∃ (r2c0_1 r2c1_1 r2c2_1 r2c3_1 : Int) (r2c4a_1 : Option Addr) (r2c4n_1 r2c4k_1 : Nat) (r2c5a_1 : Option Addr) (r2c5n_1 r2c5k_1 : Nat), ldAll H_5 t2b t2o [.int .i64 r2c0_1, .int .i64 r2c1_1, .int .i64 r2c2_1, .int .i64 r2c3_1, .slice r2c4a_1 r2c4n_1 r2c4k_1, .slice r2c5a_1 r2c5n_1 r2c5k_1] ∧
    (r = (.tuple #[.agg #[.int .i64 r2c0_1, .int .i64 r2c1_1, .int .i64 r2c2_1, .int .i64 r2c3_1, .slice r2c4a_1 r2c4n_1 r2c4k_1, .slice r2c5a_1 r2c5n_1 r2c5k_1], .int .i64 0], H_5)))))
    else
    (∃ (H_6 : Heap), stc H_4 t2b t2o [.int .i64 0, .int .i64 0, .int .i64 0, .int .i64 0, .slice none 0 0, .slice none 0 0] = some H_6 ∧
    (∃ (r2c0_2 r2c1_2 r2c2_2 r2c3_2 : Int) (r2c4a_2 : Option Addr) (r2c4n_2 r2c4k_2 : Nat) (r2c5a_2 : Option Addr) (r2c5n_2 r2c5k_2 : Nat), ldAll H_6 t2b t2o [.int .i64 r2c0_2, .int .i64 r2c1_2, .int .i64 r2c2_2, .int .i64 r2c3_2, .slice r2c4a_2 r2c4n_2 r2c4k_2, .slice r2c5a_2 r2c5n_2 r2c5k_2] ∧
    (r = (.tuple #[.agg #[.int .i64 r2c0_2, .int .i64 r2c1_2, .int .i64 r2c2_2, .int .i64 r2c3_2, .slice r2c4a_2 r2c4n_2 r2c4k_2, .slice r2c5a_2 r2c5n_2 r2c5k_2], .int .i64 3], H_6)))))))
    else
    (∃ (H_7 : Heap), stc H_3 t2b t2o [.int .i64 0, .int .i64 0, .int .i64 0, .int .i64 0, .slice none 0 0, .slice none 0 0] = some H_7 ∧
    (∃ (r2c0_3 r2c1_3 r2c2_3 r2c3_3 : Int) (r2c4a_3 : Option Addr) (r2c4n_3 r2c4k_3 : Nat) (r2c5a_3 : Option Addr) (r2c5n_3 r2c5k_3 : Nat), ldAll H_7 t2b t2o [.int .i64 r2c0_3, .int .i64 r2c1_3, .int .i64 r2c2_3, .int .i64 r2c3_3, .slice r2c4a_3 r2c4n_3 r2c4k_3, .slice r2c5a_3 r2c5n_3 r2c5k_3] ∧
    (r = (.tuple #[.agg #[.int .i64 r2c0_3, .int .i64 r2c1_3, .int .i64 r2c2_3, .int .i64 r2c3_3, .slice r2c4a_3 r2c4n_3 r2c4k_3, .slice r2c5a_3 r2c5n_3 r2c5k_3], .int .i64 t55r1], H_7)))))))) :
    L0 t2b t2o t6b t6o t7a t7n t7k t51 H r := by
  intro J
  show KR _ _ _ (.code (sub B [1, 1, 1, 1, 1, 1, 1, 0, 1]) :: S10) _ _ _
  by_cases c25 : t51 = true
  · replace h := iteT c25 h
    refine KR.bb true (vB (bT c25)) ?_
    refine KR.go 3 [(2, .pointer (some ⟨t2b, t2o, none⟩)), (52, .agg #[.int .i64 0, .int .i64 0, .int .i64 0, .int .i64 0, .slice none 0 0, .slice none 0 0])] 68 (s' := (.reg (opsAt (sub B [1, 1, 1, 1, 1, 1, 1, 0, 1, 0, 0])) [1, 2] :: S13)) fun J => ?_
    obtain ⟨H_1, q26, h⟩ := h
    refine KR.se (one_st (by kernel_rfl) q26) ?_
    refine KR.go 2 [(2, .pointer (some ⟨t2b, t2o, none⟩)), (3, .int .i64 3)] 68 (s' := (.code (sub B [1, 1, 1, 1, 1, 1, 1, 0, 1, 0, 1]) :: S10)) fun J => ?_
    obtain ⟨r2c0, r2c1, r2c2, r2c3, r2c4a, r2c4n, r2c4k, r2c5a, r2c5n, r2c5k, q27, h⟩ := h
    exact KR.finR (l := [.cell 2 44, .tmp 3]) (vs := [.agg #[.int .i64 r2c0, .int .i64 r2c1, .int .i64 r2c2, .int .i64 r2c3, .slice r2c4a r2c4n r2c4k, .slice r2c5a r2c5n r2c5k], .int .i64 3]) (by kernel_rfl) (Res.cellA (by kernel_rfl) q27 (Res.tmp (by kernel_rfl) Res.nil)) (by kernel_rfl) h
  · replace h := iteF c25 h
    refine KR.bb false (vB (bF c25)) ?_
    refine KR.go 9 [(2, .pointer (some ⟨t2b, t2o, none⟩)), (6, .pointer (some ⟨t6b, t6o, none⟩)), (54, .slice t7a t7n t7k)] 68 (s' := (.reg (opsAt (sub B [1, 1, 1, 1, 1, 1, 1, 1, 1, 0, 0])) [1, 2, 3, 4, 5, 6, 7] :: S15)) fun J => ?_
    obtain ⟨t55r0a, t55r0n, t55r0k, t55r1, H_2, q28, h⟩ := h
    refine KR.se (one_ca (by kernel_rfl) q28) ?_
    refine KR.go 4 [(2, .pointer (some ⟨t2b, t2o, none⟩)), (6, .pointer (some ⟨t6b, t6o, none⟩)), (56, .slice t55r0a t55r0n t55r0k), (57, .int .i64 t55r1), (58, .pointer (some ⟨t6b, (t6o + 4), none⟩))] 68 (s' := (.reg (opsAt (sub B [1, 1, 1, 1, 1, 1, 1, 1, 1, 0, 0])) [6, 7] :: S15)) fun J => ?_
    obtain ⟨H_3, q29, h⟩ := h
    refine KR.se (one_st (by kernel_rfl) q29) ?_
    refine KR.go 7 [(2, .pointer (some ⟨t2b, t2o, none⟩)), (6, .pointer (some ⟨t6b, t6o, none⟩)), (8, .int .i64 t55r1), (60, .bool (!(t55r1 == 0)))] 68 (s' := (.code (sub B [1, 1, 1, 1, 1, 1, 1, 1, 1, 0, 1, 1]) :: S14)) fun J => ?_
    by_cases c30 : t55r1 = 0
    · replace h := iteT c30 h
      refine KR.bb false (vB (nB (eT c30))) ?_
      refine KR.go 4 [(2, .pointer (some ⟨t2b, t2o, none⟩)), (6, .pointer (some ⟨t6b, t6o, none⟩))] 68 (s' := (.reg (opsAt (sub B [1, 1, 1, 1, 1, 1, 1, 1, 1, 1, 0, 0])) [0, 1, 2] :: S17)) fun J => ?_
      obtain ⟨t63c0, t63c1, t63c2, t63c3, t63c4a, t63c4n, t63c4k, t63c5a, t63c5n, t63c5k, q31, h⟩ := h
      refine KR.rd (one_ldA (by kernel_rfl) q31) ?_
      obtain ⟨t64, H_4, q32, h⟩ := h
      refine KR.se (one_ca (by kernel_rfl) q32) ?_
      refine KR.go 2 [(2, .pointer (some ⟨t2b, t2o, none⟩)), (6, .pointer (some ⟨t6b, t6o, none⟩)), (65, .bool (!t64))] 68 (s' := (.code (sub B [1, 1, 1, 1, 1, 1, 1, 1, 1, 1, 0, 1]) :: S16)) fun J => ?_
      by_cases c33 : t64 = true
      · replace h := iteT c33 h
        refine KR.bb false (vB (nB (bT c33))) ?_
        refine KR.go 3 [(2, .pointer (some ⟨t2b, t2o, none⟩)), (6, .pointer (some ⟨t6b, t6o, none⟩))] 68 (s' := (.reg (opsAt (sub B [1, 1, 1, 1, 1, 1, 1, 1, 1, 1, 1, 0])) [0, 1, 2] :: S18)) fun J => ?_
        obtain ⟨t67c0, t67c1, t67c2, t67c3, t67c4a, t67c4n, t67c4k, t67c5a, t67c5n, t67c5k, q34, h⟩ := h
        refine KR.rd (one_ldA (by kernel_rfl) q34) ?_
        obtain ⟨H_5, q35, h⟩ := h
        refine KR.se (one_st (by kernel_rfl) q35) ?_
        refine KR.go 2 [(2, .pointer (some ⟨t2b, t2o, none⟩)), (3, .int .i64 0)] 68 (s' := (.code (sub B [1, 1, 1, 1, 1, 1, 1, 1, 1, 1, 1, 1]) :: [])) fun J => ?_
        obtain ⟨r2c0_1, r2c1_1, r2c2_1, r2c3_1, r2c4a_1, r2c4n_1, r2c4k_1, r2c5a_1, r2c5n_1, r2c5k_1, q36, h⟩ := h
        exact KR.finR (l := [.cell 2 44, .tmp 3]) (vs := [.agg #[.int .i64 r2c0_1, .int .i64 r2c1_1, .int .i64 r2c2_1, .int .i64 r2c3_1, .slice r2c4a_1 r2c4n_1 r2c4k_1, .slice r2c5a_1 r2c5n_1 r2c5k_1], .int .i64 0]) (by kernel_rfl) (Res.cellA (by kernel_rfl) q36 (Res.tmp (by kernel_rfl) Res.nil)) (by kernel_rfl) h
      · replace h := iteF c33 h
        refine KR.bb true (vB (nB (bF c33))) ?_
        refine KR.go 3 [(2, .pointer (some ⟨t2b, t2o, none⟩)), (66, .agg #[.int .i64 0, .int .i64 0, .int .i64 0, .int .i64 0, .slice none 0 0, .slice none 0 0])] 68 (s' := (.reg (opsAt (sub B [1, 1, 1, 1, 1, 1, 1, 1, 1, 1, 0, 1, 0, 0])) [1, 2] :: S19)) fun J => ?_
        obtain ⟨H_6, q37, h⟩ := h
        refine KR.se (one_st (by kernel_rfl) q37) ?_
        refine KR.go 2 [(2, .pointer (some ⟨t2b, t2o, none⟩)), (3, .int .i64 3)] 68 (s' := (.code (sub B [1, 1, 1, 1, 1, 1, 1, 1, 1, 1, 0, 1, 0, 1]) :: S16)) fun J => ?_
        obtain ⟨r2c0_2, r2c1_2, r2c2_2, r2c3_2, r2c4a_2, r2c4n_2, r2c4k_2, r2c5a_2, r2c5n_2, r2c5k_2, q38, h⟩ := h
        exact KR.finR (l := [.cell 2 44, .tmp 3]) (vs := [.agg #[.int .i64 r2c0_2, .int .i64 r2c1_2, .int .i64 r2c2_2, .int .i64 r2c3_2, .slice r2c4a_2 r2c4n_2 r2c4k_2, .slice r2c5a_2 r2c5n_2 r2c5k_2], .int .i64 3]) (by kernel_rfl) (Res.cellA (by kernel_rfl) q38 (Res.tmp (by kernel_rfl) Res.nil)) (by kernel_rfl) h
    · replace h := iteF c30 h
      refine KR.bb true (vB (nB (eF c30))) ?_
      refine KR.go 4 [(2, .pointer (some ⟨t2b, t2o, none⟩)), (61, .agg #[.int .i64 0, .int .i64 0, .int .i64 0, .int .i64 0, .slice none 0 0, .slice none 0 0]), (62, .int .i64 t55r1)] 68 (s' := (.reg (opsAt (sub B [1, 1, 1, 1, 1, 1, 1, 1, 1, 0, 1, 1, 0, 0])) [2, 3] :: S20)) fun J => ?_
      obtain ⟨H_7, q39, h⟩ := h
      refine KR.se (one_st (by kernel_rfl) q39) ?_
      refine KR.go 2 [(2, .pointer (some ⟨t2b, t2o, none⟩)), (3, .int .i64 t55r1)] 68 (s' := (.code (sub B [1, 1, 1, 1, 1, 1, 1, 1, 1, 0, 1, 1, 0, 1]) :: S14)) fun J => ?_
      obtain ⟨r2c0_3, r2c1_3, r2c2_3, r2c3_3, r2c4a_3, r2c4n_3, r2c4k_3, r2c5a_3, r2c5n_3, r2c5k_3, q40, h⟩ := h
      exact KR.finR (l := [.cell 2 44, .tmp 3]) (vs := [.agg #[.int .i64 r2c0_3, .int .i64 r2c1_3, .int .i64 r2c2_3, .int .i64 r2c3_3, .slice r2c4a_3 r2c4n_3 r2c4k_3, .slice r2c5a_3 r2c5n_3 r2c5k_3], .int .i64 t55r1]) (by kernel_rfl) (Res.cellA (by kernel_rfl) q40 (Res.tmp (by kernel_rfl) Res.nil)) (by kernel_rfl) h
theorem call {a0a : Option Addr} {a0n a0k : Nat} {H : Heap} {r : Value × Heap} (h :
    ∃ (H_1 : Heap), H_1 = H.push (.row [.int .i64 0, .int .i64 0, .int .i64 0, .int .i64 0, .slice none 0 0, .slice none 0 0] true) ∧
    (if (a0n : Int) < 9 then
    (∃ (H_2 : Heap), stc H_1 H.next 0 [.int .i64 0, .int .i64 0, .int .i64 0, .int .i64 0, .slice none 0 0, .slice none 0 0] = some H_2 ∧
    (∃ (r2c0 r2c1 r2c2 r2c3 : Int) (r2c4a : Option Addr) (r2c4n r2c4k : Nat) (r2c5a : Option Addr) (r2c5n r2c5k : Nat), ldAll H_2 H.next 0 [.int .i64 r2c0, .int .i64 r2c1, .int .i64 r2c2, .int .i64 r2c3, .slice r2c4a r2c4n r2c4k, .slice r2c5a r2c5n r2c5k] ∧
    (r = (.tuple #[.agg #[.int .i64 r2c0, .int .i64 r2c1, .int .i64 r2c2, .int .i64 r2c3, .slice r2c4a r2c4n r2c4k, .slice r2c5a r2c5n r2c5k], .int .i64 2], H_2))))
    else
    (∃ (t16 : Bool) (H_3 : Heap), xC Try.prog good 58 [.slice a0a a0n a0k] H_1 = some (.bool t16, H_3) ∧
    (if t16 = true then
    (∃ (t23a : Option Addr) (t23n t23k : Nat), psl 1 a0a a0n a0k none (some (IntKind.wrap .i64 ((a0n : Int) - 2))) none = some (t23a, t23n, t23k) ∧
    (∃ (t24 : Option Addr) (H_4 : Heap), xC Try.prog good 48 [.slice t23a t23n t23k] H_3 = some (.pointer t24, H_4) ∧
    (∃ (t26 : Int) (H_5 : Heap), xC Try.prog good 59 [.pointer t24] H_4 = some (.int .i64 t26, H_5) ∧
    (∃ (t28 : Int) (H_6 : Heap), xC Try.prog good 59 [.pointer t24] H_5 = some (.int .i64 t28, H_6) ∧
    (∃ (t30 : Int) (H_7 : Heap), xC Try.prog good 59 [.pointer t24] H_6 = some (.int .i64 t30, H_7) ∧
    (∃ (t32 : Int) (H_8 : Heap), xC Try.prog good 59 [.pointer t24] H_7 = some (.int .i64 t32, H_8) ∧
    (∃ (t34 : Int) (H_9 : Heap), xC Try.prog good 59 [.pointer t24] H_8 = some (.int .i64 t34, H_9) ∧
    (∃ (H_10 : Heap), H_10 = H_9.push (.row [.int .i64 0, .int .i64 0, .int .i64 0, .int .i64 0, .slice none 0 0, .slice none 0 0] true) ∧
    (∃ (H_11 : Heap), stc H_10 H_9.next 0 [.int .i64 t28, .int .i64 t30, .int .i64 t32, .int .i64 t34, .slice none 0 0, .slice none 0 0] = some H_11 ∧
    (∃ (t38 : Int) (H_12 : Heap), xC Try.prog good 59 [.pointer t24] H_11 = some (.int .i64 t38, H_12) ∧
    (∃ (t39a : Option Addr) (t39n t39k : Nat) (H_13 : Heap), xC Try.prog good 60 [.pointer t24, .int .i64 t38] H_12 = some (.slice t39a t39n t39k, H_13) ∧
    (∃ (t42 : Int) (H_14 : Heap), xC Try.prog good 59 [.pointer t24] H_13 = some (.int .i64 t42, H_14) ∧
    (∃ (t43a : Option Addr) (t43n t43k : Nat) (H_15 : Heap), xC Try.prog good 60 [.pointer t24, .int .i64 t42] H_14 = some (.slice t43a t43n t43k, H_15) ∧
    (∃ (H_16 : Heap), stc H_15 H_9.next 5 [.slice t43a t43n t43k] = some H_16 ∧
    (if t26 = 197 then
    (∃ (t49 : Int) (H_17 : Heap), xC Try.prog good 52 [.pointer t24] H_16 = some (.int .i64 t49, H_17) ∧
    (L0 (H.next) 0 (H_9.next) 0 t39a t39n t39k ((!(t49 == 0))) H_17 r))
    else
    (L0 (H.next) 0 (H_9.next) 0 t39a t39n t39k true H_16 r))))))))))))))))
    else
    (∃ (H_18 : Heap), stc H_3 H.next 0 [.int .i64 0, .int .i64 0, .int .i64 0, .int .i64 0, .slice none 0 0, .slice none 0 0] = some H_18 ∧
    (∃ (r2c0_1 r2c1_1 r2c2_1 r2c3_1 : Int) (r2c4a_1 : Option Addr) (r2c4n_1 r2c4k_1 : Nat) (r2c5a_1 : Option Addr) (r2c5n_1 r2c5k_1 : Nat), ldAll H_18 H.next 0 [.int .i64 r2c0_1, .int .i64 r2c1_1, .int .i64 r2c2_1, .int .i64 r2c3_1, .slice r2c4a_1 r2c4n_1 r2c4k_1, .slice r2c5a_1 r2c5n_1 r2c5k_1] ∧
    (r = (.tuple #[.agg #[.int .i64 r2c0_1, .int .i64 r2c1_1, .int .i64 r2c2_1, .int .i64 r2c3_1, .slice r2c4a_1 r2c4n_1 r2c4k_1, .slice r2c5a_1 r2c5n_1 r2c5k_1], .int .i64 4], H_18)))))))) :
    xC Try.prog good 30 [.slice a0a a0n a0k] H = some r := by
  refine KR.enter (fn := Try.f30) (c := B) (by kernel_rfl) (by kernel_rfl) ?_
  refine KR.go 2 [(0, .slice a0a a0n a0k)] 68 (s' := (.reg (opsAt (sub B [0])) [0, 1] :: S0)) fun J => ?_
  obtain ⟨H_1, q1, h⟩ := h
  refine KR.mk (w := pRow [.int .i64 0, .int .i64 0, .int .i64 0, .int .i64 0, .slice none 0 0, .slice none 0 0]) (one_al (by kernel_rfl)) q1 ?_
  refine KR.go 11 [(0, .slice a0a a0n a0k), (2, .pointer (some ⟨H.next, 0, none⟩)), (9, .bool (decide ((a0n : Int) < 9)))] 68 (s' := (.code (sub B [1, 0, 0, 1]) :: S2)) fun J => ?_
  by_cases c2 : (a0n : Int) < 9
  · replace h := iteT c2 h
    refine KR.bb true (vB (dT c2)) ?_
    refine KR.go 3 [(2, .pointer (some ⟨H.next, 0, none⟩)), (13, .agg #[.int .i64 0, .int .i64 0, .int .i64 0, .int .i64 0, .slice none 0 0, .slice none 0 0])] 68 (s' := (.reg (opsAt (sub B [1, 0, 0, 1, 0, 0])) [1, 2] :: S3)) fun J => ?_
    obtain ⟨H_2, q3, h⟩ := h
    refine KR.se (one_st (by kernel_rfl) q3) ?_
    refine KR.go 2 [(2, .pointer (some ⟨H.next, 0, none⟩)), (3, .int .i64 2)] 68 (s' := (.code (sub B [1, 0, 0, 1, 0, 1]) :: S2)) fun J => ?_
    obtain ⟨r2c0, r2c1, r2c2, r2c3, r2c4a, r2c4n, r2c4k, r2c5a, r2c5n, r2c5k, q4, h⟩ := h
    exact KR.finR (l := [.cell 2 44, .tmp 3]) (vs := [.agg #[.int .i64 r2c0, .int .i64 r2c1, .int .i64 r2c2, .int .i64 r2c3, .slice r2c4a r2c4n r2c4k, .slice r2c5a r2c5n r2c5k], .int .i64 2]) (by kernel_rfl) (Res.cellA (by kernel_rfl) q4 (Res.tmp (by kernel_rfl) Res.nil)) (by kernel_rfl) h
  · replace h := iteF c2 h
    refine KR.bb false (vB (dF c2)) ?_
    refine KR.go 3 [(0, .slice a0a a0n a0k), (2, .pointer (some ⟨H.next, 0, none⟩)), (15, .slice a0a a0n a0k)] 68 (s' := (.reg (opsAt (sub B [1, 0, 0, 1, 1, 0])) [1, 2, 3] :: S4)) fun J => ?_
    obtain ⟨t16, H_3, q5, h⟩ := h
    refine KR.se (one_ca (by kernel_rfl) q5) ?_
    refine KR.go 3 [(0, .slice a0a a0n a0k), (2, .pointer (some ⟨H.next, 0, none⟩)), (14, .bool (!t16))] 68 (s' := (.code (sub B [1, 0, 0, 1, 1, 1]) :: S2)) fun J => ?_
    by_cases c6 : t16 = true
    · replace h := iteT c6 h
      refine KR.bb false (vB (nB (bT c6))) ?_
      refine KR.go 8 [(2, .pointer (some ⟨H.next, 0, none⟩)), (19, .slice a0a a0n a0k), (22, .int .i64 (IntKind.wrap .i64 ((a0n : Int) - 2)))] 68 (s' := (.reg (opsAt (sub B [1, 1, 0])) [4, 5, 6] :: S5)) fun J => ?_
      obtain ⟨t23a, t23n, t23k, q7, h⟩ := h
      refine KR.p (one_sl (by kernel_rfl) q7) ?_
      obtain ⟨t24, H_4, q8, h⟩ := h
      refine KR.se (one_ca (by kernel_rfl) q8) ?_
      refine KR.go 5 [(2, .pointer (some ⟨H.next, 0, none⟩)), (4, .pointer t24), (25, .pointer t24)] 68 (s' := (.reg (opsAt (sub B [1, 1, 1, 0])) [1, 2] :: S6)) fun J => ?_
      obtain ⟨t26, H_5, q9, h⟩ := h
      refine KR.se (one_ca (by kernel_rfl) q9) ?_
      refine KR.go 5 [(2, .pointer (some ⟨H.next, 0, none⟩)), (4, .pointer t24), (5, .int .i64 t26), (27, .pointer t24)] 68 (s' := (.reg (opsAt (sub B [1, 1, 1, 1, 0])) [1, 2, 3, 4, 5, 6, 7, 8, 9, 10] :: S7)) fun J => ?_
      obtain ⟨t28, H_6, q10, h⟩ := h
      refine KR.se (one_ca (by kernel_rfl) q10) ?_
      refine KR.go 1 [(2, .pointer (some ⟨H.next, 0, none⟩)), (4, .pointer t24), (5, .int .i64 t26), (28, .int .i64 t28), (29, .pointer t24)] 68 (s' := (.reg (opsAt (sub B [1, 1, 1, 1, 0])) [3, 4, 5, 6, 7, 8, 9, 10] :: S7)) fun J => ?_
      obtain ⟨t30, H_7, q11, h⟩ := h
      refine KR.se (one_ca (by kernel_rfl) q11) ?_
      refine KR.go 1 [(2, .pointer (some ⟨H.next, 0, none⟩)), (4, .pointer t24), (5, .int .i64 t26), (28, .int .i64 t28), (30, .int .i64 t30), (31, .pointer t24)] 68 (s' := (.reg (opsAt (sub B [1, 1, 1, 1, 0])) [5, 6, 7, 8, 9, 10] :: S7)) fun J => ?_
      obtain ⟨t32, H_8, q12, h⟩ := h
      refine KR.se (one_ca (by kernel_rfl) q12) ?_
      refine KR.go 1 [(2, .pointer (some ⟨H.next, 0, none⟩)), (4, .pointer t24), (5, .int .i64 t26), (28, .int .i64 t28), (30, .int .i64 t30), (32, .int .i64 t32), (33, .pointer t24)] 68 (s' := (.reg (opsAt (sub B [1, 1, 1, 1, 0])) [7, 8, 9, 10] :: S7)) fun J => ?_
      obtain ⟨t34, H_9, q13, h⟩ := h
      refine KR.se (one_ca (by kernel_rfl) q13) ?_
      refine KR.go 1 [(2, .pointer (some ⟨H.next, 0, none⟩)), (4, .pointer t24), (5, .int .i64 t26), (35, .agg #[.int .i64 t28, .int .i64 t30, .int .i64 t32, .int .i64 t34, .slice none 0 0, .slice none 0 0])] 68 (s' := (.reg (opsAt (sub B [1, 1, 1, 1, 0])) [9, 10] :: S7)) fun J => ?_
      obtain ⟨H_10, q14, h⟩ := h
      refine KR.mk (w := pRow [.int .i64 0, .int .i64 0, .int .i64 0, .int .i64 0, .slice none 0 0, .slice none 0 0]) (one_al (by kernel_rfl)) q14 ?_
      obtain ⟨H_11, q15, h⟩ := h
      refine KR.se (one_st (by kernel_rfl) q15) ?_
      refine KR.go 5 [(2, .pointer (some ⟨H.next, 0, none⟩)), (4, .pointer t24), (5, .int .i64 t26), (6, .pointer (some ⟨H_9.next, 0, none⟩)), (36, .pointer t24), (37, .pointer t24)] 68 (s' := (.reg (opsAt (sub B [1, 1, 1, 1, 1, 0])) [2, 3, 4] :: S8)) fun J => ?_
      obtain ⟨t38, H_12, q16, h⟩ := h
      refine KR.se (one_ca (by kernel_rfl) q16) ?_
      obtain ⟨t39a, t39n, t39k, H_13, q17, h⟩ := h
      refine KR.se (one_ca (by kernel_rfl) q17) ?_
      refine KR.go 6 [(2, .pointer (some ⟨H.next, 0, none⟩)), (4, .pointer t24), (5, .int .i64 t26), (6, .pointer (some ⟨H_9.next, 0, none⟩)), (7, .slice t39a t39n t39k), (40, .pointer t24), (41, .pointer t24)] 68 (s' := (.reg (opsAt (sub B [1, 1, 1, 1, 1, 1, 0])) [2, 3, 4, 5] :: S9)) fun J => ?_
      obtain ⟨t42, H_14, q18, h⟩ := h
      refine KR.se (one_ca (by kernel_rfl) q18) ?_
      obtain ⟨t43a, t43n, t43k, H_15, q19, h⟩ := h
      refine KR.se (one_ca (by kernel_rfl) q19) ?_
      refine KR.go 1 [(2, .pointer (some ⟨H.next, 0, none⟩)), (4, .pointer t24), (5, .int .i64 t26), (6, .pointer (some ⟨H_9.next, 0, none⟩)), (7, .slice t39a t39n t39k), (43, .slice t43a t43n t43k), (44, .pointer (some ⟨H_9.next, 5, none⟩))] 68 (s' := (.reg (opsAt (sub B [1, 1, 1, 1, 1, 1, 0])) [5] :: S9)) fun J => ?_
      obtain ⟨H_16, q20, h⟩ := h
      refine KR.se (one_st (by kernel_rfl) q20) ?_
      refine KR.go 7 [(2, .pointer (some ⟨H.next, 0, none⟩)), (4, .pointer t24), (6, .pointer (some ⟨H_9.next, 0, none⟩)), (7, .slice t39a t39n t39k), (47, .bool (!(t26 == 197)))] 68 (s' := (.reg (opsAt (sub B [1, 1, 1, 1, 1, 1, 1, 0, 0])) [3, 4, 5, 6] :: S11)) fun J => ?_
      by_cases c21 : t26 = 197
      · replace h := iteT c21 h
        refine KR.setV 47 (by kernel_rfl) (nB (eT c21)) ?_
        refine KR.go 1 [(2, .pointer (some ⟨H.next, 0, none⟩)), (6, .pointer (some ⟨H_9.next, 0, none⟩)), (7, .slice t39a t39n t39k), (47, .bool false), (48, .pointer t24)] 68 (s' := (.reg (opsAt (sub B [1, 1, 1, 1, 1, 1, 1, 0, 0])) [4, 5, 6] :: S11)) fun J => ?_
        obtain ⟨t49, H_17, q22, h⟩ := h
        refine KR.se (one_ca (by kernel_rfl) q22) ?_
        exact KR.go 3 [(2, .pointer (some ⟨H.next, 0, none⟩)), (6, .pointer (some ⟨H_9.next, 0, none⟩)), (7, .slice t39a t39n t39k), (51, .bool (!(t49 == 0)))] 68 (s' := (.code (sub B [1, 1, 1, 1, 1, 1, 1, 0, 1]) :: S10)) h
      · replace h := iteF c21 h
        refine KR.setV 47 (by kernel_rfl) (nB (eF c21)) ?_
        exact KR.go 5 [(2, .pointer (some ⟨H.next, 0, none⟩)), (6, .pointer (some ⟨H_9.next, 0, none⟩)), (7, .slice t39a t39n t39k), (51, .bool true)] 68 (s' := (.code (sub B [1, 1, 1, 1, 1, 1, 1, 0, 1]) :: S10)) h
    · replace h := iteF c6 h
      refine KR.bb true (vB (nB (bF c6))) ?_
      refine KR.go 3 [(2, .pointer (some ⟨H.next, 0, none⟩)), (18, .agg #[.int .i64 0, .int .i64 0, .int .i64 0, .int .i64 0, .slice none 0 0, .slice none 0 0])] 68 (s' := (.reg (opsAt (sub B [1, 0, 0, 1, 1, 1, 0, 0])) [1, 2] :: S12)) fun J => ?_
      obtain ⟨H_18, q23, h⟩ := h
      refine KR.se (one_st (by kernel_rfl) q23) ?_
      refine KR.go 2 [(2, .pointer (some ⟨H.next, 0, none⟩)), (3, .int .i64 4)] 68 (s' := (.code (sub B [1, 0, 0, 1, 1, 1, 0, 1]) :: S2)) fun J => ?_
      obtain ⟨r2c0_1, r2c1_1, r2c2_1, r2c3_1, r2c4a_1, r2c4n_1, r2c4k_1, r2c5a_1, r2c5n_1, r2c5k_1, q24, h⟩ := h
      exact KR.finR (l := [.cell 2 44, .tmp 3]) (vs := [.agg #[.int .i64 r2c0_1, .int .i64 r2c1_1, .int .i64 r2c2_1, .int .i64 r2c3_1, .slice r2c4a_1 r2c4n_1 r2c4k_1, .slice r2c5a_1 r2c5n_1 r2c5k_1], .int .i64 4]) (by kernel_rfl) (Res.cellA (by kernel_rfl) q24 (Res.tmp (by kernel_rfl) Res.nil)) (by kernel_rfl) h
end F30
/-! #### 33 campanile/frame.Encode -/
namespace F33
noncomputable def B : Code := bodyOf Try.f33
noncomputable def S0 : List It := (.code (sub B [1]) :: [])
noncomputable def S1 : List It := (.code (sub B [1, 1]) :: [])
noncomputable def S3 : List It := (.code (sub B [1, 1, 1]) :: [])
noncomputable def S4 : List It := (.code (sub B [1, 1, 1, 1]) :: [])
noncomputable def S5 : List It := (.code (sub B [1, 1, 1, 1, 1]) :: [])
noncomputable def S6 : List It := (.code (sub B [1, 1, 1, 1, 1, 1]) :: [])
noncomputable def S14 : List It := (.code (sub B [1, 1, 1, 1, 1, 1, 1]) :: [])
noncomputable def S23 : List It := (.code (sub B [1, 1, 1, 1, 1, 1, 1, 1]) :: [])
noncomputable def S2 : List It := (.code (sub B [1, 0, 1]) :: S1)
noncomputable def S7 : List It := (.code (sub B [1, 1, 1, 1, 1, 0, 1]) :: S6)
noncomputable def S8 : List It := (.blk 0 :: S6)
noncomputable def S15 : List It := (.code (sub B [1, 1, 1, 1, 1, 1, 0, 1]) :: S14)
noncomputable def S16 : List It := (.blk 2 :: S14)
noncomputable def S9 : List It := (.lp (sub B [1, 1, 1, 1, 1, 0, 1, 0, 0]) :: S8)
noncomputable def S17 : List It := (.lp (sub B [1, 1, 1, 1, 1, 1, 0, 1, 0, 0]) :: S16)
noncomputable def S10 : List It := (.code (sub B [1, 1, 1, 1, 1, 0, 1, 0, 0, 1, 1]) :: S9)
noncomputable def S11 : List It := (.code (sub B [1, 1, 1, 1, 1, 0, 1, 0, 0, 1, 1, 1]) :: S9)
noncomputable def S18 : List It := (.code (sub B [1, 1, 1, 1, 1, 1, 0, 1, 0, 0, 1, 1]) :: S17)
noncomputable def S19 : List It := (.code (sub B [1, 1, 1, 1, 1, 1, 0, 1, 0, 0, 1, 1, 1]) :: S17)
noncomputable def S12 : List It := (.blk 1 :: S11)
noncomputable def S20 : List It := (.blk 3 :: S19)
noncomputable def S13 : List It := (.code (sub B [1, 1, 1, 1, 1, 0, 1, 0, 0, 1, 1, 0, 0, 1]) :: S12)
noncomputable def S21 : List It := (.code (sub B [1, 1, 1, 1, 1, 1, 0, 1, 0, 0, 1, 1, 0, 0, 1]) :: S20)
noncomputable def S22 : List It := (.code (sub B [1, 1, 1, 1, 1, 1, 0, 1, 0, 0, 1, 1, 0, 0, 1, 1]) :: S20)
def L0 (t1b t1o : Nat) (t4a : Option Addr) (t4n t4k t6b t6o : Nat) (t33c0 t33c1 t33c2 t33c3 t33c4 t34 : Int) (H : Heap) (r : Value × Heap) : Prop := ∀ J, KR Try.prog good Try.f33 S9 (mat J 61 [(1, .pointer (some ⟨t1b, t1o, none⟩)), (4, .slice t4a t4n t4k), (6, .pointer (some ⟨t6b, t6o, none⟩)), (33, .agg #[.int .i64 t33c0, .int .i64 t33c1, .int .i64 t33c2, .int .i64 t33c3, .int .i64 t33c4]), (34, .int .i64 t34)]) H r
def L1 (t6b t6o : Nat) (t45c0a : Option Addr) (t45c0n t45c0k : Nat) (t45c1a : Option Addr) (t45c1n t45c1k : Nat) (t46 : Int) (H : Heap) (r : Value × Heap) : Prop := ∀ J, KR Try.prog good Try.f33 S17 (mat J 61 [(6, .pointer (some ⟨t6b, t6o, none⟩)), (45, .agg #[.slice t45c0a t45c0n t45c0k, .slice t45c1a t45c1n t45c1k]), (46, .int .i64 t46)]) H r
theorem L0_step {t1b t1o : Nat} {t4a : Option Addr} {t4n t4k t6b t6o : Nat} {t33c0 t33c1 t33c2 t33c3 t33c4 t34 : Int} {H : Heap} {r : Value × Heap} (h :
    if t34 < 5 then
    (∃ (t36 : Int), pag [.int .i64 t33c0, .int .i64 t33c1, .int .i64 t33c2, .int .i64 t33c3, .int .i64 t33c4] t34 = some (.int .i64 t36) ∧
    (∃ (H_1 : Heap), xC Try.prog good 41 [.pointer (some ⟨t6b, t6o, none⟩), .int .u64 (IntKind.wrap .u64 t36), .int .i64 8] H = some (.tuple #[], H_1) ∧
    (L0 t1b t1o t4a t4n t4k t6b t6o t33c0 t33c1 t33c2 t33c3 t33c4 ((IntKind.wrap .i64 (t34 + 1))) H_1 r)))
    else
    (∃ (t44a : Option Addr) (t44n t44k : Nat), ldc H t1b (t1o + 5) = some (.slice t44a t44n t44k) ∧
    (L1 t6b t6o t4a t4n t4k t44a t44n t44k 0 H r))) :
    L0 t1b t1o t4a t4n t4k t6b t6o t33c0 t33c1 t33c2 t33c3 t33c4 t34 H r := by
  intro J
  show KR _ _ _ (.lp (sub B [1, 1, 1, 1, 1, 0, 1, 0, 0]) :: S8) _ _ _
  refine KR.go 6 [(1, .pointer (some ⟨t1b, t1o, none⟩)), (4, .slice t4a t4n t4k), (6, .pointer (some ⟨t6b, t6o, none⟩)), (33, .agg #[.int .i64 t33c0, .int .i64 t33c1, .int .i64 t33c2, .int .i64 t33c3, .int .i64 t33c4]), (34, .int .i64 t34), (35, .bool (decide (t34 < 5)))] 61 (s' := (.code (sub B [1, 1, 1, 1, 1, 0, 1, 0, 0, 1, 0]) :: S10)) fun J => ?_
  by_cases c13 : t34 < 5
  · replace h := iteT c13 h
    refine KR.bb true (vB (dT c13)) ?_
    refine KR.go 5 [(1, .pointer (some ⟨t1b, t1o, none⟩)), (4, .slice t4a t4n t4k), (6, .pointer (some ⟨t6b, t6o, none⟩)), (33, .agg #[.int .i64 t33c0, .int .i64 t33c1, .int .i64 t33c2, .int .i64 t33c3, .int .i64 t33c4]), (34, .int .i64 t34)] 61 (s' := (.reg (opsAt (sub B [1, 1, 1, 1, 1, 0, 1, 0, 0, 1, 1, 0, 0, 0])) [0, 1] :: S13)) fun J => ?_
    obtain ⟨t36, q14, h⟩ := h
    refine KR.p (one_ag (by kernel_rfl) q14) ?_
    refine KR.go 6 [(1, .pointer (some ⟨t1b, t1o, none⟩)), (4, .slice t4a t4n t4k), (6, .pointer (some ⟨t6b, t6o, none⟩)), (33, .agg #[.int .i64 t33c0, .int .i64 t33c1, .int .i64 t33c2, .int .i64 t33c3, .int .i64 t33c4]), (34, .int .i64 t34), (37, .pointer (some ⟨t6b, t6o, none⟩)), (39, .int .u64 (IntKind.wrap .u64 t36))] 61 (s' := (.reg (opsAt (sub B [1, 1, 1, 1, 1, 0, 1, 0, 0, 1, 1, 0, 0, 1])) [3] :: S12)) fun J => ?_
    obtain ⟨H_1, q15, h⟩ := h
    refine KR.se (one_ca (by kernel_rfl) q15) ?_
    exact KR.go 6 [(1, .pointer (some ⟨t1b, t1o, none⟩)), (4, .slice t4a t4n t4k), (6, .pointer (some ⟨t6b, t6o, none⟩)), (33, .agg #[.int .i64 t33c0, .int .i64 t33c1, .int .i64 t33c2, .int .i64 t33c3, .int .i64 t33c4]), (34, .int .i64 (IntKind.wrap .i64 (t34 + 1)))] 61 (s' := (.lp (sub B [1, 1, 1, 1, 1, 0, 1, 0, 0]) :: S8)) h
  · replace h := iteF c13 h
    refine KR.bb false (vB (dF c13)) ?_
    refine KR.go 6 [(6, .pointer (some ⟨t6b, t6o, none⟩)), (42, .slice t4a t4n t4k), (43, .pointer (some ⟨t1b, (t1o + 5), none⟩))] 61 (s' := (.reg (opsAt (sub B [1, 1, 1, 1, 1, 1, 0, 0])) [2, 3, 4] :: S15)) fun J => ?_
    obtain ⟨t44a, t44n, t44k, q16, h⟩ := h
    refine KR.rd (one_ld (by kernel_rfl) q16) ?_
    exact KR.go 5 [(6, .pointer (some ⟨t6b, t6o, none⟩)), (45, .agg #[.slice t4a t4n t4k, .slice t44a t44n t44k]), (46, .int .i64 0)] 61 (s' := (.lp (sub B [1, 1, 1, 1, 1, 1, 0, 1, 0, 0]) :: S16)) h
theorem L1_step {t6b t6o : Nat} {t45c0a : Option Addr} {t45c0n t45c0k : Nat} {t45c1a : Option Addr} {t45c1n t45c1k : Nat} {t46 : Int} {H : Heap} {r : Value × Heap} (h :
    if t46 < 2 then
    (∃ (t48a : Option Addr) (t48n t48k : Nat), pag [.slice t45c0a t45c0n t45c0k, .slice t45c1a t45c1n t45c1k] t46 = some (.slice t48a t48n t48k) ∧
    (∃ (H_1 : Heap), xC Try.prog good 41 [.pointer (some ⟨t6b, t6o, none⟩), .int .u64 (IntKind.wrap .u64 (t48n : Int)), .int .i64 8] H = some (.tuple #[], H_1) ∧
    (∃ (H_2 : Heap), xC Try.prog good 62 [.pointer (some ⟨t6b, t6o, none⟩), .slice t48a t48n t48k] H_1 = some (.tuple #[], H_2) ∧
    (L1 t6b t6o t45c0a t45c0n t45c0k t45c1a t45c1n t45c1k ((IntKind.wrap .i64 (t46 + 1))) H_2 r))))
    else
    (∃ (t59a : Option Addr) (t59n t59k : Nat) (H_3 : Heap), xC Try.prog good 42 [.pointer (some ⟨t6b, t6o, none⟩)] H = some (.slice t59a t59n t59k, H_3) ∧
    (∃ (t60a : Option Addr) (t60n t60k : Nat) (H_4 : Heap), xC Try.prog good 63 [.slice t59a t59n t59k] H_3 = some (.slice t60a t60n t60k, H_4) ∧
    (r = (.tuple #[.slice t60a t60n t60k, .int .i64 0], H_4))))) :
    L1 t6b t6o t45c0a t45c0n t45c0k t45c1a t45c1n t45c1k t46 H r := by
  intro J
  show KR _ _ _ (.lp (sub B [1, 1, 1, 1, 1, 1, 0, 1, 0, 0]) :: S16) _ _ _
  refine KR.go 6 [(6, .pointer (some ⟨t6b, t6o, none⟩)), (45, .agg #[.slice t45c0a t45c0n t45c0k, .slice t45c1a t45c1n t45c1k]), (46, .int .i64 t46), (47, .bool (decide (t46 < 2)))] 61 (s' := (.code (sub B [1, 1, 1, 1, 1, 1, 0, 1, 0, 0, 1, 0]) :: S18)) fun J => ?_
  by_cases c17 : t46 < 2
  · replace h := iteT c17 h
    refine KR.bb true (vB (dT c17)) ?_
    refine KR.go 5 [(6, .pointer (some ⟨t6b, t6o, none⟩)), (45, .agg #[.slice t45c0a t45c0n t45c0k, .slice t45c1a t45c1n t45c1k]), (46, .int .i64 t46)] 61 (s' := (.reg (opsAt (sub B [1, 1, 1, 1, 1, 1, 0, 1, 0, 0, 1, 1, 0, 0, 0])) [0, 1] :: S21)) fun J => ?_
    obtain ⟨t48a, t48n, t48k, q18, h⟩ := h
    refine KR.p (one_ag (by kernel_rfl) q18) ?_
    refine KR.go 8 [(6, .pointer (some ⟨t6b, t6o, none⟩)), (10, .slice t48a t48n t48k), (45, .agg #[.slice t45c0a t45c0n t45c0k, .slice t45c1a t45c1n t45c1k]), (46, .int .i64 t46), (49, .pointer (some ⟨t6b, t6o, none⟩)), (52, .int .u64 (IntKind.wrap .u64 (t48n : Int)))] 61 (s' := (.reg (opsAt (sub B [1, 1, 1, 1, 1, 1, 0, 1, 0, 0, 1, 1, 0, 0, 1, 0])) [4] :: S22)) fun J => ?_
    obtain ⟨H_1, q19, h⟩ := h
    refine KR.se (one_ca (by kernel_rfl) q19) ?_
    refine KR.go 4 [(6, .pointer (some ⟨t6b, t6o, none⟩)), (45, .agg #[.slice t45c0a t45c0n t45c0k, .slice t45c1a t45c1n t45c1k]), (46, .int .i64 t46), (54, .pointer (some ⟨t6b, t6o, none⟩)), (55, .slice t48a t48n t48k)] 61 (s' := (.reg (opsAt (sub B [1, 1, 1, 1, 1, 1, 0, 1, 0, 0, 1, 1, 0, 0, 1, 1])) [2] :: S20)) fun J => ?_
    obtain ⟨H_2, q20, h⟩ := h
    refine KR.se (one_ca (by kernel_rfl) q20) ?_
    exact KR.go 6 [(6, .pointer (some ⟨t6b, t6o, none⟩)), (45, .agg #[.slice t45c0a t45c0n t45c0k, .slice t45c1a t45c1n t45c1k]), (46, .int .i64 (IntKind.wrap .i64 (t46 + 1)))] 61 (s' := (.lp (sub B [1, 1, 1, 1, 1, 1, 0, 1, 0, 0]) :: S16)) h
  · replace h := iteF c17 h
    refine KR.bb false (vB (dF c17)) ?_
    refine KR.go 4 [(58, .pointer (some ⟨t6b, t6o, none⟩))] 61 (s' := (.reg (opsAt (sub B [1, 1, 1, 1, 1, 1, 1, 0])) [1, 2, 3, 4] :: S23)) fun J => ?_
    obtain ⟨t59a, t59n, t59k, H_3, q21, h⟩ := h
    refine KR.se (one_ca (by kernel_rfl) q21) ?_
    obtain ⟨t60a, t60n, t60k, H_4, q22, h⟩ := h
    refine KR.se (one_ca (by kernel_rfl) q22) ?_
    refine KR.go 3 [(2, .slice t60a t60n t60k), (3, .int .i64 0)] 61 (s' := (.code (sub B [1, 1, 1, 1, 1, 1, 1, 1]) :: [])) fun J => ?_
    exact KR.fi h
theorem call {a0c0 a0c1 a0c2 a0c3 : Int} {a0c4a : Option Addr} {a0c4n a0c4k : Nat} {a0c5a : Option Addr} {a0c5n a0c5k : Nat} {H : Heap} {r : Value × Heap} (h :
    ∃ (H_1 : Heap), H_1 = H.push (.row [.int .i64 a0c0, .int .i64 a0c1, .int .i64 a0c2, .int .i64 a0c3, .slice a0c4a a0c4n a0c4k, .slice a0c5a a0c5n a0c5k] true) ∧
    (∃ (t11c0 t11c1 t11c2 t11c3 : Int) (t11c4a : Option Addr) (t11c4n t11c4k : Nat) (t11c5a : Option Addr) (t11c5n t11c5k : Nat), ldAll H_1 H.next 0 [.int .i64 t11c0, .int .i64 t11c1, .int .i64 t11c2, .int .i64 t11c3, .slice t11c4a t11c4n t11c4k, .slice t11c5a t11c5n t11c5k] ∧
    (∃ (t12 : Bool) (H_2 : Heap), xC Try.prog good 34 [.agg #[.int .i64 t11c0, .int .i64 t11c1, .int .i64 t11c2, .int .i64 t11c3, .slice t11c4a t11c4n t11c4k, .slice t11c5a t11c5n t11c5k]] H_1 = some (.bool t12, H_2) ∧
    (if t12 = true then
    (∃ (t16a : Option Addr) (t16n t16k : Nat), ldc H_2 H.next 4 = some (.slice t16a t16n t16k) ∧
    (∃ (t17r0a : Option Addr) (t17r0n t17r0k : Nat) (t17r1 : Int) (H_3 : Heap), xC Try.prog good 16 [.slice t16a t16n t16k] H_2 = some (.tuple #[.slice t17r0a t17r0n t17r0k, .int .i64 t17r1], H_3) ∧
    (if t17r1 = 0 then
    (∃ (H_4 : Heap), H_4 = H_3.push (.row [.slice none 0 0, .int .i64 0] true) ∧
    (∃ (t26 : Int), ldc H_4 H.next 0 = some (.int .i64 t26) ∧
    (∃ (t28 : Int), ldc H_4 H.next 1 = some (.int .i64 t28) ∧
    (∃ (t30 : Int), ldc H_4 H.next 2 = some (.int .i64 t30) ∧
    (∃ (t32 : Int), ldc H_4 H.next 3 = some (.int .i64 t32) ∧
    (L0 (H.next) 0 t17r0a t17r0n t17r0k (H_3.next) 0 197 t26 t28 t30 t32 0 H_4 r))))))
    else
    (r = (.tuple #[.slice none 0 0, .int .i64 t17r1], H_3)))))
    else
    (r = (.tuple #[.slice none 0 0, .int .i64 1], H_2)))))) :
    xC Try.prog good 33 [.agg #[.int .i64 a0c0, .int .i64 a0c1, .int .i64 a0c2, .int .i64 a0c3, .slice a0c4a a0c4n a0c4k, .slice a0c5a a0c5n a0c5k]] H = some r := by
  refine KR.enter (fn := Try.f33) (c := B) (by kernel_rfl) (by kernel_rfl) ?_
  refine KR.go 2 [(0, .agg #[.int .i64 a0c0, .int .i64 a0c1, .int .i64 a0c2, .int .i64 a0c3, .slice a0c4a a0c4n a0c4k, .slice a0c5a a0c5n a0c5k])] 61 (s' := (.reg (opsAt (sub B [0])) [0, 1, 2] :: S0)) fun J => ?_
  obtain ⟨H_1, q1, h⟩ := h
  refine KR.mk (w := pRow [.int .i64 a0c0, .int .i64 a0c1, .int .i64 a0c2, .int .i64 a0c3, .slice a0c4a a0c4n a0c4k, .slice a0c5a a0c5n a0c5k]) (one_al (by kernel_rfl)) q1 ?_
  refine KR.go 6 [(1, .pointer (some ⟨H.next, 0, none⟩))] 61 (s' := (.reg (opsAt (sub B [1, 0, 0])) [0, 1, 2] :: S2)) fun J => ?_
  obtain ⟨t11c0, t11c1, t11c2, t11c3, t11c4a, t11c4n, t11c4k, t11c5a, t11c5n, t11c5k, q2, h⟩ := h
  refine KR.rd (one_ldA (by kernel_rfl) q2) ?_
  obtain ⟨t12, H_2, q3, h⟩ := h
  refine KR.se (one_ca (by kernel_rfl) q3) ?_
  refine KR.go 2 [(1, .pointer (some ⟨H.next, 0, none⟩)), (13, .bool (!t12))] 61 (s' := (.code (sub B [1, 0, 1]) :: S1)) fun J => ?_
  by_cases c4 : t12 = true
  · replace h := iteT c4 h
    refine KR.bb false (vB (nB (bT c4))) ?_
    refine KR.go 4 [(1, .pointer (some ⟨H.next, 0, none⟩)), (15, .pointer (some ⟨H.next, 4, none⟩))] 61 (s' := (.reg (opsAt (sub B [1, 1, 0])) [1, 2, 3, 4, 5, 6, 7] :: S3)) fun J => ?_
    obtain ⟨t16a, t16n, t16k, q5, h⟩ := h
    refine KR.rd (one_ld (by kernel_rfl) q5) ?_
    obtain ⟨t17r0a, t17r0n, t17r0k, t17r1, H_3, q6, h⟩ := h
    refine KR.se (one_ca (by kernel_rfl) q6) ?_
    refine KR.go 12 [(1, .pointer (some ⟨H.next, 0, none⟩)), (4, .slice t17r0a t17r0n t17r0k), (5, .int .i64 t17r1), (21, .bool (!(t17r1 == 0)))] 61 (s' := (.code (sub B [1, 1, 1, 0, 1]) :: S4)) fun J => ?_
    by_cases c7 : t17r1 = 0
    · replace h := iteT c7 h
      refine KR.bb false (vB (nB (eT c7))) ?_
      refine KR.go 4 [(1, .pointer (some ⟨H.next, 0, none⟩)), (4, .slice t17r0a t17r0n t17r0k), (23, .agg #[.slice none 0 0, .int .i64 0])] 61 (s' := (.reg (opsAt (sub B [1, 1, 1, 1, 0])) [1, 2] :: S5)) fun J => ?_
      obtain ⟨H_4, q8, h⟩ := h
      refine KR.mk (w := pRow [.slice none 0 0, .int .i64 0]) (one_al (by kernel_rfl)) q8 ?_
      refine KR.go 6 [(1, .pointer (some ⟨H.next, 0, none⟩)), (4, .slice t17r0a t17r0n t17r0k), (6, .pointer (some ⟨H_3.next, 0, none⟩)), (25, .pointer (some ⟨H.next, 0, none⟩))] 61 (s' := (.reg (opsAt (sub B [1, 1, 1, 1, 1, 0, 0])) [1, 2, 3, 4, 5, 6, 7, 8, 9] :: S7)) fun J => ?_
      obtain ⟨t26, q9, h⟩ := h
      refine KR.rd (one_ld (by kernel_rfl) q9) ?_
      refine KR.go 1 [(1, .pointer (some ⟨H.next, 0, none⟩)), (4, .slice t17r0a t17r0n t17r0k), (6, .pointer (some ⟨H_3.next, 0, none⟩)), (26, .int .i64 t26), (27, .pointer (some ⟨H.next, 1, none⟩))] 61 (s' := (.reg (opsAt (sub B [1, 1, 1, 1, 1, 0, 0])) [3, 4, 5, 6, 7, 8, 9] :: S7)) fun J => ?_
      obtain ⟨t28, q10, h⟩ := h
      refine KR.rd (one_ld (by kernel_rfl) q10) ?_
      refine KR.go 1 [(1, .pointer (some ⟨H.next, 0, none⟩)), (4, .slice t17r0a t17r0n t17r0k), (6, .pointer (some ⟨H_3.next, 0, none⟩)), (26, .int .i64 t26), (28, .int .i64 t28), (29, .pointer (some ⟨H.next, 2, none⟩))] 61 (s' := (.reg (opsAt (sub B [1, 1, 1, 1, 1, 0, 0])) [5, 6, 7, 8, 9] :: S7)) fun J => ?_
      obtain ⟨t30, q11, h⟩ := h
      refine KR.rd (one_ld (by kernel_rfl) q11) ?_
      refine KR.go 1 [(1, .pointer (some ⟨H.next, 0, none⟩)), (4, .slice t17r0a t17r0n t17r0k), (6, .pointer (some ⟨H_3.next, 0, none⟩)), (26, .int .i64 t26), (28, .int .i64 t28), (30, .int .i64 t30), (31, .pointer (some ⟨H.next, 3, none⟩))] 61 (s' := (.reg (opsAt (sub B [1, 1, 1, 1, 1, 0, 0])) [7, 8, 9] :: S7)) fun J => ?_
      obtain ⟨t32, q12, h⟩ := h
      refine KR.rd (one_ld (by kernel_rfl) q12) ?_
      exact KR.go 5 [(1, .pointer (some ⟨H.next, 0, none⟩)), (4, .slice t17r0a t17r0n t17r0k), (6, .pointer (some ⟨H_3.next, 0, none⟩)), (33, .agg #[.int .i64 197, .int .i64 t26, .int .i64 t28, .int .i64 t30, .int .i64 t32]), (34, .int .i64 0)] 61 (s' := (.lp (sub B [1, 1, 1, 1, 1, 0, 1, 0, 0]) :: S8)) h
    · replace h := iteF c7 h
      refine KR.bb true (vB (nB (eF c7))) ?_
      refine KR.go 6 [(2, .slice none 0 0), (3, .int .i64 t17r1)] 61 (s' := (.code (sub B [1, 1, 1, 0, 1, 0, 1]) :: S4)) fun J => ?_
      exact KR.fi h
  · replace h := iteF c4 h
    refine KR.bb true (vB (nB (bF c4))) ?_
    refine KR.go 5 [(2, .slice none 0 0), (3, .int .i64 1)] 61 (s' := (.code (sub B [1, 0, 1, 0, 1]) :: S1)) fun J => ?_
    exact KR.fi h
end F33
/-! #### 34 campanile/frame.May -/
namespace F34
noncomputable def B : Code := bodyOf Try.f34
noncomputable def S0 : List It := (.code (sub B [1]) :: [])
noncomputable def S1 : List It := (.code (sub B [1, 1]) :: [])
noncomputable def S3 : List It := (.code (sub B [1, 1, 1]) :: [])
noncomputable def S5 : List It := (.code (sub B [1, 1, 1, 1]) :: [])
noncomputable def S2 : List It := (.code (sub B [1, 0, 1]) :: S1)
noncomputable def S4 : List It := (.code (sub B [1, 1, 0, 1]) :: S3)
def L0 (t1b t1o : Nat) (t34 : Bool) (H : Heap) (r : Value × Heap) : Prop := ∀ J, KR Try.prog good Try.f34 S2 (mat J 52 [(1, .pointer (some ⟨t1b, t1o, none⟩)), (34, .bool t34)]) H r
def L1 (t1b t1o : Nat) (t49 : Bool) (H : Heap) (r : Value × Heap) : Prop := ∀ J, KR Try.prog good Try.f34 S4 (mat J 52 [(1, .pointer (some ⟨t1b, t1o, none⟩)), (49, .bool t49)]) H r
theorem L0_step {t1b t1o : Nat} {t34 : Bool} {H : Heap} {r : Value × Heap} (h :
    if t34 = true then
    (r = (.bool false, H))
    else
    (∃ (t36a : Option Addr) (t36n t36k : Nat), ldc H t1b (t1o + 4) = some (.slice t36a t36n t36k) ∧
    (if (t36n : Int) > 4 then
    (L1 t1b t1o true H r)
    else
    (∃ (t41a : Option Addr) (t41n t41k : Nat), ldc H t1b (t1o + 4) = some (.slice t41a t41n t41k) ∧
    (∃ (t42 : Bool) (H_1 : Heap), xC Try.prog good 39 [.slice t41a t41n t41k, .func (.func 65) #[] #[]] H = some (.bool t42, H_1) ∧
    (if t42 = true then
    (L1 t1b t1o true H_1 r)
    else
    (∃ (t46a : Option Addr) (t46n t46k : Nat), ldc H_1 t1b (t1o + 5) = some (.slice t46a t46n t46k) ∧
    (L1 t1b t1o ((decide ((t46n : Int) > 64))) H_1 r)))))))) :
    L0 t1b t1o t34 H r := by
  intro J
  show KR _ _ _ (.code (sub B [1, 0, 1]) :: S1) _ _ _
  by_cases c22 : t34 = true
  · replace h := iteT c22 h
    refine KR.bb true (vB (bT c22)) ?_
    refine KR.go 4 [(2, .bool false)] 52 (s' := (.code (sub B [1, 0, 1, 0, 1]) :: S1)) fun J => ?_
    exact KR.fi h
  · replace h := iteF c22 h
    refine KR.bb false (vB (bF c22)) ?_
    refine KR.go 5 [(1, .pointer (some ⟨t1b, t1o, none⟩)), (35, .pointer (some ⟨t1b, (t1o + 4), none⟩))] 52 (s' := (.reg (opsAt (sub B [1, 1, 0, 0])) [1, 2, 3, 4, 5, 6, 7, 8, 9, 10, 11, 12, 13, 14] :: S4)) fun J => ?_
    obtain ⟨t36a, t36n, t36k, q23, h⟩ := h
    refine KR.rd (one_ld (by kernel_rfl) q23) ?_
    refine KR.go 3 [(1, .pointer (some ⟨t1b, t1o, none⟩)), (39, .bool (decide ((t36n : Int) > 4)))] 52 (s' := (.reg (opsAt (sub B [1, 1, 0, 0])) [5, 6, 7, 8, 9, 10, 11, 12, 13, 14] :: S4)) fun J => ?_
    by_cases c24 : (t36n : Int) > 4
    · replace h := iteT c24 h
      refine KR.setV 39 (by kernel_rfl) (dT c24) ?_
      exact KR.go 11 [(1, .pointer (some ⟨t1b, t1o, none⟩)), (49, .bool true)] 52 (s' := (.code (sub B [1, 1, 0, 1]) :: S3)) h
    · replace h := iteF c24 h
      refine KR.setV 39 (by kernel_rfl) (dF c24) ?_
      refine KR.go 1 [(1, .pointer (some ⟨t1b, t1o, none⟩)), (39, .bool false), (40, .pointer (some ⟨t1b, (t1o + 4), none⟩))] 52 (s' := (.reg (opsAt (sub B [1, 1, 0, 0])) [6, 7, 8, 9, 10, 11, 12, 13, 14] :: S4)) fun J => ?_
      obtain ⟨t41a, t41n, t41k, q25, h⟩ := h
      refine KR.rd (one_ld (by kernel_rfl) q25) ?_
      obtain ⟨t42, H_1, q26, h⟩ := h
      refine KR.se (one_ca (by kernel_rfl) q26) ?_
      refine KR.go 2 [(1, .pointer (some ⟨t1b, t1o, none⟩)), (44, .bool t42)] 52 (s' := (.reg (opsAt (sub B [1, 1, 0, 0])) [10, 11, 12, 13, 14] :: S4)) fun J => ?_
      by_cases c27 : t42 = true
      · replace h := iteT c27 h
        refine KR.setV 44 (by kernel_rfl) (bT c27) ?_
        exact KR.go 6 [(1, .pointer (some ⟨t1b, t1o, none⟩)), (49, .bool true)] 52 (s' := (.code (sub B [1, 1, 0, 1]) :: S3)) h
      · replace h := iteF c27 h
        refine KR.setV 44 (by kernel_rfl) (bF c27) ?_
        refine KR.go 1 [(1, .pointer (some ⟨t1b, t1o, none⟩)), (44, .bool false), (45, .pointer (some ⟨t1b, (t1o + 5), none⟩))] 52 (s' := (.reg (opsAt (sub B [1, 1, 0, 0])) [11, 12, 13, 14] :: S4)) fun J => ?_
        obtain ⟨t46a, t46n, t46k, q28, h⟩ := h
        refine KR.rd (one_ld (by kernel_rfl) q28) ?_
        exact KR.go 4 [(1, .pointer (some ⟨t1b, t1o, none⟩)), (49, .bool (decide ((t46n : Int) > 64)))] 52 (s' := (.code (sub B [1, 1, 0, 1]) :: S3)) h
theorem L1_step {t1b t1o : Nat} {t49 : Bool} {H : Heap} {r : Value × Heap} (h :
    if t49 = true then
    (r = (.bool false, H))
    else
    (∃ (t50c0 t50c1 t50c2 t50c3 : Int) (t50c4a : Option Addr) (t50c4n t50c4k : Nat) (t50c5a : Option Addr) (t50c5n t50c5k : Nat), ldAll H t1b t1o [.int .i64 t50c0, .int .i64 t50c1, .int .i64 t50c2, .int .i64 t50c3, .slice t50c4a t50c4n t50c4k, .slice t50c5a t50c5n t50c5k] ∧
    (∃ (t51 : Bool) (H_1 : Heap), xC Try.prog good 66 [.agg #[.int .i64 t50c0, .int .i64 t50c1, .int .i64 t50c2, .int .i64 t50c3, .slice t50c4a t50c4n t50c4k, .slice t50c5a t50c5n t50c5k]] H = some (.bool t51, H_1) ∧
    (r = (.bool t51, H_1))))) :
    L1 t1b t1o t49 H r := by
  intro J
  show KR _ _ _ (.code (sub B [1, 1, 0, 1]) :: S3) _ _ _
  by_cases c29 : t49 = true
  · replace h := iteT c29 h
    refine KR.bb true (vB (bT c29)) ?_
    refine KR.go 4 [(2, .bool false)] 52 (s' := (.code (sub B [1, 1, 0, 1, 0, 1]) :: S3)) fun J => ?_
    exact KR.fi h
  · replace h := iteF c29 h
    refine KR.bb false (vB (bF c29)) ?_
    refine KR.go 3 [(1, .pointer (some ⟨t1b, t1o, none⟩))] 52 (s' := (.reg (opsAt (sub B [1, 1, 1, 0])) [0, 1, 2] :: S5)) fun J => ?_
    obtain ⟨t50c0, t50c1, t50c2, t50c3, t50c4a, t50c4n, t50c4k, t50c5a, t50c5n, t50c5k, q30, h⟩ := h
    refine KR.rd (one_ldA (by kernel_rfl) q30) ?_
    obtain ⟨t51, H_1, q31, h⟩ := h
    refine KR.se (one_ca (by kernel_rfl) q31) ?_
    refine KR.go 2 [(2, .bool t51)] 52 (s' := (.code (sub B [1, 1, 1, 1]) :: [])) fun J => ?_
    exact KR.fi h
theorem call {a0c0 a0c1 a0c2 a0c3 : Int} {a0c4a : Option Addr} {a0c4n a0c4k : Nat} {a0c5a : Option Addr} {a0c5n a0c5k : Nat} {H : Heap} {r : Value × Heap} (h :
    ∃ (H_1 : Heap), H_1 = H.push (.row [.int .i64 a0c0, .int .i64 a0c1, .int .i64 a0c2, .int .i64 a0c3, .slice a0c4a a0c4n a0c4k, .slice a0c5a a0c5n a0c5k] true) ∧
    (∃ (t4 : Int), ldc H_1 H.next 1 = some (.int .i64 t4) ∧
    (∃ (t5 : Bool) (H_2 : Heap), xC Try.prog good 64 [.int .i64 t4] H_1 = some (.bool t5, H_2) ∧
    (if t5 = true then
    (∃ (t9 : Int), ldc H_2 H.next 2 = some (.int .i64 t9) ∧
    (∃ (t10 : Bool) (H_3 : Heap), xC Try.prog good 64 [.int .i64 t9] H_2 = some (.bool t10, H_3) ∧
    (if t10 = true then
    (∃ (t20 : Int), ldc H_3 H.next 2 = some (.int .i64 t20) ∧
    (∃ (t22 : Int), ldc H_3 H.next 1 = some (.int .i64 t22) ∧
    (if t20 = t22 then
    (L0 (H.next) 0 true H_3 r)
    else
    (∃ (t27 : Int), ldc H_3 H.next 3 = some (.int .i64 t27) ∧
    (if t27 < 0 then
    (L0 (H.next) 0 true H_3 r)
    else
    (∃ (t32 : Int), ldc H_3 H.next 3 = some (.int .i64 t32) ∧
    (L0 (H.next) 0 ((decide (t32 > 255))) H_3 r)))))))
    else
    (∃ (t14 : Int), ldc H_3 H.next 2 = some (.int .i64 t14) ∧
    (if t14 = 64 then
    (∃ (t20_1 : Int), ldc H_3 H.next 2 = some (.int .i64 t20_1) ∧
    (∃ (t22_1 : Int), ldc H_3 H.next 1 = some (.int .i64 t22_1) ∧
    (if t20_1 = t22_1 then
    (L0 (H.next) 0 true H_3 r)
    else
    (∃ (t27_1 : Int), ldc H_3 H.next 3 = some (.int .i64 t27_1) ∧
    (if t27_1 < 0 then
    (L0 (H.next) 0 true H_3 r)
    else
    (∃ (t32_1 : Int), ldc H_3 H.next 3 = some (.int .i64 t32_1) ∧
    (L0 (H.next) 0 ((decide (t32_1 > 255))) H_3 r)))))))
    else
    (L0 (H.next) 0 true H_3 r))))))
    else
    (L0 (H.next) 0 true H_2 r))))) :
    xC Try.prog good 34 [.agg #[.int .i64 a0c0, .int .i64 a0c1, .int .i64 a0c2, .int .i64 a0c3, .slice a0c4a a0c4n a0c4k, .slice a0c5a a0c5n a0c5k]] H = some r := by
  refine KR.enter (fn := Try.f34) (c := B) (by kernel_rfl) (by kernel_rfl) ?_
  refine KR.go 2 [(0, .agg #[.int .i64 a0c0, .int .i64 a0c1, .int .i64 a0c2, .int .i64 a0c3, .slice a0c4a a0c4n a0c4k, .slice a0c5a a0c5n a0c5k])] 52 (s' := (.reg (opsAt (sub B [0])) [0, 1] :: S0)) fun J => ?_
  obtain ⟨H_1, q1, h⟩ := h
  refine KR.mk (w := pRow [.int .i64 a0c0, .int .i64 a0c1, .int .i64 a0c2, .int .i64 a0c3, .slice a0c4a a0c4n a0c4k, .slice a0c5a a0c5n a0c5k]) (one_al (by kernel_rfl)) q1 ?_
  refine KR.go 6 [(1, .pointer (some ⟨H.next, 0, none⟩)), (3, .pointer (some ⟨H.next, 1, none⟩))] 52 (s' := (.reg (opsAt (sub B [1, 0, 0])) [1, 2, 3, 4, 5, 6, 7, 8, 9, 10, 11, 12, 13, 14, 15, 16, 17, 18, 19, 20, 21, 22, 23, 24, 25, 26, 27, 28, 29, 30, 31] :: S2)) fun J => ?_
  obtain ⟨t4, q2, h⟩ := h
  refine KR.rd (one_ld (by kernel_rfl) q2) ?_
  obtain ⟨t5, H_2, q3, h⟩ := h
  refine KR.se (one_ca (by kernel_rfl) q3) ?_
  refine KR.go 2 [(1, .pointer (some ⟨H.next, 0, none⟩)), (7, .bool (!t5))] 52 (s' := (.reg (opsAt (sub B [1, 0, 0])) [5, 6, 7, 8, 9, 10, 11, 12, 13, 14, 15, 16, 17, 18, 19, 20, 21, 22, 23, 24, 25, 26, 27, 28, 29, 30, 31] :: S2)) fun J => ?_
  by_cases c4 : t5 = true
  · replace h := iteT c4 h
    refine KR.setV 7 (by kernel_rfl) (nB (bT c4)) ?_
    refine KR.go 1 [(1, .pointer (some ⟨H.next, 0, none⟩)), (7, .bool false), (8, .pointer (some ⟨H.next, 2, none⟩))] 52 (s' := (.reg (opsAt (sub B [1, 0, 0])) [6, 7, 8, 9, 10, 11, 12, 13, 14, 15, 16, 17, 18, 19, 20, 21, 22, 23, 24, 25, 26, 27, 28, 29, 30, 31] :: S2)) fun J => ?_
    obtain ⟨t9, q5, h⟩ := h
    refine KR.rd (one_ld (by kernel_rfl) q5) ?_
    obtain ⟨t10, H_3, q6, h⟩ := h
    refine KR.se (one_ca (by kernel_rfl) q6) ?_
    refine KR.go 2 [(1, .pointer (some ⟨H.next, 0, none⟩)), (7, .bool false), (12, .bool (!t10))] 52 (s' := (.reg (opsAt (sub B [1, 0, 0])) [10, 11, 12, 13, 14, 15, 16, 17, 18, 19, 20, 21, 22, 23, 24, 25, 26, 27, 28, 29, 30, 31] :: S2)) fun J => ?_
    by_cases c7 : t10 = true
    · replace h := iteT c7 h
      refine KR.setV 12 (by kernel_rfl) (nB (bT c7)) ?_
      refine KR.go 7 [(1, .pointer (some ⟨H.next, 0, none⟩)), (18, .bool false), (19, .pointer (some ⟨H.next, 2, none⟩))] 52 (s' := (.reg (opsAt (sub B [1, 0, 0])) [17, 18, 19, 20, 21, 22, 23, 24, 25, 26, 27, 28, 29, 30, 31] :: S2)) fun J => ?_
      obtain ⟨t20, q8, h⟩ := h
      refine KR.rd (one_ld (by kernel_rfl) q8) ?_
      refine KR.go 1 [(1, .pointer (some ⟨H.next, 0, none⟩)), (18, .bool false), (20, .int .i64 t20), (21, .pointer (some ⟨H.next, 1, none⟩))] 52 (s' := (.reg (opsAt (sub B [1, 0, 0])) [19, 20, 21, 22, 23, 24, 25, 26, 27, 28, 29, 30, 31] :: S2)) fun J => ?_
      obtain ⟨t22, q9, h⟩ := h
      refine KR.rd (one_ld (by kernel_rfl) q9) ?_
      refine KR.go 3 [(1, .pointer (some ⟨H.next, 0, none⟩)), (25, .bool (t20 == t22))] 52 (s' := (.reg (opsAt (sub B [1, 0, 0])) [23, 24, 25, 26, 27, 28, 29, 30, 31] :: S2)) fun J => ?_
      by_cases c10 : t20 = t22
      · replace h := iteT c10 h
        refine KR.setV 25 (by kernel_rfl) (eT c10) ?_
        exact KR.go 10 [(1, .pointer (some ⟨H.next, 0, none⟩)), (34, .bool true)] 52 (s' := (.code (sub B [1, 0, 1]) :: S1)) h
      · replace h := iteF c10 h
        refine KR.setV 25 (by kernel_rfl) (eF c10) ?_
        refine KR.go 1 [(1, .pointer (some ⟨H.next, 0, none⟩)), (25, .bool false), (26, .pointer (some ⟨H.next, 3, none⟩))] 52 (s' := (.reg (opsAt (sub B [1, 0, 0])) [24, 25, 26, 27, 28, 29, 30, 31] :: S2)) fun J => ?_
        obtain ⟨t27, q11, h⟩ := h
        refine KR.rd (one_ld (by kernel_rfl) q11) ?_
        refine KR.go 3 [(1, .pointer (some ⟨H.next, 0, none⟩)), (30, .bool (decide (t27 < 0)))] 52 (s' := (.reg (opsAt (sub B [1, 0, 0])) [28, 29, 30, 31] :: S2)) fun J => ?_
        by_cases c12 : t27 < 0
        · replace h := iteT c12 h
          refine KR.setV 30 (by kernel_rfl) (dT c12) ?_
          exact KR.go 5 [(1, .pointer (some ⟨H.next, 0, none⟩)), (34, .bool true)] 52 (s' := (.code (sub B [1, 0, 1]) :: S1)) h
        · replace h := iteF c12 h
          refine KR.setV 30 (by kernel_rfl) (dF c12) ?_
          refine KR.go 1 [(1, .pointer (some ⟨H.next, 0, none⟩)), (30, .bool false), (31, .pointer (some ⟨H.next, 3, none⟩))] 52 (s' := (.reg (opsAt (sub B [1, 0, 0])) [29, 30, 31] :: S2)) fun J => ?_
          obtain ⟨t32, q13, h⟩ := h
          refine KR.rd (one_ld (by kernel_rfl) q13) ?_
          exact KR.go 3 [(1, .pointer (some ⟨H.next, 0, none⟩)), (34, .bool (decide (t32 > 255)))] 52 (s' := (.code (sub B [1, 0, 1]) :: S1)) h
    · replace h := iteF c7 h
      refine KR.setV 12 (by kernel_rfl) (nB (bF c7)) ?_
      refine KR.go 1 [(1, .pointer (some ⟨H.next, 0, none⟩)), (7, .bool false), (12, .bool true), (13, .pointer (some ⟨H.next, 2, none⟩))] 52 (s' := (.reg (opsAt (sub B [1, 0, 0])) [11, 12, 13, 14, 15, 16, 17, 18, 19, 20, 21, 22, 23, 24, 25, 26, 27, 28, 29, 30, 31] :: S2)) fun J => ?_
      obtain ⟨t14, q14, h⟩ := h
      refine KR.rd (one_ld (by kernel_rfl) q14) ?_
      refine KR.go 4 [(1, .pointer (some ⟨H.next, 0, none⟩)), (18, .bool (!(t14 == 64)))] 52 (s' := (.reg (opsAt (sub B [1, 0, 0])) [16, 17, 18, 19, 20, 21, 22, 23, 24, 25, 26, 27, 28, 29, 30, 31] :: S2)) fun J => ?_
      by_cases c15 : t14 = 64
      · replace h := iteT c15 h
        refine KR.setV 18 (by kernel_rfl) (nB (eT c15)) ?_
        refine KR.go 1 [(1, .pointer (some ⟨H.next, 0, none⟩)), (18, .bool false), (19, .pointer (some ⟨H.next, 2, none⟩))] 52 (s' := (.reg (opsAt (sub B [1, 0, 0])) [17, 18, 19, 20, 21, 22, 23, 24, 25, 26, 27, 28, 29, 30, 31] :: S2)) fun J => ?_
        obtain ⟨t20_1, q16, h⟩ := h
        refine KR.rd (one_ld (by kernel_rfl) q16) ?_
        refine KR.go 1 [(1, .pointer (some ⟨H.next, 0, none⟩)), (18, .bool false), (20, .int .i64 t20_1), (21, .pointer (some ⟨H.next, 1, none⟩))] 52 (s' := (.reg (opsAt (sub B [1, 0, 0])) [19, 20, 21, 22, 23, 24, 25, 26, 27, 28, 29, 30, 31] :: S2)) fun J => ?_
        obtain ⟨t22_1, q17, h⟩ := h
        refine KR.rd (one_ld (by kernel_rfl) q17) ?_
        refine KR.go 3 [(1, .pointer (some ⟨H.next, 0, none⟩)), (25, .bool (t20_1 == t22_1))] 52 (s' := (.reg (opsAt (sub B [1, 0, 0])) [23, 24, 25, 26, 27, 28, 29, 30, 31] :: S2)) fun J => ?_
        by_cases c18 : t20_1 = t22_1
        · replace h := iteT c18 h
          refine KR.setV 25 (by kernel_rfl) (eT c18) ?_
          exact KR.go 10 [(1, .pointer (some ⟨H.next, 0, none⟩)), (34, .bool true)] 52 (s' := (.code (sub B [1, 0, 1]) :: S1)) h
        · replace h := iteF c18 h
          refine KR.setV 25 (by kernel_rfl) (eF c18) ?_
          refine KR.go 1 [(1, .pointer (some ⟨H.next, 0, none⟩)), (25, .bool false), (26, .pointer (some ⟨H.next, 3, none⟩))] 52 (s' := (.reg (opsAt (sub B [1, 0, 0])) [24, 25, 26, 27, 28, 29, 30, 31] :: S2)) fun J => ?_
          obtain ⟨t27_1, q19, h⟩ := h
          refine KR.rd (one_ld (by kernel_rfl) q19) ?_
          refine KR.go 3 [(1, .pointer (some ⟨H.next, 0, none⟩)), (30, .bool (decide (t27_1 < 0)))] 52 (s' := (.reg (opsAt (sub B [1, 0, 0])) [28, 29, 30, 31] :: S2)) fun J => ?_
          by_cases c20 : t27_1 < 0
          · replace h := iteT c20 h
            refine KR.setV 30 (by kernel_rfl) (dT c20) ?_
            exact KR.go 5 [(1, .pointer (some ⟨H.next, 0, none⟩)), (34, .bool true)] 52 (s' := (.code (sub B [1, 0, 1]) :: S1)) h
          · replace h := iteF c20 h
            refine KR.setV 30 (by kernel_rfl) (dF c20) ?_
            refine KR.go 1 [(1, .pointer (some ⟨H.next, 0, none⟩)), (30, .bool false), (31, .pointer (some ⟨H.next, 3, none⟩))] 52 (s' := (.reg (opsAt (sub B [1, 0, 0])) [29, 30, 31] :: S2)) fun J => ?_
            obtain ⟨t32_1, q21, h⟩ := h
            refine KR.rd (one_ld (by kernel_rfl) q21) ?_
            exact KR.go 3 [(1, .pointer (some ⟨H.next, 0, none⟩)), (34, .bool (decide (t32_1 > 255)))] 52 (s' := (.code (sub B [1, 0, 1]) :: S1)) h
      · replace h := iteF c15 h
        refine KR.setV 18 (by kernel_rfl) (nB (eF c15)) ?_
        exact KR.go 17 [(1, .pointer (some ⟨H.next, 0, none⟩)), (34, .bool true)] 52 (s' := (.code (sub B [1, 0, 1]) :: S1)) h
  · replace h := iteF c4 h
    refine KR.setV 7 (by kernel_rfl) (nB (bF c4)) ?_
    exact KR.go 28 [(1, .pointer (some ⟨H.next, 0, none⟩)), (34, .bool true)] 52 (s' := (.code (sub B [1, 0, 1]) :: S1)) h
end F34
/-! #### 36 campanile/frame.Same -/
/-! #### 58 campanile/crc.Good -/
namespace F58
noncomputable def B : Code := bodyOf Try.f58
noncomputable def S0 : List It := (.code (sub B [1, 1, 1]) :: [])
theorem call {a0a : Option Addr} {a0n a0k : Nat} {H : Heap} {r : Value × Heap} (h :
    if (IntKind.wrap .i64 ((a0n : Int) - 2)) ≥ 0 then
    (∃ (t12a : Option Addr) (t12n t12k : Nat), psl 1 a0a a0n a0k none (some (IntKind.wrap .i64 ((a0n : Int) - 2))) none = some (t12a, t12n, t12k) ∧
    (∃ (t13a : Option Addr) (t13n t13k : Nat) (H_1 : Heap), xC Try.prog good 63 [.slice t12a t12n t12k] H = some (.slice t13a t13n t13k, H_1) ∧
    (∃ (t15 : Bool) (H_2 : Heap), xC Try.prog good 69 [.slice t13a t13n t13k, .slice a0a a0n a0k] H_1 = some (.bool t15, H_2) ∧
    (r = (.bool t15, H_2)))))
    else
    (r = (.bool false, H))) :
    xC Try.prog good 58 [.slice a0a a0n a0k] H = some r := by
  refine KR.enter (fn := Try.f58) (c := B) (by kernel_rfl) (by kernel_rfl) ?_
  refine KR.go 16 [(0, .slice a0a a0n a0k), (3, .int .i64 (IntKind.wrap .i64 ((a0n : Int) - 2))), (9, .bool (decide ((IntKind.wrap .i64 ((a0n : Int) - 2)) ≥ 0)))] 17 (s' := (.reg (opsAt (sub B [1, 1, 0])) [3, 4, 5, 6, 7, 8, 9, 10] :: S0)) fun J => ?_
  by_cases c1 : (IntKind.wrap .i64 ((a0n : Int) - 2)) ≥ 0
  · replace h := iteT c1 h
    refine KR.setV 9 (by kernel_rfl) (dT c1) ?_
    refine KR.go 2 [(0, .slice a0a a0n a0k), (9, .bool true), (10, .slice a0a a0n a0k), (11, .int .i64 (IntKind.wrap .i64 ((a0n : Int) - 2)))] 17 (s' := (.reg (opsAt (sub B [1, 1, 0])) [5, 6, 7, 8, 9, 10] :: S0)) fun J => ?_
    obtain ⟨t12a, t12n, t12k, q2, h⟩ := h
    refine KR.p (one_sl (by kernel_rfl) q2) ?_
    obtain ⟨t13a, t13n, t13k, H_1, q3, h⟩ := h
    refine KR.se (one_ca (by kernel_rfl) q3) ?_
    refine KR.go 1 [(9, .bool true), (13, .slice t13a t13n t13k), (14, .slice a0a a0n a0k)] 17 (s' := (.reg (opsAt (sub B [1, 1, 0])) [8, 9, 10] :: S0)) fun J => ?_
    obtain ⟨t15, H_2, q4, h⟩ := h
    refine KR.se (one_ca (by kernel_rfl) q4) ?_
    refine KR.go 3 [(2, .bool t15)] 17 (s' := (.code (sub B [1, 1, 1]) :: [])) fun J => ?_
    exact KR.fi h
  · replace h := iteF c1 h
    refine KR.setV 9 (by kernel_rfl) (dF c1) ?_
    refine KR.go 9 [(2, .bool false)] 17 (s' := (.code (sub B [1, 1, 1]) :: [])) fun J => ?_
    exact KR.fi h
end F58
/-! #### 59 campanile/frame.next -/
namespace F59
noncomputable def B : Code := bodyOf Try.f59
noncomputable def S0 : List It := (.code (sub B [1, 1]) :: [])
theorem call {a0 : Option Addr} {H : Heap} {r : Value × Heap} (h :
    ∃ (t4 : Int) (H_1 : Heap), xC Try.prog good 49 [.pointer a0, .int .i64 8] H = some (.int .u64 t4, H_1) ∧
    (r = (.int .i64 (IntKind.wrap .i64 t4), H_1))) :
    xC Try.prog good 59 [.pointer a0] H = some r := by
  refine KR.enter (fn := Try.f59) (c := B) (by kernel_rfl) (by kernel_rfl) ?_
  refine KR.go 7 [(3, .pointer a0)] 6 (s' := (.reg (opsAt (sub B [1, 0])) [1, 2, 3] :: S0)) fun J => ?_
  obtain ⟨t4, H_1, q1, h⟩ := h
  refine KR.se (one_ca (by kernel_rfl) q1) ?_
  refine KR.go 3 [(2, .int .i64 (IntKind.wrap .i64 t4))] 6 (s' := (.code (sub B [1, 1]) :: [])) fun J => ?_
  exact KR.fi h
end F59
/-! #### 63 campanile/crc.Append -/
namespace F63
noncomputable def B : Code := bodyOf Try.f63
noncomputable def S0 : List It := (.code (sub B [1, 1]) :: [])
noncomputable def S1 : List It := (.code (sub B [1, 1, 1]) :: [])
theorem call {a0a : Option Addr} {a0n a0k : Nat} {H : Heap} {r : Value × Heap} (h :
    ∃ (t5 : Int) (H_1 : Heap), xC Try.prog good 78 [.slice a0a a0n a0k] H = some (.int .u16 t5, H_1) ∧
    (∃ (t7a : Option Addr) (t7n t7k : Nat) (H_2 : Heap), xC Try.prog good 79 [.slice a0a a0n a0k] H_1 = some (.slice t7a t7n t7k, H_2) ∧
    (∃ (H_3 : Heap), H_3 = H_2.push (.row [.int .u8 (IntKind.wrap .u8 t5), .int .u8 (IntKind.wrap .u8 (ishr .u16 t5 8))] true) ∧
    (∃ (t14a : Option Addr) (t14n t14k : Nat) (H_4 : Heap), papp H_3 1 1 t7a t7n t7k (some ⟨H_2.next, 0, none⟩) 2 (UNK 1) = some ((t14a, t14n, t14k), H_4) ∧
    (r = (.slice t14a t14n t14k, H_4)))))) :
    xC Try.prog good 63 [.slice a0a a0n a0k] H = some r := by
  refine KR.enter (fn := Try.f63) (c := B) (by kernel_rfl) (by kernel_rfl) ?_
  refine KR.go 7 [(0, .slice a0a a0n a0k), (4, .slice a0a a0n a0k)] 15 (s' := (.reg (opsAt (sub B [1, 0])) [1, 2] :: S0)) fun J => ?_
  obtain ⟨t5, H_1, q1, h⟩ := h
  refine KR.se (one_ca (by kernel_rfl) q1) ?_
  refine KR.go 5 [(3, .int .u16 t5), (6, .slice a0a a0n a0k)] 15 (s' := (.reg (opsAt (sub B [1, 1, 0])) [1, 2, 3, 4, 5, 6, 7, 8, 9] :: S1)) fun J => ?_
  obtain ⟨t7a, t7n, t7k, H_2, q2, h⟩ := h
  refine KR.se (one_ca (by kernel_rfl) q2) ?_
  refine KR.go 5 [(7, .slice t7a t7n t7k), (9, .int .u8 (IntKind.wrap .u8 t5)), (12, .int .u8 (IntKind.wrap .u8 (ishr .u16 t5 8)))] 15 (s' := (.reg (opsAt (sub B [1, 1, 0])) [7, 8, 9] :: S1)) fun J => ?_
  obtain ⟨H_3, q3, h⟩ := h
  refine KR.mk (w := sRow 2 1 [.int .u8 (IntKind.wrap .u8 t5), .int .u8 (IntKind.wrap .u8 (ishr .u16 t5 8))]) (one_al (by kernel_rfl)) q3 ?_
  obtain ⟨t14a, t14n, t14k, H_4, q4, h⟩ := h
  refine KR.se (one_ap 1 1 (by kernel_rfl) q4) ?_
  refine KR.go 2 [(2, .slice t14a t14n t14k)] 15 (s' := (.code (sub B [1, 1, 1]) :: [])) fun J => ?_
  exact KR.fi h
end F63
/-! #### 64 campanile/frame.node -/
namespace F64
noncomputable def B : Code := bodyOf Try.f64
noncomputable def S0 : List It := (.code (sub B [1, 1]) :: [])
theorem call {a0 : Int} {H : Heap} {r : Value × Heap} (h :
    if a0 ≥ 0 then
    (r = (.bool (decide (a0 < 16)), H))
    else
    (r = (.bool false, H))) :
    xC Try.prog good 64 [.int .i64 a0] H = some r := by
  refine KR.enter (fn := Try.f64) (c := B) (by kernel_rfl) (by kernel_rfl) ?_
  refine KR.go 9 [(0, .int .i64 a0), (5, .bool (decide (a0 ≥ 0)))] 9 (s' := (.reg (opsAt (sub B [1, 0])) [3, 4, 5, 6] :: S0)) fun J => ?_
  by_cases c1 : a0 ≥ 0
  · replace h := iteT c1 h
    refine KR.setV 5 (by kernel_rfl) (dT c1) ?_
    refine KR.go 5 [(2, .bool (decide (a0 < 16)))] 9 (s' := (.code (sub B [1, 1]) :: [])) fun J => ?_
    exact KR.fi h
  · replace h := iteF c1 h
    refine KR.setV 5 (by kernel_rfl) (dF c1) ?_
    refine KR.go 5 [(2, .bool false)] 9 (s' := (.code (sub B [1, 1]) :: [])) fun J => ?_
    exact KR.fi h
end F64
/-! #### 65 campanile/frame.May$1 -/
namespace F65
noncomputable def B : Code := bodyOf Try.f65
noncomputable def S0 : List It := (.code (sub B [1]) :: [])
noncomputable def S1 : List It := (.code (sub B [1, 1]) :: [])
theorem call {a0c0 a0c1 a0c2 a0c3 : Int} {a0c4a : Option Addr} {a0c4n a0c4k : Nat} {H : Heap} {r : Value × Heap} (h :
    ∃ (H_1 : Heap), H_1 = H.push (.row [.int .i64 a0c0, .int .i64 a0c1, .int .i64 a0c2, .int .i64 a0c3, .slice a0c4a a0c4n a0c4k] true) ∧
    (∃ (t3c0 t3c1 t3c2 t3c3 : Int) (t3c4a : Option Addr) (t3c4n t3c4k : Nat), ldAll H_1 H.next 0 [.int .i64 t3c0, .int .i64 t3c1, .int .i64 t3c2, .int .i64 t3c3, .slice t3c4a t3c4n t3c4k] ∧
    (∃ (t4 : Bool) (H_2 : Heap), xC Try.prog good 14 [.agg #[.int .i64 t3c0, .int .i64 t3c1, .int .i64 t3c2, .int .i64 t3c3, .slice t3c4a t3c4n t3c4k]] H_1 = some (.bool t4, H_2) ∧
    (r = (.bool (!t4), H_2))))) :
    xC Try.prog good 65 [.agg #[.int .i64 a0c0, .int .i64 a0c1, .int .i64 a0c2, .int .i64 a0c3, .slice a0c4a a0c4n a0c4k]] H = some r := by
  refine KR.enter (fn := Try.f65) (c := B) (by kernel_rfl) (by kernel_rfl) ?_
  refine KR.go 2 [(0, .agg #[.int .i64 a0c0, .int .i64 a0c1, .int .i64 a0c2, .int .i64 a0c3, .slice a0c4a a0c4n a0c4k])] 6 (s' := (.reg (opsAt (sub B [0])) [0, 1] :: S0)) fun J => ?_
  obtain ⟨H_1, q1, h⟩ := h
  refine KR.mk (w := pRow [.int .i64 a0c0, .int .i64 a0c1, .int .i64 a0c2, .int .i64 a0c3, .slice a0c4a a0c4n a0c4k]) (one_al (by kernel_rfl)) q1 ?_
  refine KR.go 4 [(1, .pointer (some ⟨H.next, 0, none⟩))] 6 (s' := (.reg (opsAt (sub B [1, 0])) [0, 1, 2, 3] :: S1)) fun J => ?_
  obtain ⟨t3c0, t3c1, t3c2, t3c3, t3c4a, t3c4n, t3c4k, q2, h⟩ := h
  refine KR.rd (one_ldA (by kernel_rfl) q2) ?_
  obtain ⟨t4, H_2, q3, h⟩ := h
  refine KR.se (one_ca (by kernel_rfl) q3) ?_
  refine KR.go 3 [(2, .bool (!t4))] 6 (s' := (.code (sub B [1, 1]) :: [])) fun J => ?_
  exact KR.fi h
end F65
/-! #### 66 campanile/frame.says -/
namespace F66
noncomputable def B : Code := bodyOf Try.f66
noncomputable def S0 : List It := (.code (sub B [1]) :: [])
noncomputable def S1 : List It := (.code (sub B [1, 1]) :: [])
noncomputable def S2 : List It := (.code (sub B [1, 1, 1]) :: [])
noncomputable def S3 : List It := (.code (sub B [1, 1, 1, 1]) :: [])
noncomputable def S4 : List It := (.code (sub B [1, 1, 1, 0, 1]) :: S3)
noncomputable def S5 : List It := (.blk 0 :: S3)
noncomputable def S6 : List It := (.code (sub B [1, 1, 1, 0, 1, 0, 1]) :: S5)
noncomputable def S7 : List It := (.code (sub B [1, 1, 1, 0, 1, 0, 1, 0, 1]) :: S5)
noncomputable def S8 : List It := (.code (sub B [1, 1, 1, 0, 1, 0, 1, 1, 1, 0, 1]) :: S5)
noncomputable def S9 : List It := (.code (sub B [1, 1, 1, 0, 1, 0, 1, 1, 1, 1, 1]) :: S5)
noncomputable def S10 : List It := (.code (sub B [1, 1, 1, 0, 1, 0, 1, 1, 1, 1, 1, 0, 1]) :: S5)
def L0 (t1b t1o : Nat) (t4 t5 : Bool) (t16 : Int) (t17 : Bool) (H : Heap) (r : Value × Heap) : Prop := ∀ J, KR Try.prog good Try.f66 S6 (mat J 50 [(1, .pointer (some ⟨t1b, t1o, none⟩)), (4, .bool t4), (5, .bool t5), (16, .int .i64 t16), (17, .bool t17)]) H r
def L1 (t1b t1o : Nat) (t5 t40 : Bool) (H : Heap) (r : Value × Heap) : Prop := ∀ J, KR Try.prog good Try.f66 S9 (mat J 50 [(1, .pointer (some ⟨t1b, t1o, none⟩)), (5, .bool t5), (40, .bool t40)]) H r
theorem L0_step {t1b t1o : Nat} {t4 t5 : Bool} {t16 : Int} {t17 : Bool} {H : Heap} {r : Value × Heap} (h :
    if t17 = true then
    (if t5 = true then
    (∃ (t23a : Option Addr) (t23n t23k : Nat), ldc H t1b (t1o + 5) = some (.slice t23a t23n t23k) ∧
    (r = (.bool ((t23n : Int) == 0), H)))
    else
    (r = (.bool false, H)))
    else
    (if t16 = 3 then
    (if t5 = true then
    (r = (.bool false, H))
    else
    (∃ (t33a : Option Addr) (t33n t33k : Nat), ldc H t1b (t1o + 5) = some (.slice t33a t33n t33k) ∧
    (if (t33n : Int) = 0 then
    (r = (.bool t4, H))
    else
    (r = (.bool false, H)))))
    else
    (if t16 = 1 then
    (L1 t1b t1o t5 ((t16 == 1)) H r)
    else
    (L1 t1b t1o t5 ((t16 == 5)) H r)))) :
    L0 t1b t1o t4 t5 t16 t17 H r := by
  intro J
  show KR _ _ _ (.code (sub B [1, 1, 1, 0, 1, 0, 1]) :: S5) _ _ _
  by_cases c9 : t17 = true
  · replace h := iteT c9 h
    refine KR.bb true (vB (bT c9)) ?_
    refine KR.go 4 [(1, .pointer (some ⟨t1b, t1o, none⟩)), (21, .bool t5)] 50 (s' := (.reg (opsAt (sub B [1, 1, 1, 0, 1, 0, 1, 0, 0])) [2, 3, 4, 5, 6, 7] :: S7)) fun J => ?_
    by_cases c10 : t5 = true
    · replace h := iteT c10 h
      refine KR.setV 21 (by kernel_rfl) (bT c10) ?_
      refine KR.go 1 [(21, .bool true), (22, .pointer (some ⟨t1b, (t1o + 5), none⟩))] 50 (s' := (.reg (opsAt (sub B [1, 1, 1, 0, 1, 0, 1, 0, 0])) [3, 4, 5, 6, 7] :: S7)) fun J => ?_
      obtain ⟨t23a, t23n, t23k, q11, h⟩ := h
      refine KR.rd (one_ld (by kernel_rfl) q11) ?_
      refine KR.go 5 [(2, .bool ((t23n : Int) == 0))] 50 (s' := (.code (sub B [1, 1, 1, 0, 1, 0, 1, 0, 1]) :: S5)) fun J => ?_
      exact KR.fi h
    · replace h := iteF c10 h
      refine KR.setV 21 (by kernel_rfl) (bF c10) ?_
      refine KR.go 7 [(2, .bool false)] 50 (s' := (.code (sub B [1, 1, 1, 0, 1, 0, 1, 0, 1]) :: S5)) fun J => ?_
      exact KR.fi h
  · replace h := iteF c9 h
    refine KR.bb false (vB (bF c9)) ?_
    refine KR.go 5 [(1, .pointer (some ⟨t1b, t1o, none⟩)), (4, .bool t4), (5, .bool t5), (16, .int .i64 t16), (27, .bool (t16 == 3))] 50 (s' := (.code (sub B [1, 1, 1, 0, 1, 0, 1, 1, 1]) :: S5)) fun J => ?_
    by_cases c12 : t16 = 3
    · replace h := iteT c12 h
      refine KR.bb true (vB (eT c12)) ?_
      refine KR.go 5 [(1, .pointer (some ⟨t1b, t1o, none⟩)), (4, .bool t4), (31, .bool (!t5))] 50 (s' := (.reg (opsAt (sub B [1, 1, 1, 0, 1, 0, 1, 1, 1, 0, 0])) [3, 4, 5, 6, 7, 8, 9, 10, 11] :: S8)) fun J => ?_
      by_cases c13 : t5 = true
      · replace h := iteT c13 h
        refine KR.setV 31 (by kernel_rfl) (nB (bT c13)) ?_
        refine KR.go 10 [(2, .bool false)] 50 (s' := (.code (sub B [1, 1, 1, 0, 1, 0, 1, 1, 1, 0, 1]) :: S5)) fun J => ?_
        exact KR.fi h
      · replace h := iteF c13 h
        refine KR.setV 31 (by kernel_rfl) (nB (bF c13)) ?_
        refine KR.go 1 [(4, .bool t4), (31, .bool true), (32, .pointer (some ⟨t1b, (t1o + 5), none⟩))] 50 (s' := (.reg (opsAt (sub B [1, 1, 1, 0, 1, 0, 1, 1, 1, 0, 0])) [4, 5, 6, 7, 8, 9, 10, 11] :: S8)) fun J => ?_
        obtain ⟨t33a, t33n, t33k, q14, h⟩ := h
        refine KR.rd (one_ld (by kernel_rfl) q14) ?_
        refine KR.go 4 [(4, .bool t4), (37, .bool ((t33n : Int) == 0))] 50 (s' := (.reg (opsAt (sub B [1, 1, 1, 0, 1, 0, 1, 1, 1, 0, 0])) [9, 10, 11] :: S8)) fun J => ?_
        by_cases c15 : (t33n : Int) = 0
        · replace h := iteT c15 h
          refine KR.setV 37 (by kernel_rfl) (eT c15) ?_
          refine KR.go 4 [(2, .bool t4)] 50 (s' := (.code (sub B [1, 1, 1, 0, 1, 0, 1, 1, 1, 0, 1]) :: S5)) fun J => ?_
          exact KR.fi h
        · replace h := iteF c15 h
          refine KR.setV 37 (by kernel_rfl) (eF c15) ?_
          refine KR.go 4 [(2, .bool false)] 50 (s' := (.code (sub B [1, 1, 1, 0, 1, 0, 1, 1, 1, 0, 1]) :: S5)) fun J => ?_
          exact KR.fi h
    · replace h := iteF c12 h
      refine KR.bb false (vB (eF c12)) ?_
      refine KR.go 6 [(1, .pointer (some ⟨t1b, t1o, none⟩)), (5, .bool t5), (16, .int .i64 t16), (40, .bool (t16 == 1))] 50 (s' := (.code (sub B [1, 1, 1, 0, 1, 0, 1, 1, 1, 1, 0, 1]) :: S9)) fun J => ?_
      by_cases c16 : t16 = 1
      · replace h := iteT c16 h
        refine KR.bb true (vB (eT c16)) ?_
        exact KR.go 1 [(1, .pointer (some ⟨t1b, t1o, none⟩)), (5, .bool t5), (40, .bool (t16 == 1))] 50 (s' := (.code (sub B [1, 1, 1, 0, 1, 0, 1, 1, 1, 1, 1]) :: S5)) h
      · replace h := iteF c16 h
        refine KR.bb false (vB (eF c16)) ?_
        exact KR.go 4 [(1, .pointer (some ⟨t1b, t1o, none⟩)), (5, .bool t5), (40, .bool (t16 == 5))] 50 (s' := (.code (sub B [1, 1, 1, 0, 1, 0, 1, 1, 1, 1, 1]) :: S5)) h
theorem L1_step {t1b t1o : Nat} {t5 t40 : Bool} {H : Heap} {r : Value × Heap} (h :
    if t40 = true then
    (if t5 = true then
    (∃ (t46a : Option Addr) (t46n t46k : Nat), ldc H t1b (t1o + 5) = some (.slice t46a t46n t46k) ∧
    (r = (.bool (decide ((t46n : Int) > 0)), H)))
    else
    (r = (.bool false, H)))
    else
    (r = (.bool false, H))) :
    L1 t1b t1o t5 t40 H r := by
  intro J
  show KR _ _ _ (.code (sub B [1, 1, 1, 0, 1, 0, 1, 1, 1, 1, 1]) :: S5) _ _ _
  by_cases c17 : t40 = true
  · replace h := iteT c17 h
    refine KR.bb true (vB (bT c17)) ?_
    refine KR.go 4 [(1, .pointer (some ⟨t1b, t1o, none⟩)), (44, .bool t5)] 50 (s' := (.reg (opsAt (sub B [1, 1, 1, 0, 1, 0, 1, 1, 1, 1, 1, 0, 0])) [2, 3, 4, 5, 6, 7] :: S10)) fun J => ?_
    by_cases c18 : t5 = true
    · replace h := iteT c18 h
      refine KR.setV 44 (by kernel_rfl) (bT c18) ?_
      refine KR.go 1 [(44, .bool true), (45, .pointer (some ⟨t1b, (t1o + 5), none⟩))] 50 (s' := (.reg (opsAt (sub B [1, 1, 1, 0, 1, 0, 1, 1, 1, 1, 1, 0, 0])) [3, 4, 5, 6, 7] :: S10)) fun J => ?_
      obtain ⟨t46a, t46n, t46k, q19, h⟩ := h
      refine KR.rd (one_ld (by kernel_rfl) q19) ?_
      refine KR.go 5 [(2, .bool (decide ((t46n : Int) > 0)))] 50 (s' := (.code (sub B [1, 1, 1, 0, 1, 0, 1, 1, 1, 1, 1, 0, 1]) :: S5)) fun J => ?_
      exact KR.fi h
    · replace h := iteF c18 h
      refine KR.setV 44 (by kernel_rfl) (bF c18) ?_
      refine KR.go 7 [(2, .bool false)] 50 (s' := (.code (sub B [1, 1, 1, 0, 1, 0, 1, 1, 1, 1, 1, 0, 1]) :: S5)) fun J => ?_
      exact KR.fi h
  · replace h := iteF c17 h
    refine KR.bb false (vB (bF c17)) ?_
    refine KR.go 6 [(2, .bool false)] 50 (s' := (.code (sub B [1, 1, 1, 1, 1]) :: [])) fun J => ?_
    exact KR.fi h
theorem call {a0c0 a0c1 a0c2 a0c3 : Int} {a0c4a : Option Addr} {a0c4n a0c4k : Nat} {a0c5a : Option Addr} {a0c5n a0c5k : Nat} {H : Heap} {r : Value × Heap} (h :
    ∃ (H_1 : Heap), H_1 = H.push (.row [.int .i64 a0c0, .int .i64 a0c1, .int .i64 a0c2, .int .i64 a0c3, .slice a0c4a a0c4n a0c4k, .slice a0c5a a0c5n a0c5k] true) ∧
    (∃ (t8a : Option Addr) (t8n t8k : Nat), ldc H_1 H.next 4 = some (.slice t8a t8n t8k) ∧
    (∃ (t9r0c0 t9r0c1 t9r0c2 t9r0c3 : Int) (t9r0c4a : Option Addr) (t9r0c4n t9r0c4k : Nat) (t9r1 : Bool) (H_2 : Heap), xC Try.prog good 21 [.slice t8a t8n t8k, .int .i64 1] H_1 = some (.tuple #[.agg #[.int .i64 t9r0c0, .int .i64 t9r0c1, .int .i64 t9r0c2, .int .i64 t9r0c3, .slice t9r0c4a t9r0c4n t9r0c4k], .bool t9r1], H_2) ∧
    (∃ (H_3 : Heap), H_3 = H_2.push (.row [.int .i64 0, .int .i64 0, .int .i64 0, .int .i64 0, .slice none 0 0] true) ∧
    (∃ (H_4 : Heap), stc H_3 H_2.next 0 [.int .i64 t9r0c0, .int .i64 t9r0c1, .int .i64 t9r0c2, .int .i64 t9r0c3, .slice t9r0c4a t9r0c4n t9r0c4k] = some H_4 ∧
    (∃ (t13 : Int), ldc H_4 H.next 2 = some (.int .i64 t13) ∧
    (∃ (t16 : Int), ldc H_4 H.next 0 = some (.int .i64 t16) ∧
    (if t16 = 2 then
    (L0 (H.next) 0 t9r1 ((!(t13 == 64))) t16 ((t16 == 2)) H_4 r)
    else
    (L0 (H.next) 0 t9r1 ((!(t13 == 64))) t16 ((t16 == 4)) H_4 r))))))))) :
    xC Try.prog good 66 [.agg #[.int .i64 a0c0, .int .i64 a0c1, .int .i64 a0c2, .int .i64 a0c3, .slice a0c4a a0c4n a0c4k, .slice a0c5a a0c5n a0c5k]] H = some r := by
  refine KR.enter (fn := Try.f66) (c := B) (by kernel_rfl) (by kernel_rfl) ?_
  refine KR.go 2 [(0, .agg #[.int .i64 a0c0, .int .i64 a0c1, .int .i64 a0c2, .int .i64 a0c3, .slice a0c4a a0c4n a0c4k, .slice a0c5a a0c5n a0c5k])] 50 (s' := (.reg (opsAt (sub B [0])) [0, 1] :: S0)) fun J => ?_
  obtain ⟨H_1, q1, h⟩ := h
  refine KR.mk (w := pRow [.int .i64 a0c0, .int .i64 a0c1, .int .i64 a0c2, .int .i64 a0c3, .slice a0c4a a0c4n a0c4k, .slice a0c5a a0c5n a0c5k]) (one_al (by kernel_rfl)) q1 ?_
  refine KR.go 5 [(1, .pointer (some ⟨H.next, 0, none⟩)), (7, .pointer (some ⟨H.next, 4, none⟩))] 50 (s' := (.reg (opsAt (sub B [1, 0])) [1, 2, 3, 4, 5, 6, 7, 8] :: S1)) fun J => ?_
  obtain ⟨t8a, t8n, t8k, q2, h⟩ := h
  refine KR.rd (one_ld (by kernel_rfl) q2) ?_
  obtain ⟨t9r0c0, t9r0c1, t9r0c2, t9r0c3, t9r0c4a, t9r0c4n, t9r0c4k, t9r1, H_2, q3, h⟩ := h
  refine KR.se (one_ca (by kernel_rfl) q3) ?_
  refine KR.go 3 [(1, .pointer (some ⟨H.next, 0, none⟩)), (10, .agg #[.int .i64 t9r0c0, .int .i64 t9r0c1, .int .i64 t9r0c2, .int .i64 t9r0c3, .slice t9r0c4a t9r0c4n t9r0c4k]), (11, .bool t9r1)] 50 (s' := (.reg (opsAt (sub B [1, 0])) [6, 7, 8] :: S1)) fun J => ?_
  obtain ⟨H_3, q4, h⟩ := h
  refine KR.mk (w := pRow [.int .i64 0, .int .i64 0, .int .i64 0, .int .i64 0, .slice none 0 0]) (one_al (by kernel_rfl)) q4 ?_
  obtain ⟨H_4, q5, h⟩ := h
  refine KR.se (one_st (by kernel_rfl) q5) ?_
  refine KR.go 5 [(1, .pointer (some ⟨H.next, 0, none⟩)), (4, .bool t9r1), (12, .pointer (some ⟨H.next, 2, none⟩))] 50 (s' := (.reg (opsAt (sub B [1, 1, 0])) [1, 2, 3] :: S2)) fun J => ?_
  obtain ⟨t13, q6, h⟩ := h
  refine KR.rd (one_ld (by kernel_rfl) q6) ?_
  refine KR.go 7 [(1, .pointer (some ⟨H.next, 0, none⟩)), (4, .bool t9r1), (5, .bool (!(t13 == 64))), (15, .pointer (some ⟨H.next, 0, none⟩))] 50 (s' := (.reg (opsAt (sub B [1, 1, 1, 0, 0])) [1] :: S4)) fun J => ?_
  obtain ⟨t16, q7, h⟩ := h
  refine KR.rd (one_ld (by kernel_rfl) q7) ?_
  refine KR.go 8 [(1, .pointer (some ⟨H.next, 0, none⟩)), (4, .bool t9r1), (5, .bool (!(t13 == 64))), (16, .int .i64 t16), (17, .bool (t16 == 2))] 50 (s' := (.code (sub B [1, 1, 1, 0, 1, 0, 0, 1]) :: S6)) fun J => ?_
  by_cases c8 : t16 = 2
  · replace h := iteT c8 h
    refine KR.bb true (vB (eT c8)) ?_
    exact KR.go 1 [(1, .pointer (some ⟨H.next, 0, none⟩)), (4, .bool t9r1), (5, .bool (!(t13 == 64))), (16, .int .i64 t16), (17, .bool (t16 == 2))] 50 (s' := (.code (sub B [1, 1, 1, 0, 1, 0, 1]) :: S5)) h
  · replace h := iteF c8 h
    refine KR.bb false (vB (eF c8)) ?_
    exact KR.go 4 [(1, .pointer (some ⟨H.next, 0, none⟩)), (4, .bool t9r1), (5, .bool (!(t13 == 64))), (16, .int .i64 t16), (17, .bool (t16 == 4))] 50 (s' := (.code (sub B [1, 1, 1, 0, 1, 0, 1]) :: S5)) h
end F66
/-! #### 68 slices.EqualFunc[[]campanile/api.IE,[]campanile/api.IE,campanile/api.IE,campanile/api.IE] -/
/-! #### 69 slices.Equal[[]byte,byte] -/
namespace F69
noncomputable def B : Code := bodyOf Try.f69
noncomputable def S0 : List It := (.code (sub B [1, 1]) :: [])
noncomputable def S1 : List It := (.code (sub B [1, 1, 1]) :: [])
noncomputable def S2 : List It := (.blk 0 :: S1)
noncomputable def S3 : List It := (.lp (sub B [1, 1, 0, 1, 0, 0]) :: S2)
noncomputable def S4 : List It := (.code (sub B [1, 1, 0, 1, 0, 0, 1, 1]) :: S3)
noncomputable def S5 : List It := (.code (sub B [1, 1, 0, 1, 0, 0, 1, 1, 1]) :: S3)
noncomputable def S6 : List It := (.blk 1 :: S5)
noncomputable def S7 : List It := (.code (sub B [1, 1, 0, 1, 0, 0, 1, 1, 0, 0, 1, 1]) :: S6)
def L0 (t0a : Option Addr) (t0n t0k : Nat) (t1a : Option Addr) (t1n t1k : Nat) (t12 t13 : Int) (H : Heap) (r : Value × Heap) : Prop := ∀ J, KR Try.prog good Try.f69 S3 (mat J 26 [(0, .slice t0a t0n t0k), (1, .slice t1a t1n t1k), (12, .int .i64 t12), (13, .int .i64 t13)]) H r
theorem L0_step {t0a : Option Addr} {t0n t0k : Nat} {t1a : Option Addr} {t1n t1k : Nat} {t12 t13 : Int} {H : Heap} {r : Value × Heap} (h :
    if t13 < t12 then
    (∃ (t0ab t0ao : Nat), t0a = some ⟨t0ab, t0ao, none⟩ ∧
    ((0 : Int) ≤ t13 ∧ t13 < (t0n : Int) ∧
    (∃ (t19 : Int), ldc H t0ab (t0ao + Int.toNat t13 * 1) = some (.int .u8 t19) ∧
    (∃ (t1ab t1ao : Nat), t1a = some ⟨t1ab, t1ao, none⟩ ∧
    ((0 : Int) ≤ t13 ∧ t13 < (t1n : Int) ∧
    (∃ (t23 : Int), ldc H t1ab (t1ao + Int.toNat t13 * 1) = some (.int .u8 t23) ∧
    (if t19 = t23 then
    (L0 ((some ⟨t0ab, t0ao, none⟩)) t0n t0k ((some ⟨t1ab, t1ao, none⟩)) t1n t1k t12 ((IntKind.wrap .i64 (t13 + 1))) H r)
    else
    (r = (.bool false, H)))))))))
    else
    (r = (.bool true, H))) :
    L0 t0a t0n t0k t1a t1n t1k t12 t13 H r := by
  intro J
  show KR _ _ _ (.lp (sub B [1, 1, 0, 1, 0, 0]) :: S2) _ _ _
  refine KR.go 6 [(0, .slice t0a t0n t0k), (1, .slice t1a t1n t1k), (12, .int .i64 t12), (13, .int .i64 t13), (14, .bool (decide (t13 < t12)))] 26 (s' := (.code (sub B [1, 1, 0, 1, 0, 0, 1, 0]) :: S4)) fun J => ?_
  by_cases c2 : t13 < t12
  · replace h := iteT c2 h
    refine KR.bb true (vB (dT c2)) ?_
    refine KR.go 9 [(0, .slice t0a t0n t0k), (1, .slice t1a t1n t1k), (5, .int .i64 t13), (12, .int .i64 t12), (13, .int .i64 t13)] 26 (s' := (.code (sub B [1, 1, 0, 1, 0, 0, 1, 1, 0, 0, 1, 0]) :: S7)) fun J => ?_
    refine KR.sd (by kernel_rfl) ?_
    obtain ⟨t0ab, t0ao, rfl, h⟩ := h
    refine KR.go 2 [(0, .slice (some ⟨t0ab, t0ao, none⟩) t0n t0k), (1, .slice t1a t1n t1k), (5, .int .i64 t13), (12, .int .i64 t12), (13, .int .i64 t13), (16, .slice (some ⟨t0ab, t0ao, none⟩) t0n t0k), (17, .int .i64 t13)] 26 (s' := (.reg (opsAt (sub B [1, 1, 0, 1, 0, 0, 1, 1, 0, 0, 1, 0])) [2, 3, 4, 5, 6, 7, 8] :: S7)) fun J => ?_
    obtain ⟨q3, q3x, h⟩ := h
    refine KR.p (one_ix 1 t0ab t0ao (by kernel_rfl) q3 q3x) ?_
    obtain ⟨t19, q4, h⟩ := h
    refine KR.rd (one_ld (by kernel_rfl) q4) ?_
    obtain ⟨t1ab, t1ao, rfl, h⟩ := h
    refine KR.go 2 [(0, .slice (some ⟨t0ab, t0ao, none⟩) t0n t0k), (1, .slice (some ⟨t1ab, t1ao, none⟩) t1n t1k), (12, .int .i64 t12), (13, .int .i64 t13), (19, .int .u8 t19), (20, .slice (some ⟨t1ab, t1ao, none⟩) t1n t1k), (21, .int .i64 t13)] 26 (s' := (.reg (opsAt (sub B [1, 1, 0, 1, 0, 0, 1, 1, 0, 0, 1, 0])) [6, 7, 8] :: S7)) fun J => ?_
    obtain ⟨q5, q5x, h⟩ := h
    refine KR.p (one_ix 1 t1ab t1ao (by kernel_rfl) q5 q5x) ?_
    obtain ⟨t23, q6, h⟩ := h
    refine KR.rd (one_ld (by kernel_rfl) q6) ?_
    refine KR.go 2 [(0, .slice (some ⟨t0ab, t0ao, none⟩) t0n t0k), (1, .slice (some ⟨t1ab, t1ao, none⟩) t1n t1k), (12, .int .i64 t12), (13, .int .i64 t13), (24, .bool (!(t19 == t23)))] 26 (s' := (.code (sub B [1, 1, 0, 1, 0, 0, 1, 1, 0, 0, 1, 1]) :: S6)) fun J => ?_
    by_cases c7 : t19 = t23
    · replace h := iteT c7 h
      refine KR.bb false (vB (nB (eT c7))) ?_
      exact KR.go 6 [(0, .slice (some ⟨t0ab, t0ao, none⟩) t0n t0k), (1, .slice (some ⟨t1ab, t1ao, none⟩) t1n t1k), (12, .int .i64 t12), (13, .int .i64 (IntKind.wrap .i64 (t13 + 1)))] 26 (s' := (.lp (sub B [1, 1, 0, 1, 0, 0]) :: S2)) h
    · replace h := iteF c7 h
      refine KR.bb true (vB (nB (eF c7))) ?_
      refine KR.go 4 [(4, .bool false)] 26 (s' := (.code (sub B [1, 1, 0, 1, 0, 0, 1, 1, 0, 0, 1, 1, 0, 1]) :: S6)) fun J => ?_
      exact KR.fi h
  · replace h := iteF c2 h
    refine KR.bb false (vB (dF c2)) ?_
    refine KR.go 5 [(4, .bool true)] 26 (s' := (.code (sub B [1, 1, 1, 1]) :: [])) fun J => ?_
    exact KR.fi h
theorem call {a0a : Option Addr} {a0n a0k : Nat} {a1a : Option Addr} {a1n a1k : Nat} {H : Heap} {r : Value × Heap} (h :
    if (a0n : Int) = (a1n : Int) then
    (L0 a0a a0n a0k a1a a1n a1k ((a0n : Int)) 0 H r)
    else
    (r = (.bool false, H))) :
    xC Try.prog good 69 [.slice a0a a0n a0k, .slice a1a a1n a1k] H = some r := by
  refine KR.enter (fn := Try.f69) (c := B) (by kernel_rfl) (by kernel_rfl) ?_
  refine KR.go 13 [(0, .slice a0a a0n a0k), (1, .slice a1a a1n a1k), (10, .bool (!((a0n : Int) == (a1n : Int))))] 26 (s' := (.code (sub B [1, 0, 1]) :: S0)) fun J => ?_
  by_cases c1 : (a0n : Int) = (a1n : Int)
  · replace h := iteT c1 h
    refine KR.bb false (vB (nB (eT c1))) ?_
    exact KR.go 10 [(0, .slice a0a a0n a0k), (1, .slice a1a a1n a1k), (12, .int .i64 (a0n : Int)), (13, .int .i64 0)] 26 (s' := (.lp (sub B [1, 1, 0, 1, 0, 0]) :: S2)) h
  · replace h := iteF c1 h
    refine KR.bb true (vB (nB (eF c1))) ?_
    refine KR.go 4 [(4, .bool false)] 26 (s' := (.code (sub B [1, 0, 1, 0, 1]) :: S0)) fun J => ?_
    exact KR.fi h
end F69
/-! #### 78 campanile/crc.Sum -/
namespace F78
noncomputable def B : Code := bodyOf Try.f78
noncomputable def S0 : List It := (.code (sub B [1, 1, 1]) :: [])
noncomputable def S1 : List It := (.blk 0 :: S0)
noncomputable def S2 : List It := (.lp (sub B [1, 1, 0, 1, 0, 0]) :: S1)
noncomputable def S3 : List It := (.code (sub B [1, 1, 0, 1, 0, 0, 1, 1]) :: S2)
noncomputable def S4 : List It := (.code (sub B [1, 1, 0, 1, 0, 0, 1, 1, 1]) :: S2)
noncomputable def S5 : List It := (.blk 1 :: S4)
noncomputable def S6 : List It := (.code (sub B [1, 1, 0, 1, 0, 0, 1, 1, 0, 0, 1]) :: S5)
noncomputable def S7 : List It := (.blk 2 :: S5)
noncomputable def S8 : List It := (.lp (sub B [1, 1, 0, 1, 0, 0, 1, 1, 0, 0, 1, 1, 1, 0, 0]) :: S7)
noncomputable def S9 : List It := (.code (sub B [1, 1, 0, 1, 0, 0, 1, 1, 0, 0, 1, 1, 1, 0, 0, 1, 1]) :: S8)
def L0 (t3 : Int) (t6a : Option Addr) (t6n t6k : Nat) (t7 t8 : Int) (H : Heap) (r : Value × Heap) : Prop := ∀ J, KR Try.prog good Try.f78 S2 (mat J 28 [(3, .int .u16 t3), (6, .slice t6a t6n t6k), (7, .int .i64 t7), (8, .int .i64 t8)]) H r
def L1 (t3 : Int) (t6b t6o t6n t6k : Nat) (t7 t8 t16 : Int) (H : Heap) (r : Value × Heap) : Prop := ∀ J, KR Try.prog good Try.f78 S8 (mat J 28 [(3, .int .u16 t3), (6, .slice (some ⟨t6b, t6o, none⟩) t6n t6k), (7, .int .i64 t7), (8, .int .i64 t8), (16, .int .i64 t16)]) H r
theorem L0_step {t3 : Int} {t6a : Option Addr} {t6n t6k : Nat} {t7 t8 : Int} {H : Heap} {r : Value × Heap} (h :
    if t8 < t7 then
    (∃ (t6ab t6ao : Nat), t6a = some ⟨t6ab, t6ao, none⟩ ∧
    ((0 : Int) ≤ t8 ∧ t8 < (t6n : Int) ∧
    (∃ (t11 : Int), ldc H t6ab (t6ao + Int.toNat t8 * 1) = some (.int .u8 t11) ∧
    (L1 ((ixor .u16 t3 (IntKind.wrap .u16 t11))) t6ab t6ao t6n t6k t7 t8 0 H r))))
    else
    (r = (.int .u16 t3, H))) :
    L0 t3 t6a t6n t6k t7 t8 H r := by
  intro J
  show KR _ _ _ (.lp (sub B [1, 1, 0, 1, 0, 0]) :: S1) _ _ _
  refine KR.go 6 [(3, .int .u16 t3), (6, .slice t6a t6n t6k), (7, .int .i64 t7), (8, .int .i64 t8), (9, .bool (decide (t8 < t7)))] 28 (s' := (.code (sub B [1, 1, 0, 1, 0, 0, 1, 0]) :: S3)) fun J => ?_
  by_cases c1 : t8 < t7
  · replace h := iteT c1 h
    refine KR.bb true (vB (dT c1)) ?_
    obtain ⟨t6ab, t6ao, rfl, h⟩ := h
    refine KR.go 5 [(3, .int .u16 t3), (6, .slice (some ⟨t6ab, t6ao, none⟩) t6n t6k), (7, .int .i64 t7), (8, .int .i64 t8)] 28 (s' := (.reg (opsAt (sub B [1, 1, 0, 1, 0, 0, 1, 1, 0, 0, 0])) [0, 1, 2] :: S6)) fun J => ?_
    obtain ⟨q2, q2x, h⟩ := h
    refine KR.p (one_ix 1 t6ab t6ao (by kernel_rfl) q2 q2x) ?_
    obtain ⟨t11, q3, h⟩ := h
    refine KR.rd (one_ld (by kernel_rfl) q3) ?_
    exact KR.go 16 [(3, .int .u16 (ixor .u16 t3 (IntKind.wrap .u16 t11))), (6, .slice (some ⟨t6ab, t6ao, none⟩) t6n t6k), (7, .int .i64 t7), (8, .int .i64 t8), (16, .int .i64 0)] 28 (s' := (.lp (sub B [1, 1, 0, 1, 0, 0, 1, 1, 0, 0, 1, 1, 1, 0, 0]) :: S7)) h
  · replace h := iteF c1 h
    refine KR.bb false (vB (dF c1)) ?_
    refine KR.go 6 [(2, .int .u16 t3)] 28 (s' := (.code (sub B [1, 1, 1, 1]) :: [])) fun J => ?_
    exact KR.fi h
theorem L1_step {t3 : Int} {t6b t6o t6n t6k : Nat} {t7 t8 t16 : Int} {H : Heap} {r : Value × Heap} (h :
    if t16 < 8 then
    (L1 ((ixor .u16 (ishr .u16 t3 1) (iand .u16 33800 (IntKind.wrap .u16 (0 - (iand .u16 t3 1)))))) t6b t6o t6n t6k t7 t8 ((IntKind.wrap .i64 (t16 + 1))) H r)
    else
    (L0 t3 ((some ⟨t6b, t6o, none⟩)) t6n t6k t7 ((IntKind.wrap .i64 (t8 + 1))) H r)) :
    L1 t3 t6b t6o t6n t6k t7 t8 t16 H r := by
  intro J
  show KR _ _ _ (.lp (sub B [1, 1, 0, 1, 0, 0, 1, 1, 0, 0, 1, 1, 1, 0, 0]) :: S7) _ _ _
  refine KR.go 6 [(3, .int .u16 t3), (6, .slice (some ⟨t6b, t6o, none⟩) t6n t6k), (7, .int .i64 t7), (8, .int .i64 t8), (16, .int .i64 t16), (17, .bool (decide (t16 < 8)))] 28 (s' := (.code (sub B [1, 1, 0, 1, 0, 0, 1, 1, 0, 0, 1, 1, 1, 0, 0, 1, 0]) :: S9)) fun J => ?_
  by_cases c4 : t16 < 8
  · replace h := iteT c4 h
    refine KR.bb true (vB (dT c4)) ?_
    exact KR.go 18 [(3, .int .u16 (ixor .u16 (ishr .u16 t3 1) (iand .u16 33800 (IntKind.wrap .u16 (0 - (iand .u16 t3 1)))))), (6, .slice (some ⟨t6b, t6o, none⟩) t6n t6k), (7, .int .i64 t7), (8, .int .i64 t8), (16, .int .i64 (IntKind.wrap .i64 (t16 + 1)))] 28 (s' := (.lp (sub B [1, 1, 0, 1, 0, 0, 1, 1, 0, 0, 1, 1, 1, 0, 0]) :: S7)) h
  · replace h := iteF c4 h
    refine KR.bb false (vB (dF c4)) ?_
    exact KR.go 6 [(3, .int .u16 t3), (6, .slice (some ⟨t6b, t6o, none⟩) t6n t6k), (7, .int .i64 t7), (8, .int .i64 (IntKind.wrap .i64 (t8 + 1)))] 28 (s' := (.lp (sub B [1, 1, 0, 1, 0, 0]) :: S1)) h
theorem call {a0a : Option Addr} {a0n a0k : Nat} {H : Heap} {r : Value × Heap} (h :
    L0 0 a0a a0n a0k ((a0n : Int)) 0 H r) :
    xC Try.prog good 78 [.slice a0a a0n a0k] H = some r := by
  refine KR.enter (fn := Try.f78) (c := B) (by kernel_rfl) (by kernel_rfl) ?_
  exact KR.go 17 [(3, .int .u16 0), (6, .slice a0a a0n a0k), (7, .int .i64 (a0n : Int)), (8, .int .i64 0)] 28 (s' := (.lp (sub B [1, 1, 0, 1, 0, 0]) :: S1)) h
end F78
/-! #### 79 slices.Clone[[]byte,byte] -/
namespace F79
noncomputable def B : Code := bodyOf Try.f79
noncomputable def S0 : List It := (.code (sub B [1, 1]) :: [])
noncomputable def S2 : List It := (.code (sub B [1, 1, 1]) :: [])
noncomputable def S1 : List It := (.code (sub B [1, 0, 1]) :: S0)
theorem call {a0a : Option Addr} {a0n a0k : Nat} {H : Heap} {r : Value × Heap} (h :
    if (Option.isNone a0a) = true then
    (r = (.slice none 0 0, H))
    else
    (∃ (H_1 : Heap), H_1 = H.push (.row [] true) ∧
    (∃ (t7a : Option Addr) (t7n t7k : Nat) (H_2 : Heap), papp H_1 1 1 (some ⟨H.next, 0, none⟩) 0 (UNK 1) a0a a0n a0k = some ((t7a, t7n, t7k), H_2) ∧
    (r = (.slice t7a t7n t7k, H_2))))) :
    xC Try.prog good 79 [.slice a0a a0n a0k] H = some r := by
  refine KR.enter (fn := Try.f79) (c := B) (by kernel_rfl) (by kernel_rfl) ?_
  refine KR.go 8 [(0, .slice a0a a0n a0k), (3, .slice a0a a0n a0k)] 8 (s' := (.reg (opsAt (sub B [1, 0, 0])) [1] :: S1)) fun J => ?_
  refine KR.p (one_nl false a0a (by kernel_rfl)) ?_
  refine KR.go 1 [(0, .slice a0a a0n a0k), (4, .bool (Option.isNone a0a))] 8 (s' := (.code (sub B [1, 0, 1]) :: S0)) fun J => ?_
  by_cases c2 : (Option.isNone a0a) = true
  · replace h := iteT c2 h
    refine KR.bb true (vB (bT c2)) ?_
    refine KR.go 4 [(2, .slice none 0 0)] 8 (s' := (.code (sub B [1, 0, 1, 0, 1]) :: S0)) fun J => ?_
    exact KR.fi h
  · replace h := iteF c2 h
    refine KR.bb false (vB (bF c2)) ?_
    refine KR.go 3 [(0, .slice a0a a0n a0k)] 8 (s' := (.reg (opsAt (sub B [1, 1, 0])) [0, 1, 2, 3] :: S2)) fun J => ?_
    obtain ⟨H_1, q3, h⟩ := h
    refine KR.mk (w := sRow 0 1 []) (one_al (by kernel_rfl)) q3 ?_
    refine KR.go 1 [(5, .slice (some ⟨H.next, 0, none⟩) 0 (UNK 1)), (6, .slice a0a a0n a0k)] 8 (s' := (.reg (opsAt (sub B [1, 1, 0])) [2, 3] :: S2)) fun J => ?_
    obtain ⟨t7a, t7n, t7k, H_2, q4, h⟩ := h
    refine KR.se (one_ap 1 1 (by kernel_rfl) q4) ?_
    refine KR.go 2 [(2, .slice t7a t7n t7k)] 8 (s' := (.code (sub B [1, 1, 1]) :: [])) fun J => ?_
    exact KR.fi h
end F79
end Go.X
