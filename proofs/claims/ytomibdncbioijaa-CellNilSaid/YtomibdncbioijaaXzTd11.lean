/- The walks of the functions: printed. -/
import Derived.Test.YtomibdncbioijaaXzGd
set_option linter.unusedVariables false
set_option maxRecDepth 100000
namespace Go.X
open Go Go.RowKit Go.Proofs
/-! #### 11 campanile/campanilelaw8.CellNil -/
namespace F11
noncomputable def B : Code := bodyOf Try.f11
noncomputable def S0 : List It := (.code (sub B [1]) :: [])
noncomputable def S1 : List It := (.code (sub B [1, 1, 1]) :: [])
theorem call {a0c0 : Int} {a0c1 : Int} {a0c2 : Int} {a0c3 : Int} {a0c4 : Int} {a0c5 : Int} {a0c6 : Int} {a0c7 : Int} {a1 : Int} {H : Heap} {r : Value × Heap} (h :
    ∃ (H_1 : Heap), H_1 = H.push (.row [.int .i64 a0c0, .int .i64 a0c1, .int .i64 a0c2, .int .i64 a0c3, .int .i64 a0c4, .int .i64 a0c5, .int .i64 a0c6, .int .i64 a0c7] true) ∧
    (∃ (t8 : Int), ldc H_1 H.next 1 = some (.int .i64 t8) ∧
    (∃ (t10 : Int), ldc H_1 H.next 2 = some (.int .i64 t10) ∧
    (∃ (t11 : Int) (H_2 : Heap), xC Try.prog good 20 [.pointer none, .int .i64 t8, .int .i64 t10] H_1 = some (.int .i64 t11, H_2) ∧
    (if t11 = 1 then
    (∃ (t16c0 : Int) (t16c1 : Int) (t16c2 : Int) (t16c3 : Int) (t16c4 : Int), ldAll H_2 H.next 3 [.int .i64 t16c0, .int .i64 t16c1, .int .i64 t16c2, .int .i64 t16c3, .int .i64 t16c4] ∧
    (∃ (t17 : Int) (H_3 : Heap), xC Try.prog good 18 [.pointer none, .agg #[.int .i64 t16c0, .int .i64 t16c1, .int .i64 t16c2, .int .i64 t16c3, .int .i64 t16c4]] H_2 = some (.int .i64 t17, H_3) ∧
    (if t17 = 1 then
    (∃ (t23c0 : Int) (t23c1 : Int) (t23c2 : Int) (t23c3 : Int) (t23c4 : Int), ldAll H_3 H.next 3 [.int .i64 t23c0, .int .i64 t23c1, .int .i64 t23c2, .int .i64 t23c3, .int .i64 t23c4] ∧
    (∃ (t24 : Int) (H_4 : Heap), xC Try.prog good 26 [.pointer none, .agg #[.int .i64 t23c0, .int .i64 t23c1, .int .i64 t23c2, .int .i64 t23c3, .int .i64 t23c4]] H_3 = some (.int .i64 t24, H_4) ∧
    (if t24 = 1 then
    (∃ (t30a : Option Addr) (t30n : Nat) (t30k : Nat) (H_5 : Heap), xC Try.prog good 21 [.pointer none, .int .i64 a1] H_4 = some (.slice t30a t30n t30k, H_5) ∧
    (if ((t30n : Nat) : Int) = 0 then
    (∃ (t36a : Option Addr) (t36n : Nat) (t36k : Nat) (H_6 : Heap), xC Try.prog good 25 [.pointer none] H_5 = some (.slice t36a t36n t36k, H_6) ∧
    (if ((t36n : Nat) : Int) = 0 then
    (∃ (t43 : Int), ldc H_6 H.next 1 = some (.int .i64 t43) ∧
    (∃ (t44 : Int) (H_7 : Heap), xC Try.prog good 24 [.pointer none, .int .i64 t43] H_6 = some (.int .i64 t44, H_7) ∧
    (if t44 = 0 then
    (∃ (t48 : Bool) (H_8 : Heap), xC Try.prog good 19 [] H_7 = some (.bool t48, H_8) ∧
    (r = (.bool t48, H_8)))
    else
    (r = (.bool false, H_7)))))
    else
    (r = (.bool false, H_6))))
    else
    (r = (.bool false, H_5))))
    else
    (r = (.bool false, H_4)))))
    else
    (r = (.bool false, H_3)))))
    else
    (r = (.bool false, H_2))))))) :
    xC Try.prog good 11 [.agg #[.int .i64 a0c0, .int .i64 a0c1, .int .i64 a0c2, .int .i64 a0c3, .int .i64 a0c4, .int .i64 a0c5, .int .i64 a0c6, .int .i64 a0c7], .int .i64 a1] H = some r := by
  refine KR.enter (fn := Try.f11) (c := B) (by kernel_rfl) (by kernel_rfl) ?_
  refine KR.run 2 [(0, .agg #[.int .i64 a0c0, .int .i64 a0c1, .int .i64 a0c2, .int .i64 a0c3, .int .i64 a0c4, .int .i64 a0c5, .int .i64 a0c6, .int .i64 a0c7]), (1, .int .i64 a1)] 50 (s' := (.reg (opsAt (sub B [0])) [0, 1] :: S0)) (by kernel_rfl) fun J => ?_
  obtain ⟨H_1, q1, h⟩ := h
  refine KR.mk (w := pRow [.int .i64 a0c0, .int .i64 a0c1, .int .i64 a0c2, .int .i64 a0c3, .int .i64 a0c4, .int .i64 a0c5, .int .i64 a0c6, .int .i64 a0c7]) (one_al (by kernel_rfl)) q1 ?_
  refine KR.run 10 [(1, .int .i64 a1), (2, .pointer (some ⟨H.next, 0, none⟩)), (5, .pointer none), (6, .pointer none), (7, .pointer (some ⟨H.next, 1, none⟩))] 50 (s' := (.reg (opsAt (sub B [1, 1, 0])) [2, 3, 4, 5, 6, 7, 8, 9, 10, 11, 12, 13, 14, 15, 16, 17, 18, 19, 20, 21, 22, 23, 24, 25, 26, 27, 28, 29, 30, 31, 32, 33, 34, 35, 36, 37, 38, 39, 40, 41, 42, 43, 44] :: S1)) (by kernel_rfl) fun J => ?_
  obtain ⟨t8, q2, h⟩ := h
  refine KR.rd (one_ld (by kernel_rfl) q2) ?_
  refine KR.run 1 [(1, .int .i64 a1), (2, .pointer (some ⟨H.next, 0, none⟩)), (5, .pointer none), (6, .pointer none), (8, .int .i64 t8), (9, .pointer (some ⟨H.next, 2, none⟩))] 50 (s' := (.reg (opsAt (sub B [1, 1, 0])) [4, 5, 6, 7, 8, 9, 10, 11, 12, 13, 14, 15, 16, 17, 18, 19, 20, 21, 22, 23, 24, 25, 26, 27, 28, 29, 30, 31, 32, 33, 34, 35, 36, 37, 38, 39, 40, 41, 42, 43, 44] :: S1)) (by kernel_rfl) fun J => ?_
  obtain ⟨t10, q3, h⟩ := h
  refine KR.rd (one_ld (by kernel_rfl) q3) ?_
  obtain ⟨t11, H_2, q4, h⟩ := h
  refine KR.se (one_ca (by kernel_rfl) q4) ?_
  refine KR.run 2 [(1, .int .i64 a1), (2, .pointer (some ⟨H.next, 0, none⟩)), (5, .pointer none), (13, .bool (t11 == 1))] 50 (s' := (.reg (opsAt (sub B [1, 1, 0])) [8, 9, 10, 11, 12, 13, 14, 15, 16, 17, 18, 19, 20, 21, 22, 23, 24, 25, 26, 27, 28, 29, 30, 31, 32, 33, 34, 35, 36, 37, 38, 39, 40, 41, 42, 43, 44] :: S1)) (by kernel_rfl) fun J => ?_
  by_cases c5 : t11 = 1
  · replace h := iteT c5 h
    refine KR.setV 13 (by kernel_rfl) (eT c5) ?_
    refine KR.run 2 [(1, .int .i64 a1), (2, .pointer (some ⟨H.next, 0, none⟩)), (5, .pointer none), (13, .bool true), (14, .pointer none), (15, .pointer (some ⟨H.next, 3, none⟩))] 50 (s' := (.reg (opsAt (sub B [1, 1, 0])) [10, 11, 12, 13, 14, 15, 16, 17, 18, 19, 20, 21, 22, 23, 24, 25, 26, 27, 28, 29, 30, 31, 32, 33, 34, 35, 36, 37, 38, 39, 40, 41, 42, 43, 44] :: S1)) (by kernel_rfl) fun J => ?_
    obtain ⟨t16c0, t16c1, t16c2, t16c3, t16c4, q6, h⟩ := h
    refine KR.rd (one_ldA (by kernel_rfl) q6) ?_
    obtain ⟨t17, H_3, q7, h⟩ := h
    refine KR.se (one_ca (by kernel_rfl) q7) ?_
    refine KR.run 3 [(1, .int .i64 a1), (2, .pointer (some ⟨H.next, 0, none⟩)), (5, .pointer none), (20, .bool (t17 == 1))] 50 (s' := (.reg (opsAt (sub B [1, 1, 0])) [15, 16, 17, 18, 19, 20, 21, 22, 23, 24, 25, 26, 27, 28, 29, 30, 31, 32, 33, 34, 35, 36, 37, 38, 39, 40, 41, 42, 43, 44] :: S1)) (by kernel_rfl) fun J => ?_
    by_cases c8 : t17 = 1
    · replace h := iteT c8 h
      refine KR.setV 20 (by kernel_rfl) (eT c8) ?_
      refine KR.run 2 [(1, .int .i64 a1), (2, .pointer (some ⟨H.next, 0, none⟩)), (5, .pointer none), (20, .bool true), (21, .pointer none), (22, .pointer (some ⟨H.next, 3, none⟩))] 50 (s' := (.reg (opsAt (sub B [1, 1, 0])) [17, 18, 19, 20, 21, 22, 23, 24, 25, 26, 27, 28, 29, 30, 31, 32, 33, 34, 35, 36, 37, 38, 39, 40, 41, 42, 43, 44] :: S1)) (by kernel_rfl) fun J => ?_
      obtain ⟨t23c0, t23c1, t23c2, t23c3, t23c4, q9, h⟩ := h
      refine KR.rd (one_ldA (by kernel_rfl) q9) ?_
      obtain ⟨t24, H_4, q10, h⟩ := h
      refine KR.se (one_ca (by kernel_rfl) q10) ?_
      refine KR.run 3 [(1, .int .i64 a1), (2, .pointer (some ⟨H.next, 0, none⟩)), (5, .pointer none), (27, .bool (t24 == 1))] 50 (s' := (.reg (opsAt (sub B [1, 1, 0])) [22, 23, 24, 25, 26, 27, 28, 29, 30, 31, 32, 33, 34, 35, 36, 37, 38, 39, 40, 41, 42, 43, 44] :: S1)) (by kernel_rfl) fun J => ?_
      by_cases c11 : t24 = 1
      · replace h := iteT c11 h
        refine KR.setV 27 (by kernel_rfl) (eT c11) ?_
        refine KR.run 2 [(2, .pointer (some ⟨H.next, 0, none⟩)), (5, .pointer none), (27, .bool true), (28, .pointer none), (29, .int .i64 a1)] 50 (s' := (.reg (opsAt (sub B [1, 1, 0])) [24, 25, 26, 27, 28, 29, 30, 31, 32, 33, 34, 35, 36, 37, 38, 39, 40, 41, 42, 43, 44] :: S1)) (by kernel_rfl) fun J => ?_
        obtain ⟨t30a, t30n, t30k, H_5, q12, h⟩ := h
        refine KR.se (one_ca (by kernel_rfl) q12) ?_
        refine KR.run 4 [(2, .pointer (some ⟨H.next, 0, none⟩)), (5, .pointer none), (34, .bool (((t30n : Nat) : Int) == 0))] 50 (s' := (.reg (opsAt (sub B [1, 1, 0])) [29, 30, 31, 32, 33, 34, 35, 36, 37, 38, 39, 40, 41, 42, 43, 44] :: S1)) (by kernel_rfl) fun J => ?_
        by_cases c13 : ((t30n : Nat) : Int) = 0
        · replace h := iteT c13 h
          refine KR.setV 34 (by kernel_rfl) (eT c13) ?_
          refine KR.run 1 [(2, .pointer (some ⟨H.next, 0, none⟩)), (5, .pointer none), (34, .bool true), (35, .pointer none)] 50 (s' := (.reg (opsAt (sub B [1, 1, 0])) [30, 31, 32, 33, 34, 35, 36, 37, 38, 39, 40, 41, 42, 43, 44] :: S1)) (by kernel_rfl) fun J => ?_
          obtain ⟨t36a, t36n, t36k, H_6, q14, h⟩ := h
          refine KR.se (one_ca (by kernel_rfl) q14) ?_
          refine KR.run 4 [(2, .pointer (some ⟨H.next, 0, none⟩)), (5, .pointer none), (40, .bool (((t36n : Nat) : Int) == 0))] 50 (s' := (.reg (opsAt (sub B [1, 1, 0])) [35, 36, 37, 38, 39, 40, 41, 42, 43, 44] :: S1)) (by kernel_rfl) fun J => ?_
          by_cases c15 : ((t36n : Nat) : Int) = 0
          · replace h := iteT c15 h
            refine KR.setV 40 (by kernel_rfl) (eT c15) ?_
            refine KR.run 2 [(40, .bool true), (41, .pointer none), (42, .pointer (some ⟨H.next, 1, none⟩))] 50 (s' := (.reg (opsAt (sub B [1, 1, 0])) [37, 38, 39, 40, 41, 42, 43, 44] :: S1)) (by kernel_rfl) fun J => ?_
            obtain ⟨t43, q16, h⟩ := h
            refine KR.rd (one_ld (by kernel_rfl) q16) ?_
            obtain ⟨t44, H_7, q17, h⟩ := h
            refine KR.se (one_ca (by kernel_rfl) q17) ?_
            refine KR.run 3 [(47, .bool (t44 == 0))] 50 (s' := (.reg (opsAt (sub B [1, 1, 0])) [42, 43, 44] :: S1)) (by kernel_rfl) fun J => ?_
            by_cases c18 : t44 = 0
            · replace h := iteT c18 h
              refine KR.setV 47 (by kernel_rfl) (eT c18) ?_
              obtain ⟨t48, H_8, q19, h⟩ := h
              refine KR.se (one_ca (by kernel_rfl) q19) ?_
              refine KR.run 3 [(4, .bool t48)] 50 (s' := (.code (sub B [1, 1, 1]) :: [])) (by kernel_rfl) fun J => ?_
              exact KR.fin (by kernel_rfl) h
            · replace h := iteF c18 h
              refine KR.setV 47 (by kernel_rfl) (eF c18) ?_
              refine KR.run 4 [(4, .bool false)] 50 (s' := (.code (sub B [1, 1, 1]) :: [])) (by kernel_rfl) fun J => ?_
              exact KR.fin (by kernel_rfl) h
          · replace h := iteF c15 h
            refine KR.setV 40 (by kernel_rfl) (eF c15) ?_
            refine KR.run 11 [(4, .bool false)] 50 (s' := (.code (sub B [1, 1, 1]) :: [])) (by kernel_rfl) fun J => ?_
            exact KR.fin (by kernel_rfl) h
        · replace h := iteF c13 h
          refine KR.setV 34 (by kernel_rfl) (eF c13) ?_
          refine KR.run 17 [(4, .bool false)] 50 (s' := (.code (sub B [1, 1, 1]) :: [])) (by kernel_rfl) fun J => ?_
          exact KR.fin (by kernel_rfl) h
      · replace h := iteF c11 h
        refine KR.setV 27 (by kernel_rfl) (eF c11) ?_
        refine KR.run 24 [(4, .bool false)] 50 (s' := (.code (sub B [1, 1, 1]) :: [])) (by kernel_rfl) fun J => ?_
        exact KR.fin (by kernel_rfl) h
    · replace h := iteF c8 h
      refine KR.setV 20 (by kernel_rfl) (eF c8) ?_
      refine KR.run 31 [(4, .bool false)] 50 (s' := (.code (sub B [1, 1, 1]) :: [])) (by kernel_rfl) fun J => ?_
      exact KR.fin (by kernel_rfl) h
  · replace h := iteF c5 h
    refine KR.setV 13 (by kernel_rfl) (eF c5) ?_
    refine KR.run 38 [(4, .bool false)] 50 (s' := (.code (sub B [1, 1, 1]) :: [])) (by kernel_rfl) fun J => ?_
    exact KR.fin (by kernel_rfl) h
end F11
end Go.X
