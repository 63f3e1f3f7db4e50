/- The walks of the functions: printed. -/
import Derived.Test.YtgcodmnajbcoaaaXzGf
set_option linter.unusedVariables false
set_option maxRecDepth 100000
namespace Go.X
open Go Go.RowKit Go.Proofs
/-! #### 39 campanile/campanileref8.MayCell -/
namespace F39
noncomputable def B : Code := bodyOf Try.f39
noncomputable def S0 : List It := (.code (sub B [1]) :: [])
noncomputable def S1 : List It := (.code (sub B [1, 1]) :: [])
theorem call {a0c0 : Int} {a0c1 : Int} {a0c2 : Int} {a0c3 : Int} {a0c4 : Int} {H : Heap} {r : Value × Heap} (h :
    ∃ (H_1 : Heap), H_1 = H.push (.row [.int .i64 a0c0, .int .i64 a0c1, .int .i64 a0c2, .int .i64 a0c3, .int .i64 a0c4] true) ∧
    (∃ (t4 : Int), ldc H_1 H.next 0 = some (.int .i64 t4) ∧
    (if t4 ≥ 0 then
    (∃ (t8 : Int), ldc H_1 H.next 0 = some (.int .i64 t8) ∧
    (if t8 < 4 then
    (∃ (t13 : Int), ldc H_1 H.next 1 = some (.int .i64 t13) ∧
    (if t13 ≥ 0 then
    (∃ (t18 : Int), ldc H_1 H.next 1 = some (.int .i64 t18) ∧
    (if t18 < 200 then
    (∃ (t23 : Int), ldc H_1 H.next 2 = some (.int .i64 t23) ∧
    (if t23 ≥ 0 then
    (∃ (t28 : Int), ldc H_1 H.next 2 = some (.int .i64 t28) ∧
    (if t28 ≤ 15 then
    (∃ (t33 : Int), ldc H_1 H.next 3 = some (.int .i64 t33) ∧
    (if t33 ≥ 1 then
    (∃ (t38 : Int), ldc H_1 H.next 3 = some (.int .i64 t38) ∧
    (if t38 ≤ 15 then
    (∃ (t43 : Int), ldc H_1 H.next 3 = some (.int .i64 t43) ∧
    (if (iand .i64 t43 3) = 0 then
    (r = (.bool false, H_1))
    else
    (∃ (t49 : Int), ldc H_1 H.next 3 = some (.int .i64 t49) ∧
    (if (iand .i64 t49 4) = 0 then
    (∃ (t61 : Int), ldc H_1 H.next 4 = some (.int .i64 t61) ∧
    (∃ (t62 : Bool) (H_2 : Heap), xC Try.prog good 33 [.int .i64 t61] H_1 = some (.bool t62, H_2) ∧
    (if t62 = true then
    (r = (.bool true, H_2))
    else
    (∃ (t65 : Int), ldc H_2 H.next 4 = some (.int .i64 t65) ∧
    (r = (.bool (t65 == 64), H_2))))))
    else
    (∃ (t54 : Int), ldc H_1 H.next 3 = some (.int .i64 t54) ∧
    (if (iand .i64 t54 1) = 0 then
    (r = (.bool false, H_1))
    else
    (∃ (t61_1 : Int), ldc H_1 H.next 4 = some (.int .i64 t61_1) ∧
    (∃ (t62_1 : Bool) (H_3 : Heap), xC Try.prog good 33 [.int .i64 t61_1] H_1 = some (.bool t62_1, H_3) ∧
    (if t62_1 = true then
    (r = (.bool true, H_3))
    else
    (∃ (t65_1 : Int), ldc H_3 H.next 4 = some (.int .i64 t65_1) ∧
    (r = (.bool (t65_1 == 64), H_3))))))))))))
    else
    (r = (.bool false, H_1))))
    else
    (r = (.bool false, H_1))))
    else
    (r = (.bool false, H_1))))
    else
    (r = (.bool false, H_1))))
    else
    (r = (.bool false, H_1))))
    else
    (r = (.bool false, H_1))))
    else
    (r = (.bool false, H_1))))
    else
    (r = (.bool false, H_1))))) :
    xC Try.prog good 39 [.agg #[.int .i64 a0c0, .int .i64 a0c1, .int .i64 a0c2, .int .i64 a0c3, .int .i64 a0c4]] H = some r := by
  refine KR.enter (fn := Try.f39) (c := B) (by kernel_rfl) (by kernel_rfl) ?_
  refine KR.run 2 [(0, .agg #[.int .i64 a0c0, .int .i64 a0c1, .int .i64 a0c2, .int .i64 a0c3, .int .i64 a0c4])] 69 (s' := (.reg (opsAt (sub B [0])) [0, 1] :: S0)) (by kernel_rfl) fun J => ?_
  obtain ⟨H_1, q1, h⟩ := h
  refine KR.mk (w := pRow [.int .i64 a0c0, .int .i64 a0c1, .int .i64 a0c2, .int .i64 a0c3, .int .i64 a0c4]) (one_al (by kernel_rfl)) q1 ?_
  refine KR.run 5 [(1, .pointer (some ⟨H.next, 0, none⟩)), (3, .pointer (some ⟨H.next, 0, none⟩))] 69 (s' := (.reg (opsAt (sub B [1, 0])) [1, 2, 3, 4, 5, 6, 7, 8, 9, 10, 11, 12, 13, 14, 15, 16, 17, 18, 19, 20, 21, 22, 23, 24, 25, 26, 27, 28, 29, 30, 31, 32, 33, 34, 35, 36, 37, 38, 39, 40, 41, 42, 43, 44, 45, 46, 47, 48, 49, 50, 51, 52, 53, 54, 55, 56, 57, 58, 59, 60, 61, 62, 63, 64, 65, 66] :: S1)) (by kernel_rfl) fun J => ?_
  obtain ⟨t4, q2, h⟩ := h
  refine KR.rd (one_ld (by kernel_rfl) q2) ?_
  refine KR.run 2 [(1, .pointer (some ⟨H.next, 0, none⟩)), (6, .bool (decide (t4 ≥ 0)))] 69 (s' := (.reg (opsAt (sub B [1, 0])) [4, 5, 6, 7, 8, 9, 10, 11, 12, 13, 14, 15, 16, 17, 18, 19, 20, 21, 22, 23, 24, 25, 26, 27, 28, 29, 30, 31, 32, 33, 34, 35, 36, 37, 38, 39, 40, 41, 42, 43, 44, 45, 46, 47, 48, 49, 50, 51, 52, 53, 54, 55, 56, 57, 58, 59, 60, 61, 62, 63, 64, 65, 66] :: S1)) (by kernel_rfl) fun J => ?_
  by_cases c3 : t4 ≥ 0
  · replace h := iteT c3 h
    refine KR.setV 6 (by kernel_rfl) (dT c3) ?_
    refine KR.run 1 [(1, .pointer (some ⟨H.next, 0, none⟩)), (6, .bool true), (7, .pointer (some ⟨H.next, 0, none⟩))] 69 (s' := (.reg (opsAt (sub B [1, 0])) [5, 6, 7, 8, 9, 10, 11, 12, 13, 14, 15, 16, 17, 18, 19, 20, 21, 22, 23, 24, 25, 26, 27, 28, 29, 30, 31, 32, 33, 34, 35, 36, 37, 38, 39, 40, 41, 42, 43, 44, 45, 46, 47, 48, 49, 50, 51, 52, 53, 54, 55, 56, 57, 58, 59, 60, 61, 62, 63, 64, 65, 66] :: S1)) (by kernel_rfl) fun J => ?_
    obtain ⟨t8, q4, h⟩ := h
    refine KR.rd (one_ld (by kernel_rfl) q4) ?_
    refine KR.run 3 [(1, .pointer (some ⟨H.next, 0, none⟩)), (11, .bool (decide (t8 < 4)))] 69 (s' := (.reg (opsAt (sub B [1, 0])) [9, 10, 11, 12, 13, 14, 15, 16, 17, 18, 19, 20, 21, 22, 23, 24, 25, 26, 27, 28, 29, 30, 31, 32, 33, 34, 35, 36, 37, 38, 39, 40, 41, 42, 43, 44, 45, 46, 47, 48, 49, 50, 51, 52, 53, 54, 55, 56, 57, 58, 59, 60, 61, 62, 63, 64, 65, 66] :: S1)) (by kernel_rfl) fun J => ?_
    by_cases c5 : t8 < 4
    · replace h := iteT c5 h
      refine KR.setV 11 (by kernel_rfl) (dT c5) ?_
      refine KR.run 1 [(1, .pointer (some ⟨H.next, 0, none⟩)), (11, .bool true), (12, .pointer (some ⟨H.next, 1, none⟩))] 69 (s' := (.reg (opsAt (sub B [1, 0])) [10, 11, 12, 13, 14, 15, 16, 17, 18, 19, 20, 21, 22, 23, 24, 25, 26, 27, 28, 29, 30, 31, 32, 33, 34, 35, 36, 37, 38, 39, 40, 41, 42, 43, 44, 45, 46, 47, 48, 49, 50, 51, 52, 53, 54, 55, 56, 57, 58, 59, 60, 61, 62, 63, 64, 65, 66] :: S1)) (by kernel_rfl) fun J => ?_
      obtain ⟨t13, q6, h⟩ := h
      refine KR.rd (one_ld (by kernel_rfl) q6) ?_
      refine KR.run 3 [(1, .pointer (some ⟨H.next, 0, none⟩)), (16, .bool (decide (t13 ≥ 0)))] 69 (s' := (.reg (opsAt (sub B [1, 0])) [14, 15, 16, 17, 18, 19, 20, 21, 22, 23, 24, 25, 26, 27, 28, 29, 30, 31, 32, 33, 34, 35, 36, 37, 38, 39, 40, 41, 42, 43, 44, 45, 46, 47, 48, 49, 50, 51, 52, 53, 54, 55, 56, 57, 58, 59, 60, 61, 62, 63, 64, 65, 66] :: S1)) (by kernel_rfl) fun J => ?_
      by_cases c7 : t13 ≥ 0
      · replace h := iteT c7 h
        refine KR.setV 16 (by kernel_rfl) (dT c7) ?_
        refine KR.run 1 [(1, .pointer (some ⟨H.next, 0, none⟩)), (16, .bool true), (17, .pointer (some ⟨H.next, 1, none⟩))] 69 (s' := (.reg (opsAt (sub B [1, 0])) [15, 16, 17, 18, 19, 20, 21, 22, 23, 24, 25, 26, 27, 28, 29, 30, 31, 32, 33, 34, 35, 36, 37, 38, 39, 40, 41, 42, 43, 44, 45, 46, 47, 48, 49, 50, 51, 52, 53, 54, 55, 56, 57, 58, 59, 60, 61, 62, 63, 64, 65, 66] :: S1)) (by kernel_rfl) fun J => ?_
        obtain ⟨t18, q8, h⟩ := h
        refine KR.rd (one_ld (by kernel_rfl) q8) ?_
        refine KR.run 3 [(1, .pointer (some ⟨H.next, 0, none⟩)), (21, .bool (decide (t18 < 200)))] 69 (s' := (.reg (opsAt (sub B [1, 0])) [19, 20, 21, 22, 23, 24, 25, 26, 27, 28, 29, 30, 31, 32, 33, 34, 35, 36, 37, 38, 39, 40, 41, 42, 43, 44, 45, 46, 47, 48, 49, 50, 51, 52, 53, 54, 55, 56, 57, 58, 59, 60, 61, 62, 63, 64, 65, 66] :: S1)) (by kernel_rfl) fun J => ?_
        by_cases c9 : t18 < 200
        · replace h := iteT c9 h
          refine KR.setV 21 (by kernel_rfl) (dT c9) ?_
          refine KR.run 1 [(1, .pointer (some ⟨H.next, 0, none⟩)), (21, .bool true), (22, .pointer (some ⟨H.next, 2, none⟩))] 69 (s' := (.reg (opsAt (sub B [1, 0])) [20, 21, 22, 23, 24, 25, 26, 27, 28, 29, 30, 31, 32, 33, 34, 35, 36, 37, 38, 39, 40, 41, 42, 43, 44, 45, 46, 47, 48, 49, 50, 51, 52, 53, 54, 55, 56, 57, 58, 59, 60, 61, 62, 63, 64, 65, 66] :: S1)) (by kernel_rfl) fun J => ?_
          obtain ⟨t23, q10, h⟩ := h
          refine KR.rd (one_ld (by kernel_rfl) q10) ?_
          refine KR.run 3 [(1, .pointer (some ⟨H.next, 0, none⟩)), (26, .bool (decide (t23 ≥ 0)))] 69 (s' := (.reg (opsAt (sub B [1, 0])) [24, 25, 26, 27, 28, 29, 30, 31, 32, 33, 34, 35, 36, 37, 38, 39, 40, 41, 42, 43, 44, 45, 46, 47, 48, 49, 50, 51, 52, 53, 54, 55, 56, 57, 58, 59, 60, 61, 62, 63, 64, 65, 66] :: S1)) (by kernel_rfl) fun J => ?_
          by_cases c11 : t23 ≥ 0
          · replace h := iteT c11 h
            refine KR.setV 26 (by kernel_rfl) (dT c11) ?_
            refine KR.run 1 [(1, .pointer (some ⟨H.next, 0, none⟩)), (26, .bool true), (27, .pointer (some ⟨H.next, 2, none⟩))] 69 (s' := (.reg (opsAt (sub B [1, 0])) [25, 26, 27, 28, 29, 30, 31, 32, 33, 34, 35, 36, 37, 38, 39, 40, 41, 42, 43, 44, 45, 46, 47, 48, 49, 50, 51, 52, 53, 54, 55, 56, 57, 58, 59, 60, 61, 62, 63, 64, 65, 66] :: S1)) (by kernel_rfl) fun J => ?_
            obtain ⟨t28, q12, h⟩ := h
            refine KR.rd (one_ld (by kernel_rfl) q12) ?_
            refine KR.run 3 [(1, .pointer (some ⟨H.next, 0, none⟩)), (31, .bool (decide (t28 ≤ 15)))] 69 (s' := (.reg (opsAt (sub B [1, 0])) [29, 30, 31, 32, 33, 34, 35, 36, 37, 38, 39, 40, 41, 42, 43, 44, 45, 46, 47, 48, 49, 50, 51, 52, 53, 54, 55, 56, 57, 58, 59, 60, 61, 62, 63, 64, 65, 66] :: S1)) (by kernel_rfl) fun J => ?_
            by_cases c13 : t28 ≤ 15
            · replace h := iteT c13 h
              refine KR.setV 31 (by kernel_rfl) (dT c13) ?_
              refine KR.run 1 [(1, .pointer (some ⟨H.next, 0, none⟩)), (31, .bool true), (32, .pointer (some ⟨H.next, 3, none⟩))] 69 (s' := (.reg (opsAt (sub B [1, 0])) [30, 31, 32, 33, 34, 35, 36, 37, 38, 39, 40, 41, 42, 43, 44, 45, 46, 47, 48, 49, 50, 51, 52, 53, 54, 55, 56, 57, 58, 59, 60, 61, 62, 63, 64, 65, 66] :: S1)) (by kernel_rfl) fun J => ?_
              obtain ⟨t33, q14, h⟩ := h
              refine KR.rd (one_ld (by kernel_rfl) q14) ?_
              refine KR.run 3 [(1, .pointer (some ⟨H.next, 0, none⟩)), (36, .bool (decide (t33 ≥ 1)))] 69 (s' := (.reg (opsAt (sub B [1, 0])) [34, 35, 36, 37, 38, 39, 40, 41, 42, 43, 44, 45, 46, 47, 48, 49, 50, 51, 52, 53, 54, 55, 56, 57, 58, 59, 60, 61, 62, 63, 64, 65, 66] :: S1)) (by kernel_rfl) fun J => ?_
              by_cases c15 : t33 ≥ 1
              · replace h := iteT c15 h
                refine KR.setV 36 (by kernel_rfl) (dT c15) ?_
                refine KR.run 1 [(1, .pointer (some ⟨H.next, 0, none⟩)), (36, .bool true), (37, .pointer (some ⟨H.next, 3, none⟩))] 69 (s' := (.reg (opsAt (sub B [1, 0])) [35, 36, 37, 38, 39, 40, 41, 42, 43, 44, 45, 46, 47, 48, 49, 50, 51, 52, 53, 54, 55, 56, 57, 58, 59, 60, 61, 62, 63, 64, 65, 66] :: S1)) (by kernel_rfl) fun J => ?_
                obtain ⟨t38, q16, h⟩ := h
                refine KR.rd (one_ld (by kernel_rfl) q16) ?_
                refine KR.run 3 [(1, .pointer (some ⟨H.next, 0, none⟩)), (41, .bool (decide (t38 ≤ 15)))] 69 (s' := (.reg (opsAt (sub B [1, 0])) [39, 40, 41, 42, 43, 44, 45, 46, 47, 48, 49, 50, 51, 52, 53, 54, 55, 56, 57, 58, 59, 60, 61, 62, 63, 64, 65, 66] :: S1)) (by kernel_rfl) fun J => ?_
                by_cases c17 : t38 ≤ 15
                · replace h := iteT c17 h
                  refine KR.setV 41 (by kernel_rfl) (dT c17) ?_
                  refine KR.run 1 [(1, .pointer (some ⟨H.next, 0, none⟩)), (41, .bool true), (42, .pointer (some ⟨H.next, 3, none⟩))] 69 (s' := (.reg (opsAt (sub B [1, 0])) [40, 41, 42, 43, 44, 45, 46, 47, 48, 49, 50, 51, 52, 53, 54, 55, 56, 57, 58, 59, 60, 61, 62, 63, 64, 65, 66] :: S1)) (by kernel_rfl) fun J => ?_
                  obtain ⟨t43, q18, h⟩ := h
                  refine KR.rd (one_ld (by kernel_rfl) q18) ?_
                  refine KR.run 4 [(1, .pointer (some ⟨H.next, 0, none⟩)), (47, .bool (!((iand .i64 t43 3) == 0)))] 69 (s' := (.reg (opsAt (sub B [1, 0])) [45, 46, 47, 48, 49, 50, 51, 52, 53, 54, 55, 56, 57, 58, 59, 60, 61, 62, 63, 64, 65, 66] :: S1)) (by kernel_rfl) fun J => ?_
                  by_cases c19 : (iand .i64 t43 3) = 0
                  · replace h := iteT c19 h
                    refine KR.setV 47 (by kernel_rfl) (nB (eT c19)) ?_
                    refine KR.run 23 [(2, .bool false)] 69 (s' := (.code (sub B [1, 1]) :: [])) (by kernel_rfl) fun J => ?_
                    exact KR.fin (by kernel_rfl) h
                  · replace h := iteF c19 h
                    refine KR.setV 47 (by kernel_rfl) (nB (eF c19)) ?_
                    refine KR.run 1 [(1, .pointer (some ⟨H.next, 0, none⟩)), (47, .bool true), (48, .pointer (some ⟨H.next, 3, none⟩))] 69 (s' := (.reg (opsAt (sub B [1, 0])) [46, 47, 48, 49, 50, 51, 52, 53, 54, 55, 56, 57, 58, 59, 60, 61, 62, 63, 64, 65, 66] :: S1)) (by kernel_rfl) fun J => ?_
                    obtain ⟨t49, q20, h⟩ := h
                    refine KR.rd (one_ld (by kernel_rfl) q20) ?_
                    refine KR.run 3 [(1, .pointer (some ⟨H.next, 0, none⟩)), (47, .bool true), (52, .bool ((iand .i64 t49 4) == 0))] 69 (s' := (.reg (opsAt (sub B [1, 0])) [50, 51, 52, 53, 54, 55, 56, 57, 58, 59, 60, 61, 62, 63, 64, 65, 66] :: S1)) (by kernel_rfl) fun J => ?_
                    by_cases c21 : (iand .i64 t49 4) = 0
                    · replace h := iteT c21 h
                      refine KR.setV 52 (by kernel_rfl) (eT c21) ?_
                      refine KR.run 8 [(1, .pointer (some ⟨H.next, 0, none⟩)), (59, .bool true), (60, .pointer (some ⟨H.next, 4, none⟩))] 69 (s' := (.reg (opsAt (sub B [1, 0])) [58, 59, 60, 61, 62, 63, 64, 65, 66] :: S1)) (by kernel_rfl) fun J => ?_
                      obtain ⟨t61, q22, h⟩ := h
                      refine KR.rd (one_ld (by kernel_rfl) q22) ?_
                      obtain ⟨t62, H_2, q23, h⟩ := h
                      refine KR.se (one_ca (by kernel_rfl) q23) ?_
                      refine KR.run 1 [(1, .pointer (some ⟨H.next, 0, none⟩)), (59, .bool true), (63, .bool t62)] 69 (s' := (.reg (opsAt (sub B [1, 0])) [61, 62, 63, 64, 65, 66] :: S1)) (by kernel_rfl) fun J => ?_
                      by_cases c24 : t62 = true
                      · replace h := iteT c24 h
                        refine KR.setV 63 (by kernel_rfl) (bT c24) ?_
                        refine KR.run 7 [(2, .bool true)] 69 (s' := (.code (sub B [1, 1]) :: [])) (by kernel_rfl) fun J => ?_
                        exact KR.fin (by kernel_rfl) h
                      · replace h := iteF c24 h
                        refine KR.setV 63 (by kernel_rfl) (bF c24) ?_
                        refine KR.run 1 [(59, .bool true), (63, .bool false), (64, .pointer (some ⟨H.next, 4, none⟩))] 69 (s' := (.reg (opsAt (sub B [1, 0])) [62, 63, 64, 65, 66] :: S1)) (by kernel_rfl) fun J => ?_
                        obtain ⟨t65, q25, h⟩ := h
                        refine KR.rd (one_ld (by kernel_rfl) q25) ?_
                        refine KR.run 5 [(2, .bool (t65 == 64))] 69 (s' := (.code (sub B [1, 1]) :: [])) (by kernel_rfl) fun J => ?_
                        exact KR.fin (by kernel_rfl) h
                    · replace h := iteF c21 h
                      refine KR.setV 52 (by kernel_rfl) (eF c21) ?_
                      refine KR.run 1 [(1, .pointer (some ⟨H.next, 0, none⟩)), (47, .bool true), (52, .bool false), (53, .pointer (some ⟨H.next, 3, none⟩))] 69 (s' := (.reg (opsAt (sub B [1, 0])) [51, 52, 53, 54, 55, 56, 57, 58, 59, 60, 61, 62, 63, 64, 65, 66] :: S1)) (by kernel_rfl) fun J => ?_
                      obtain ⟨t54, q26, h⟩ := h
                      refine KR.rd (one_ld (by kernel_rfl) q26) ?_
                      refine KR.run 5 [(1, .pointer (some ⟨H.next, 0, none⟩)), (59, .bool (!((iand .i64 t54 1) == 0)))] 69 (s' := (.reg (opsAt (sub B [1, 0])) [57, 58, 59, 60, 61, 62, 63, 64, 65, 66] :: S1)) (by kernel_rfl) fun J => ?_
                      by_cases c27 : (iand .i64 t54 1) = 0
                      · replace h := iteT c27 h
                        refine KR.setV 59 (by kernel_rfl) (nB (eT c27)) ?_
                        refine KR.run 11 [(2, .bool false)] 69 (s' := (.code (sub B [1, 1]) :: [])) (by kernel_rfl) fun J => ?_
                        exact KR.fin (by kernel_rfl) h
                      · replace h := iteF c27 h
                        refine KR.setV 59 (by kernel_rfl) (nB (eF c27)) ?_
                        refine KR.run 1 [(1, .pointer (some ⟨H.next, 0, none⟩)), (59, .bool true), (60, .pointer (some ⟨H.next, 4, none⟩))] 69 (s' := (.reg (opsAt (sub B [1, 0])) [58, 59, 60, 61, 62, 63, 64, 65, 66] :: S1)) (by kernel_rfl) fun J => ?_
                        obtain ⟨t61_1, q28, h⟩ := h
                        refine KR.rd (one_ld (by kernel_rfl) q28) ?_
                        obtain ⟨t62_1, H_3, q29, h⟩ := h
                        refine KR.se (one_ca (by kernel_rfl) q29) ?_
                        refine KR.run 1 [(1, .pointer (some ⟨H.next, 0, none⟩)), (59, .bool true), (63, .bool t62_1)] 69 (s' := (.reg (opsAt (sub B [1, 0])) [61, 62, 63, 64, 65, 66] :: S1)) (by kernel_rfl) fun J => ?_
                        by_cases c30 : t62_1 = true
                        · replace h := iteT c30 h
                          refine KR.setV 63 (by kernel_rfl) (bT c30) ?_
                          refine KR.run 7 [(2, .bool true)] 69 (s' := (.code (sub B [1, 1]) :: [])) (by kernel_rfl) fun J => ?_
                          exact KR.fin (by kernel_rfl) h
                        · replace h := iteF c30 h
                          refine KR.setV 63 (by kernel_rfl) (bF c30) ?_
                          refine KR.run 1 [(59, .bool true), (63, .bool false), (64, .pointer (some ⟨H.next, 4, none⟩))] 69 (s' := (.reg (opsAt (sub B [1, 0])) [62, 63, 64, 65, 66] :: S1)) (by kernel_rfl) fun J => ?_
                          obtain ⟨t65_1, q31, h⟩ := h
                          refine KR.rd (one_ld (by kernel_rfl) q31) ?_
                          refine KR.run 5 [(2, .bool (t65_1 == 64))] 69 (s' := (.code (sub B [1, 1]) :: [])) (by kernel_rfl) fun J => ?_
                          exact KR.fin (by kernel_rfl) h
                · replace h := iteF c17 h
                  refine KR.setV 41 (by kernel_rfl) (dF c17) ?_
                  refine KR.run 29 [(2, .bool false)] 69 (s' := (.code (sub B [1, 1]) :: [])) (by kernel_rfl) fun J => ?_
                  exact KR.fin (by kernel_rfl) h
              · replace h := iteF c15 h
                refine KR.setV 36 (by kernel_rfl) (dF c15) ?_
                refine KR.run 34 [(2, .bool false)] 69 (s' := (.code (sub B [1, 1]) :: [])) (by kernel_rfl) fun J => ?_
                exact KR.fin (by kernel_rfl) h
            · replace h := iteF c13 h
              refine KR.setV 31 (by kernel_rfl) (dF c13) ?_
              refine KR.run 39 [(2, .bool false)] 69 (s' := (.code (sub B [1, 1]) :: [])) (by kernel_rfl) fun J => ?_
              exact KR.fin (by kernel_rfl) h
          · replace h := iteF c11 h
            refine KR.setV 26 (by kernel_rfl) (dF c11) ?_
            refine KR.run 44 [(2, .bool false)] 69 (s' := (.code (sub B [1, 1]) :: [])) (by kernel_rfl) fun J => ?_
            exact KR.fin (by kernel_rfl) h
        · replace h := iteF c9 h
          refine KR.setV 21 (by kernel_rfl) (dF c9) ?_
          refine KR.run 49 [(2, .bool false)] 69 (s' := (.code (sub B [1, 1]) :: [])) (by kernel_rfl) fun J => ?_
          exact KR.fin (by kernel_rfl) h
      · replace h := iteF c7 h
        refine KR.setV 16 (by kernel_rfl) (dF c7) ?_
        refine KR.run 54 [(2, .bool false)] 69 (s' := (.code (sub B [1, 1]) :: [])) (by kernel_rfl) fun J => ?_
        exact KR.fin (by kernel_rfl) h
    · replace h := iteF c5 h
      refine KR.setV 11 (by kernel_rfl) (dF c5) ?_
      refine KR.run 59 [(2, .bool false)] 69 (s' := (.code (sub B [1, 1]) :: [])) (by kernel_rfl) fun J => ?_
      exact KR.fin (by kernel_rfl) h
  · replace h := iteF c3 h
    refine KR.setV 6 (by kernel_rfl) (dF c3) ?_
    refine KR.run 64 [(2, .bool false)] 69 (s' := (.code (sub B [1, 1]) :: [])) (by kernel_rfl) fun J => ?_
    exact KR.fin (by kernel_rfl) h
end F39
/-! #### 40 (*campanile/campanileref1.Reader).End -/
namespace F40
noncomputable def B : Code := bodyOf Try.f40
noncomputable def S0 : List It := (.code (sub B [1, 1]) :: [])
noncomputable def S2 : List It := (.code (sub B [1, 1, 1]) :: [])
noncomputable def S1 : List It := (.code (sub B [1, 0, 1]) :: S0)
def L0 (t0b : Nat) (t0o : Nat) (t15 : Bool) (H : Heap) (r : Value × Heap) : Prop := ∀ J, KR Try.prog good Try.f40 S1 (mat J 20 [(0, .pointer (some ⟨t0b, t0o, none⟩)), (15, .bool t15)]) H r
theorem L0_step {t0b : Nat} {t0o : Nat} {t15 : Bool} {H : Heap} {r : Value × Heap} (h :
    if t15 = true then
    (r = (.int .i64 3, H))
    else
    (∃ (t19 : Int), ldc H t0b (t0o + 1) = some (.int .i64 t19) ∧
    (r = (.int .i64 t19, H)))) :
    L0 t0b t0o t15 H r := by
  intro J
  show KR _ _ _ (.code (sub B [1, 0, 1]) :: S0) _ _ _
  by_cases c4 : t15 = true
  · replace h := iteT c4 h
    refine KR.br true (by kernel_rfl) (vB (bT c4)) ?_
    refine KR.run 4 [(2, .int .i64 3)] 20 (s' := (.code (sub B [1, 0, 1, 0, 1]) :: S0)) (by kernel_rfl) fun J => ?_
    exact KR.fin (by kernel_rfl) h
  · replace h := iteF c4 h
    refine KR.br false (by kernel_rfl) (vB (bF c4)) ?_
    refine KR.run 6 [(18, .pointer (some ⟨t0b, (t0o + 1), none⟩))] 20 (s' := (.reg (opsAt (sub B [1, 1, 0])) [3, 4] :: S2)) (by kernel_rfl) fun J => ?_
    obtain ⟨t19, q5, h⟩ := h
    refine KR.rd (one_ld (by kernel_rfl) q5) ?_
    refine KR.run 2 [(2, .int .i64 t19)] 20 (s' := (.code (sub B [1, 1, 1]) :: [])) (by kernel_rfl) fun J => ?_
    exact KR.fin (by kernel_rfl) h
theorem call {a0 : Option Addr} {H : Heap} {r : Value × Heap} (h :
    ∃ (a0b a0o : Nat), a0 = some ⟨a0b, a0o, none⟩ ∧
    (∃ (t6 : Int), ldc H a0b (a0o + 1) = some (.int .i64 t6) ∧
    (if t6 = 0 then
    (∃ (t12a : Option Addr) (t12n : Nat) (t12k : Nat), ldc H a0b a0o = some (.slice t12a t12n t12k) ∧
    (L0 (a0b) (a0o) ((decide (((t12n : Nat) : Int) > 0))) H r))
    else
    (L0 (a0b) (a0o) (false) H r)))) :
    xC Try.prog good 40 [.pointer a0] H = some r := by
  refine KR.enter (fn := Try.f40) (c := B) (by kernel_rfl) (by kernel_rfl) ?_
  obtain ⟨a0b, a0o, rfl, h⟩ := h
  refine KR.run 10 [(0, .pointer (some ⟨a0b, a0o, none⟩)), (5, .pointer (some ⟨a0b, (a0o + 1), none⟩))] 20 (s' := (.reg (opsAt (sub B [1, 0, 0])) [3, 4, 5, 6, 7, 8, 9, 10, 11, 12] :: S1)) (by kernel_rfl) fun J => ?_
  obtain ⟨t6, q1, h⟩ := h
  refine KR.rd (one_ld (by kernel_rfl) q1) ?_
  refine KR.run 2 [(0, .pointer (some ⟨a0b, a0o, none⟩)), (8, .bool (t6 == 0))] 20 (s' := (.reg (opsAt (sub B [1, 0, 0])) [6, 7, 8, 9, 10, 11, 12] :: S1)) (by kernel_rfl) fun J => ?_
  by_cases c2 : t6 = 0
  · replace h := iteT c2 h
    refine KR.setV 8 (by kernel_rfl) (eT c2) ?_
    refine KR.run 3 [(0, .pointer (some ⟨a0b, a0o, none⟩)), (8, .bool true), (11, .pointer (some ⟨a0b, a0o, none⟩))] 20 (s' := (.reg (opsAt (sub B [1, 0, 0])) [9, 10, 11, 12] :: S1)) (by kernel_rfl) fun J => ?_
    obtain ⟨t12a, t12n, t12k, q3, h⟩ := h
    refine KR.rd (one_ld (by kernel_rfl) q3) ?_
    exact KR.run 4 [(0, .pointer (some ⟨a0b, a0o, none⟩)), (15, .bool (decide (((t12n : Nat) : Int) > 0)))] 20 (s' := (.code (sub B [1, 0, 1]) :: S0)) (by kernel_rfl) h
  · replace h := iteF c2 h
    refine KR.setV 8 (by kernel_rfl) (eF c2) ?_
    exact KR.run 8 [(0, .pointer (some ⟨a0b, a0o, none⟩)), (15, .bool false)] 20 (s' := (.code (sub B [1, 0, 1]) :: S0)) (by kernel_rfl) h
end F40
/-! #### 41 slices.Clone[[]uint64,uint64] -/
namespace F41
noncomputable def B : Code := bodyOf Try.f41
noncomputable def S0 : List It := (.code (sub B [1, 1]) :: [])
noncomputable def S2 : List It := (.code (sub B [1, 1, 1]) :: [])
noncomputable def S1 : List It := (.code (sub B [1, 0, 1]) :: S0)
theorem call {a0a : Option Addr} {a0n : Nat} {a0k : Nat} {H : Heap} {r : Value × Heap} (h :
    if (Option.isNone a0a) = true then
    (r = (.slice none 0 0, H))
    else
    (∃ (H_1 : Heap), H_1 = H.push (.row [] true) ∧
    (∃ (t7a : Option Addr) (t7n : Nat) (t7k : Nat) (H_2 : Heap), papp H_1 1 8 (some ⟨H.next, 0, none⟩) 0 (UNK 1) a0a a0n a0k = some ((t7a, t7n, t7k), H_2) ∧
    (r = (.slice t7a t7n t7k, H_2))))) :
    xC Try.prog good 41 [.slice a0a a0n a0k] H = some r := by
  refine KR.enter (fn := Try.f41) (c := B) (by kernel_rfl) (by kernel_rfl) ?_
  refine KR.run 8 [(0, .slice a0a a0n a0k), (3, .slice a0a a0n a0k)] 8 (s' := (.reg (opsAt (sub B [1, 0, 0])) [1] :: S1)) (by kernel_rfl) fun J => ?_
  refine KR.p (one_nl false a0a (by kernel_rfl)) ?_
  refine KR.run 1 [(0, .slice a0a a0n a0k), (4, .bool (Option.isNone a0a))] 8 (s' := (.code (sub B [1, 0, 1]) :: S0)) (by kernel_rfl) fun J => ?_
  by_cases c2 : (Option.isNone a0a) = true
  · replace h := iteT c2 h
    refine KR.br true (by kernel_rfl) (vB (bT c2)) ?_
    refine KR.run 4 [(2, .slice none 0 0)] 8 (s' := (.code (sub B [1, 0, 1, 0, 1]) :: S0)) (by kernel_rfl) fun J => ?_
    exact KR.fin (by kernel_rfl) h
  · replace h := iteF c2 h
    refine KR.br false (by kernel_rfl) (vB (bF c2)) ?_
    refine KR.run 3 [(0, .slice a0a a0n a0k)] 8 (s' := (.reg (opsAt (sub B [1, 1, 0])) [0, 1, 2, 3] :: S2)) (by kernel_rfl) fun J => ?_
    obtain ⟨H_1, q3, h⟩ := h
    refine KR.mk (w := sRow 0 1 []) (one_al (by kernel_rfl)) q3 ?_
    refine KR.run 1 [(5, .slice (some ⟨H.next, 0, none⟩) 0 (UNK 1)), (6, .slice a0a a0n a0k)] 8 (s' := (.reg (opsAt (sub B [1, 1, 0])) [2, 3] :: S2)) (by kernel_rfl) fun J => ?_
    obtain ⟨t7a, t7n, t7k, H_2, q4, h⟩ := h
    refine KR.se (one_ap 1 8 (by kernel_rfl) q4) ?_
    refine KR.run 2 [(2, .slice t7a t7n t7k)] 8 (s' := (.code (sub B [1, 1, 1]) :: [])) (by kernel_rfl) fun J => ?_
    exact KR.fin (by kernel_rfl) h
end F41
/-! #### 42 campanile/join.node -/
namespace F42
noncomputable def B : Code := bodyOf Try.f42
noncomputable def S0 : List It := (.code (sub B [1, 1]) :: [])
theorem call {a0 : Int} {H : Heap} {r : Value × Heap} (h :
    if a0 ≥ 0 then
    (r = (.bool (decide (a0 < 16)), H))
    else
    (r = (.bool false, H))) :
    xC Try.prog good 42 [.int .i64 a0] H = some r := by
  refine KR.enter (fn := Try.f42) (c := B) (by kernel_rfl) (by kernel_rfl) ?_
  refine KR.run 9 [(0, .int .i64 a0), (5, .bool (decide (a0 ≥ 0)))] 9 (s' := (.reg (opsAt (sub B [1, 0])) [3, 4, 5, 6] :: S0)) (by kernel_rfl) fun J => ?_
  by_cases c1 : a0 ≥ 0
  · replace h := iteT c1 h
    refine KR.setV 5 (by kernel_rfl) (dT c1) ?_
    refine KR.run 5 [(2, .bool (decide (a0 < 16)))] 9 (s' := (.code (sub B [1, 1]) :: [])) (by kernel_rfl) fun J => ?_
    exact KR.fin (by kernel_rfl) h
  · replace h := iteF c1 h
    refine KR.setV 5 (by kernel_rfl) (dF c1) ?_
    refine KR.run 5 [(2, .bool false)] 9 (s' := (.code (sub B [1, 1]) :: [])) (by kernel_rfl) fun J => ?_
    exact KR.fin (by kernel_rfl) h
end F42
/-! #### 43 campanile/join.right -/
namespace F43
noncomputable def B : Code := bodyOf Try.f43
noncomputable def S0 : List It := (.code (sub B [1, 1]) :: [])
theorem call {a0 : Int} {a1a : Option Addr} {a1n : Nat} {a1k : Nat} {a2 : Int} {H : Heap} {r : Value × Heap} (h :
    ∃ (t12a : Option Addr) (t12n : Nat) (t12k : Nat), psl 1 a1a a1n a1k none (some (IntKind.wrap .i64 (((a1n : Nat) : Int) - 4))) none = some (t12a, t12n, t12k) ∧
    (∃ (t14 : Bool) (H_1 : Heap), xC Try.prog good 56 [.int .u64 a0, .slice t12a t12n t12k, .int .u32 a2] H = some (.bool t14, H_1) ∧
    (r = (.bool t14, H_1)))) :
    xC Try.prog good 43 [.int .u64 a0, .slice a1a a1n a1k, .int .u32 a2] H = some r := by
  refine KR.enter (fn := Try.f43) (c := B) (by kernel_rfl) (by kernel_rfl) ?_
  refine KR.run 11 [(2, .int .u32 a2), (7, .int .u64 a0), (8, .slice a1a a1n a1k), (11, .int .i64 (IntKind.wrap .i64 (((a1n : Nat) : Int) - 4)))] 15 (s' := (.reg (opsAt (sub B [1, 0])) [5, 6, 7, 8] :: S0)) (by kernel_rfl) fun J => ?_
  obtain ⟨t12a, t12n, t12k, q1, h⟩ := h
  refine KR.p (one_sl (by kernel_rfl) q1) ?_
  refine KR.run 1 [(7, .int .u64 a0), (12, .slice t12a t12n t12k), (13, .int .u32 a2)] 15 (s' := (.reg (opsAt (sub B [1, 0])) [7, 8] :: S0)) (by kernel_rfl) fun J => ?_
  obtain ⟨t14, H_1, q2, h⟩ := h
  refine KR.se (one_ca (by kernel_rfl) q2) ?_
  refine KR.run 2 [(6, .bool t14)] 15 (s' := (.code (sub B [1, 1]) :: [])) (by kernel_rfl) fun J => ?_
  exact KR.fin (by kernel_rfl) h
end F43
/-! #### 44 campanile/join.cells -/
namespace F44
noncomputable def B : Code := bodyOf Try.f44
noncomputable def S0 : List It := (.code (sub B [1, 1]) :: [])
theorem call {a0a : Option Addr} {a0n : Nat} {a0k : Nat} {H : Heap} {r : Value × Heap} (h :
    if ((a0n : Nat) : Int) ≤ 8 then
    (∃ (t8 : Bool) (H_1 : Heap), xC Try.prog good 57 [.slice a0a a0n a0k, .func (.func 58) #[] #[]] H = some (.bool t8, H_1) ∧
    (r = (.bool (!t8), H_1)))
    else
    (r = (.bool false, H))) :
    xC Try.prog good 44 [.slice a0a a0n a0k] H = some r := by
  refine KR.enter (fn := Try.f44) (c := B) (by kernel_rfl) (by kernel_rfl) ?_
  refine KR.run 10 [(0, .slice a0a a0n a0k), (6, .bool (decide (((a0n : Nat) : Int) ≤ 8)))] 11 (s' := (.reg (opsAt (sub B [1, 0])) [4, 5, 6, 7, 8] :: S0)) (by kernel_rfl) fun J => ?_
  by_cases c1 : ((a0n : Nat) : Int) ≤ 8
  · replace h := iteT c1 h
    refine KR.setV 6 (by kernel_rfl) (dT c1) ?_
    refine KR.run 1 [(6, .bool true), (7, .slice a0a a0n a0k)] 11 (s' := (.reg (opsAt (sub B [1, 0])) [5, 6, 7, 8] :: S0)) (by kernel_rfl) fun J => ?_
    obtain ⟨t8, H_1, q2, h⟩ := h
    refine KR.se (one_ca (by kernel_rfl) q2) ?_
    refine KR.run 4 [(2, .bool (!t8))] 11 (s' := (.code (sub B [1, 1]) :: [])) (by kernel_rfl) fun J => ?_
    exact KR.fin (by kernel_rfl) h
  · replace h := iteF c1 h
    refine KR.setV 6 (by kernel_rfl) (dF c1) ?_
    refine KR.run 6 [(2, .bool false)] 11 (s' := (.code (sub B [1, 1]) :: [])) (by kernel_rfl) fun J => ?_
    exact KR.fin (by kernel_rfl) h
end F44
/-! #### 45 slices.Clone[[]campanile/api.Cell,campanile/api.Cell] -/
namespace F45
noncomputable def B : Code := bodyOf Try.f45
noncomputable def S0 : List It := (.code (sub B [1, 1]) :: [])
noncomputable def S2 : List It := (.code (sub B [1, 1, 1]) :: [])
noncomputable def S1 : List It := (.code (sub B [1, 0, 1]) :: S0)
theorem call {a0a : Option Addr} {a0n : Nat} {a0k : Nat} {H : Heap} {r : Value × Heap} (h :
    if (Option.isNone a0a) = true then
    (r = (.slice none 0 0, H))
    else
    (∃ (H_1 : Heap), H_1 = H.push (.row [] true) ∧
    (∃ (t7a : Option Addr) (t7n : Nat) (t7k : Nat) (H_2 : Heap), papp H_1 5 40 (some ⟨H.next, 0, none⟩) 0 (UNK 5) a0a a0n a0k = some ((t7a, t7n, t7k), H_2) ∧
    (r = (.slice t7a t7n t7k, H_2))))) :
    xC Try.prog good 45 [.slice a0a a0n a0k] H = some r := by
  refine KR.enter (fn := Try.f45) (c := B) (by kernel_rfl) (by kernel_rfl) ?_
  refine KR.run 8 [(0, .slice a0a a0n a0k), (3, .slice a0a a0n a0k)] 8 (s' := (.reg (opsAt (sub B [1, 0, 0])) [1] :: S1)) (by kernel_rfl) fun J => ?_
  refine KR.p (one_nl false a0a (by kernel_rfl)) ?_
  refine KR.run 1 [(0, .slice a0a a0n a0k), (4, .bool (Option.isNone a0a))] 8 (s' := (.code (sub B [1, 0, 1]) :: S0)) (by kernel_rfl) fun J => ?_
  by_cases c2 : (Option.isNone a0a) = true
  · replace h := iteT c2 h
    refine KR.br true (by kernel_rfl) (vB (bT c2)) ?_
    refine KR.run 4 [(2, .slice none 0 0)] 8 (s' := (.code (sub B [1, 0, 1, 0, 1]) :: S0)) (by kernel_rfl) fun J => ?_
    exact KR.fin (by kernel_rfl) h
  · replace h := iteF c2 h
    refine KR.br false (by kernel_rfl) (vB (bF c2)) ?_
    refine KR.run 3 [(0, .slice a0a a0n a0k)] 8 (s' := (.reg (opsAt (sub B [1, 1, 0])) [0, 1, 2, 3] :: S2)) (by kernel_rfl) fun J => ?_
    obtain ⟨H_1, q3, h⟩ := h
    refine KR.mk (w := sRow 0 5 []) (one_al (by kernel_rfl)) q3 ?_
    refine KR.run 1 [(5, .slice (some ⟨H.next, 0, none⟩) 0 (UNK 5)), (6, .slice a0a a0n a0k)] 8 (s' := (.reg (opsAt (sub B [1, 1, 0])) [2, 3] :: S2)) (by kernel_rfl) fun J => ?_
    obtain ⟨t7a, t7n, t7k, H_2, q4, h⟩ := h
    refine KR.se (one_ap 5 40 (by kernel_rfl) q4) ?_
    refine KR.run 2 [(2, .slice t7a t7n t7k)] 8 (s' := (.code (sub B [1, 1, 1]) :: [])) (by kernel_rfl) fun J => ?_
    exact KR.fin (by kernel_rfl) h
end F45
/-! #### 46 (*campanile/bits.Writer).Put -/
namespace F46
noncomputable def B : Code := bodyOf Try.f46
noncomputable def S0 : List It := (.code (sub B [1]) :: [])
noncomputable def S2 : List It := (.blk 0 :: [])
noncomputable def S1 : List It := (.code (sub B [0, 1]) :: S0)
noncomputable def S3 : List It := (.lp (sub B [1, 1, 0, 0]) :: S2)
noncomputable def S4 : List It := (.code (sub B [1, 1, 0, 0, 1]) :: S3)
noncomputable def S5 : List It := (.blk 1 :: S3)
noncomputable def S6 : List It := (.code (sub B [1, 1, 0, 0, 1, 0, 1]) :: S5)
noncomputable def S8 : List It := (.code (sub B [1, 1, 0, 0, 1, 0, 1, 1]) :: S5)
noncomputable def S9 : List It := (.code (sub B [1, 1, 0, 0, 1, 0, 1, 1, 1, 1]) :: S5)
noncomputable def S10 : List It := (.code (sub B [1, 1, 0, 0, 1, 0, 1, 1, 1, 1, 1]) :: S5)
noncomputable def S7 : List It := (.code (sub B [1, 1, 0, 0, 1, 0, 0, 1]) :: S6)
noncomputable def S11 : List It := (.reg (opsAt (sub B [1, 1, 0, 0, 1, 0, 1, 0])) [0, 1, 2, 3, 4, 5, 6] :: S8)
def L0 (t0 : Option Addr) (t1 : Int) (t2 : Int) (t16 : Bool) (H : Heap) (r : Value × Heap) : Prop := ∀ J, KR Try.prog good Try.f46 S1 (mat J 85 [(0, .pointer t0), (1, .int .u64 t1), (2, .int .i64 t2), (16, .bool t16)]) H r
def L1 (t0 : Option Addr) (t1 : Int) (t6 : Int) (H : Heap) (r : Value × Heap) : Prop := ∀ J, KR Try.prog good Try.f46 S3 (mat J 85 [(0, .pointer t0), (1, .int .u64 t1), (6, .int .i64 t6)]) H r
def L2 (t0b : Nat) (t0o : Nat) (t1 : Int) (t6 : Int) (H : Heap) (r : Value × Heap) : Prop := ∀ J, KR Try.prog good Try.f46 S11 (mat J 85 [(0, .pointer (some ⟨t0b, t0o, none⟩)), (1, .int .u64 t1), (6, .int .i64 t6)]) H r
theorem L0_step {t0 : Option Addr} {t1 : Int} {t2 : Int} {t16 : Bool} {H : Heap} {r : Value × Heap} (h :
    if t16 = true then
    (r = (.tuple #[], H))
    else
    (L1 (t0) (t1) (t2) H r)) :
    L0 t0 t1 t2 t16 H r := by
  intro J
  show KR _ _ _ (.code (sub B [0, 1]) :: S0) _ _ _
  by_cases c4 : t16 = true
  · replace h := iteT c4 h
    refine KR.br true (by kernel_rfl) (vB (bT c4)) ?_
    exact KR.fin (by kernel_rfl) h
  · replace h := iteF c4 h
    refine KR.br false (by kernel_rfl) (vB (bF c4)) ?_
    exact KR.run 8 [(0, .pointer t0), (1, .int .u64 t1), (6, .int .i64 t2)] 85 (s' := (.lp (sub B [1, 1, 0, 0]) :: S2)) (by kernel_rfl) h
theorem L1_step {t0 : Option Addr} {t1 : Int} {t6 : Int} {H : Heap} {r : Value × Heap} (h :
    if t6 > 0 then
    (∃ (t0b t0o : Nat), t0 = some ⟨t0b, t0o, none⟩ ∧
    (∃ (t23 : Int), ldc H t0b (t0o + 1) = some (.int .i64 t23) ∧
    (if (Int.tmod t23 8) = 0 then
    (∃ (t30a : Option Addr) (t30n : Nat) (t30k : Nat), ldc H t0b t0o = some (.slice t30a t30n t30k) ∧
    (∃ (H_1 : Heap), H_1 = H.push (.row [.int .u8 0] true) ∧
    (∃ (t32a : Option Addr) (t32n : Nat) (t32k : Nat) (H_2 : Heap), papp H_1 1 1 t30a t30n t30k (some ⟨H.next, 0, none⟩) 1 (UNK 1) = some ((t32a, t32n, t32k), H_2) ∧
    (∃ (H_3 : Heap), stc H_2 t0b t0o [.slice t32a t32n t32k] = some H_3 ∧
    (L2 (t0b) (t0o) (t1) (t6) H_3 r)))))
    else
    (L2 (t0b) (t0o) (t1) (t6) H r))))
    else
    (r = (.tuple #[], H))) :
    L1 t0 t1 t6 H r := by
  intro J
  show KR _ _ _ (.lp (sub B [1, 1, 0, 0]) :: S2) _ _ _
  refine KR.run 7 [(0, .pointer t0), (1, .int .u64 t1), (6, .int .i64 t6), (19, .bool (decide (t6 > 0)))] 85 (s' := (.code (sub B [1, 1, 0, 0, 0, 1]) :: S4)) (by kernel_rfl) fun J => ?_
  by_cases c5 : t6 > 0
  · replace h := iteT c5 h
    refine KR.br true (by kernel_rfl) (vB (dT c5)) ?_
    obtain ⟨t0b, t0o, rfl, h⟩ := h
    refine KR.run 8 [(0, .pointer (some ⟨t0b, t0o, none⟩)), (1, .int .u64 t1), (6, .int .i64 t6), (22, .pointer (some ⟨t0b, (t0o + 1), none⟩))] 85 (s' := (.reg (opsAt (sub B [1, 1, 0, 0, 1, 0, 0, 0])) [3, 4, 5] :: S7)) (by kernel_rfl) fun J => ?_
    obtain ⟨t23, q6, h⟩ := h
    refine KR.rd (one_ld (by kernel_rfl) q6) ?_
    refine KR.run 3 [(0, .pointer (some ⟨t0b, t0o, none⟩)), (1, .int .u64 t1), (6, .int .i64 t6), (25, .bool ((Int.tmod t23 8) == 0))] 85 (s' := (.code (sub B [1, 1, 0, 0, 1, 0, 0, 1]) :: S6)) (by kernel_rfl) fun J => ?_
    by_cases c7 : (Int.tmod t23 8) = 0
    · replace h := iteT c7 h
      refine KR.br true (by kernel_rfl) (vB (eT c7)) ?_
      refine KR.run 5 [(0, .pointer (some ⟨t0b, t0o, none⟩)), (1, .int .u64 t1), (6, .int .i64 t6), (26, .pointer (some ⟨t0b, t0o, none⟩)), (29, .pointer (some ⟨t0b, t0o, none⟩))] 85 (s' := (.reg (opsAt (sub B [1, 1, 0, 0, 1, 0, 0, 1, 0])) [4, 5, 6, 7, 8, 9] :: S6)) (by kernel_rfl) fun J => ?_
      obtain ⟨t30a, t30n, t30k, q8, h⟩ := h
      refine KR.rd (one_ld (by kernel_rfl) q8) ?_
      obtain ⟨H_1, q9, h⟩ := h
      refine KR.mk (w := sRow 1 1 [.int .u8 0]) (one_al (by kernel_rfl)) q9 ?_
      obtain ⟨t32a, t32n, t32k, H_2, q10, h⟩ := h
      refine KR.se (one_ap 1 1 (by kernel_rfl) q10) ?_
      refine KR.run 2 [(0, .pointer (some ⟨t0b, t0o, none⟩)), (1, .int .u64 t1), (6, .int .i64 t6), (32, .slice t32a t32n t32k), (34, .pointer (some ⟨t0b, t0o, none⟩))] 85 (s' := (.reg (opsAt (sub B [1, 1, 0, 0, 1, 0, 0, 1, 0])) [9] :: S6)) (by kernel_rfl) fun J => ?_
      obtain ⟨H_3, q11, h⟩ := h
      refine KR.se (one_st (by kernel_rfl) q11) ?_
      exact KR.run 3 [(0, .pointer (some ⟨t0b, t0o, none⟩)), (1, .int .u64 t1), (6, .int .i64 t6)] 85 (s' := (.reg (opsAt (sub B [1, 1, 0, 0, 1, 0, 1, 0])) [0, 1, 2, 3, 4, 5, 6] :: S8)) (by kernel_rfl) h
    · replace h := iteF c7 h
      refine KR.br false (by kernel_rfl) (vB (eF c7)) ?_
      exact KR.run 3 [(0, .pointer (some ⟨t0b, t0o, none⟩)), (1, .int .u64 t1), (6, .int .i64 t6)] 85 (s' := (.reg (opsAt (sub B [1, 1, 0, 0, 1, 0, 1, 0])) [0, 1, 2, 3, 4, 5, 6] :: S8)) (by kernel_rfl) h
  · replace h := iteF c5 h
    refine KR.br false (by kernel_rfl) (vB (dF c5)) ?_
    refine KR.run 1 [] 85 (s' := []) (by kernel_rfl) fun J => ?_
    exact KR.fin0 (by kernel_rfl) h
theorem L2_step {t0b : Nat} {t0o : Nat} {t1 : Int} {t6 : Int} {H : Heap} {r : Value × Heap} (h :
    ∃ (t38 : Int), ldc H t0b (t0o + 1) = some (.int .i64 t38) ∧
    ((0 : Int) ≤ (IntKind.wrap .i64 (t6 - (imin (IntKind.wrap .i64 (8 - (Int.tmod t38 8))) t6))) ∧
    ((0 : Int) ≤ (imin (IntKind.wrap .i64 (8 - (Int.tmod t38 8))) t6) ∧
    (∃ (t57a : Option Addr) (t57n : Nat) (t57k : Nat), ldc H t0b t0o = some (.slice t57a t57n t57k) ∧
    (∃ (t61a : Option Addr) (t61n : Nat) (t61k : Nat), ldc H t0b t0o = some (.slice t61a t61n t61k) ∧
    (∃ (t57ab t57ao : Nat), t57a = some ⟨t57ab, t57ao, none⟩ ∧
    ((0 : Int) ≤ (IntKind.wrap .i64 (((t61n : Nat) : Int) - 1)) ∧ (IntKind.wrap .i64 (((t61n : Nat) : Int) - 1)) < ((t57n : Nat) : Int) ∧
    (∃ (t65 : Int), ldc H t57ab (t57ao + Int.toNat (IntKind.wrap .i64 (((t61n : Nat) : Int) - 1)) * 1) = some (.int .u8 t65) ∧
    ((0 : Int) ≤ (IntKind.wrap .i64 ((IntKind.wrap .i64 (8 - (Int.tmod t38 8))) - (imin (IntKind.wrap .i64 (8 - (Int.tmod t38 8))) t6))) ∧
    ((0 : Int) ≤ (IntKind.wrap .i64 (((t61n : Nat) : Int) - 1)) ∧ (IntKind.wrap .i64 (((t61n : Nat) : Int) - 1)) < ((t57n : Nat) : Int) ∧
    (∃ (H_1 : Heap), stc H t57ab (t57ao + Int.toNat (IntKind.wrap .i64 (((t61n : Nat) : Int) - 1)) * 1) [.int .u8 (ior .u8 t65 (ishl .u8 (iand .u8 (IntKind.wrap .u8 (ishr .u64 t1 (IntKind.wrap .i64 (t6 - (imin (IntKind.wrap .i64 (8 - (Int.tmod t38 8))) t6))))) (IntKind.wrap .u8 ((ishl .u8 1 (imin (IntKind.wrap .i64 (8 - (Int.tmod t38 8))) t6)) - 1))) (IntKind.wrap .i64 ((IntKind.wrap .i64 (8 - (Int.tmod t38 8))) - (imin (IntKind.wrap .i64 (8 - (Int.tmod t38 8))) t6)))))] = some H_1 ∧
    (∃ (t77 : Int), ldc H_1 t0b (t0o + 1) = some (.int .i64 t77) ∧
    (∃ (H_2 : Heap), stc H_1 t0b (t0o + 1) [.int .i64 (IntKind.wrap .i64 (t77 + (imin (IntKind.wrap .i64 (8 - (Int.tmod t38 8))) t6)))] = some H_2 ∧
    (L1 ((some ⟨t0b, t0o, none⟩)) (t1) ((IntKind.wrap .i64 (t6 - (imin (IntKind.wrap .i64 (8 - (Int.tmod t38 8))) t6)))) H_2 r)))))))))))))) :
    L2 t0b t0o t1 t6 H r := by
  intro J
  show KR _ _ _ (.reg (opsAt (sub B [1, 1, 0, 0, 1, 0, 1, 0])) [0, 1, 2, 3, 4, 5, 6] :: S8) _ _ _
  refine KR.run 3 [(0, .pointer (some ⟨t0b, t0o, none⟩)), (1, .int .u64 t1), (6, .int .i64 t6), (37, .pointer (some ⟨t0b, (t0o + 1), none⟩))] 85 (s' := (.reg (opsAt (sub B [1, 1, 0, 0, 1, 0, 1, 0])) [3, 4, 5, 6] :: S8)) (by kernel_rfl) fun J => ?_
  obtain ⟨t38, q12, h⟩ := h
  refine KR.rd (one_ld (by kernel_rfl) q12) ?_
  refine KR.run 12 [(0, .pointer (some ⟨t0b, t0o, none⟩)), (1, .int .u64 t1), (6, .int .i64 t6), (7, .int .i64 (IntKind.wrap .i64 (8 - (Int.tmod t38 8)))), (8, .int .i64 (imin (IntKind.wrap .i64 (8 - (Int.tmod t38 8))) t6))] 85 (s' := (.code (sub B [1, 1, 0, 0, 1, 0, 1, 1, 1, 0]) :: S9)) (by kernel_rfl) fun J => ?_
  refine KR.sd (by kernel_rfl) ?_
  refine KR.run 4 [(0, .pointer (some ⟨t0b, t0o, none⟩)), (1, .int .u64 t1), (6, .int .i64 t6), (7, .int .i64 (IntKind.wrap .i64 (8 - (Int.tmod t38 8)))), (8, .int .i64 (imin (IntKind.wrap .i64 (8 - (Int.tmod t38 8))) t6)), (44, .int .u64 t1), (47, .int .i64 (IntKind.wrap .i64 (t6 - (imin (IntKind.wrap .i64 (8 - (Int.tmod t38 8))) t6))))] 85 (s' := (.reg (opsAt (sub B [1, 1, 0, 0, 1, 0, 1, 1, 1, 0])) [4, 5, 6, 7, 8, 9, 10] :: S9)) (by kernel_rfl) fun J => ?_
  obtain ⟨q13, h⟩ := h
  refine KR.p (one_shr .u64 .i64 t1 (by kernel_rfl) q13) ?_
  refine KR.run 2 [(0, .pointer (some ⟨t0b, t0o, none⟩)), (1, .int .u64 t1), (6, .int .i64 t6), (7, .int .i64 (IntKind.wrap .i64 (8 - (Int.tmod t38 8)))), (8, .int .i64 (imin (IntKind.wrap .i64 (8 - (Int.tmod t38 8))) t6)), (49, .int .u8 (IntKind.wrap .u8 (ishr .u64 t1 (IntKind.wrap .i64 (t6 - (imin (IntKind.wrap .i64 (8 - (Int.tmod t38 8))) t6)))))), (50, .int .i64 (imin (IntKind.wrap .i64 (8 - (Int.tmod t38 8))) t6))] 85 (s' := (.reg (opsAt (sub B [1, 1, 0, 0, 1, 0, 1, 1, 1, 0])) [7, 8, 9, 10] :: S9)) (by kernel_rfl) fun J => ?_
  obtain ⟨q14, h⟩ := h
  refine KR.p (one_shl .u8 .i64 1 (by kernel_rfl) q14) ?_
  refine KR.run 5 [(0, .pointer (some ⟨t0b, t0o, none⟩)), (1, .int .u64 t1), (6, .int .i64 t6), (7, .int .i64 (IntKind.wrap .i64 (8 - (Int.tmod t38 8)))), (8, .int .i64 (imin (IntKind.wrap .i64 (8 - (Int.tmod t38 8))) t6)), (9, .int .u8 (iand .u8 (IntKind.wrap .u8 (ishr .u64 t1 (IntKind.wrap .i64 (t6 - (imin (IntKind.wrap .i64 (8 - (Int.tmod t38 8))) t6))))) (IntKind.wrap .u8 ((ishl .u8 1 (imin (IntKind.wrap .i64 (8 - (Int.tmod t38 8))) t6)) - 1))))] 85 (s' := (.code (sub B [1, 1, 0, 0, 1, 0, 1, 1, 1, 1, 0]) :: S10)) (by kernel_rfl) fun J => ?_
  refine KR.sd (by kernel_rfl) ?_
  refine KR.run 3 [(0, .pointer (some ⟨t0b, t0o, none⟩)), (1, .int .u64 t1), (6, .int .i64 t6), (7, .int .i64 (IntKind.wrap .i64 (8 - (Int.tmod t38 8)))), (8, .int .i64 (imin (IntKind.wrap .i64 (8 - (Int.tmod t38 8))) t6)), (9, .int .u8 (iand .u8 (IntKind.wrap .u8 (ishr .u64 t1 (IntKind.wrap .i64 (t6 - (imin (IntKind.wrap .i64 (8 - (Int.tmod t38 8))) t6))))) (IntKind.wrap .u8 ((ishl .u8 1 (imin (IntKind.wrap .i64 (8 - (Int.tmod t38 8))) t6)) - 1)))), (56, .pointer (some ⟨t0b, t0o, none⟩))] 85 (s' := (.reg (opsAt (sub B [1, 1, 0, 0, 1, 0, 1, 1, 1, 1, 0])) [3, 4, 5, 6, 7, 8, 9, 10, 11, 12, 13, 14, 15, 16, 17, 18, 19] :: S10)) (by kernel_rfl) fun J => ?_
  obtain ⟨t57a, t57n, t57k, q15, h⟩ := h
  refine KR.rd (one_ld (by kernel_rfl) q15) ?_
  refine KR.run 3 [(0, .pointer (some ⟨t0b, t0o, none⟩)), (1, .int .u64 t1), (6, .int .i64 t6), (7, .int .i64 (IntKind.wrap .i64 (8 - (Int.tmod t38 8)))), (8, .int .i64 (imin (IntKind.wrap .i64 (8 - (Int.tmod t38 8))) t6)), (9, .int .u8 (iand .u8 (IntKind.wrap .u8 (ishr .u64 t1 (IntKind.wrap .i64 (t6 - (imin (IntKind.wrap .i64 (8 - (Int.tmod t38 8))) t6))))) (IntKind.wrap .u8 ((ishl .u8 1 (imin (IntKind.wrap .i64 (8 - (Int.tmod t38 8))) t6)) - 1)))), (57, .slice t57a t57n t57k), (60, .pointer (some ⟨t0b, t0o, none⟩))] 85 (s' := (.reg (opsAt (sub B [1, 1, 0, 0, 1, 0, 1, 1, 1, 1, 0])) [7, 8, 9, 10, 11, 12, 13, 14, 15, 16, 17, 18, 19] :: S10)) (by kernel_rfl) fun J => ?_
  obtain ⟨t61a, t61n, t61k, q16, h⟩ := h
  refine KR.rd (one_ld (by kernel_rfl) q16) ?_
  obtain ⟨t57ab, t57ao, rfl, h⟩ := h
  refine KR.run 2 [(0, .pointer (some ⟨t0b, t0o, none⟩)), (1, .int .u64 t1), (6, .int .i64 t6), (7, .int .i64 (IntKind.wrap .i64 (8 - (Int.tmod t38 8)))), (8, .int .i64 (imin (IntKind.wrap .i64 (8 - (Int.tmod t38 8))) t6)), (9, .int .u8 (iand .u8 (IntKind.wrap .u8 (ishr .u64 t1 (IntKind.wrap .i64 (t6 - (imin (IntKind.wrap .i64 (8 - (Int.tmod t38 8))) t6))))) (IntKind.wrap .u8 ((ishl .u8 1 (imin (IntKind.wrap .i64 (8 - (Int.tmod t38 8))) t6)) - 1)))), (57, .slice (some ⟨t57ab, t57ao, none⟩) t57n t57k), (63, .int .i64 (IntKind.wrap .i64 (((t61n : Nat) : Int) - 1)))] 85 (s' := (.reg (opsAt (sub B [1, 1, 0, 0, 1, 0, 1, 1, 1, 1, 0])) [10, 11, 12, 13, 14, 15, 16, 17, 18, 19] :: S10)) (by kernel_rfl) fun J => ?_
  obtain ⟨q17, q17x, h⟩ := h
  refine KR.p (one_ix 1 t57ab t57ao (by kernel_rfl) q17 q17x) ?_
  obtain ⟨t65, q18, h⟩ := h
  refine KR.rd (one_ld (by kernel_rfl) q18) ?_
  refine KR.run 4 [(0, .pointer (some ⟨t0b, t0o, none⟩)), (1, .int .u64 t1), (6, .int .i64 t6), (8, .int .i64 (imin (IntKind.wrap .i64 (8 - (Int.tmod t38 8))) t6)), (57, .slice (some ⟨t57ab, t57ao, none⟩) t57n t57k), (63, .int .i64 (IntKind.wrap .i64 (((t61n : Nat) : Int) - 1))), (65, .int .u8 t65), (66, .int .u8 (iand .u8 (IntKind.wrap .u8 (ishr .u64 t1 (IntKind.wrap .i64 (t6 - (imin (IntKind.wrap .i64 (8 - (Int.tmod t38 8))) t6))))) (IntKind.wrap .u8 ((ishl .u8 1 (imin (IntKind.wrap .i64 (8 - (Int.tmod t38 8))) t6)) - 1)))), (69, .int .i64 (IntKind.wrap .i64 ((IntKind.wrap .i64 (8 - (Int.tmod t38 8))) - (imin (IntKind.wrap .i64 (8 - (Int.tmod t38 8))) t6))))] 85 (s' := (.reg (opsAt (sub B [1, 1, 0, 0, 1, 0, 1, 1, 1, 1, 0])) [16, 17, 18, 19] :: S10)) (by kernel_rfl) fun J => ?_
  obtain ⟨q19, h⟩ := h
  refine KR.p (one_shl .u8 .i64 (iand .u8 (IntKind.wrap .u8 (ishr .u64 t1 (IntKind.wrap .i64 (t6 - (imin (IntKind.wrap .i64 (8 - (Int.tmod t38 8))) t6))))) (IntKind.wrap .u8 ((ishl .u8 1 (imin (IntKind.wrap .i64 (8 - (Int.tmod t38 8))) t6)) - 1))) (by kernel_rfl) q19) ?_
  refine KR.run 1 [(0, .pointer (some ⟨t0b, t0o, none⟩)), (1, .int .u64 t1), (6, .int .i64 t6), (8, .int .i64 (imin (IntKind.wrap .i64 (8 - (Int.tmod t38 8))) t6)), (57, .slice (some ⟨t57ab, t57ao, none⟩) t57n t57k), (63, .int .i64 (IntKind.wrap .i64 (((t61n : Nat) : Int) - 1))), (71, .int .u8 (ior .u8 t65 (ishl .u8 (iand .u8 (IntKind.wrap .u8 (ishr .u64 t1 (IntKind.wrap .i64 (t6 - (imin (IntKind.wrap .i64 (8 - (Int.tmod t38 8))) t6))))) (IntKind.wrap .u8 ((ishl .u8 1 (imin (IntKind.wrap .i64 (8 - (Int.tmod t38 8))) t6)) - 1))) (IntKind.wrap .i64 ((IntKind.wrap .i64 (8 - (Int.tmod t38 8))) - (imin (IntKind.wrap .i64 (8 - (Int.tmod t38 8))) t6))))))] 85 (s' := (.reg (opsAt (sub B [1, 1, 0, 0, 1, 0, 1, 1, 1, 1, 0])) [18, 19] :: S10)) (by kernel_rfl) fun J => ?_
  obtain ⟨q20, q20x, h⟩ := h
  refine KR.p (one_ix 1 t57ab t57ao (by kernel_rfl) q20 q20x) ?_
  obtain ⟨H_1, q21, h⟩ := h
  refine KR.se (one_st (by kernel_rfl) q21) ?_
  refine KR.run 6 [(0, .pointer (some ⟨t0b, t0o, none⟩)), (1, .int .u64 t1), (6, .int .i64 t6), (8, .int .i64 (imin (IntKind.wrap .i64 (8 - (Int.tmod t38 8))) t6)), (73, .pointer (some ⟨t0b, t0o, none⟩)), (76, .pointer (some ⟨t0b, (t0o + 1), none⟩))] 85 (s' := (.reg (opsAt (sub B [1, 1, 0, 0, 1, 0, 1, 1, 1, 1, 1])) [4, 5, 6, 7, 8, 9, 10, 11, 12, 13] :: S5)) (by kernel_rfl) fun J => ?_
  obtain ⟨t77, q22, h⟩ := h
  refine KR.rd (one_ld (by kernel_rfl) q22) ?_
  refine KR.run 7 [(0, .pointer (some ⟨t0b, t0o, none⟩)), (1, .int .u64 t1), (79, .int .i64 (IntKind.wrap .i64 (t77 + (imin (IntKind.wrap .i64 (8 - (Int.tmod t38 8))) t6)))), (82, .int .i64 (IntKind.wrap .i64 (t6 - (imin (IntKind.wrap .i64 (8 - (Int.tmod t38 8))) t6)))), (84, .pointer (some ⟨t0b, (t0o + 1), none⟩))] 85 (s' := (.reg (opsAt (sub B [1, 1, 0, 0, 1, 0, 1, 1, 1, 1, 1])) [12, 13] :: S5)) (by kernel_rfl) fun J => ?_
  obtain ⟨H_2, q23, h⟩ := h
  refine KR.se (one_st (by kernel_rfl) q23) ?_
  exact KR.run 3 [(0, .pointer (some ⟨t0b, t0o, none⟩)), (1, .int .u64 t1), (6, .int .i64 (IntKind.wrap .i64 (t6 - (imin (IntKind.wrap .i64 (8 - (Int.tmod t38 8))) t6))))] 85 (s' := (.lp (sub B [1, 1, 0, 0]) :: S2)) (by kernel_rfl) h
theorem call {a0 : Option Addr} {a1 : Int} {a2 : Int} {H : Heap} {r : Value × Heap} (h :
    if (Option.isNone a0) = true then
    (L0 (a0) (a1) (a2) (true) H r)
    else
    (∃ (t14 : Bool) (H_1 : Heap), xC Try.prog good 60 [.int .i64 a2] H = some (.bool t14, H_1) ∧
    (L0 (a0) (a1) (a2) ((!t14)) H_1 r))) :
    xC Try.prog good 46 [.pointer a0, .int .u64 a1, .int .i64 a2] H = some r := by
  refine KR.enter (fn := Try.f46) (c := B) (by kernel_rfl) (by kernel_rfl) ?_
  refine KR.run 4 [(0, .pointer a0), (1, .int .u64 a1), (2, .int .i64 a2), (10, .pointer a0)] 85 (s' := (.reg (opsAt (sub B [0, 0])) [1, 2, 3, 4, 5, 6] :: S1)) (by kernel_rfl) fun J => ?_
  refine KR.p (one_nl false a0 (by kernel_rfl)) ?_
  refine KR.run 1 [(0, .pointer a0), (1, .int .u64 a1), (2, .int .i64 a2), (12, .bool (Option.isNone a0))] 85 (s' := (.reg (opsAt (sub B [0, 0])) [3, 4, 5, 6] :: S1)) (by kernel_rfl) fun J => ?_
  by_cases c2 : (Option.isNone a0) = true
  · replace h := iteT c2 h
    refine KR.setV 12 (by kernel_rfl) (bT c2) ?_
    exact KR.run 5 [(0, .pointer a0), (1, .int .u64 a1), (2, .int .i64 a2), (16, .bool true)] 85 (s' := (.code (sub B [0, 1]) :: S0)) (by kernel_rfl) h
  · replace h := iteF c2 h
    refine KR.setV 12 (by kernel_rfl) (bF c2) ?_
    refine KR.run 1 [(0, .pointer a0), (1, .int .u64 a1), (2, .int .i64 a2), (12, .bool false), (13, .int .i64 a2)] 85 (s' := (.reg (opsAt (sub B [0, 0])) [4, 5, 6] :: S1)) (by kernel_rfl) fun J => ?_
    obtain ⟨t14, H_1, q3, h⟩ := h
    refine KR.se (one_ca (by kernel_rfl) q3) ?_
    exact KR.run 3 [(0, .pointer a0), (1, .int .u64 a1), (2, .int .i64 a2), (16, .bool (!t14))] 85 (s' := (.code (sub B [0, 1]) :: S0)) (by kernel_rfl) h
end F46
/-! #### 47 campanile/seal.Tag -/
namespace F47
noncomputable def B : Code := bodyOf Try.f47
noncomputable def S0 : List It := (.code (sub B [1]) :: [])
noncomputable def S1 : List It := (.code (sub B [1, 1]) :: [])
noncomputable def S2 : List It := (.code (sub B [1, 1, 1]) :: [])
noncomputable def S3 : List It := (.code (sub B [1, 1, 1, 1, 1]) :: [])
noncomputable def S4 : List It := (.code (sub B [1, 1, 1, 1, 1, 1]) :: [])
noncomputable def S11 : List It := (.code (sub B [1, 1, 1, 1, 1, 1, 1]) :: [])
noncomputable def S12 : List It := (.code (sub B [1, 1, 1, 1, 1, 1, 1, 1]) :: [])
noncomputable def S5 : List It := (.blk 0 :: S4)
noncomputable def S6 : List It := (.lp (sub B [1, 1, 1, 1, 1, 0, 1, 0, 0]) :: S5)
noncomputable def S7 : List It := (.code (sub B [1, 1, 1, 1, 1, 0, 1, 0, 0, 1, 1]) :: S6)
noncomputable def S8 : List It := (.code (sub B [1, 1, 1, 1, 1, 0, 1, 0, 0, 1, 1, 1]) :: S6)
noncomputable def S9 : List It := (.blk 1 :: S8)
noncomputable def S10 : List It := (.code (sub B [1, 1, 1, 1, 1, 0, 1, 0, 0, 1, 1, 0, 0, 1]) :: S9)
def L0 (t5b : Nat) (t5o : Nat) (t6b : Nat) (t6o : Nat) (t7d0b : Nat) (t7d0o : Nat) (t7d1b : Nat) (t7d1o : Nat) (t14a : Option Addr) (t14n : Nat) (t14k : Nat) (t15 : Int) (t16 : Int) (H : Heap) (r : Value × Heap) : Prop := ∀ J, KR Try.prog good Try.f47 S6 (mat J 27 [(5, .pointer (some ⟨t5b, t5o, none⟩)), (6, .pointer (some ⟨t6b, t6o, none⟩)), (7, .func (.func 62) #[] #[.pointer (some ⟨t7d0b, t7d0o, none⟩), .pointer (some ⟨t7d1b, t7d1o, none⟩)]), (14, .slice t14a t14n t14k), (15, .int .i64 t15), (16, .int .i64 t16)]) H r
theorem L0_step {t5b : Nat} {t5o : Nat} {t6b : Nat} {t6o : Nat} {t7d0b : Nat} {t7d0o : Nat} {t7d1b : Nat} {t7d1o : Nat} {t14a : Option Addr} {t14n : Nat} {t14k : Nat} {t15 : Int} {t16 : Int} {H : Heap} {r : Value × Heap} (h :
    if t16 < t15 then
    (∃ (t14ab t14ao : Nat), t14a = some ⟨t14ab, t14ao, none⟩ ∧
    ((0 : Int) ≤ t16 ∧ t16 < ((t14n : Nat) : Int) ∧
    (∃ (t19 : Int), ldc H t14ab (t14ao + Int.toNat t16 * 1) = some (.int .u8 t19) ∧
    (∃ (t20 : Value), ldc H t6b t6o = some (t20) ∧
    (∃ (t20g : Nat) (t20x t20y : Array Value), t20 = .func (.func t20g) t20x t20y ∧
    (fnGoes Try.prog t20g = true ∧ ∃ (H_1 : Heap), xC Try.prog good t20g (Array.toList t20x ++ [.int .u8 t19] ++ Array.toList t20y) H = some (.tuple #[], H_1) ∧
    (L0 (t5b) (t5o) (t6b) (t6o) (t7d0b) (t7d0o) (t7d1b) (t7d1o) ((some ⟨t14ab, t14ao, none⟩)) (t14n) (t14k) (t15) ((IntKind.wrap .i64 (t16 + 1))) H_1 r)))))))
    else
    (∃ (H_2 : Heap), xC Try.prog good 62 [.pointer (some ⟨t7d0b, t7d0o, none⟩), .pointer (some ⟨t7d1b, t7d1o, none⟩)] H = some (.tuple #[], H_2) ∧
    (∃ (t26 : Int), ldc H_2 t5b t5o = some (.int .u32 t26) ∧
    (r = (.int .u32 t26, H_2))))) :
    L0 t5b t5o t6b t6o t7d0b t7d0o t7d1b t7d1o t14a t14n t14k t15 t16 H r := by
  intro J
  show KR _ _ _ (.lp (sub B [1, 1, 1, 1, 1, 0, 1, 0, 0]) :: S5) _ _ _
  refine KR.run 6 [(5, .pointer (some ⟨t5b, t5o, none⟩)), (6, .pointer (some ⟨t6b, t6o, none⟩)), (7, .func (.func 62) #[] #[.pointer (some ⟨t7d0b, t7d0o, none⟩), .pointer (some ⟨t7d1b, t7d1o, none⟩)]), (14, .slice t14a t14n t14k), (15, .int .i64 t15), (16, .int .i64 t16), (17, .bool (decide (t16 < t15)))] 27 (s' := (.code (sub B [1, 1, 1, 1, 1, 0, 1, 0, 0, 1, 0]) :: S7)) (by kernel_rfl) fun J => ?_
  by_cases c7 : t16 < t15
  · replace h := iteT c7 h
    refine KR.br true (by kernel_rfl) (vB (dT c7)) ?_
    obtain ⟨t14ab, t14ao, rfl, h⟩ := h
    refine KR.run 5 [(5, .pointer (some ⟨t5b, t5o, none⟩)), (6, .pointer (some ⟨t6b, t6o, none⟩)), (7, .func (.func 62) #[] #[.pointer (some ⟨t7d0b, t7d0o, none⟩), .pointer (some ⟨t7d1b, t7d1o, none⟩)]), (14, .slice (some ⟨t14ab, t14ao, none⟩) t14n t14k), (15, .int .i64 t15), (16, .int .i64 t16)] 27 (s' := (.reg (opsAt (sub B [1, 1, 1, 1, 1, 0, 1, 0, 0, 1, 1, 0, 0, 0])) [0, 1, 2] :: S10)) (by kernel_rfl) fun J => ?_
    obtain ⟨q8, q8x, h⟩ := h
    refine KR.p (one_ix 1 t14ab t14ao (by kernel_rfl) q8 q8x) ?_
    obtain ⟨t19, q9, h⟩ := h
    refine KR.rd (one_ld (by kernel_rfl) q9) ?_
    refine KR.run 3 [(5, .pointer (some ⟨t5b, t5o, none⟩)), (6, .pointer (some ⟨t6b, t6o, none⟩)), (7, .func (.func 62) #[] #[.pointer (some ⟨t7d0b, t7d0o, none⟩), .pointer (some ⟨t7d1b, t7d1o, none⟩)]), (9, .int .u8 t19), (14, .slice (some ⟨t14ab, t14ao, none⟩) t14n t14k), (15, .int .i64 t15), (16, .int .i64 t16)] 27 (s' := (.reg (opsAt (sub B [1, 1, 1, 1, 1, 0, 1, 0, 0, 1, 1, 0, 0, 1])) [0, 1, 2] :: S9)) (by kernel_rfl) fun J => ?_
    obtain ⟨t20, q10, h⟩ := h
    refine KR.rd (one_ld (by kernel_rfl) q10) ?_
    refine KR.run 1 [(5, .pointer (some ⟨t5b, t5o, none⟩)), (6, .pointer (some ⟨t6b, t6o, none⟩)), (7, .func (.func 62) #[] #[.pointer (some ⟨t7d0b, t7d0o, none⟩), .pointer (some ⟨t7d1b, t7d1o, none⟩)]), (14, .slice (some ⟨t14ab, t14ao, none⟩) t14n t14k), (15, .int .i64 t15), (16, .int .i64 t16), (20, t20), (21, .int .u8 t19)] 27 (s' := (.reg (opsAt (sub B [1, 1, 1, 1, 1, 0, 1, 0, 0, 1, 1, 0, 0, 1])) [2] :: S9)) (by kernel_rfl) fun J => ?_
    obtain ⟨t20g, t20x, t20y, rfl, h⟩ := h
    obtain ⟨q12x, H_1, q12, h⟩ := h
    refine KR.se (one_fv (by kernel_rfl) q12x q12) ?_
    exact KR.run 6 [(5, .pointer (some ⟨t5b, t5o, none⟩)), (6, .pointer (some ⟨t6b, t6o, none⟩)), (7, .func (.func 62) #[] #[.pointer (some ⟨t7d0b, t7d0o, none⟩), .pointer (some ⟨t7d1b, t7d1o, none⟩)]), (14, .slice (some ⟨t14ab, t14ao, none⟩) t14n t14k), (15, .int .i64 t15), (16, .int .i64 (IntKind.wrap .i64 (t16 + 1)))] 27 (s' := (.lp (sub B [1, 1, 1, 1, 1, 0, 1, 0, 0]) :: S5)) (by kernel_rfl) h
  · replace h := iteF c7 h
    refine KR.br false (by kernel_rfl) (vB (dF c7)) ?_
    refine KR.run 4 [(5, .pointer (some ⟨t5b, t5o, none⟩)), (24, .func (.func 62) #[] #[.pointer (some ⟨t7d0b, t7d0o, none⟩), .pointer (some ⟨t7d1b, t7d1o, none⟩)])] 27 (s' := (.reg (opsAt (sub B [1, 1, 1, 1, 1, 1, 0])) [1] :: S11)) (by kernel_rfl) fun J => ?_
    obtain ⟨H_2, q13, h⟩ := h
    refine KR.se (one_ca (by kernel_rfl) q13) ?_
    refine KR.run 3 [(5, .pointer (some ⟨t5b, t5o, none⟩))] 27 (s' := (.reg (opsAt (sub B [1, 1, 1, 1, 1, 1, 1, 0])) [0, 1] :: S12)) (by kernel_rfl) fun J => ?_
    obtain ⟨t26, q14, h⟩ := h
    refine KR.rd (one_ld (by kernel_rfl) q14) ?_
    refine KR.run 2 [(4, .int .u32 t26)] 27 (s' := (.code (sub B [1, 1, 1, 1, 1, 1, 1, 1]) :: [])) (by kernel_rfl) fun J => ?_
    exact KR.fin (by kernel_rfl) h
theorem call {a0 : Int} {a1a : Option Addr} {a1n : Nat} {a1k : Nat} {H : Heap} {r : Value × Heap} (h :
    ∃ (H_1 : Heap), H_1 = H.push (.row [.int .u64 a0] true) ∧
    (∃ (H_2 : Heap), H_2 = H_1.push (.row [.int .u32 0] true) ∧
    (∃ (H_3 : Heap), stc H_2 H_1.next 0 [.int .u32 2166136261] = some H_3 ∧
    (∃ (H_4 : Heap), H_4 = H_3.push (.row [.nilFunc] true) ∧
    (∃ (H_5 : Heap), stc H_4 H_3.next 0 [.func (.func 61) #[] #[.pointer (some ⟨H_1.next, 0, none⟩)]] = some H_5 ∧
    (∃ (H_6 : Heap), xC Try.prog good 62 [.pointer (some ⟨H_3.next, 0, none⟩), .pointer (some ⟨H.next, 0, none⟩)] H_5 = some (.tuple #[], H_6) ∧
    (L0 (H_1.next) (0) (H_3.next) (0) (H_3.next) (0) (H.next) (0) (a1a) (a1n) (a1k) (((a1n : Nat) : Int)) 0 H_6 r))))))) :
    xC Try.prog good 47 [.int .u64 a0, .slice a1a a1n a1k] H = some r := by
  refine KR.enter (fn := Try.f47) (c := B) (by kernel_rfl) (by kernel_rfl) ?_
  refine KR.run 2 [(0, .int .u64 a0), (1, .slice a1a a1n a1k)] 27 (s' := (.reg (opsAt (sub B [0])) [0, 1] :: S0)) (by kernel_rfl) fun J => ?_
  obtain ⟨H_1, q1, h⟩ := h
  refine KR.mk (w := pRow [.int .u64 a0]) (one_al (by kernel_rfl)) q1 ?_
  refine KR.run 4 [(1, .slice a1a a1n a1k), (2, .pointer (some ⟨H.next, 0, none⟩))] 27 (s' := (.reg (opsAt (sub B [1, 0])) [0, 1] :: S1)) (by kernel_rfl) fun J => ?_
  obtain ⟨H_2, q2, h⟩ := h
  refine KR.mk (w := pRow [.int .u32 0]) (one_al (by kernel_rfl)) q2 ?_
  obtain ⟨H_3, q3, h⟩ := h
  refine KR.se (one_st (by kernel_rfl) q3) ?_
  refine KR.run 4 [(1, .slice a1a a1n a1k), (2, .pointer (some ⟨H.next, 0, none⟩)), (5, .pointer (some ⟨H_1.next, 0, none⟩)), (10, .func (.func 61) #[] #[.pointer (some ⟨H_1.next, 0, none⟩)])] 27 (s' := (.reg (opsAt (sub B [1, 1, 0])) [1, 2] :: S2)) (by kernel_rfl) fun J => ?_
  obtain ⟨H_4, q4, h⟩ := h
  refine KR.mk (w := pRow [.nilFunc]) (one_al (by kernel_rfl)) q4 ?_
  obtain ⟨H_5, q5, h⟩ := h
  refine KR.se (one_st (by kernel_rfl) q5) ?_
  refine KR.run 9 [(1, .slice a1a a1n a1k), (5, .pointer (some ⟨H_1.next, 0, none⟩)), (6, .pointer (some ⟨H_3.next, 0, none⟩)), (7, .func (.func 62) #[] #[.pointer (some ⟨H_3.next, 0, none⟩), .pointer (some ⟨H.next, 0, none⟩)]), (12, .func (.func 62) #[] #[.pointer (some ⟨H_3.next, 0, none⟩), .pointer (some ⟨H.next, 0, none⟩)])] 27 (s' := (.reg (opsAt (sub B [1, 1, 1, 1, 0])) [1] :: S3)) (by kernel_rfl) fun J => ?_
  obtain ⟨H_6, q6, h⟩ := h
  refine KR.se (one_ca (by kernel_rfl) q6) ?_
  exact KR.run 10 [(5, .pointer (some ⟨H_1.next, 0, none⟩)), (6, .pointer (some ⟨H_3.next, 0, none⟩)), (7, .func (.func 62) #[] #[.pointer (some ⟨H_3.next, 0, none⟩), .pointer (some ⟨H.next, 0, none⟩)]), (14, .slice a1a a1n a1k), (15, .int .i64 ((a1n : Nat) : Int)), (16, .int .i64 0)] 27 (s' := (.lp (sub B [1, 1, 1, 1, 1, 0, 1, 0, 0]) :: S5)) (by kernel_rfl) h
end F47
/-! #### 48 (*campanile/bits.Writer).Bytes -/
namespace F48
noncomputable def B : Code := bodyOf Try.f48
noncomputable def S0 : List It := (.code (sub B [1, 1]) :: [])
noncomputable def S2 : List It := (.code (sub B [1, 1, 1]) :: [])
noncomputable def S1 : List It := (.code (sub B [1, 0, 1]) :: S0)
theorem call {a0 : Option Addr} {H : Heap} {r : Value × Heap} (h :
    if (Option.isNone a0) = true then
    (r = (.slice none 0 0, H))
    else
    (∃ (a0b a0o : Nat), a0 = some ⟨a0b, a0o, none⟩ ∧
    (∃ (t8a : Option Addr) (t8n : Nat) (t8k : Nat), ldc H a0b a0o = some (.slice t8a t8n t8k) ∧
    (∃ (t9a : Option Addr) (t9n : Nat) (t9k : Nat) (H_1 : Heap), papp H 1 1 none 0 0 t8a t8n t8k = some ((t9a, t9n, t9k), H_1) ∧
    (r = (.slice t9a t9n t9k, H_1)))))) :
    xC Try.prog good 48 [.pointer a0] H = some r := by
  refine KR.enter (fn := Try.f48) (c := B) (by kernel_rfl) (by kernel_rfl) ?_
  refine KR.run 8 [(0, .pointer a0), (3, .pointer a0)] 10 (s' := (.reg (opsAt (sub B [1, 0, 0])) [1] :: S1)) (by kernel_rfl) fun J => ?_
  refine KR.p (one_nl false a0 (by kernel_rfl)) ?_
  refine KR.run 1 [(0, .pointer a0), (4, .bool (Option.isNone a0))] 10 (s' := (.code (sub B [1, 0, 1]) :: S0)) (by kernel_rfl) fun J => ?_
  by_cases c2 : (Option.isNone a0) = true
  · replace h := iteT c2 h
    refine KR.br true (by kernel_rfl) (vB (bT c2)) ?_
    refine KR.run 4 [(2, .slice none 0 0)] 10 (s' := (.code (sub B [1, 0, 1, 0, 1]) :: S0)) (by kernel_rfl) fun J => ?_
    exact KR.fin (by kernel_rfl) h
  · replace h := iteF c2 h
    refine KR.br false (by kernel_rfl) (vB (bF c2)) ?_
    obtain ⟨a0b, a0o, rfl, h⟩ := h
    refine KR.run 6 [(7, .pointer (some ⟨a0b, a0o, none⟩))] 10 (s' := (.reg (opsAt (sub B [1, 1, 0])) [3, 4, 5] :: S2)) (by kernel_rfl) fun J => ?_
    obtain ⟨t8a, t8n, t8k, q3, h⟩ := h
    refine KR.rd (one_ld (by kernel_rfl) q3) ?_
    obtain ⟨t9a, t9n, t9k, H_1, q4, h⟩ := h
    refine KR.se (one_ap 1 1 (by kernel_rfl) q4) ?_
    refine KR.run 2 [(2, .slice t9a t9n t9k)] 10 (s' := (.code (sub B [1, 1, 1]) :: [])) (by kernel_rfl) fun J => ?_
    exact KR.fin (by kernel_rfl) h
end F48
/-! #### 49 campanile/campanileref8.Tag -/
namespace F49
noncomputable def B : Code := bodyOf Try.f49
noncomputable def S0 : List It := (.code (sub B [1, 1]) :: [])
noncomputable def S1 : List It := (.code (sub B [1, 1, 1, 1]) :: [])
noncomputable def S2 : List It := (.blk 0 :: S1)
noncomputable def S3 : List It := (.lp (sub B [1, 1, 1, 0, 1, 0, 0]) :: S2)
noncomputable def S4 : List It := (.code (sub B [1, 1, 1, 0, 1, 0, 0, 1, 1]) :: S3)
noncomputable def S5 : List It := (.code (sub B [1, 1, 1, 0, 1, 0, 0, 1, 1, 1]) :: S3)
noncomputable def S6 : List It := (.blk 1 :: S5)
noncomputable def S7 : List It := (.code (sub B [1, 1, 1, 0, 1, 0, 0, 1, 1, 0, 0, 1]) :: S6)
noncomputable def S8 : List It := (.blk 2 :: S6)
noncomputable def S9 : List It := (.lp (sub B [1, 1, 1, 0, 1, 0, 0, 1, 1, 0, 0, 1, 1, 0, 0]) :: S8)
noncomputable def S10 : List It := (.code (sub B [1, 1, 1, 0, 1, 0, 0, 1, 1, 0, 0, 1, 1, 0, 0, 1, 1]) :: S9)
noncomputable def S11 : List It := (.code (sub B [1, 1, 1, 0, 1, 0, 0, 1, 1, 0, 0, 1, 1, 0, 0, 1, 1, 1]) :: S9)
noncomputable def S12 : List It := (.blk 3 :: S11)
noncomputable def S13 : List It := (.code (sub B [1, 1, 1, 0, 1, 0, 0, 1, 1, 0, 0, 1, 1, 0, 0, 1, 1, 0, 0, 1]) :: S12)
def L0 (t6 : Int) (t16c0a : Option Addr) (t16c0n : Nat) (t16c0k : Nat) (t16c1a : Option Addr) (t16c1n : Nat) (t16c1k : Nat) (t16c2a : Option Addr) (t16c2n : Nat) (t16c2k : Nat) (t17 : Int) (H : Heap) (r : Value × Heap) : Prop := ∀ J, KR Try.prog good Try.f49 S3 (mat J 34 [(6, .int .u32 t6), (16, .agg #[.slice t16c0a t16c0n t16c0k, .slice t16c1a t16c1n t16c1k, .slice t16c2a t16c2n t16c2k]), (17, .int .i64 t17)]) H r
def L1 (t6 : Int) (t16c0a : Option Addr) (t16c0n : Nat) (t16c0k : Nat) (t16c1a : Option Addr) (t16c1n : Nat) (t16c1k : Nat) (t16c2a : Option Addr) (t16c2n : Nat) (t16c2k : Nat) (t17 : Int) (t20a : Option Addr) (t20n : Nat) (t20k : Nat) (t21 : Int) (t22 : Int) (H : Heap) (r : Value × Heap) : Prop := ∀ J, KR Try.prog good Try.f49 S9 (mat J 34 [(6, .int .u32 t6), (16, .agg #[.slice t16c0a t16c0n t16c0k, .slice t16c1a t16c1n t16c1k, .slice t16c2a t16c2n t16c2k]), (17, .int .i64 t17), (20, .slice t20a t20n t20k), (21, .int .i64 t21), (22, .int .i64 t22)]) H r
theorem L0_step {t6 : Int} {t16c0a : Option Addr} {t16c0n : Nat} {t16c0k : Nat} {t16c1a : Option Addr} {t16c1n : Nat} {t16c1k : Nat} {t16c2a : Option Addr} {t16c2n : Nat} {t16c2k : Nat} {t17 : Int} {H : Heap} {r : Value × Heap} (h :
    if t17 < 3 then
    (∃ (t19a : Option Addr) (t19n : Nat) (t19k : Nat), pag [.slice t16c0a t16c0n t16c0k, .slice t16c1a t16c1n t16c1k, .slice t16c2a t16c2n t16c2k] t17 = some (.slice t19a t19n t19k) ∧
    (L1 (t6) (t16c0a) (t16c0n) (t16c0k) (t16c1a) (t16c1n) (t16c1k) (t16c2a) (t16c2n) (t16c2k) (t17) (t19a) (t19n) (t19k) (((t19n : Nat) : Int)) 0 H r))
    else
    (r = (.int .u32 t6, H))) :
    L0 t6 t16c0a t16c0n t16c0k t16c1a t16c1n t16c1k t16c2a t16c2n t16c2k t17 H r := by
  intro J
  show KR _ _ _ (.lp (sub B [1, 1, 1, 0, 1, 0, 0]) :: S2) _ _ _
  refine KR.run 6 [(6, .int .u32 t6), (16, .agg #[.slice t16c0a t16c0n t16c0k, .slice t16c1a t16c1n t16c1k, .slice t16c2a t16c2n t16c2k]), (17, .int .i64 t17), (18, .bool (decide (t17 < 3)))] 34 (s' := (.code (sub B [1, 1, 1, 0, 1, 0, 0, 1, 0]) :: S4)) (by kernel_rfl) fun J => ?_
  by_cases c2 : t17 < 3
  · replace h := iteT c2 h
    refine KR.br true (by kernel_rfl) (vB (dT c2)) ?_
    refine KR.run 5 [(6, .int .u32 t6), (16, .agg #[.slice t16c0a t16c0n t16c0k, .slice t16c1a t16c1n t16c1k, .slice t16c2a t16c2n t16c2k]), (17, .int .i64 t17)] 34 (s' := (.reg (opsAt (sub B [1, 1, 1, 0, 1, 0, 0, 1, 1, 0, 0, 0])) [0, 1] :: S7)) (by kernel_rfl) fun J => ?_
    obtain ⟨t19a, t19n, t19k, q3, h⟩ := h
    refine KR.p (one_ag (by kernel_rfl) q3) ?_
    exact KR.run 10 [(6, .int .u32 t6), (16, .agg #[.slice t16c0a t16c0n t16c0k, .slice t16c1a t16c1n t16c1k, .slice t16c2a t16c2n t16c2k]), (17, .int .i64 t17), (20, .slice t19a t19n t19k), (21, .int .i64 ((t19n : Nat) : Int)), (22, .int .i64 0)] 34 (s' := (.lp (sub B [1, 1, 1, 0, 1, 0, 0, 1, 1, 0, 0, 1, 1, 0, 0]) :: S8)) (by kernel_rfl) h
  · replace h := iteF c2 h
    refine KR.br false (by kernel_rfl) (vB (dF c2)) ?_
    refine KR.run 6 [(4, .int .u32 t6)] 34 (s' := (.code (sub B [1, 1, 1, 1, 1]) :: [])) (by kernel_rfl) fun J => ?_
    exact KR.fin (by kernel_rfl) h
theorem L1_step {t6 : Int} {t16c0a : Option Addr} {t16c0n : Nat} {t16c0k : Nat} {t16c1a : Option Addr} {t16c1n : Nat} {t16c1k : Nat} {t16c2a : Option Addr} {t16c2n : Nat} {t16c2k : Nat} {t17 : Int} {t20a : Option Addr} {t20n : Nat} {t20k : Nat} {t21 : Int} {t22 : Int} {H : Heap} {r : Value × Heap} (h :
    if t22 < t21 then
    (∃ (t20ab t20ao : Nat), t20a = some ⟨t20ab, t20ao, none⟩ ∧
    ((0 : Int) ≤ t22 ∧ t22 < ((t20n : Nat) : Int) ∧
    (∃ (t25 : Int), ldc H t20ab (t20ao + Int.toNat t22 * 1) = some (.int .u8 t25) ∧
    (L1 ((IntKind.wrap .u32 ((ixor .u32 t6 (IntKind.wrap .u32 t25)) * 16777619))) (t16c0a) (t16c0n) (t16c0k) (t16c1a) (t16c1n) (t16c1k) (t16c2a) (t16c2n) (t16c2k) (t17) ((some ⟨t20ab, t20ao, none⟩)) (t20n) (t20k) (t21) ((IntKind.wrap .i64 (t22 + 1))) H r))))
    else
    (L0 (t6) (t16c0a) (t16c0n) (t16c0k) (t16c1a) (t16c1n) (t16c1k) (t16c2a) (t16c2n) (t16c2k) ((IntKind.wrap .i64 (t17 + 1))) H r)) :
    L1 t6 t16c0a t16c0n t16c0k t16c1a t16c1n t16c1k t16c2a t16c2n t16c2k t17 t20a t20n t20k t21 t22 H r := by
  intro J
  show KR _ _ _ (.lp (sub B [1, 1, 1, 0, 1, 0, 0, 1, 1, 0, 0, 1, 1, 0, 0]) :: S8) _ _ _
  refine KR.run 6 [(6, .int .u32 t6), (16, .agg #[.slice t16c0a t16c0n t16c0k, .slice t16c1a t16c1n t16c1k, .slice t16c2a t16c2n t16c2k]), (17, .int .i64 t17), (20, .slice t20a t20n t20k), (21, .int .i64 t21), (22, .int .i64 t22), (23, .bool (decide (t22 < t21)))] 34 (s' := (.code (sub B [1, 1, 1, 0, 1, 0, 0, 1, 1, 0, 0, 1, 1, 0, 0, 1, 0]) :: S10)) (by kernel_rfl) fun J => ?_
  by_cases c4 : t22 < t21
  · replace h := iteT c4 h
    refine KR.br true (by kernel_rfl) (vB (dT c4)) ?_
    obtain ⟨t20ab, t20ao, rfl, h⟩ := h
    refine KR.run 5 [(6, .int .u32 t6), (16, .agg #[.slice t16c0a t16c0n t16c0k, .slice t16c1a t16c1n t16c1k, .slice t16c2a t16c2n t16c2k]), (17, .int .i64 t17), (20, .slice (some ⟨t20ab, t20ao, none⟩) t20n t20k), (21, .int .i64 t21), (22, .int .i64 t22)] 34 (s' := (.reg (opsAt (sub B [1, 1, 1, 0, 1, 0, 0, 1, 1, 0, 0, 1, 1, 0, 0, 1, 1, 0, 0, 0])) [0, 1, 2] :: S13)) (by kernel_rfl) fun J => ?_
    obtain ⟨q5, q5x, h⟩ := h
    refine KR.p (one_ix 1 t20ab t20ao (by kernel_rfl) q5 q5x) ?_
    obtain ⟨t25, q6, h⟩ := h
    refine KR.rd (one_ld (by kernel_rfl) q6) ?_
    exact KR.run 15 [(6, .int .u32 (IntKind.wrap .u32 ((ixor .u32 t6 (IntKind.wrap .u32 t25)) * 16777619))), (16, .agg #[.slice t16c0a t16c0n t16c0k, .slice t16c1a t16c1n t16c1k, .slice t16c2a t16c2n t16c2k]), (17, .int .i64 t17), (20, .slice (some ⟨t20ab, t20ao, none⟩) t20n t20k), (21, .int .i64 t21), (22, .int .i64 (IntKind.wrap .i64 (t22 + 1)))] 34 (s' := (.lp (sub B [1, 1, 1, 0, 1, 0, 0, 1, 1, 0, 0, 1, 1, 0, 0]) :: S8)) (by kernel_rfl) h
  · replace h := iteF c4 h
    refine KR.br false (by kernel_rfl) (vB (dF c4)) ?_
    exact KR.run 6 [(6, .int .u32 t6), (16, .agg #[.slice t16c0a t16c0n t16c0k, .slice t16c1a t16c1n t16c1k, .slice t16c2a t16c2n t16c2k]), (17, .int .i64 (IntKind.wrap .i64 (t17 + 1)))] 34 (s' := (.lp (sub B [1, 1, 1, 0, 1, 0, 0]) :: S2)) (by kernel_rfl) h
theorem call {a0 : Int} {a1a : Option Addr} {a1n : Nat} {a1k : Nat} {H : Heap} {r : Value × Heap} (h :
    ∃ (t12a : Option Addr) (t12n : Nat) (t12k : Nat) (H_1 : Heap), xC Try.prog good 32 [.int .u64 a0, .int .i64 8] H = some (.slice t12a t12n t12k, H_1) ∧
    (L0 2166136261 (t12a) (t12n) (t12k) (a1a) (a1n) (a1k) (t12a) (t12n) (t12k) 0 H_1 r)) :
    xC Try.prog good 49 [.int .u64 a0, .slice a1a a1n a1k] H = some r := by
  refine KR.enter (fn := Try.f49) (c := B) (by kernel_rfl) (by kernel_rfl) ?_
  refine KR.run 7 [(1, .slice a1a a1n a1k), (11, .int .u64 a0)] 34 (s' := (.reg (opsAt (sub B [1, 0])) [1, 2] :: S0)) (by kernel_rfl) fun J => ?_
  obtain ⟨t12a, t12n, t12k, H_1, q1, h⟩ := h
  refine KR.se (one_ca (by kernel_rfl) q1) ?_
  exact KR.run 17 [(6, .int .u32 2166136261), (16, .agg #[.slice t12a t12n t12k, .slice a1a a1n a1k, .slice t12a t12n t12k]), (17, .int .i64 0)] 34 (s' := (.lp (sub B [1, 1, 1, 0, 1, 0, 0]) :: S2)) (by kernel_rfl) h
end F49
/-! #### 50 campanile/bits.NewReader -/
namespace F50
noncomputable def B : Code := bodyOf Try.f50
noncomputable def S0 : List It := (.code (sub B [1, 1]) :: [])
theorem call {a0a : Option Addr} {a0n : Nat} {a0k : Nat} {H : Heap} {r : Value × Heap} (h :
    ∃ (t4a : Option Addr) (t4n : Nat) (t4k : Nat) (H_1 : Heap), papp H 1 1 none 0 0 a0a a0n a0k = some ((t4a, t4n, t4k), H_1) ∧
    (∃ (H_2 : Heap), H_2 = H_1.push (.row [.slice t4a t4n t4k, .int .i64 0, .int .i64 0] true) ∧
    (r = (.pointer (some ⟨H_1.next, 0, none⟩), H_2)))) :
    xC Try.prog good 50 [.slice a0a a0n a0k] H = some r := by
  refine KR.enter (fn := Try.f50) (c := B) (by kernel_rfl) (by kernel_rfl) ?_
  refine KR.run 7 [(3, .slice a0a a0n a0k)] 7 (s' := (.reg (opsAt (sub B [1, 0])) [1, 2, 3, 4] :: S0)) (by kernel_rfl) fun J => ?_
  obtain ⟨t4a, t4n, t4k, H_1, q1, h⟩ := h
  refine KR.se (one_ap 1 1 (by kernel_rfl) q1) ?_
  refine KR.run 1 [(5, .agg #[.slice t4a t4n t4k, .int .i64 0, .int .i64 0])] 7 (s' := (.reg (opsAt (sub B [1, 0])) [3, 4] :: S0)) (by kernel_rfl) fun J => ?_
  obtain ⟨H_2, q2, h⟩ := h
  refine KR.mk (w := pRow [.slice t4a t4n t4k, .int .i64 0, .int .i64 0]) (one_al (by kernel_rfl)) q2 ?_
  refine KR.run 2 [(2, .pointer (some ⟨H_1.next, 0, none⟩))] 7 (s' := (.code (sub B [1, 1]) :: [])) (by kernel_rfl) fun J => ?_
  exact KR.fin (by kernel_rfl) h
end F50
/-! #### 51 (*campanile/join.reader).one -/
namespace F51
noncomputable def B : Code := bodyOf Try.f51
noncomputable def S0 : List It := (.code (sub B [1, 1]) :: [])
noncomputable def S1 : List It := (.code (sub B [1, 1, 1]) :: [])
noncomputable def S2 : List It := (.code (sub B [1, 1, 0, 1]) :: S1)
theorem call {a0 : Option Addr} {a1 : Value} {H : Heap} {r : Value × Heap} (h :
    ∃ (t7 : Int) (H_1 : Heap), xC Try.prog good 63 [.pointer a0] H = some (.int .i64 t7, H_1) ∧
    (∃ (a1g : Nat) (a1x a1y : Array Value), a1 = .func (.func a1g) a1x a1y ∧
    (fnGoes Try.prog a1g = true ∧ ∃ (t11 : Bool) (H_2 : Heap), xC Try.prog good a1g (Array.toList a1x ++ [.int .i64 t7] ++ Array.toList a1y) H_1 = some (.bool t11, H_2) ∧
    (∃ (t12 : Bool) (H_3 : Heap), xC Try.prog good 64 [.pointer a0, .bool t11] H_2 = some (.bool t12, H_3) ∧
    (if t12 = true then
    (r = (.int .i64 t7, H_3))
    else
    (r = (.int .i64 0, H_3))))))) :
    xC Try.prog good 51 [.pointer a0, a1] H = some r := by
  refine KR.enter (fn := Try.f51) (c := B) (by kernel_rfl) (by kernel_rfl) ?_
  refine KR.run 7 [(0, .pointer a0), (1, a1), (6, .pointer a0)] 15 (s' := (.reg (opsAt (sub B [1, 0])) [1, 2] :: S0)) (by kernel_rfl) fun J => ?_
  obtain ⟨t7, H_1, q1, h⟩ := h
  refine KR.se (one_ca (by kernel_rfl) q1) ?_
  refine KR.run 8 [(5, .int .i64 t7), (8, .pointer a0), (9, a1), (10, .int .i64 t7)] 15 (s' := (.reg (opsAt (sub B [1, 1, 0, 0])) [3, 4, 5] :: S2)) (by kernel_rfl) fun J => ?_
  obtain ⟨a1g, a1x, a1y, rfl, h⟩ := h
  obtain ⟨q3x, t11, H_2, q3, h⟩ := h
  refine KR.se (one_fv (by kernel_rfl) q3x q3) ?_
  obtain ⟨t12, H_3, q4, h⟩ := h
  refine KR.se (one_ca (by kernel_rfl) q4) ?_
  refine KR.run 2 [(5, .int .i64 t7), (13, .bool (!t12))] 15 (s' := (.code (sub B [1, 1, 0, 1]) :: S1)) (by kernel_rfl) fun J => ?_
  by_cases c5 : t12 = true
  · replace h := iteT c5 h
    refine KR.br false (by kernel_rfl) (vB (nB (bT c5))) ?_
    refine KR.run 6 [(4, .int .i64 t7)] 15 (s' := (.code (sub B [1, 1, 1, 1]) :: [])) (by kernel_rfl) fun J => ?_
    exact KR.fin (by kernel_rfl) h
  · replace h := iteF c5 h
    refine KR.br true (by kernel_rfl) (vB (nB (bF c5))) ?_
    refine KR.run 4 [(4, .int .i64 0)] 15 (s' := (.code (sub B [1, 1, 0, 1, 0, 1]) :: S1)) (by kernel_rfl) fun J => ?_
    exact KR.fin (by kernel_rfl) h
end F51
/-! #### 52 campanile/join.decode$1 -/
namespace F52
noncomputable def B : Code := bodyOf Try.f52
noncomputable def S0 : List It := (.code (sub B [1, 1]) :: [])
theorem call {a0 : Int} {f0 : Option Addr} {H : Heap} {r : Value × Heap} (h :
    ∃ (f0b f0o : Nat), f0 = some ⟨f0b, f0o, none⟩ ∧
    (∃ (t5 : Int), ldc H f0b f0o = some (.int .u8 t5) ∧
    (r = (.bool (a0 == (IntKind.wrap .i64 t5)), H)))) :
    xC Try.prog good 52 [.int .i64 a0, .pointer f0] H = some r := by
  refine KR.enter (fn := Try.f52) (c := B) (by kernel_rfl) (by kernel_rfl) ?_
  refine KR.run 7 [(1, .pointer f0), (4, .int .i64 a0)] 8 (s' := (.reg (opsAt (sub B [1, 0])) [1, 2, 3, 4] :: S0)) (by kernel_rfl) fun J => ?_
  obtain ⟨f0b, f0o, rfl, h⟩ := h
  obtain ⟨t5, q2, h⟩ := h
  refine KR.rd (one_ld (by kernel_rfl) q2) ?_
  refine KR.run 4 [(3, .bool (a0 == (IntKind.wrap .i64 t5)))] 8 (s' := (.code (sub B [1, 1]) :: [])) (by kernel_rfl) fun J => ?_
  exact KR.fin (by kernel_rfl) h
end F52
/-! #### 53 (*campanile/join.reader).request -/
namespace F53
noncomputable def B : Code := bodyOf Try.f53
noncomputable def S0 : List It := (.code (sub B [1, 1]) :: [])
noncomputable def S1 : List It := (.code (sub B [1, 1, 1]) :: [])
noncomputable def S2 : List It := (.code (sub B [1, 1, 1, 1]) :: [])
noncomputable def S3 : List It := (.code (sub B [1, 1, 1, 1, 1]) :: [])
theorem call {a0 : Option Addr} {H : Heap} {r : Value × Heap} (h :
    ∃ (t5 : Int) (H_1 : Heap), xC Try.prog good 51 [.pointer a0, .func (.func 42) #[] #[]] H = some (.int .i64 t5, H_1) ∧
    (∃ (H_2 : Heap), H_2 = H_1.push (.row [.int .i64 0, .int .i64 0, .int .u32 0, .int .u32 0, .int .u32 0] true) ∧
    (∃ (H_3 : Heap), stc H_2 H_1.next 0 [.int .i64 t5, .int .i64 0, .int .u32 0, .int .u32 0, .int .u32 0] = some H_3 ∧
    (∃ (t9 : Int) (H_4 : Heap), xC Try.prog good 51 [.pointer a0, .func (.func 65) #[] #[.pointer (some ⟨H_1.next, 0, none⟩)]] H_3 = some (.int .i64 t9, H_4) ∧
    (∃ (H_5 : Heap), stc H_4 H_1.next 1 [.int .i64 t9] = some H_5 ∧
    (∃ (t12 : Int) (H_6 : Heap), xC Try.prog good 66 [.pointer a0] H_5 = some (.int .u32 t12, H_6) ∧
    (∃ (t14 : Int) (H_7 : Heap), xC Try.prog good 66 [.pointer a0] H_6 = some (.int .u32 t14, H_7) ∧
    (∃ (t16 : Int) (H_8 : Heap), xC Try.prog good 66 [.pointer a0] H_7 = some (.int .u32 t16, H_8) ∧
    (∃ (H_9 : Heap), stc H_8 H_1.next 2 [.int .u32 t12] = some H_9 ∧
    (∃ (H_10 : Heap), stc H_9 H_1.next 3 [.int .u32 t14] = some H_10 ∧
    (∃ (H_11 : Heap), stc H_10 H_1.next 4 [.int .u32 t16] = some H_11 ∧
    (∃ (t20c0 : Int) (t20c1 : Int) (t20c2 : Int) (t20c3 : Int) (t20c4 : Int), ldAll H_11 H_1.next 0 [.int .i64 t20c0, .int .i64 t20c1, .int .u32 t20c2, .int .u32 t20c3, .int .u32 t20c4] ∧
    (r = (.iface 65 (.agg #[.int .i64 t20c0, .int .i64 t20c1, .int .u32 t20c2, .int .u32 t20c3, .int .u32 t20c4]), H_11)))))))))))))) :
    xC Try.prog good 53 [.pointer a0] H = some r := by
  refine KR.enter (fn := Try.f53) (c := B) (by kernel_rfl) (by kernel_rfl) ?_
  refine KR.run 7 [(0, .pointer a0), (4, .pointer a0)] 23 (s' := (.reg (opsAt (sub B [1, 0])) [1, 2, 3, 4] :: S0)) (by kernel_rfl) fun J => ?_
  obtain ⟨t5, H_1, q1, h⟩ := h
  refine KR.se (one_ca (by kernel_rfl) q1) ?_
  refine KR.run 1 [(0, .pointer a0), (6, .agg #[.int .i64 t5, .int .i64 0, .int .u32 0, .int .u32 0, .int .u32 0])] 23 (s' := (.reg (opsAt (sub B [1, 0])) [3, 4] :: S0)) (by kernel_rfl) fun J => ?_
  obtain ⟨H_2, q2, h⟩ := h
  refine KR.mk (w := pRow [.int .i64 0, .int .i64 0, .int .u32 0, .int .u32 0, .int .u32 0]) (one_al (by kernel_rfl)) q2 ?_
  obtain ⟨H_3, q3, h⟩ := h
  refine KR.se (one_st (by kernel_rfl) q3) ?_
  refine KR.run 5 [(0, .pointer a0), (3, .pointer (some ⟨H_1.next, 0, none⟩)), (7, .pointer a0), (8, .func (.func 65) #[] #[.pointer (some ⟨H_1.next, 0, none⟩)])] 23 (s' := (.reg (opsAt (sub B [1, 1, 0])) [2, 3, 4] :: S1)) (by kernel_rfl) fun J => ?_
  obtain ⟨t9, H_4, q4, h⟩ := h
  refine KR.se (one_ca (by kernel_rfl) q4) ?_
  refine KR.run 1 [(0, .pointer a0), (3, .pointer (some ⟨H_1.next, 0, none⟩)), (9, .int .i64 t9), (10, .pointer (some ⟨H_1.next, 1, none⟩))] 23 (s' := (.reg (opsAt (sub B [1, 1, 0])) [4] :: S1)) (by kernel_rfl) fun J => ?_
  obtain ⟨H_5, q5, h⟩ := h
  refine KR.se (one_st (by kernel_rfl) q5) ?_
  refine KR.run 4 [(0, .pointer a0), (3, .pointer (some ⟨H_1.next, 0, none⟩)), (11, .pointer a0)] 23 (s' := (.reg (opsAt (sub B [1, 1, 1, 0])) [1, 2, 3, 4, 5, 6, 7, 8, 9, 10, 11] :: S2)) (by kernel_rfl) fun J => ?_
  obtain ⟨t12, H_6, q6, h⟩ := h
  refine KR.se (one_ca (by kernel_rfl) q6) ?_
  refine KR.run 1 [(0, .pointer a0), (3, .pointer (some ⟨H_1.next, 0, none⟩)), (12, .int .u32 t12), (13, .pointer a0)] 23 (s' := (.reg (opsAt (sub B [1, 1, 1, 0])) [3, 4, 5, 6, 7, 8, 9, 10, 11] :: S2)) (by kernel_rfl) fun J => ?_
  obtain ⟨t14, H_7, q7, h⟩ := h
  refine KR.se (one_ca (by kernel_rfl) q7) ?_
  refine KR.run 1 [(3, .pointer (some ⟨H_1.next, 0, none⟩)), (12, .int .u32 t12), (14, .int .u32 t14), (15, .pointer a0)] 23 (s' := (.reg (opsAt (sub B [1, 1, 1, 0])) [5, 6, 7, 8, 9, 10, 11] :: S2)) (by kernel_rfl) fun J => ?_
  obtain ⟨t16, H_8, q8, h⟩ := h
  refine KR.se (one_ca (by kernel_rfl) q8) ?_
  refine KR.run 1 [(3, .pointer (some ⟨H_1.next, 0, none⟩)), (12, .int .u32 t12), (14, .int .u32 t14), (16, .int .u32 t16), (17, .pointer (some ⟨H_1.next, 2, none⟩))] 23 (s' := (.reg (opsAt (sub B [1, 1, 1, 0])) [7, 8, 9, 10, 11] :: S2)) (by kernel_rfl) fun J => ?_
  obtain ⟨H_9, q9, h⟩ := h
  refine KR.se (one_st (by kernel_rfl) q9) ?_
  refine KR.run 1 [(3, .pointer (some ⟨H_1.next, 0, none⟩)), (14, .int .u32 t14), (16, .int .u32 t16), (18, .pointer (some ⟨H_1.next, 3, none⟩))] 23 (s' := (.reg (opsAt (sub B [1, 1, 1, 0])) [9, 10, 11] :: S2)) (by kernel_rfl) fun J => ?_
  obtain ⟨H_10, q10, h⟩ := h
  refine KR.se (one_st (by kernel_rfl) q10) ?_
  refine KR.run 1 [(3, .pointer (some ⟨H_1.next, 0, none⟩)), (16, .int .u32 t16), (19, .pointer (some ⟨H_1.next, 4, none⟩))] 23 (s' := (.reg (opsAt (sub B [1, 1, 1, 0])) [11] :: S2)) (by kernel_rfl) fun J => ?_
  obtain ⟨H_11, q11, h⟩ := h
  refine KR.se (one_st (by kernel_rfl) q11) ?_
  refine KR.run 3 [(3, .pointer (some ⟨H_1.next, 0, none⟩))] 23 (s' := (.reg (opsAt (sub B [1, 1, 1, 1, 0])) [0, 1, 2, 3] :: S3)) (by kernel_rfl) fun J => ?_
  obtain ⟨t20c0, t20c1, t20c2, t20c3, t20c4, q12, h⟩ := h
  refine KR.rd (one_ldA (by kernel_rfl) q12) ?_
  refine KR.run 4 [(2, .iface 65 (.agg #[.int .i64 t20c0, .int .i64 t20c1, .int .u32 t20c2, .int .u32 t20c3, .int .u32 t20c4]))] 23 (s' := (.code (sub B [1, 1, 1, 1, 1]) :: [])) (by kernel_rfl) fun J => ?_
  exact KR.fin (by kernel_rfl) h
end F53
/-! #### 54 (*campanile/join.reader).grant -/
namespace F54
noncomputable def B : Code := bodyOf Try.f54
noncomputable def S0 : List It := (.code (sub B [1, 1]) :: [])
noncomputable def S1 : List It := (.code (sub B [1, 1, 1]) :: [])
noncomputable def S2 : List It := (.code (sub B [1, 1, 1, 1]) :: [])
noncomputable def S11 : List It := (.code (sub B [1, 1, 1, 1, 1]) :: [])
noncomputable def S12 : List It := (.code (sub B [1, 1, 1, 1, 1, 1]) :: [])
noncomputable def S3 : List It := (.blk 0 :: S2)
noncomputable def S4 : List It := (.lp (sub B [1, 1, 1, 0, 1, 0, 0]) :: S3)
noncomputable def S5 : List It := (.code (sub B [1, 1, 1, 0, 1, 0, 0, 1, 1]) :: S4)
noncomputable def S6 : List It := (.code (sub B [1, 1, 1, 0, 1, 0, 0, 1, 1, 1]) :: S4)
noncomputable def S7 : List It := (.blk 1 :: S6)
noncomputable def S8 : List It := (.code (sub B [1, 1, 1, 0, 1, 0, 0, 1, 1, 0, 0, 1]) :: S7)
noncomputable def S9 : List It := (.code (sub B [1, 1, 1, 0, 1, 0, 0, 1, 1, 0, 0, 1, 1]) :: S7)
noncomputable def S10 : List It := (.code (sub B [1, 1, 1, 0, 1, 0, 0, 1, 1, 0, 0, 1, 0, 1]) :: S9)
def L0 (t0 : Option Addr) (t3b : Nat) (t3o : Nat) (t15 : Int) (t16 : Int) (H : Heap) (r : Value × Heap) : Prop := ∀ J, KR Try.prog good Try.f54 S4 (mat J 49 [(0, .pointer t0), (3, .pointer (some ⟨t3b, t3o, none⟩)), (15, .int .i64 t15), (16, .int .i64 t16)]) H r
theorem L0_step {t0 : Option Addr} {t3b : Nat} {t3o : Nat} {t15 : Int} {t16 : Int} {H : Heap} {r : Value × Heap} (h :
    if t16 < t15 then
    (∃ (t19 : Int) (H_1 : Heap), xC Try.prog good 63 [.pointer t0] H = some (.int .i64 t19, H_1) ∧
    (∃ (t21 : Int) (H_2 : Heap), xC Try.prog good 63 [.pointer t0] H_1 = some (.int .i64 t21, H_2) ∧
    (∃ (t23 : Int) (H_3 : Heap), xC Try.prog good 63 [.pointer t0] H_2 = some (.int .i64 t23, H_3) ∧
    (∃ (t25 : Int) (H_4 : Heap), xC Try.prog good 63 [.pointer t0] H_3 = some (.int .i64 t25, H_4) ∧
    (∃ (t27 : Int) (H_5 : Heap), xC Try.prog good 63 [.pointer t0] H_4 = some (.int .i64 t27, H_5) ∧
    (∃ (H_6 : Heap), H_6 = H_5.push (.row [.int .i64 0, .int .i64 0, .int .i64 0, .int .i64 0, .int .i64 0] true) ∧
    (∃ (H_7 : Heap), stc H_6 H_5.next 0 [.int .i64 t19, .int .i64 t21, .int .i64 t23, .int .i64 t25, .int .i64 t27] = some H_7 ∧
    (∃ (t30c0 : Int) (t30c1 : Int) (t30c2 : Int) (t30c3 : Int) (t30c4 : Int), ldAll H_7 H_5.next 0 [.int .i64 t30c0, .int .i64 t30c1, .int .i64 t30c2, .int .i64 t30c3, .int .i64 t30c4] ∧
    (∃ (t31 : Bool) (H_8 : Heap), xC Try.prog good 59 [.agg #[.int .i64 t30c0, .int .i64 t30c1, .int .i64 t30c2, .int .i64 t30c3, .int .i64 t30c4]] H_7 = some (.bool t31, H_8) ∧
    (∃ (t32 : Bool) (H_9 : Heap), xC Try.prog good 64 [.pointer t0, .bool t31] H_8 = some (.bool t32, H_9) ∧
    (if t32 = true then
    (∃ (t37a : Option Addr) (t37n : Nat) (t37k : Nat), ldc H_9 t3b (t3o + 3) = some (.slice t37a t37n t37k) ∧
    (∃ (t38c0 : Int) (t38c1 : Int) (t38c2 : Int) (t38c3 : Int) (t38c4 : Int), ldAll H_9 H_5.next 0 [.int .i64 t38c0, .int .i64 t38c1, .int .i64 t38c2, .int .i64 t38c3, .int .i64 t38c4] ∧
    (∃ (H_10 : Heap), H_10 = H_9.push (.row [.int .i64 t38c0, .int .i64 t38c1, .int .i64 t38c2, .int .i64 t38c3, .int .i64 t38c4] true) ∧
    (∃ (t40a : Option Addr) (t40n : Nat) (t40k : Nat) (H_11 : Heap), papp H_10 5 40 t37a t37n t37k (some ⟨H_9.next, 0, none⟩) 1 (UNK 5) = some ((t40a, t40n, t40k), H_11) ∧
    (∃ (H_12 : Heap), stc H_11 t3b (t3o + 3) [.slice t40a t40n t40k] = some H_12 ∧
    (L0 (t0) (t3b) (t3o) (t15) ((IntKind.wrap .i64 (t16 + 1))) H_12 r))))))
    else
    (r = (.iface 71 (.agg #[.int .i64 0, .int .i64 0, .int .u32 0, .slice none 0 0, .int .u32 0]), H_9)))))))))))))
    else
    (∃ (t44 : Int) (H_13 : Heap), xC Try.prog good 66 [.pointer t0] H = some (.int .u32 t44, H_13) ∧
    (∃ (H_14 : Heap), stc H_13 t3b (t3o + 4) [.int .u32 t44] = some H_14 ∧
    (∃ (t46c0 : Int) (t46c1 : Int) (t46c2 : Int) (t46c3a : Option Addr) (t46c3n : Nat) (t46c3k : Nat) (t46c4 : Int), ldAll H_14 t3b t3o [.int .i64 t46c0, .int .i64 t46c1, .int .u32 t46c2, .slice t46c3a t46c3n t46c3k, .int .u32 t46c4] ∧
    (r = (.iface 71 (.agg #[.int .i64 t46c0, .int .i64 t46c1, .int .u32 t46c2, .slice t46c3a t46c3n t46c3k, .int .u32 t46c4]), H_14)))))) :
    L0 t0 t3b t3o t15 t16 H r := by
  intro J
  show KR _ _ _ (.lp (sub B [1, 1, 1, 0, 1, 0, 0]) :: S3) _ _ _
  refine KR.run 6 [(0, .pointer t0), (3, .pointer (some ⟨t3b, t3o, none⟩)), (15, .int .i64 t15), (16, .int .i64 t16), (17, .bool (decide (t16 < t15)))] 49 (s' := (.code (sub B [1, 1, 1, 0, 1, 0, 0, 1, 0]) :: S5)) (by kernel_rfl) fun J => ?_
  by_cases c7 : t16 < t15
  · replace h := iteT c7 h
    refine KR.br true (by kernel_rfl) (vB (dT c7)) ?_
    refine KR.run 6 [(0, .pointer t0), (3, .pointer (some ⟨t3b, t3o, none⟩)), (15, .int .i64 t15), (16, .int .i64 t16), (18, .pointer t0)] 49 (s' := (.reg (opsAt (sub B [1, 1, 1, 0, 1, 0, 0, 1, 1, 0, 0, 0])) [1, 2, 3, 4, 5, 6, 7, 8, 9, 10, 11, 12] :: S8)) (by kernel_rfl) fun J => ?_
    obtain ⟨t19, H_1, q8, h⟩ := h
    refine KR.se (one_ca (by kernel_rfl) q8) ?_
    refine KR.run 1 [(0, .pointer t0), (3, .pointer (some ⟨t3b, t3o, none⟩)), (15, .int .i64 t15), (16, .int .i64 t16), (19, .int .i64 t19), (20, .pointer t0)] 49 (s' := (.reg (opsAt (sub B [1, 1, 1, 0, 1, 0, 0, 1, 1, 0, 0, 0])) [3, 4, 5, 6, 7, 8, 9, 10, 11, 12] :: S8)) (by kernel_rfl) fun J => ?_
    obtain ⟨t21, H_2, q9, h⟩ := h
    refine KR.se (one_ca (by kernel_rfl) q9) ?_
    refine KR.run 1 [(0, .pointer t0), (3, .pointer (some ⟨t3b, t3o, none⟩)), (15, .int .i64 t15), (16, .int .i64 t16), (19, .int .i64 t19), (21, .int .i64 t21), (22, .pointer t0)] 49 (s' := (.reg (opsAt (sub B [1, 1, 1, 0, 1, 0, 0, 1, 1, 0, 0, 0])) [5, 6, 7, 8, 9, 10, 11, 12] :: S8)) (by kernel_rfl) fun J => ?_
    obtain ⟨t23, H_3, q10, h⟩ := h
    refine KR.se (one_ca (by kernel_rfl) q10) ?_
    refine KR.run 1 [(0, .pointer t0), (3, .pointer (some ⟨t3b, t3o, none⟩)), (15, .int .i64 t15), (16, .int .i64 t16), (19, .int .i64 t19), (21, .int .i64 t21), (23, .int .i64 t23), (24, .pointer t0)] 49 (s' := (.reg (opsAt (sub B [1, 1, 1, 0, 1, 0, 0, 1, 1, 0, 0, 0])) [7, 8, 9, 10, 11, 12] :: S8)) (by kernel_rfl) fun J => ?_
    obtain ⟨t25, H_4, q11, h⟩ := h
    refine KR.se (one_ca (by kernel_rfl) q11) ?_
    refine KR.run 1 [(0, .pointer t0), (3, .pointer (some ⟨t3b, t3o, none⟩)), (15, .int .i64 t15), (16, .int .i64 t16), (19, .int .i64 t19), (21, .int .i64 t21), (23, .int .i64 t23), (25, .int .i64 t25), (26, .pointer t0)] 49 (s' := (.reg (opsAt (sub B [1, 1, 1, 0, 1, 0, 0, 1, 1, 0, 0, 0])) [9, 10, 11, 12] :: S8)) (by kernel_rfl) fun J => ?_
    obtain ⟨t27, H_5, q12, h⟩ := h
    refine KR.se (one_ca (by kernel_rfl) q12) ?_
    refine KR.run 1 [(0, .pointer t0), (3, .pointer (some ⟨t3b, t3o, none⟩)), (15, .int .i64 t15), (16, .int .i64 t16), (28, .agg #[.int .i64 t19, .int .i64 t21, .int .i64 t23, .int .i64 t25, .int .i64 t27])] 49 (s' := (.reg (opsAt (sub B [1, 1, 1, 0, 1, 0, 0, 1, 1, 0, 0, 0])) [11, 12] :: S8)) (by kernel_rfl) fun J => ?_
    obtain ⟨H_6, q13, h⟩ := h
    refine KR.mk (w := pRow [.int .i64 0, .int .i64 0, .int .i64 0, .int .i64 0, .int .i64 0]) (one_al (by kernel_rfl)) q13 ?_
    obtain ⟨H_7, q14, h⟩ := h
    refine KR.se (one_st (by kernel_rfl) q14) ?_
    refine KR.run 5 [(0, .pointer t0), (3, .pointer (some ⟨t3b, t3o, none⟩)), (5, .pointer (some ⟨H_5.next, 0, none⟩)), (15, .int .i64 t15), (16, .int .i64 t16), (29, .pointer t0)] 49 (s' := (.reg (opsAt (sub B [1, 1, 1, 0, 1, 0, 0, 1, 1, 0, 0, 1, 0, 0])) [1, 2, 3, 4] :: S10)) (by kernel_rfl) fun J => ?_
    obtain ⟨t30c0, t30c1, t30c2, t30c3, t30c4, q15, h⟩ := h
    refine KR.rd (one_ldA (by kernel_rfl) q15) ?_
    obtain ⟨t31, H_8, q16, h⟩ := h
    refine KR.se (one_ca (by kernel_rfl) q16) ?_
    obtain ⟨t32, H_9, q17, h⟩ := h
    refine KR.se (one_ca (by kernel_rfl) q17) ?_
    refine KR.run 2 [(0, .pointer t0), (3, .pointer (some ⟨t3b, t3o, none⟩)), (5, .pointer (some ⟨H_5.next, 0, none⟩)), (15, .int .i64 t15), (16, .int .i64 t16), (33, .bool (!t32))] 49 (s' := (.code (sub B [1, 1, 1, 0, 1, 0, 0, 1, 1, 0, 0, 1, 0, 1]) :: S9)) (by kernel_rfl) fun J => ?_
    by_cases c18 : t32 = true
    · replace h := iteT c18 h
      refine KR.br false (by kernel_rfl) (vB (nB (bT c18))) ?_
      refine KR.run 3 [(0, .pointer t0), (3, .pointer (some ⟨t3b, t3o, none⟩)), (5, .pointer (some ⟨H_5.next, 0, none⟩)), (15, .int .i64 t15), (16, .int .i64 t16), (36, .pointer (some ⟨t3b, (t3o + 3), none⟩))] 49 (s' := (.reg (opsAt (sub B [1, 1, 1, 0, 1, 0, 0, 1, 1, 0, 0, 1, 1])) [1, 2, 3, 4, 5, 6] :: S7)) (by kernel_rfl) fun J => ?_
      obtain ⟨t37a, t37n, t37k, q19, h⟩ := h
      refine KR.rd (one_ld (by kernel_rfl) q19) ?_
      obtain ⟨t38c0, t38c1, t38c2, t38c3, t38c4, q20, h⟩ := h
      refine KR.rd (one_ldA (by kernel_rfl) q20) ?_
      obtain ⟨H_10, q21, h⟩ := h
      refine KR.mk (w := sRow 1 5 [.int .i64 t38c0, .int .i64 t38c1, .int .i64 t38c2, .int .i64 t38c3, .int .i64 t38c4]) (one_al (by kernel_rfl)) q21 ?_
      obtain ⟨t40a, t40n, t40k, H_11, q22, h⟩ := h
      refine KR.se (one_ap 5 40 (by kernel_rfl) q22) ?_
      refine KR.run 1 [(0, .pointer t0), (3, .pointer (some ⟨t3b, t3o, none⟩)), (15, .int .i64 t15), (16, .int .i64 t16), (40, .slice t40a t40n t40k), (41, .pointer (some ⟨t3b, (t3o + 3), none⟩))] 49 (s' := (.reg (opsAt (sub B [1, 1, 1, 0, 1, 0, 0, 1, 1, 0, 0, 1, 1])) [6] :: S7)) (by kernel_rfl) fun J => ?_
      obtain ⟨H_12, q23, h⟩ := h
      refine KR.se (one_st (by kernel_rfl) q23) ?_
      exact KR.run 6 [(0, .pointer t0), (3, .pointer (some ⟨t3b, t3o, none⟩)), (15, .int .i64 t15), (16, .int .i64 (IntKind.wrap .i64 (t16 + 1)))] 49 (s' := (.lp (sub B [1, 1, 1, 0, 1, 0, 0]) :: S3)) (by kernel_rfl) h
    · replace h := iteF c18 h
      refine KR.br true (by kernel_rfl) (vB (nB (bF c18))) ?_
      refine KR.run 6 [(2, .iface 71 (.agg #[.int .i64 0, .int .i64 0, .int .u32 0, .slice none 0 0, .int .u32 0]))] 49 (s' := (.code (sub B [1, 1, 1, 0, 1, 0, 0, 1, 1, 0, 0, 1, 0, 1, 0, 1]) :: S9)) (by kernel_rfl) fun J => ?_
      exact KR.fin (by kernel_rfl) h
  · replace h := iteF c7 h
    refine KR.br false (by kernel_rfl) (vB (dF c7)) ?_
    refine KR.run 4 [(3, .pointer (some ⟨t3b, t3o, none⟩)), (43, .pointer t0)] 49 (s' := (.reg (opsAt (sub B [1, 1, 1, 1, 0])) [1, 2, 3] :: S11)) (by kernel_rfl) fun J => ?_
    obtain ⟨t44, H_13, q24, h⟩ := h
    refine KR.se (one_ca (by kernel_rfl) q24) ?_
    refine KR.run 1 [(3, .pointer (some ⟨t3b, t3o, none⟩)), (44, .int .u32 t44), (45, .pointer (some ⟨t3b, (t3o + 4), none⟩))] 49 (s' := (.reg (opsAt (sub B [1, 1, 1, 1, 0])) [3] :: S11)) (by kernel_rfl) fun J => ?_
    obtain ⟨H_14, q25, h⟩ := h
    refine KR.se (one_st (by kernel_rfl) q25) ?_
    refine KR.run 3 [(3, .pointer (some ⟨t3b, t3o, none⟩))] 49 (s' := (.reg (opsAt (sub B [1, 1, 1, 1, 1, 0])) [0, 1, 2, 3] :: S12)) (by kernel_rfl) fun J => ?_
    obtain ⟨t46c0, t46c1, t46c2, t46c3a, t46c3n, t46c3k, t46c4, q26, h⟩ := h
    refine KR.rd (one_ldA (by kernel_rfl) q26) ?_
    refine KR.run 4 [(2, .iface 71 (.agg #[.int .i64 t46c0, .int .i64 t46c1, .int .u32 t46c2, .slice t46c3a t46c3n t46c3k, .int .u32 t46c4]))] 49 (s' := (.code (sub B [1, 1, 1, 1, 1, 1]) :: [])) (by kernel_rfl) fun J => ?_
    exact KR.fin (by kernel_rfl) h
theorem call {a0 : Option Addr} {H : Heap} {r : Value × Heap} (h :
    ∃ (t7 : Int) (H_1 : Heap), xC Try.prog good 51 [.pointer a0, .func (.func 42) #[] #[]] H = some (.int .i64 t7, H_1) ∧
    (∃ (t9 : Int) (H_2 : Heap), xC Try.prog good 51 [.pointer a0, .func (.func 67) #[] #[]] H_1 = some (.int .i64 t9, H_2) ∧
    (∃ (t11 : Int) (H_3 : Heap), xC Try.prog good 66 [.pointer a0] H_2 = some (.int .u32 t11, H_3) ∧
    (∃ (H_4 : Heap), H_4 = H_3.push (.row [.int .i64 0, .int .i64 0, .int .u32 0, .slice none 0 0, .int .u32 0] true) ∧
    (∃ (H_5 : Heap), stc H_4 H_3.next 0 [.int .i64 t7, .int .i64 t9, .int .u32 t11, .slice none 0 0, .int .u32 0] = some H_5 ∧
    (∃ (t14 : Int) (H_6 : Heap), xC Try.prog good 51 [.pointer a0, .func (.func 68) #[] #[]] H_5 = some (.int .i64 t14, H_6) ∧
    (L0 (a0) (H_3.next) (0) (t14) 0 H_6 r))))))) :
    xC Try.prog good 54 [.pointer a0] H = some r := by
  refine KR.enter (fn := Try.f54) (c := B) (by kernel_rfl) (by kernel_rfl) ?_
  refine KR.run 7 [(0, .pointer a0), (6, .pointer a0)] 49 (s' := (.reg (opsAt (sub B [1, 0])) [1, 2, 3, 4, 5, 6, 7, 8] :: S0)) (by kernel_rfl) fun J => ?_
  obtain ⟨t7, H_1, q1, h⟩ := h
  refine KR.se (one_ca (by kernel_rfl) q1) ?_
  refine KR.run 1 [(0, .pointer a0), (7, .int .i64 t7), (8, .pointer a0)] 49 (s' := (.reg (opsAt (sub B [1, 0])) [3, 4, 5, 6, 7, 8] :: S0)) (by kernel_rfl) fun J => ?_
  obtain ⟨t9, H_2, q2, h⟩ := h
  refine KR.se (one_ca (by kernel_rfl) q2) ?_
  refine KR.run 1 [(0, .pointer a0), (7, .int .i64 t7), (9, .int .i64 t9), (10, .pointer a0)] 49 (s' := (.reg (opsAt (sub B [1, 0])) [5, 6, 7, 8] :: S0)) (by kernel_rfl) fun J => ?_
  obtain ⟨t11, H_3, q3, h⟩ := h
  refine KR.se (one_ca (by kernel_rfl) q3) ?_
  refine KR.run 1 [(0, .pointer a0), (12, .agg #[.int .i64 t7, .int .i64 t9, .int .u32 t11, .slice none 0 0, .int .u32 0])] 49 (s' := (.reg (opsAt (sub B [1, 0])) [7, 8] :: S0)) (by kernel_rfl) fun J => ?_
  obtain ⟨H_4, q4, h⟩ := h
  refine KR.mk (w := pRow [.int .i64 0, .int .i64 0, .int .u32 0, .slice none 0 0, .int .u32 0]) (one_al (by kernel_rfl)) q4 ?_
  obtain ⟨H_5, q5, h⟩ := h
  refine KR.se (one_st (by kernel_rfl) q5) ?_
  refine KR.run 4 [(0, .pointer a0), (3, .pointer (some ⟨H_3.next, 0, none⟩)), (13, .pointer a0)] 49 (s' := (.reg (opsAt (sub B [1, 1, 0])) [1, 2] :: S1)) (by kernel_rfl) fun J => ?_
  obtain ⟨t14, H_6, q6, h⟩ := h
  refine KR.se (one_ca (by kernel_rfl) q6) ?_
  exact KR.run 10 [(0, .pointer a0), (3, .pointer (some ⟨H_3.next, 0, none⟩)), (15, .int .i64 t14), (16, .int .i64 0)] 49 (s' := (.lp (sub B [1, 1, 1, 0, 1, 0, 0]) :: S3)) (by kernel_rfl) h
end F54
/-! #### 55 (*campanile/bits.Reader).End -/
namespace F55
noncomputable def B : Code := bodyOf Try.f55
noncomputable def S0 : List It := (.code (sub B [1, 1]) :: [])
noncomputable def S4 : List It := (.code (sub B [1, 1, 1]) :: [])
noncomputable def S1 : List It := (.blk 0 :: S0)
noncomputable def S2 : List It := (.code (sub B [1, 0, 0, 1]) :: S1)
noncomputable def S3 : List It := (.code (sub B [1, 0, 0, 1, 1, 1]) :: S1)
def L0 (t0b : Nat) (t0o : Nat) (t6 : Bool) (H : Heap) (r : Value × Heap) : Prop := ∀ J, KR Try.prog good Try.f55 S3 (mat J 21 [(0, .pointer (some ⟨t0b, t0o, none⟩)), (6, .bool t6)]) H r
theorem L0_step {t0b : Nat} {t0o : Nat} {t6 : Bool} {H : Heap} {r : Value × Heap} (h :
    if t6 = true then
    (r = (.int .i64 3, H))
    else
    (∃ (t20 : Int), ldc H t0b (t0o + 2) = some (.int .i64 t20) ∧
    (r = (.int .i64 t20, H)))) :
    L0 t0b t0o t6 H r := by
  intro J
  show KR _ _ _ (.code (sub B [1, 0, 0, 1, 1, 1]) :: S1) _ _ _
  by_cases c6 : t6 = true
  · replace h := iteT c6 h
    refine KR.br true (by kernel_rfl) (vB (bT c6)) ?_
    refine KR.run 4 [(2, .int .i64 3)] 21 (s' := (.code (sub B [1, 0, 0, 1, 1, 1, 0, 1]) :: S1)) (by kernel_rfl) fun J => ?_
    exact KR.fin (by kernel_rfl) h
  · replace h := iteF c6 h
    refine KR.br false (by kernel_rfl) (vB (bF c6)) ?_
    refine KR.run 7 [(19, .pointer (some ⟨t0b, (t0o + 2), none⟩))] 21 (s' := (.reg (opsAt (sub B [1, 1, 0])) [3, 4] :: S4)) (by kernel_rfl) fun J => ?_
    obtain ⟨t20, q7, h⟩ := h
    refine KR.rd (one_ld (by kernel_rfl) q7) ?_
    refine KR.run 2 [(2, .int .i64 t20)] 21 (s' := (.code (sub B [1, 1, 1]) :: [])) (by kernel_rfl) fun J => ?_
    exact KR.fin (by kernel_rfl) h
theorem call {a0 : Option Addr} {H : Heap} {r : Value × Heap} (h :
    if (Option.isNone a0) = true then
    (r = (.int .i64 1, H))
    else
    (∃ (a0b a0o : Nat), a0 = some ⟨a0b, a0o, none⟩ ∧
    (∃ (t10 : Int), ldc H a0b (a0o + 2) = some (.int .i64 t10) ∧
    (if t10 = 0 then
    (∃ (t14 : Int) (H_1 : Heap), xC Try.prog good 69 [.pointer (some ⟨a0b, a0o, none⟩)] H = some (.int .i64 t14, H_1) ∧
    (L0 (a0b) (a0o) ((decide (t14 > 0))) H_1 r))
    else
    (L0 (a0b) (a0o) (false) H r))))) :
    xC Try.prog good 55 [.pointer a0] H = some r := by
  refine KR.enter (fn := Try.f55) (c := B) (by kernel_rfl) (by kernel_rfl) ?_
  refine KR.run 9 [(0, .pointer a0), (4, .pointer a0)] 21 (s' := (.reg (opsAt (sub B [1, 0, 0, 0])) [1, 2] :: S2)) (by kernel_rfl) fun J => ?_
  refine KR.p (one_nl false a0 (by kernel_rfl)) ?_
  refine KR.run 2 [(0, .pointer a0), (3, .bool (Option.isNone a0))] 21 (s' := (.code (sub B [1, 0, 0, 1]) :: S1)) (by kernel_rfl) fun J => ?_
  by_cases c2 : (Option.isNone a0) = true
  · replace h := iteT c2 h
    refine KR.br true (by kernel_rfl) (vB (bT c2)) ?_
    refine KR.run 4 [(2, .int .i64 1)] 21 (s' := (.code (sub B [1, 0, 0, 1, 0, 1]) :: S1)) (by kernel_rfl) fun J => ?_
    exact KR.fin (by kernel_rfl) h
  · replace h := iteF c2 h
    refine KR.br false (by kernel_rfl) (vB (bF c2)) ?_
    obtain ⟨a0b, a0o, rfl, h⟩ := h
    refine KR.run 5 [(0, .pointer (some ⟨a0b, a0o, none⟩)), (9, .pointer (some ⟨a0b, (a0o + 2), none⟩))] 21 (s' := (.reg (opsAt (sub B [1, 0, 0, 1, 1, 0])) [3, 4, 5, 6, 7, 8, 9, 10] :: S3)) (by kernel_rfl) fun J => ?_
    obtain ⟨t10, q3, h⟩ := h
    refine KR.rd (one_ld (by kernel_rfl) q3) ?_
    refine KR.run 2 [(0, .pointer (some ⟨a0b, a0o, none⟩)), (12, .bool (t10 == 0))] 21 (s' := (.reg (opsAt (sub B [1, 0, 0, 1, 1, 0])) [6, 7, 8, 9, 10] :: S3)) (by kernel_rfl) fun J => ?_
    by_cases c4 : t10 = 0
    · replace h := iteT c4 h
      refine KR.setV 12 (by kernel_rfl) (eT c4) ?_
      refine KR.run 1 [(0, .pointer (some ⟨a0b, a0o, none⟩)), (12, .bool true), (13, .pointer (some ⟨a0b, a0o, none⟩))] 21 (s' := (.reg (opsAt (sub B [1, 0, 0, 1, 1, 0])) [7, 8, 9, 10] :: S3)) (by kernel_rfl) fun J => ?_
      obtain ⟨t14, H_1, q5, h⟩ := h
      refine KR.se (one_ca (by kernel_rfl) q5) ?_
      exact KR.run 4 [(0, .pointer (some ⟨a0b, a0o, none⟩)), (6, .bool (decide (t14 > 0)))] 21 (s' := (.code (sub B [1, 0, 0, 1, 1, 1]) :: S1)) (by kernel_rfl) h
    · replace h := iteF c4 h
      refine KR.setV 12 (by kernel_rfl) (eF c4) ?_
      exact KR.run 6 [(0, .pointer (some ⟨a0b, a0o, none⟩)), (6, .bool false)] 21 (s' := (.code (sub B [1, 0, 0, 1, 1, 1]) :: S1)) (by kernel_rfl) h
end F55
/-! #### 56 campanile/seal.Good -/
namespace F56
noncomputable def B : Code := bodyOf Try.f56
noncomputable def S0 : List It := (.code (sub B [1, 1]) :: [])
theorem call {a0 : Int} {a1a : Option Addr} {a1n : Nat} {a1k : Nat} {a2 : Int} {H : Heap} {r : Value × Heap} (h :
    ∃ (t9 : Int) (H_1 : Heap), xC Try.prog good 47 [.int .u64 a0, .slice a1a a1n a1k] H = some (.int .u32 t9, H_1) ∧
    (r = (.bool (t9 == a2), H_1))) :
    xC Try.prog good 56 [.int .u64 a0, .slice a1a a1n a1k, .int .u32 a2] H = some r := by
  refine KR.enter (fn := Try.f56) (c := B) (by kernel_rfl) (by kernel_rfl) ?_
  refine KR.run 8 [(2, .int .u32 a2), (7, .int .u64 a0), (8, .slice a1a a1n a1k)] 12 (s' := (.reg (opsAt (sub B [1, 0])) [2, 3, 4, 5] :: S0)) (by kernel_rfl) fun J => ?_
  obtain ⟨t9, H_1, q1, h⟩ := h
  refine KR.se (one_ca (by kernel_rfl) q1) ?_
  refine KR.run 4 [(6, .bool (t9 == a2))] 12 (s' := (.code (sub B [1, 1]) :: [])) (by kernel_rfl) fun J => ?_
  exact KR.fin (by kernel_rfl) h
end F56
/-! #### 57 slices.ContainsFunc[[]campanile/api.Cell,campanile/api.Cell] -/
namespace F57
noncomputable def B : Code := bodyOf Try.f57
noncomputable def S0 : List It := (.code (sub B [1, 1]) :: [])
theorem call {a0a : Option Addr} {a0n : Nat} {a0k : Nat} {a1 : Value} {H : Heap} {r : Value × Heap} (h :
    ∃ (t7 : Int) (H_1 : Heap), xC Try.prog good 70 [.slice a0a a0n a0k, a1] H = some (.int .i64 t7, H_1) ∧
    (r = (.bool (decide (t7 ≥ 0)), H_1))) :
    xC Try.prog good 57 [.slice a0a a0n a0k, a1] H = some r := by
  refine KR.enter (fn := Try.f57) (c := B) (by kernel_rfl) (by kernel_rfl) ?_
  refine KR.run 8 [(5, .slice a0a a0n a0k), (6, a1)] 9 (s' := (.reg (opsAt (sub B [1, 0])) [2, 3, 4] :: S0)) (by kernel_rfl) fun J => ?_
  obtain ⟨t7, H_1, q1, h⟩ := h
  refine KR.se (one_ca (by kernel_rfl) q1) ?_
  refine KR.run 3 [(4, .bool (decide (t7 ≥ 0)))] 9 (s' := (.code (sub B [1, 1]) :: [])) (by kernel_rfl) fun J => ?_
  exact KR.fin (by kernel_rfl) h
end F57
/-! #### 58 campanile/join.cells$1 -/
namespace F58
noncomputable def B : Code := bodyOf Try.f58
noncomputable def S0 : List It := (.code (sub B [1]) :: [])
noncomputable def S1 : List It := (.code (sub B [1, 1]) :: [])
theorem call {a0c0 : Int} {a0c1 : Int} {a0c2 : Int} {a0c3 : Int} {a0c4 : Int} {H : Heap} {r : Value × Heap} (h :
    ∃ (H_1 : Heap), H_1 = H.push (.row [.int .i64 a0c0, .int .i64 a0c1, .int .i64 a0c2, .int .i64 a0c3, .int .i64 a0c4] true) ∧
    (∃ (t3c0 : Int) (t3c1 : Int) (t3c2 : Int) (t3c3 : Int) (t3c4 : Int), ldAll H_1 H.next 0 [.int .i64 t3c0, .int .i64 t3c1, .int .i64 t3c2, .int .i64 t3c3, .int .i64 t3c4] ∧
    (∃ (t4 : Bool) (H_2 : Heap), xC Try.prog good 59 [.agg #[.int .i64 t3c0, .int .i64 t3c1, .int .i64 t3c2, .int .i64 t3c3, .int .i64 t3c4]] H_1 = some (.bool t4, H_2) ∧
    (r = (.bool (!t4), H_2))))) :
    xC Try.prog good 58 [.agg #[.int .i64 a0c0, .int .i64 a0c1, .int .i64 a0c2, .int .i64 a0c3, .int .i64 a0c4]] H = some r := by
  refine KR.enter (fn := Try.f58) (c := B) (by kernel_rfl) (by kernel_rfl) ?_
  refine KR.run 2 [(0, .agg #[.int .i64 a0c0, .int .i64 a0c1, .int .i64 a0c2, .int .i64 a0c3, .int .i64 a0c4])] 6 (s' := (.reg (opsAt (sub B [0])) [0, 1] :: S0)) (by kernel_rfl) fun J => ?_
  obtain ⟨H_1, q1, h⟩ := h
  refine KR.mk (w := pRow [.int .i64 a0c0, .int .i64 a0c1, .int .i64 a0c2, .int .i64 a0c3, .int .i64 a0c4]) (one_al (by kernel_rfl)) q1 ?_
  refine KR.run 4 [(1, .pointer (some ⟨H.next, 0, none⟩))] 6 (s' := (.reg (opsAt (sub B [1, 0])) [0, 1, 2, 3] :: S1)) (by kernel_rfl) fun J => ?_
  obtain ⟨t3c0, t3c1, t3c2, t3c3, t3c4, q2, h⟩ := h
  refine KR.rd (one_ldA (by kernel_rfl) q2) ?_
  obtain ⟨t4, H_2, q3, h⟩ := h
  refine KR.se (one_ca (by kernel_rfl) q3) ?_
  refine KR.run 3 [(2, .bool (!t4))] 6 (s' := (.code (sub B [1, 1]) :: [])) (by kernel_rfl) fun J => ?_
  exact KR.fin (by kernel_rfl) h
end F58
/-! #### 59 campanile/cell.May -/
namespace F59
noncomputable def B : Code := bodyOf Try.f59
noncomputable def S0 : List It := (.code (sub B [1]) :: [])
noncomputable def S1 : List It := (.code (sub B [1, 1]) :: [])
noncomputable def S2 : List It := (.code (sub B [1, 1, 1]) :: [])
noncomputable def S3 : List It := (.code (sub B [1, 1, 1, 1]) :: [])
noncomputable def S4 : List It := (.reg (opsAt (sub B [1, 1, 1, 0])) [0, 1, 2, 3, 4, 5, 6, 7, 8, 9, 10, 11, 12, 13, 14, 15, 16, 17, 18, 19, 20, 21, 22, 23, 24, 25, 26, 27, 28, 29, 30, 31, 32, 33, 34, 35] :: S3)
def L0 (t1b : Nat) (t1o : Nat) (t3 : Bool) (t4 : Bool) (H : Heap) (r : Value × Heap) : Prop := ∀ J, KR Try.prog good Try.f59 S4 (mat J 54 [(1, .pointer (some ⟨t1b, t1o, none⟩)), (3, .bool t3), (4, .bool t4)]) H r
theorem L0_step {t1b : Nat} {t1o : Nat} {t3 : Bool} {t4 : Bool} {H : Heap} {r : Value × Heap} (h :
    ∃ (t20 : Int), ldc H t1b t1o = some (.int .i64 t20) ∧
    (∃ (t21 : Bool) (H_1 : Heap), xC Try.prog good 71 [.int .i64 t20, .int .i64 0, .int .i64 3] H = some (.bool t21, H_1) ∧
    (if t21 = true then
    (∃ (t24 : Int), ldc H_1 t1b (t1o + 1) = some (.int .i64 t24) ∧
    (∃ (t25 : Bool) (H_2 : Heap), xC Try.prog good 71 [.int .i64 t24, .int .i64 0, .int .i64 199] H_1 = some (.bool t25, H_2) ∧
    (if t25 = true then
    (∃ (t29 : Int), ldc H_2 t1b (t1o + 2) = some (.int .i64 t29) ∧
    (∃ (t30 : Bool) (H_3 : Heap), xC Try.prog good 71 [.int .i64 t29, .int .i64 0, .int .i64 15] H_2 = some (.bool t30, H_3) ∧
    (if t30 = true then
    (∃ (t34 : Int), ldc H_3 t1b (t1o + 3) = some (.int .i64 t34) ∧
    (∃ (t35 : Bool) (H_4 : Heap), xC Try.prog good 71 [.int .i64 t34, .int .i64 1, .int .i64 15] H_3 = some (.bool t35, H_4) ∧
    (if t35 = true then
    (if t3 = true then
    (if t4 = true then
    (r = (.bool false, H_4))
    else
    (∃ (t46 : Int), ldc H_4 t1b (t1o + 4) = some (.int .i64 t46) ∧
    (∃ (t47 : Bool) (H_5 : Heap), xC Try.prog good 71 [.int .i64 t46, .int .i64 0, .int .i64 15] H_4 = some (.bool t47, H_5) ∧
    (if t47 = true then
    (r = (.bool true, H_5))
    else
    (∃ (t50 : Int), ldc H_5 t1b (t1o + 4) = some (.int .i64 t50) ∧
    (r = (.bool (t50 == 64), H_5)))))))
    else
    (r = (.bool false, H_4)))
    else
    (r = (.bool false, H_4)))))
    else
    (r = (.bool false, H_3)))))
    else
    (r = (.bool false, H_2)))))
    else
    (r = (.bool false, H_1))))) :
    L0 t1b t1o t3 t4 H r := by
  intro J
  show KR _ _ _ (.reg (opsAt (sub B [1, 1, 1, 0])) [0, 1, 2, 3, 4, 5, 6, 7, 8, 9, 10, 11, 12, 13, 14, 15, 16, 17, 18, 19, 20, 21, 22, 23, 24, 25, 26, 27, 28, 29, 30, 31, 32, 33, 34, 35] :: S3) _ _ _
  refine KR.run 1 [(1, .pointer (some ⟨t1b, t1o, none⟩)), (3, .bool t3), (4, .bool t4), (19, .pointer (some ⟨t1b, t1o, none⟩))] 54 (s' := (.reg (opsAt (sub B [1, 1, 1, 0])) [1, 2, 3, 4, 5, 6, 7, 8, 9, 10, 11, 12, 13, 14, 15, 16, 17, 18, 19, 20, 21, 22, 23, 24, 25, 26, 27, 28, 29, 30, 31, 32, 33, 34, 35] :: S3)) (by kernel_rfl) fun J => ?_
  obtain ⟨t20, q6, h⟩ := h
  refine KR.rd (one_ld (by kernel_rfl) q6) ?_
  obtain ⟨t21, H_1, q7, h⟩ := h
  refine KR.se (one_ca (by kernel_rfl) q7) ?_
  refine KR.run 1 [(1, .pointer (some ⟨t1b, t1o, none⟩)), (3, .bool t3), (4, .bool t4), (22, .bool t21)] 54 (s' := (.reg (opsAt (sub B [1, 1, 1, 0])) [4, 5, 6, 7, 8, 9, 10, 11, 12, 13, 14, 15, 16, 17, 18, 19, 20, 21, 22, 23, 24, 25, 26, 27, 28, 29, 30, 31, 32, 33, 34, 35] :: S3)) (by kernel_rfl) fun J => ?_
  by_cases c8 : t21 = true
  · replace h := iteT c8 h
    refine KR.setV 22 (by kernel_rfl) (bT c8) ?_
    refine KR.run 1 [(1, .pointer (some ⟨t1b, t1o, none⟩)), (3, .bool t3), (4, .bool t4), (22, .bool true), (23, .pointer (some ⟨t1b, (t1o + 1), none⟩))] 54 (s' := (.reg (opsAt (sub B [1, 1, 1, 0])) [5, 6, 7, 8, 9, 10, 11, 12, 13, 14, 15, 16, 17, 18, 19, 20, 21, 22, 23, 24, 25, 26, 27, 28, 29, 30, 31, 32, 33, 34, 35] :: S3)) (by kernel_rfl) fun J => ?_
    obtain ⟨t24, q9, h⟩ := h
    refine KR.rd (one_ld (by kernel_rfl) q9) ?_
    obtain ⟨t25, H_2, q10, h⟩ := h
    refine KR.se (one_ca (by kernel_rfl) q10) ?_
    refine KR.run 2 [(1, .pointer (some ⟨t1b, t1o, none⟩)), (3, .bool t3), (4, .bool t4), (27, .bool t25)] 54 (s' := (.reg (opsAt (sub B [1, 1, 1, 0])) [9, 10, 11, 12, 13, 14, 15, 16, 17, 18, 19, 20, 21, 22, 23, 24, 25, 26, 27, 28, 29, 30, 31, 32, 33, 34, 35] :: S3)) (by kernel_rfl) fun J => ?_
    by_cases c11 : t25 = true
    · replace h := iteT c11 h
      refine KR.setV 27 (by kernel_rfl) (bT c11) ?_
      refine KR.run 1 [(1, .pointer (some ⟨t1b, t1o, none⟩)), (3, .bool t3), (4, .bool t4), (27, .bool true), (28, .pointer (some ⟨t1b, (t1o + 2), none⟩))] 54 (s' := (.reg (opsAt (sub B [1, 1, 1, 0])) [10, 11, 12, 13, 14, 15, 16, 17, 18, 19, 20, 21, 22, 23, 24, 25, 26, 27, 28, 29, 30, 31, 32, 33, 34, 35] :: S3)) (by kernel_rfl) fun J => ?_
      obtain ⟨t29, q12, h⟩ := h
      refine KR.rd (one_ld (by kernel_rfl) q12) ?_
      obtain ⟨t30, H_3, q13, h⟩ := h
      refine KR.se (one_ca (by kernel_rfl) q13) ?_
      refine KR.run 2 [(1, .pointer (some ⟨t1b, t1o, none⟩)), (3, .bool t3), (4, .bool t4), (32, .bool t30)] 54 (s' := (.reg (opsAt (sub B [1, 1, 1, 0])) [14, 15, 16, 17, 18, 19, 20, 21, 22, 23, 24, 25, 26, 27, 28, 29, 30, 31, 32, 33, 34, 35] :: S3)) (by kernel_rfl) fun J => ?_
      by_cases c14 : t30 = true
      · replace h := iteT c14 h
        refine KR.setV 32 (by kernel_rfl) (bT c14) ?_
        refine KR.run 1 [(1, .pointer (some ⟨t1b, t1o, none⟩)), (3, .bool t3), (4, .bool t4), (32, .bool true), (33, .pointer (some ⟨t1b, (t1o + 3), none⟩))] 54 (s' := (.reg (opsAt (sub B [1, 1, 1, 0])) [15, 16, 17, 18, 19, 20, 21, 22, 23, 24, 25, 26, 27, 28, 29, 30, 31, 32, 33, 34, 35] :: S3)) (by kernel_rfl) fun J => ?_
        obtain ⟨t34, q15, h⟩ := h
        refine KR.rd (one_ld (by kernel_rfl) q15) ?_
        obtain ⟨t35, H_4, q16, h⟩ := h
        refine KR.se (one_ca (by kernel_rfl) q16) ?_
        refine KR.run 2 [(1, .pointer (some ⟨t1b, t1o, none⟩)), (3, .bool t3), (4, .bool t4), (37, .bool t35)] 54 (s' := (.reg (opsAt (sub B [1, 1, 1, 0])) [19, 20, 21, 22, 23, 24, 25, 26, 27, 28, 29, 30, 31, 32, 33, 34, 35] :: S3)) (by kernel_rfl) fun J => ?_
        by_cases c17 : t35 = true
        · replace h := iteT c17 h
          refine KR.setV 37 (by kernel_rfl) (bT c17) ?_
          refine KR.run 3 [(1, .pointer (some ⟨t1b, t1o, none⟩)), (4, .bool t4), (40, .bool t3)] 54 (s' := (.reg (opsAt (sub B [1, 1, 1, 0])) [22, 23, 24, 25, 26, 27, 28, 29, 30, 31, 32, 33, 34, 35] :: S3)) (by kernel_rfl) fun J => ?_
          by_cases c18 : t3 = true
          · replace h := iteT c18 h
            refine KR.setV 40 (by kernel_rfl) (bT c18) ?_
            refine KR.run 4 [(1, .pointer (some ⟨t1b, t1o, none⟩)), (44, .bool (!t4))] 54 (s' := (.reg (opsAt (sub B [1, 1, 1, 0])) [26, 27, 28, 29, 30, 31, 32, 33, 34, 35] :: S3)) (by kernel_rfl) fun J => ?_
            by_cases c19 : t4 = true
            · replace h := iteT c19 h
              refine KR.setV 44 (by kernel_rfl) (nB (bT c19)) ?_
              refine KR.run 11 [(2, .bool false)] 54 (s' := (.code (sub B [1, 1, 1, 1]) :: [])) (by kernel_rfl) fun J => ?_
              exact KR.fin (by kernel_rfl) h
            · replace h := iteF c19 h
              refine KR.setV 44 (by kernel_rfl) (nB (bF c19)) ?_
              refine KR.run 1 [(1, .pointer (some ⟨t1b, t1o, none⟩)), (44, .bool true), (45, .pointer (some ⟨t1b, (t1o + 4), none⟩))] 54 (s' := (.reg (opsAt (sub B [1, 1, 1, 0])) [27, 28, 29, 30, 31, 32, 33, 34, 35] :: S3)) (by kernel_rfl) fun J => ?_
              obtain ⟨t46, q20, h⟩ := h
              refine KR.rd (one_ld (by kernel_rfl) q20) ?_
              obtain ⟨t47, H_5, q21, h⟩ := h
              refine KR.se (one_ca (by kernel_rfl) q21) ?_
              refine KR.run 1 [(1, .pointer (some ⟨t1b, t1o, none⟩)), (44, .bool true), (48, .bool t47)] 54 (s' := (.reg (opsAt (sub B [1, 1, 1, 0])) [30, 31, 32, 33, 34, 35] :: S3)) (by kernel_rfl) fun J => ?_
              by_cases c22 : t47 = true
              · replace h := iteT c22 h
                refine KR.setV 48 (by kernel_rfl) (bT c22) ?_
                refine KR.run 7 [(2, .bool true)] 54 (s' := (.code (sub B [1, 1, 1, 1]) :: [])) (by kernel_rfl) fun J => ?_
                exact KR.fin (by kernel_rfl) h
              · replace h := iteF c22 h
                refine KR.setV 48 (by kernel_rfl) (bF c22) ?_
                refine KR.run 1 [(44, .bool true), (48, .bool false), (49, .pointer (some ⟨t1b, (t1o + 4), none⟩))] 54 (s' := (.reg (opsAt (sub B [1, 1, 1, 0])) [31, 32, 33, 34, 35] :: S3)) (by kernel_rfl) fun J => ?_
                obtain ⟨t50, q23, h⟩ := h
                refine KR.rd (one_ld (by kernel_rfl) q23) ?_
                refine KR.run 5 [(2, .bool (t50 == 64))] 54 (s' := (.code (sub B [1, 1, 1, 1]) :: [])) (by kernel_rfl) fun J => ?_
                exact KR.fin (by kernel_rfl) h
          · replace h := iteF c18 h
            refine KR.setV 40 (by kernel_rfl) (bF c18) ?_
            refine KR.run 15 [(2, .bool false)] 54 (s' := (.code (sub B [1, 1, 1, 1]) :: [])) (by kernel_rfl) fun J => ?_
            exact KR.fin (by kernel_rfl) h
        · replace h := iteF c17 h
          refine KR.setV 37 (by kernel_rfl) (bF c17) ?_
          refine KR.run 18 [(2, .bool false)] 54 (s' := (.code (sub B [1, 1, 1, 1]) :: [])) (by kernel_rfl) fun J => ?_
          exact KR.fin (by kernel_rfl) h
      · replace h := iteF c14 h
        refine KR.setV 32 (by kernel_rfl) (bF c14) ?_
        refine KR.run 23 [(2, .bool false)] 54 (s' := (.code (sub B [1, 1, 1, 1]) :: [])) (by kernel_rfl) fun J => ?_
        exact KR.fin (by kernel_rfl) h
    · replace h := iteF c11 h
      refine KR.setV 27 (by kernel_rfl) (bF c11) ?_
      refine KR.run 28 [(2, .bool false)] 54 (s' := (.code (sub B [1, 1, 1, 1]) :: [])) (by kernel_rfl) fun J => ?_
      exact KR.fin (by kernel_rfl) h
  · replace h := iteF c8 h
    refine KR.setV 22 (by kernel_rfl) (bF c8) ?_
    refine KR.run 33 [(2, .bool false)] 54 (s' := (.code (sub B [1, 1, 1, 1]) :: [])) (by kernel_rfl) fun J => ?_
    exact KR.fin (by kernel_rfl) h
theorem call {a0c0 : Int} {a0c1 : Int} {a0c2 : Int} {a0c3 : Int} {a0c4 : Int} {H : Heap} {r : Value × Heap} (h :
    ∃ (H_1 : Heap), H_1 = H.push (.row [.int .i64 a0c0, .int .i64 a0c1, .int .i64 a0c2, .int .i64 a0c3, .int .i64 a0c4] true) ∧
    (∃ (t6 : Int), ldc H_1 H.next 3 = some (.int .i64 t6) ∧
    (∃ (t10 : Int), ldc H_1 H.next 3 = some (.int .i64 t10) ∧
    (if (iand .i64 t10 4) = 0 then
    (L0 (H.next) (0) ((!((iand .i64 t6 3) == 0))) (false) H_1 r)
    else
    (∃ (t15 : Int), ldc H_1 H.next 3 = some (.int .i64 t15) ∧
    (L0 (H.next) (0) ((!((iand .i64 t6 3) == 0))) (((iand .i64 t15 1) == 0)) H_1 r)))))) :
    xC Try.prog good 59 [.agg #[.int .i64 a0c0, .int .i64 a0c1, .int .i64 a0c2, .int .i64 a0c3, .int .i64 a0c4]] H = some r := by
  refine KR.enter (fn := Try.f59) (c := B) (by kernel_rfl) (by kernel_rfl) ?_
  refine KR.run 2 [(0, .agg #[.int .i64 a0c0, .int .i64 a0c1, .int .i64 a0c2, .int .i64 a0c3, .int .i64 a0c4])] 54 (s' := (.reg (opsAt (sub B [0])) [0, 1] :: S0)) (by kernel_rfl) fun J => ?_
  obtain ⟨H_1, q1, h⟩ := h
  refine KR.mk (w := pRow [.int .i64 a0c0, .int .i64 a0c1, .int .i64 a0c2, .int .i64 a0c3, .int .i64 a0c4]) (one_al (by kernel_rfl)) q1 ?_
  refine KR.run 5 [(1, .pointer (some ⟨H.next, 0, none⟩)), (5, .pointer (some ⟨H.next, 3, none⟩))] 54 (s' := (.reg (opsAt (sub B [1, 0])) [1, 2, 3, 4] :: S1)) (by kernel_rfl) fun J => ?_
  obtain ⟨t6, q2, h⟩ := h
  refine KR.rd (one_ld (by kernel_rfl) q2) ?_
  refine KR.run 7 [(1, .pointer (some ⟨H.next, 0, none⟩)), (3, .bool (!((iand .i64 t6 3) == 0))), (9, .pointer (some ⟨H.next, 3, none⟩))] 54 (s' := (.reg (opsAt (sub B [1, 1, 0])) [1, 2, 3, 4, 5, 6, 7, 8, 9, 10] :: S2)) (by kernel_rfl) fun J => ?_
  obtain ⟨t10, q3, h⟩ := h
  refine KR.rd (one_ld (by kernel_rfl) q3) ?_
  refine KR.run 3 [(1, .pointer (some ⟨H.next, 0, none⟩)), (3, .bool (!((iand .i64 t6 3) == 0))), (13, .bool (!((iand .i64 t10 4) == 0)))] 54 (s' := (.reg (opsAt (sub B [1, 1, 0])) [5, 6, 7, 8, 9, 10] :: S2)) (by kernel_rfl) fun J => ?_
  by_cases c4 : (iand .i64 t10 4) = 0
  · replace h := iteT c4 h
    refine KR.setV 13 (by kernel_rfl) (nB (eT c4)) ?_
    exact KR.run 9 [(1, .pointer (some ⟨H.next, 0, none⟩)), (3, .bool (!((iand .i64 t6 3) == 0))), (4, .bool false)] 54 (s' := (.reg (opsAt (sub B [1, 1, 1, 0])) [0, 1, 2, 3, 4, 5, 6, 7, 8, 9, 10, 11, 12, 13, 14, 15, 16, 17, 18, 19, 20, 21, 22, 23, 24, 25, 26, 27, 28, 29, 30, 31, 32, 33, 34, 35] :: S3)) (by kernel_rfl) h
  · replace h := iteF c4 h
    refine KR.setV 13 (by kernel_rfl) (nB (eF c4)) ?_
    refine KR.run 1 [(1, .pointer (some ⟨H.next, 0, none⟩)), (3, .bool (!((iand .i64 t6 3) == 0))), (13, .bool true), (14, .pointer (some ⟨H.next, 3, none⟩))] 54 (s' := (.reg (opsAt (sub B [1, 1, 0])) [6, 7, 8, 9, 10] :: S2)) (by kernel_rfl) fun J => ?_
    obtain ⟨t15, q5, h⟩ := h
    refine KR.rd (one_ld (by kernel_rfl) q5) ?_
    exact KR.run 7 [(1, .pointer (some ⟨H.next, 0, none⟩)), (3, .bool (!((iand .i64 t6 3) == 0))), (4, .bool ((iand .i64 t15 1) == 0))] 54 (s' := (.reg (opsAt (sub B [1, 1, 1, 0])) [0, 1, 2, 3, 4, 5, 6, 7, 8, 9, 10, 11, 12, 13, 14, 15, 16, 17, 18, 19, 20, 21, 22, 23, 24, 25, 26, 27, 28, 29, 30, 31, 32, 33, 34, 35] :: S3)) (by kernel_rfl) h
end F59
/-! #### 60 campanile/bits.good -/
namespace F60
noncomputable def B : Code := bodyOf Try.f60
noncomputable def S0 : List It := (.code (sub B [1, 1]) :: [])
theorem call {a0 : Int} {H : Heap} {r : Value × Heap} (h :
    if a0 ≥ 0 then
    (r = (.bool (decide (a0 ≤ 64)), H))
    else
    (r = (.bool false, H))) :
    xC Try.prog good 60 [.int .i64 a0] H = some r := by
  refine KR.enter (fn := Try.f60) (c := B) (by kernel_rfl) (by kernel_rfl) ?_
  refine KR.run 9 [(0, .int .i64 a0), (5, .bool (decide (a0 ≥ 0)))] 9 (s' := (.reg (opsAt (sub B [1, 0])) [3, 4, 5, 6] :: S0)) (by kernel_rfl) fun J => ?_
  by_cases c1 : a0 ≥ 0
  · replace h := iteT c1 h
    refine KR.setV 5 (by kernel_rfl) (dT c1) ?_
    refine KR.run 5 [(2, .bool (decide (a0 ≤ 64)))] 9 (s' := (.code (sub B [1, 1]) :: [])) (by kernel_rfl) fun J => ?_
    exact KR.fin (by kernel_rfl) h
  · replace h := iteF c1 h
    refine KR.setV 5 (by kernel_rfl) (dF c1) ?_
    refine KR.run 5 [(2, .bool false)] 9 (s' := (.code (sub B [1, 1]) :: [])) (by kernel_rfl) fun J => ?_
    exact KR.fin (by kernel_rfl) h
end F60
/-! #### 61 campanile/seal.Tag$1 -/
namespace F61
noncomputable def B : Code := bodyOf Try.f61
theorem call {a0 : Int} {f0 : Option Addr} {H : Heap} {r : Value × Heap} (h :
    ∃ (f0b f0o : Nat), f0 = some ⟨f0b, f0o, none⟩ ∧
    (∃ (t3 : Int), ldc H f0b f0o = some (.int .u32 t3) ∧
    (∃ (H_1 : Heap), stc H f0b f0o [.int .u32 (IntKind.wrap .u32 ((ixor .u32 t3 (IntKind.wrap .u32 a0)) * 16777619))] = some H_1 ∧
    (r = (.tuple #[], H_1))))) :
    xC Try.prog good 61 [.int .u8 a0, .pointer f0] H = some r := by
  refine KR.enter (fn := Try.f61) (c := B) (by kernel_rfl) (by kernel_rfl) ?_
  refine KR.run 1 [(0, .int .u8 a0), (1, .pointer f0)] 8 (s' := (.reg (opsAt (sub B [])) [0, 1, 2, 3, 4, 5] :: [])) (by kernel_rfl) fun J => ?_
  obtain ⟨f0b, f0o, rfl, h⟩ := h
  obtain ⟨t3, q2, h⟩ := h
  refine KR.rd (one_ld (by kernel_rfl) q2) ?_
  refine KR.run 4 [(1, .pointer (some ⟨f0b, f0o, none⟩)), (7, .int .u32 (IntKind.wrap .u32 ((ixor .u32 t3 (IntKind.wrap .u32 a0)) * 16777619)))] 8 (s' := (.reg (opsAt (sub B [])) [5] :: [])) (by kernel_rfl) fun J => ?_
  obtain ⟨H_1, q3, h⟩ := h
  refine KR.se (one_st (by kernel_rfl) q3) ?_
  refine KR.run 1 [] 8 (s' := []) (by kernel_rfl) fun J => ?_
  exact KR.fin0 (by kernel_rfl) h
end F61
/-! #### 62 campanile/seal.Tag$2 -/
namespace F62
noncomputable def B : Code := bodyOf Try.f62
noncomputable def S0 : List It := (.blk 0 :: [])
noncomputable def S1 : List It := (.lp (sub B [1, 0, 0]) :: S0)
noncomputable def S2 : List It := (.code (sub B [1, 0, 0, 1, 1]) :: S1)
noncomputable def S3 : List It := (.code (sub B [1, 0, 0, 1, 1, 1]) :: S1)
noncomputable def S4 : List It := (.blk 1 :: S3)
def L0 (t0 : Option Addr) (t1 : Option Addr) (t3 : Int) (H : Heap) (r : Value × Heap) : Prop := ∀ J, KR Try.prog good Try.f62 S1 (mat J 15 [(0, .pointer t0), (1, .pointer t1), (3, .int .i64 t3)]) H r
theorem L0_step {t0 : Option Addr} {t1 : Option Addr} {t3 : Int} {H : Heap} {r : Value × Heap} (h :
    if t3 < 8 then
    (∃ (t0b t0o : Nat), t0 = some ⟨t0b, t0o, none⟩ ∧
    (∃ (t6 : Value), ldc H t0b t0o = some (t6) ∧
    (∃ (t1b t1o : Nat), t1 = some ⟨t1b, t1o, none⟩ ∧
    (∃ (t7 : Int), ldc H t1b t1o = some (.int .u64 t7) ∧
    ((0 : Int) ≤ (IntKind.wrap .i64 (8 * (IntKind.wrap .i64 (7 - t3)))) ∧
    (∃ (t6g : Nat) (t6x t6y : Array Value), t6 = .func (.func t6g) t6x t6y ∧
    (fnGoes Try.prog t6g = true ∧ ∃ (H_1 : Heap), xC Try.prog good t6g (Array.toList t6x ++ [.int .u8 (IntKind.wrap .u8 (ishr .u64 t7 (IntKind.wrap .i64 (8 * (IntKind.wrap .i64 (7 - t3))))))] ++ Array.toList t6y) H = some (.tuple #[], H_1) ∧
    (L0 ((some ⟨t0b, t0o, none⟩)) ((some ⟨t1b, t1o, none⟩)) ((IntKind.wrap .i64 (t3 + 1))) H_1 r))))))))
    else
    (r = (.tuple #[], H))) :
    L0 t0 t1 t3 H r := by
  intro J
  show KR _ _ _ (.lp (sub B [1, 0, 0]) :: S0) _ _ _
  refine KR.run 6 [(0, .pointer t0), (1, .pointer t1), (3, .int .i64 t3), (4, .bool (decide (t3 < 8)))] 15 (s' := (.code (sub B [1, 0, 0, 1, 0]) :: S2)) (by kernel_rfl) fun J => ?_
  by_cases c1 : t3 < 8
  · replace h := iteT c1 h
    refine KR.br true (by kernel_rfl) (vB (dT c1)) ?_
    refine KR.run 8 [(0, .pointer t0), (1, .pointer t1), (2, .int .i64 t3), (3, .int .i64 t3)] 15 (s' := (.code (sub B [1, 0, 0, 1, 1, 0, 0, 1]) :: S4)) (by kernel_rfl) fun J => ?_
    refine KR.sd (by kernel_rfl) ?_
    refine KR.run 0 [(0, .pointer t0), (1, .pointer t1), (2, .int .i64 t3), (3, .int .i64 t3)] 15 (s' := (.reg (opsAt (sub B [1, 0, 0, 1, 1, 0, 0, 1])) [0, 1, 2, 3, 4, 5, 6, 7] :: S4)) (by kernel_rfl) fun J => ?_
    obtain ⟨t0b, t0o, rfl, h⟩ := h
    obtain ⟨t6, q3, h⟩ := h
    refine KR.rd (one_ld (by kernel_rfl) q3) ?_
    obtain ⟨t1b, t1o, rfl, h⟩ := h
    obtain ⟨t7, q5, h⟩ := h
    refine KR.rd (one_ld (by kernel_rfl) q5) ?_
    refine KR.run 3 [(0, .pointer (some ⟨t0b, t0o, none⟩)), (1, .pointer (some ⟨t1b, t1o, none⟩)), (3, .int .i64 t3), (6, t6), (7, .int .u64 t7), (10, .int .i64 (IntKind.wrap .i64 (8 * (IntKind.wrap .i64 (7 - t3)))))] 15 (s' := (.reg (opsAt (sub B [1, 0, 0, 1, 1, 0, 0, 1])) [5, 6, 7] :: S4)) (by kernel_rfl) fun J => ?_
    obtain ⟨q6, h⟩ := h
    refine KR.p (one_shr .u64 .i64 t7 (by kernel_rfl) q6) ?_
    refine KR.run 1 [(0, .pointer (some ⟨t0b, t0o, none⟩)), (1, .pointer (some ⟨t1b, t1o, none⟩)), (3, .int .i64 t3), (6, t6), (12, .int .u8 (IntKind.wrap .u8 (ishr .u64 t7 (IntKind.wrap .i64 (8 * (IntKind.wrap .i64 (7 - t3)))))))] 15 (s' := (.reg (opsAt (sub B [1, 0, 0, 1, 1, 0, 0, 1])) [7] :: S4)) (by kernel_rfl) fun J => ?_
    obtain ⟨t6g, t6x, t6y, rfl, h⟩ := h
    obtain ⟨q8x, H_1, q8, h⟩ := h
    refine KR.se (one_fv (by kernel_rfl) q8x q8) ?_
    exact KR.run 6 [(0, .pointer (some ⟨t0b, t0o, none⟩)), (1, .pointer (some ⟨t1b, t1o, none⟩)), (3, .int .i64 (IntKind.wrap .i64 (t3 + 1)))] 15 (s' := (.lp (sub B [1, 0, 0]) :: S0)) (by kernel_rfl) h
  · replace h := iteF c1 h
    refine KR.br false (by kernel_rfl) (vB (dF c1)) ?_
    refine KR.run 1 [] 15 (s' := []) (by kernel_rfl) fun J => ?_
    exact KR.fin0 (by kernel_rfl) h
theorem call {f0 : Option Addr} {f1 : Option Addr} {H : Heap} {r : Value × Heap} (h :
    L0 (f0) (f1) 0 H r) :
    xC Try.prog good 62 [.pointer f0, .pointer f1] H = some r := by
  refine KR.enter (fn := Try.f62) (c := B) (by kernel_rfl) (by kernel_rfl) ?_
  exact KR.run 6 [(0, .pointer f0), (1, .pointer f1), (3, .int .i64 0)] 15 (s' := (.lp (sub B [1, 0, 0]) :: S0)) (by kernel_rfl) h
end F62
/-! #### 63 (*campanile/join.reader).word -/
namespace F63
noncomputable def B : Code := bodyOf Try.f63
noncomputable def S0 : List It := (.code (sub B [1, 1]) :: [])
theorem call {a0 : Option Addr} {H : Heap} {r : Value × Heap} (h :
    ∃ (a0b a0o : Nat), a0 = some ⟨a0b, a0o, none⟩ ∧
    (∃ (t6 : Option Addr), ldc H a0b a0o = some (.pointer t6) ∧
    (∃ (t7 : Int) (H_1 : Heap), xC Try.prog good 72 [.pointer t6, .int .i64 8] H = some (.int .u64 t7, H_1) ∧
    (r = (.int .i64 (IntKind.wrap .i64 t7), H_1))))) :
    xC Try.prog good 63 [.pointer a0] H = some r := by
  refine KR.enter (fn := Try.f63) (c := B) (by kernel_rfl) (by kernel_rfl) ?_
  obtain ⟨a0b, a0o, rfl, h⟩ := h
  refine KR.run 9 [(5, .pointer (some ⟨a0b, a0o, none⟩))] 9 (s' := (.reg (opsAt (sub B [1, 0])) [3, 4, 5, 6] :: S0)) (by kernel_rfl) fun J => ?_
  obtain ⟨t6, q1, h⟩ := h
  refine KR.rd (one_ld (by kernel_rfl) q1) ?_
  obtain ⟨t7, H_1, q2, h⟩ := h
  refine KR.se (one_ca (by kernel_rfl) q2) ?_
  refine KR.run 3 [(2, .int .i64 (IntKind.wrap .i64 t7))] 9 (s' := (.code (sub B [1, 1]) :: [])) (by kernel_rfl) fun J => ?_
  exact KR.fin (by kernel_rfl) h
end F63
/-! #### 64 (*campanile/join.reader).check -/
namespace F64
noncomputable def B : Code := bodyOf Try.f64
noncomputable def S0 : List It := (.code (sub B [1, 1]) :: [])
noncomputable def S4 : List It := (.code (sub B [1, 1, 1]) :: [])
noncomputable def S1 : List It := (.blk 0 :: S0)
noncomputable def S5 : List It := (.reg (opsAt (sub B [1, 1, 0])) [0, 1, 2, 3, 4, 5] :: S4)
noncomputable def S2 : List It := (.code (sub B [1, 0, 0, 1]) :: S1)
noncomputable def S3 : List It := (.code (sub B [1, 0, 0, 1, 1, 1]) :: S1)
def L0 (t0b : Nat) (t0o : Nat) (H : Heap) (r : Value × Heap) : Prop := ∀ J, KR Try.prog good Try.f64 S5 (mat J 32 [(0, .pointer (some ⟨t0b, t0o, none⟩))]) H r
theorem L0_step {t0b : Nat} {t0o : Nat} {H : Heap} {r : Value × Heap} (h :
    ∃ (t30 : Int), ldc H t0b (t0o + 1) = some (.int .i64 t30) ∧
    (r = (.bool (t30 == 0), H))) :
    L0 t0b t0o H r := by
  intro J
  show KR _ _ _ (.reg (opsAt (sub B [1, 1, 0])) [0, 1, 2, 3, 4, 5] :: S4) _ _ _
  refine KR.run 3 [(29, .pointer (some ⟨t0b, (t0o + 1), none⟩))] 32 (s' := (.reg (opsAt (sub B [1, 1, 0])) [3, 4, 5] :: S4)) (by kernel_rfl) fun J => ?_
  obtain ⟨t30, q9, h⟩ := h
  refine KR.rd (one_ld (by kernel_rfl) q9) ?_
  refine KR.run 3 [(4, .bool (t30 == 0))] 32 (s' := (.code (sub B [1, 1, 1]) :: [])) (by kernel_rfl) fun J => ?_
  exact KR.fin (by kernel_rfl) h
theorem call {a0 : Option Addr} {a1 : Bool} {H : Heap} {r : Value × Heap} (h :
    ∃ (a0b a0o : Nat), a0 = some ⟨a0b, a0o, none⟩ ∧
    (∃ (t9 : Int), ldc H a0b (a0o + 1) = some (.int .i64 t9) ∧
    (if t9 = 0 then
    (∃ (t15 : Option Addr), ldc H a0b a0o = some (.pointer t15) ∧
    (∃ (t16 : Int) (H_1 : Heap), xC Try.prog good 55 [.pointer t15] H = some (.int .i64 t16, H_1) ∧
    (if t16 = 2 then
    (∃ (H_2 : Heap), stc H_1 a0b (a0o + 1) [.int .i64 2] = some H_2 ∧
    (L0 (a0b) (a0o) H_2 r))
    else
    (if a1 = true then
    (L0 (a0b) (a0o) H_1 r)
    else
    (∃ (H_3 : Heap), stc H_1 a0b (a0o + 1) [.int .i64 3] = some H_3 ∧
    (L0 (a0b) (a0o) H_3 r))))))
    else
    (L0 (a0b) (a0o) H r)))) :
    xC Try.prog good 64 [.pointer a0, .bool a1] H = some r := by
  refine KR.enter (fn := Try.f64) (c := B) (by kernel_rfl) (by kernel_rfl) ?_
  obtain ⟨a0b, a0o, rfl, h⟩ := h
  refine KR.run 11 [(0, .pointer (some ⟨a0b, a0o, none⟩)), (1, .bool a1), (8, .pointer (some ⟨a0b, (a0o + 1), none⟩))] 32 (s' := (.reg (opsAt (sub B [1, 0, 0, 0])) [3, 4, 5] :: S2)) (by kernel_rfl) fun J => ?_
  obtain ⟨t9, q1, h⟩ := h
  refine KR.rd (one_ld (by kernel_rfl) q1) ?_
  refine KR.run 3 [(0, .pointer (some ⟨a0b, a0o, none⟩)), (1, .bool a1), (5, .bool (!(t9 == 0)))] 32 (s' := (.code (sub B [1, 0, 0, 1]) :: S1)) (by kernel_rfl) fun J => ?_
  by_cases c2 : t9 = 0
  · replace h := iteT c2 h
    refine KR.br false (by kernel_rfl) (vB (nB (eT c2))) ?_
    refine KR.run 5 [(0, .pointer (some ⟨a0b, a0o, none⟩)), (1, .bool a1), (14, .pointer (some ⟨a0b, a0o, none⟩))] 32 (s' := (.reg (opsAt (sub B [1, 0, 0, 1, 1, 0])) [3, 4, 5, 6] :: S3)) (by kernel_rfl) fun J => ?_
    obtain ⟨t15, q3, h⟩ := h
    refine KR.rd (one_ld (by kernel_rfl) q3) ?_
    obtain ⟨t16, H_1, q4, h⟩ := h
    refine KR.se (one_ca (by kernel_rfl) q4) ?_
    refine KR.run 3 [(0, .pointer (some ⟨a0b, a0o, none⟩)), (1, .bool a1), (11, .bool (t16 == 2))] 32 (s' := (.code (sub B [1, 0, 0, 1, 1, 1]) :: S1)) (by kernel_rfl) fun J => ?_
    by_cases c5 : t16 = 2
    · replace h := iteT c5 h
      refine KR.br true (by kernel_rfl) (vB (eT c5)) ?_
      refine KR.run 4 [(0, .pointer (some ⟨a0b, a0o, none⟩)), (20, .pointer (some ⟨a0b, (a0o + 1), none⟩))] 32 (s' := (.reg (opsAt (sub B [1, 0, 0, 1, 1, 1, 0])) [3] :: S1)) (by kernel_rfl) fun J => ?_
      obtain ⟨H_2, q6, h⟩ := h
      refine KR.se (one_st (by kernel_rfl) q6) ?_
      exact KR.run 4 [(0, .pointer (some ⟨a0b, a0o, none⟩))] 32 (s' := (.reg (opsAt (sub B [1, 1, 0])) [0, 1, 2, 3, 4, 5] :: S4)) (by kernel_rfl) h
    · replace h := iteF c5 h
      refine KR.br false (by kernel_rfl) (vB (eF c5)) ?_
      refine KR.run 6 [(0, .pointer (some ⟨a0b, a0o, none⟩)), (21, .bool (!a1))] 32 (s' := (.code (sub B [1, 0, 0, 1, 1, 1, 1, 1]) :: S1)) (by kernel_rfl) fun J => ?_
      by_cases c7 : a1 = true
      · replace h := iteT c7 h
        refine KR.br false (by kernel_rfl) (vB (nB (bT c7))) ?_
        exact KR.run 4 [(0, .pointer (some ⟨a0b, a0o, none⟩))] 32 (s' := (.reg (opsAt (sub B [1, 1, 0])) [0, 1, 2, 3, 4, 5] :: S4)) (by kernel_rfl) h
      · replace h := iteF c7 h
        refine KR.br true (by kernel_rfl) (vB (nB (bF c7))) ?_
        refine KR.run 4 [(0, .pointer (some ⟨a0b, a0o, none⟩)), (26, .pointer (some ⟨a0b, (a0o + 1), none⟩))] 32 (s' := (.reg (opsAt (sub B [1, 0, 0, 1, 1, 1, 1, 1, 0])) [3] :: S1)) (by kernel_rfl) fun J => ?_
        obtain ⟨H_3, q8, h⟩ := h
        refine KR.se (one_st (by kernel_rfl) q8) ?_
        exact KR.run 4 [(0, .pointer (some ⟨a0b, a0o, none⟩))] 32 (s' := (.reg (opsAt (sub B [1, 1, 0])) [0, 1, 2, 3, 4, 5] :: S4)) (by kernel_rfl) h
  · replace h := iteF c2 h
    refine KR.br true (by kernel_rfl) (vB (nB (eF c2))) ?_
    exact KR.run 4 [(0, .pointer (some ⟨a0b, a0o, none⟩))] 32 (s' := (.reg (opsAt (sub B [1, 1, 0])) [0, 1, 2, 3, 4, 5] :: S4)) (by kernel_rfl) h
end F64
/-! #### 65 (*campanile/join.reader).request$1 -/
namespace F65
noncomputable def B : Code := bodyOf Try.f65
noncomputable def S0 : List It := (.code (sub B [1, 1]) :: [])
theorem call {a0 : Int} {f0 : Option Addr} {H : Heap} {r : Value × Heap} (h :
    ∃ (t5 : Bool) (H_1 : Heap), xC Try.prog good 42 [.int .i64 a0] H = some (.bool t5, H_1) ∧
    (if t5 = true then
    (∃ (f0b f0o : Nat), f0 = some ⟨f0b, f0o, none⟩ ∧
    (∃ (t9 : Int), ldc H_1 f0b f0o = some (.int .i64 t9) ∧
    (r = (.bool (!(a0 == t9)), H_1))))
    else
    (r = (.bool false, H_1)))) :
    xC Try.prog good 65 [.int .i64 a0, .pointer f0] H = some r := by
  refine KR.enter (fn := Try.f65) (c := B) (by kernel_rfl) (by kernel_rfl) ?_
  refine KR.run 7 [(0, .int .i64 a0), (1, .pointer f0), (4, .int .i64 a0)] 12 (s' := (.reg (opsAt (sub B [1, 0])) [1, 2, 3, 4, 5, 6, 7, 8] :: S0)) (by kernel_rfl) fun J => ?_
  obtain ⟨t5, H_1, q1, h⟩ := h
  refine KR.se (one_ca (by kernel_rfl) q1) ?_
  refine KR.run 1 [(0, .int .i64 a0), (1, .pointer f0), (6, .bool t5)] 12 (s' := (.reg (opsAt (sub B [1, 0])) [3, 4, 5, 6, 7, 8] :: S0)) (by kernel_rfl) fun J => ?_
  by_cases c2 : t5 = true
  · replace h := iteT c2 h
    refine KR.setV 6 (by kernel_rfl) (bT c2) ?_
    obtain ⟨f0b, f0o, rfl, h⟩ := h
    refine KR.run 2 [(6, .bool true), (7, .int .i64 a0), (8, .pointer (some ⟨f0b, f0o, none⟩))] 12 (s' := (.reg (opsAt (sub B [1, 0])) [5, 6, 7, 8] :: S0)) (by kernel_rfl) fun J => ?_
    obtain ⟨t9, q3, h⟩ := h
    refine KR.rd (one_ld (by kernel_rfl) q3) ?_
    refine KR.run 4 [(3, .bool (!(a0 == t9)))] 12 (s' := (.code (sub B [1, 1]) :: [])) (by kernel_rfl) fun J => ?_
    exact KR.fin (by kernel_rfl) h
  · replace h := iteF c2 h
    refine KR.setV 6 (by kernel_rfl) (bF c2) ?_
    refine KR.run 7 [(3, .bool false)] 12 (s' := (.code (sub B [1, 1]) :: [])) (by kernel_rfl) fun J => ?_
    exact KR.fin (by kernel_rfl) h
end F65
/-! #### 66 (*campanile/join.reader).long -/
namespace F66
noncomputable def B : Code := bodyOf Try.f66
noncomputable def S0 : List It := (.code (sub B [1, 1]) :: [])
theorem call {a0 : Option Addr} {H : Heap} {r : Value × Heap} (h :
    ∃ (a0b a0o : Nat), a0 = some ⟨a0b, a0o, none⟩ ∧
    (∃ (t6 : Option Addr), ldc H a0b a0o = some (.pointer t6) ∧
    (∃ (t7 : Int) (H_1 : Heap), xC Try.prog good 72 [.pointer t6, .int .i64 32] H = some (.int .u64 t7, H_1) ∧
    (r = (.int .u32 (IntKind.wrap .u32 t7), H_1))))) :
    xC Try.prog good 66 [.pointer a0] H = some r := by
  refine KR.enter (fn := Try.f66) (c := B) (by kernel_rfl) (by kernel_rfl) ?_
  obtain ⟨a0b, a0o, rfl, h⟩ := h
  refine KR.run 9 [(5, .pointer (some ⟨a0b, a0o, none⟩))] 9 (s' := (.reg (opsAt (sub B [1, 0])) [3, 4, 5, 6] :: S0)) (by kernel_rfl) fun J => ?_
  obtain ⟨t6, q1, h⟩ := h
  refine KR.rd (one_ld (by kernel_rfl) q1) ?_
  obtain ⟨t7, H_1, q2, h⟩ := h
  refine KR.se (one_ca (by kernel_rfl) q2) ?_
  refine KR.run 3 [(2, .int .u32 (IntKind.wrap .u32 t7))] 9 (s' := (.code (sub B [1, 1]) :: [])) (by kernel_rfl) fun J => ?_
  exact KR.fin (by kernel_rfl) h
end F66
/-! #### 67 campanile/join.anything -/
namespace F67
noncomputable def B : Code := bodyOf Try.f67
theorem call {a0 : Int} {H : Heap} {r : Value × Heap} (h :
    r = (.bool true, H)) :
    xC Try.prog good 67 [.int .i64 a0] H = some r := by
  refine KR.enter (fn := Try.f67) (c := B) (by kernel_rfl) (by kernel_rfl) ?_
  refine KR.run 8 [(2, .bool true)] 3 (s' := (.code (sub B [1, 1]) :: [])) (by kernel_rfl) fun J => ?_
  exact KR.fin (by kernel_rfl) h
end F67
/-! #### 68 (*campanile/join.reader).grant$1 -/
namespace F68
noncomputable def B : Code := bodyOf Try.f68
theorem call {a0 : Int} {H : Heap} {r : Value × Heap} (h :
    r = (.bool (decide (a0 ≤ 8)), H)) :
    xC Try.prog good 68 [.int .i64 a0] H = some r := by
  refine KR.enter (fn := Try.f68) (c := B) (by kernel_rfl) (by kernel_rfl) ?_
  refine KR.run 10 [(2, .bool (decide (a0 ≤ 8)))] 5 (s' := (.code (sub B [1, 1]) :: [])) (by kernel_rfl) fun J => ?_
  exact KR.fin (by kernel_rfl) h
end F68
/-! #### 69 (*campanile/bits.Reader).Left -/
namespace F69
noncomputable def B : Code := bodyOf Try.f69
noncomputable def S0 : List It := (.code (sub B [1, 1]) :: [])
noncomputable def S2 : List It := (.code (sub B [1, 1, 1]) :: [])
noncomputable def S1 : List It := (.code (sub B [1, 0, 1]) :: S0)
theorem call {a0 : Option Addr} {H : Heap} {r : Value × Heap} (h :
    if (Option.isNone a0) = true then
    (r = (.int .i64 0, H))
    else
    (∃ (a0b a0o : Nat), a0 = some ⟨a0b, a0o, none⟩ ∧
    (∃ (t8a : Option Addr) (t8n : Nat) (t8k : Nat), ldc H a0b a0o = some (.slice t8a t8n t8k) ∧
    (∃ (t14 : Int), ldc H a0b (a0o + 1) = some (.int .i64 t14) ∧
    (r = (.int .i64 (IntKind.wrap .i64 ((IntKind.wrap .i64 (8 * ((t8n : Nat) : Int))) - t14)), H)))))) :
    xC Try.prog good 69 [.pointer a0] H = some r := by
  refine KR.enter (fn := Try.f69) (c := B) (by kernel_rfl) (by kernel_rfl) ?_
  refine KR.run 8 [(0, .pointer a0), (3, .pointer a0)] 16 (s' := (.reg (opsAt (sub B [1, 0, 0])) [1] :: S1)) (by kernel_rfl) fun J => ?_
  refine KR.p (one_nl false a0 (by kernel_rfl)) ?_
  refine KR.run 1 [(0, .pointer a0), (4, .bool (Option.isNone a0))] 16 (s' := (.code (sub B [1, 0, 1]) :: S0)) (by kernel_rfl) fun J => ?_
  by_cases c2 : (Option.isNone a0) = true
  · replace h := iteT c2 h
    refine KR.br true (by kernel_rfl) (vB (bT c2)) ?_
    refine KR.run 4 [(2, .int .i64 0)] 16 (s' := (.code (sub B [1, 0, 1, 0, 1]) :: S0)) (by kernel_rfl) fun J => ?_
    exact KR.fin (by kernel_rfl) h
  · replace h := iteF c2 h
    refine KR.br false (by kernel_rfl) (vB (bF c2)) ?_
    refine KR.run 2 [(0, .pointer a0)] 16 (s' := (.code (sub B [1, 1, 0]) :: S2)) (by kernel_rfl) fun J => ?_
    refine KR.sd (by kernel_rfl) ?_
    obtain ⟨a0b, a0o, rfl, h⟩ := h
    refine KR.run 3 [(0, .pointer (some ⟨a0b, a0o, none⟩)), (7, .pointer (some ⟨a0b, a0o, none⟩))] 16 (s' := (.reg (opsAt (sub B [1, 1, 0])) [3, 4, 5, 6, 7, 8, 9, 10, 11] :: S2)) (by kernel_rfl) fun J => ?_
    obtain ⟨t8a, t8n, t8k, q3, h⟩ := h
    refine KR.rd (one_ld (by kernel_rfl) q3) ?_
    refine KR.run 5 [(10, .int .i64 (IntKind.wrap .i64 (8 * ((t8n : Nat) : Int)))), (13, .pointer (some ⟨a0b, (a0o + 1), none⟩))] 16 (s' := (.reg (opsAt (sub B [1, 1, 0])) [9, 10, 11] :: S2)) (by kernel_rfl) fun J => ?_
    obtain ⟨t14, q4, h⟩ := h
    refine KR.rd (one_ld (by kernel_rfl) q4) ?_
    refine KR.run 3 [(2, .int .i64 (IntKind.wrap .i64 ((IntKind.wrap .i64 (8 * ((t8n : Nat) : Int))) - t14)))] 16 (s' := (.code (sub B [1, 1, 1]) :: [])) (by kernel_rfl) fun J => ?_
    exact KR.fin (by kernel_rfl) h
end F69
/-! #### 70 slices.IndexFunc[[]campanile/api.Cell,campanile/api.Cell] -/
namespace F70
noncomputable def B : Code := bodyOf Try.f70
noncomputable def S0 : List It := (.code (sub B [1, 1]) :: [])
noncomputable def S1 : List It := (.blk 0 :: S0)
noncomputable def S2 : List It := (.lp (sub B [1, 0, 1, 0, 0]) :: S1)
noncomputable def S3 : List It := (.code (sub B [1, 0, 1, 0, 0, 1, 1]) :: S2)
noncomputable def S4 : List It := (.code (sub B [1, 0, 1, 0, 0, 1, 1, 1]) :: S2)
noncomputable def S5 : List It := (.blk 1 :: S4)
noncomputable def S6 : List It := (.code (sub B [1, 0, 1, 0, 0, 1, 1, 0, 0, 1, 1]) :: S5)
def L0 (t0a : Option Addr) (t0n : Nat) (t0k : Nat) (t1 : Value) (t7 : Int) (t8 : Int) (H : Heap) (r : Value × Heap) : Prop := ∀ J, KR Try.prog good Try.f70 S2 (mat J 19 [(0, .slice t0a t0n t0k), (1, t1), (7, .int .i64 t7), (8, .int .i64 t8)]) H r
theorem L0_step {t0a : Option Addr} {t0n : Nat} {t0k : Nat} {t1 : Value} {t7 : Int} {t8 : Int} {H : Heap} {r : Value × Heap} (h :
    if t8 < t7 then
    (∃ (t0ab t0ao : Nat), t0a = some ⟨t0ab, t0ao, none⟩ ∧
    ((0 : Int) ≤ t8 ∧ t8 < ((t0n : Nat) : Int) ∧
    (∃ (t15c0 : Int) (t15c1 : Int) (t15c2 : Int) (t15c3 : Int) (t15c4 : Int), ldAll H t0ab (t0ao + Int.toNat t8 * 5) [.int .i64 t15c0, .int .i64 t15c1, .int .i64 t15c2, .int .i64 t15c3, .int .i64 t15c4] ∧
    (∃ (t1g : Nat) (t1x t1y : Array Value), t1 = .func (.func t1g) t1x t1y ∧
    (fnGoes Try.prog t1g = true ∧ ∃ (t16 : Bool) (H_1 : Heap), xC Try.prog good t1g (Array.toList t1x ++ [.agg #[.int .i64 t15c0, .int .i64 t15c1, .int .i64 t15c2, .int .i64 t15c3, .int .i64 t15c4]] ++ Array.toList t1y) H = some (.bool t16, H_1) ∧
    (if t16 = true then
    (r = (.int .i64 t8, H_1))
    else
    (L0 ((some ⟨t0ab, t0ao, none⟩)) (t0n) (t0k) (.func (.func t1g) t1x t1y) (t7) ((IntKind.wrap .i64 (t8 + 1))) H_1 r)))))))
    else
    (r = (.int .i64 (-1), H))) :
    L0 t0a t0n t0k t1 t7 t8 H r := by
  intro J
  show KR _ _ _ (.lp (sub B [1, 0, 1, 0, 0]) :: S1) _ _ _
  refine KR.run 6 [(0, .slice t0a t0n t0k), (1, t1), (7, .int .i64 t7), (8, .int .i64 t8), (9, .bool (decide (t8 < t7)))] 19 (s' := (.code (sub B [1, 0, 1, 0, 0, 1, 0]) :: S3)) (by kernel_rfl) fun J => ?_
  by_cases c1 : t8 < t7
  · replace h := iteT c1 h
    refine KR.br true (by kernel_rfl) (vB (dT c1)) ?_
    obtain ⟨t0ab, t0ao, rfl, h⟩ := h
    refine KR.run 13 [(0, .slice (some ⟨t0ab, t0ao, none⟩) t0n t0k), (1, t1), (5, .int .i64 t8), (7, .int .i64 t7), (8, .int .i64 t8), (11, t1), (12, .slice (some ⟨t0ab, t0ao, none⟩) t0n t0k), (13, .int .i64 t8)] 19 (s' := (.reg (opsAt (sub B [1, 0, 1, 0, 0, 1, 1, 0, 0, 1, 0])) [3, 4, 5] :: S6)) (by kernel_rfl) fun J => ?_
    obtain ⟨q2, q2x, h⟩ := h
    refine KR.p (one_ix 5 t0ab t0ao (by kernel_rfl) q2 q2x) ?_
    obtain ⟨t15c0, t15c1, t15c2, t15c3, t15c4, q3, h⟩ := h
    refine KR.rd (one_ldA (by kernel_rfl) q3) ?_
    obtain ⟨t1g, t1x, t1y, rfl, h⟩ := h
    obtain ⟨q5x, t16, H_1, q5, h⟩ := h
    refine KR.se (one_fv (by kernel_rfl) q5x q5) ?_
    refine KR.run 1 [(0, .slice (some ⟨t0ab, t0ao, none⟩) t0n t0k), (1, .func (.func t1g) t1x t1y), (5, .int .i64 t8), (7, .int .i64 t7), (8, .int .i64 t8), (16, .bool t16)] 19 (s' := (.code (sub B [1, 0, 1, 0, 0, 1, 1, 0, 0, 1, 1]) :: S5)) (by kernel_rfl) fun J => ?_
    by_cases c6 : t16 = true
    · replace h := iteT c6 h
      refine KR.br true (by kernel_rfl) (vB (bT c6)) ?_
      refine KR.run 5 [(4, .int .i64 t8)] 19 (s' := (.code (sub B [1, 0, 1, 0, 0, 1, 1, 0, 0, 1, 1, 0, 1]) :: S5)) (by kernel_rfl) fun J => ?_
      exact KR.fin (by kernel_rfl) h
    · replace h := iteF c6 h
      refine KR.br false (by kernel_rfl) (vB (bF c6)) ?_
      exact KR.run 6 [(0, .slice (some ⟨t0ab, t0ao, none⟩) t0n t0k), (1, .func (.func t1g) t1x t1y), (7, .int .i64 t7), (8, .int .i64 (IntKind.wrap .i64 (t8 + 1)))] 19 (s' := (.lp (sub B [1, 0, 1, 0, 0]) :: S1)) (by kernel_rfl) h
  · replace h := iteF c1 h
    refine KR.br false (by kernel_rfl) (vB (dF c1)) ?_
    refine KR.run 5 [(4, .int .i64 (-1))] 19 (s' := (.code (sub B [1, 1, 1]) :: [])) (by kernel_rfl) fun J => ?_
    exact KR.fin (by kernel_rfl) h
theorem call {a0a : Option Addr} {a0n : Nat} {a0k : Nat} {a1 : Value} {H : Heap} {r : Value × Heap} (h :
    L0 (a0a) (a0n) (a0k) (a1) (((a0n : Nat) : Int)) 0 H r) :
    xC Try.prog good 70 [.slice a0a a0n a0k, a1] H = some r := by
  refine KR.enter (fn := Try.f70) (c := B) (by kernel_rfl) (by kernel_rfl) ?_
  exact KR.run 13 [(0, .slice a0a a0n a0k), (1, a1), (7, .int .i64 ((a0n : Nat) : Int)), (8, .int .i64 0)] 19 (s' := (.lp (sub B [1, 0, 1, 0, 0]) :: S1)) (by kernel_rfl) h
end F70
/-! #### 71 campanile/cell.in -/
namespace F71
noncomputable def B : Code := bodyOf Try.f71
noncomputable def S0 : List It := (.code (sub B [1, 1]) :: [])
theorem call {a0 : Int} {a1 : Int} {a2 : Int} {H : Heap} {r : Value × Heap} (h :
    if a0 ≥ a1 then
    (r = (.bool (decide (a0 ≤ a2)), H))
    else
    (r = (.bool false, H))) :
    xC Try.prog good 71 [.int .i64 a0, .int .i64 a1, .int .i64 a2] H = some r := by
  refine KR.enter (fn := Try.f71) (c := B) (by kernel_rfl) (by kernel_rfl) ?_
  refine KR.run 10 [(0, .int .i64 a0), (2, .int .i64 a2), (10, .bool (decide (a0 ≥ a1)))] 15 (s' := (.reg (opsAt (sub B [1, 0])) [4, 5, 6, 7, 8] :: S0)) (by kernel_rfl) fun J => ?_
  by_cases c1 : a0 ≥ a1
  · replace h := iteT c1 h
    refine KR.setV 10 (by kernel_rfl) (dT c1) ?_
    refine KR.run 6 [(6, .bool (decide (a0 ≤ a2)))] 15 (s' := (.code (sub B [1, 1]) :: [])) (by kernel_rfl) fun J => ?_
    exact KR.fin (by kernel_rfl) h
  · replace h := iteF c1 h
    refine KR.setV 10 (by kernel_rfl) (dF c1) ?_
    refine KR.run 6 [(6, .bool false)] 15 (s' := (.code (sub B [1, 1]) :: [])) (by kernel_rfl) fun J => ?_
    exact KR.fin (by kernel_rfl) h
end F71
/-! #### 72 (*campanile/bits.Reader).Take -/
namespace F72
noncomputable def B : Code := bodyOf Try.f72
noncomputable def S0 : List It := (.code (sub B [1, 1]) :: [])
noncomputable def S2 : List It := (.code (sub B [1, 1, 1, 1]) :: [])
noncomputable def S1 : List It := (.code (sub B [1, 0, 1]) :: S0)
noncomputable def S3 : List It := (.blk 0 :: S2)
noncomputable def S4 : List It := (.lp (sub B [1, 1, 1, 0, 1, 0, 0]) :: S3)
noncomputable def S5 : List It := (.code (sub B [1, 1, 1, 0, 1, 0, 0, 1, 1]) :: S4)
noncomputable def S6 : List It := (.code (sub B [1, 1, 1, 0, 1, 0, 0, 1, 1, 1]) :: S4)
noncomputable def S7 : List It := (.blk 1 :: S6)
def L0 (t0 : Option Addr) (t1 : Int) (t14 : Bool) (H : Heap) (r : Value × Heap) : Prop := ∀ J, KR Try.prog good Try.f72 S1 (mat J 25 [(0, .pointer t0), (1, .int .i64 t1), (14, .bool t14)]) H r
def L1 (t0 : Option Addr) (t5 : Int) (t15 : Int) (t16 : Int) (H : Heap) (r : Value × Heap) : Prop := ∀ J, KR Try.prog good Try.f72 S4 (mat J 25 [(0, .pointer t0), (5, .int .u64 t5), (15, .int .i64 t15), (16, .int .i64 t16)]) H r
theorem L0_step {t0 : Option Addr} {t1 : Int} {t14 : Bool} {H : Heap} {r : Value × Heap} (h :
    if t14 = true then
    (r = (.int .u64 0, H))
    else
    (L1 (t0) 0 (t1) 0 H r)) :
    L0 t0 t1 t14 H r := by
  intro J
  show KR _ _ _ (.code (sub B [1, 0, 1]) :: S0) _ _ _
  by_cases c4 : t14 = true
  · replace h := iteT c4 h
    refine KR.br true (by kernel_rfl) (vB (bT c4)) ?_
    refine KR.run 4 [(4, .int .u64 0)] 25 (s' := (.code (sub B [1, 0, 1, 0, 1]) :: S0)) (by kernel_rfl) fun J => ?_
    exact KR.fin (by kernel_rfl) h
  · replace h := iteF c4 h
    refine KR.br false (by kernel_rfl) (vB (bF c4)) ?_
    exact KR.run 13 [(0, .pointer t0), (5, .int .u64 0), (15, .int .i64 t1), (16, .int .i64 0)] 25 (s' := (.lp (sub B [1, 1, 1, 0, 1, 0, 0]) :: S3)) (by kernel_rfl) h
theorem L1_step {t0 : Option Addr} {t5 : Int} {t15 : Int} {t16 : Int} {H : Heap} {r : Value × Heap} (h :
    if t16 < t15 then
    (∃ (t21 : Int) (H_1 : Heap), xC Try.prog good 74 [.pointer t0] H = some (.int .u64 t21, H_1) ∧
    (L1 (t0) ((ior .u64 (ishl .u64 t5 1) t21)) (t15) ((IntKind.wrap .i64 (t16 + 1))) H_1 r))
    else
    (r = (.int .u64 t5, H))) :
    L1 t0 t5 t15 t16 H r := by
  intro J
  show KR _ _ _ (.lp (sub B [1, 1, 1, 0, 1, 0, 0]) :: S3) _ _ _
  refine KR.run 6 [(0, .pointer t0), (5, .int .u64 t5), (15, .int .i64 t15), (16, .int .i64 t16), (17, .bool (decide (t16 < t15)))] 25 (s' := (.code (sub B [1, 1, 1, 0, 1, 0, 0, 1, 0]) :: S5)) (by kernel_rfl) fun J => ?_
  by_cases c5 : t16 < t15
  · replace h := iteT c5 h
    refine KR.br true (by kernel_rfl) (vB (dT c5)) ?_
    refine KR.run 7 [(0, .pointer t0), (15, .int .i64 t15), (16, .int .i64 t16), (19, .int .u64 (ishl .u64 t5 1)), (20, .pointer t0)] 25 (s' := (.reg (opsAt (sub B [1, 1, 1, 0, 1, 0, 0, 1, 1, 0, 0])) [3, 4, 5] :: S7)) (by kernel_rfl) fun J => ?_
    obtain ⟨t21, H_1, q6, h⟩ := h
    refine KR.se (one_ca (by kernel_rfl) q6) ?_
    exact KR.run 8 [(0, .pointer t0), (5, .int .u64 (ior .u64 (ishl .u64 t5 1) t21)), (15, .int .i64 t15), (16, .int .i64 (IntKind.wrap .i64 (t16 + 1)))] 25 (s' := (.lp (sub B [1, 1, 1, 0, 1, 0, 0]) :: S3)) (by kernel_rfl) h
  · replace h := iteF c5 h
    refine KR.br false (by kernel_rfl) (vB (dF c5)) ?_
    refine KR.run 6 [(4, .int .u64 t5)] 25 (s' := (.code (sub B [1, 1, 1, 1, 1]) :: [])) (by kernel_rfl) fun J => ?_
    exact KR.fin (by kernel_rfl) h
theorem call {a0 : Option Addr} {a1 : Int} {H : Heap} {r : Value × Heap} (h :
    ∃ (t7 : Bool) (H_1 : Heap), xC Try.prog good 60 [.int .i64 a1] H = some (.bool t7, H_1) ∧
    (if t7 = true then
    (∃ (t12 : Bool) (H_2 : Heap), xC Try.prog good 73 [.pointer a0, .int .i64 a1] H_1 = some (.bool t12, H_2) ∧
    (L0 (a0) (a1) ((!t12)) H_2 r))
    else
    (L0 (a0) (a1) (true) H_1 r))) :
    xC Try.prog good 72 [.pointer a0, .int .i64 a1] H = some r := by
  refine KR.enter (fn := Try.f72) (c := B) (by kernel_rfl) (by kernel_rfl) ?_
  refine KR.run 8 [(0, .pointer a0), (1, .int .i64 a1), (6, .int .i64 a1)] 25 (s' := (.reg (opsAt (sub B [1, 0, 0])) [1, 2, 3, 4, 5, 6, 7, 8] :: S1)) (by kernel_rfl) fun J => ?_
  obtain ⟨t7, H_1, q1, h⟩ := h
  refine KR.se (one_ca (by kernel_rfl) q1) ?_
  refine KR.run 2 [(0, .pointer a0), (1, .int .i64 a1), (9, .bool (!t7))] 25 (s' := (.reg (opsAt (sub B [1, 0, 0])) [4, 5, 6, 7, 8] :: S1)) (by kernel_rfl) fun J => ?_
  by_cases c2 : t7 = true
  · replace h := iteT c2 h
    refine KR.setV 9 (by kernel_rfl) (nB (bT c2)) ?_
    refine KR.run 2 [(0, .pointer a0), (1, .int .i64 a1), (9, .bool false), (10, .pointer a0), (11, .int .i64 a1)] 25 (s' := (.reg (opsAt (sub B [1, 0, 0])) [6, 7, 8] :: S1)) (by kernel_rfl) fun J => ?_
    obtain ⟨t12, H_2, q3, h⟩ := h
    refine KR.se (one_ca (by kernel_rfl) q3) ?_
    exact KR.run 3 [(0, .pointer a0), (1, .int .i64 a1), (14, .bool (!t12))] 25 (s' := (.code (sub B [1, 0, 1]) :: S0)) (by kernel_rfl) h
  · replace h := iteF c2 h
    refine KR.setV 9 (by kernel_rfl) (nB (bF c2)) ?_
    exact KR.run 6 [(0, .pointer a0), (1, .int .i64 a1), (14, .bool true)] 25 (s' := (.code (sub B [1, 0, 1]) :: S0)) (by kernel_rfl) h
end F72
/-! #### 73 (*campanile/bits.Reader).ready -/
namespace F73
noncomputable def B : Code := bodyOf Try.f73
noncomputable def S0 : List It := (.code (sub B [1, 1]) :: [])
noncomputable def S2 : List It := (.code (sub B [1, 1, 1]) :: [])
noncomputable def S1 : List It := (.code (sub B [1, 0, 1]) :: S0)
noncomputable def S3 : List It := (.code (sub B [1, 1, 0, 1]) :: S2)
noncomputable def S4 : List It := (.code (sub B [1, 1, 0, 1, 0, 1]) :: S2)
def L0 (t0 : Option Addr) (t1 : Int) (t13 : Bool) (H : Heap) (r : Value × Heap) : Prop := ∀ J, KR Try.prog good Try.f73 S1 (mat J 20 [(0, .pointer t0), (1, .int .i64 t1), (13, .bool t13)]) H r
theorem L0_step {t0 : Option Addr} {t1 : Int} {t13 : Bool} {H : Heap} {r : Value × Heap} (h :
    if t13 = true then
    (r = (.bool false, H))
    else
    (∃ (t16 : Int) (H_1 : Heap), xC Try.prog good 69 [.pointer t0] H = some (.int .i64 t16, H_1) ∧
    (if t1 > t16 then
    (∃ (H_2 : Heap), xC Try.prog good 75 [.pointer t0, .int .i64 2] H_1 = some (.tuple #[], H_2) ∧
    (r = (.bool false, H_2)))
    else
    (r = (.bool true, H_1))))) :
    L0 t0 t1 t13 H r := by
  intro J
  show KR _ _ _ (.code (sub B [1, 0, 1]) :: S0) _ _ _
  by_cases c4 : t13 = true
  · replace h := iteT c4 h
    refine KR.br true (by kernel_rfl) (vB (bT c4)) ?_
    refine KR.run 4 [(4, .bool false)] 20 (s' := (.code (sub B [1, 0, 1, 0, 1]) :: S0)) (by kernel_rfl) fun J => ?_
    exact KR.fin (by kernel_rfl) h
  · replace h := iteF c4 h
    refine KR.br false (by kernel_rfl) (vB (bF c4)) ?_
    refine KR.run 6 [(0, .pointer t0), (14, .int .i64 t1), (15, .pointer t0)] 20 (s' := (.reg (opsAt (sub B [1, 1, 0, 0])) [2, 3] :: S3)) (by kernel_rfl) fun J => ?_
    obtain ⟨t16, H_1, q5, h⟩ := h
    refine KR.se (one_ca (by kernel_rfl) q5) ?_
    refine KR.run 2 [(0, .pointer t0), (17, .bool (decide (t1 > t16)))] 20 (s' := (.code (sub B [1, 1, 0, 1]) :: S2)) (by kernel_rfl) fun J => ?_
    by_cases c6 : t1 > t16
    · replace h := iteT c6 h
      refine KR.br true (by kernel_rfl) (vB (dT c6)) ?_
      refine KR.run 3 [(18, .pointer t0)] 20 (s' := (.reg (opsAt (sub B [1, 1, 0, 1, 0, 0])) [1] :: S4)) (by kernel_rfl) fun J => ?_
      obtain ⟨H_2, q7, h⟩ := h
      refine KR.se (one_ca (by kernel_rfl) q7) ?_
      refine KR.run 5 [(4, .bool false)] 20 (s' := (.code (sub B [1, 1, 0, 1, 0, 1, 1]) :: S2)) (by kernel_rfl) fun J => ?_
      exact KR.fin (by kernel_rfl) h
    · replace h := iteF c6 h
      refine KR.br false (by kernel_rfl) (vB (dF c6)) ?_
      refine KR.run 5 [(4, .bool true)] 20 (s' := (.code (sub B [1, 1, 1, 1]) :: [])) (by kernel_rfl) fun J => ?_
      exact KR.fin (by kernel_rfl) h
theorem call {a0 : Option Addr} {a1 : Int} {H : Heap} {r : Value × Heap} (h :
    if (Option.isNone a0) = true then
    (L0 (a0) (a1) (true) H r)
    else
    (∃ (a0b a0o : Nat), a0 = some ⟨a0b, a0o, none⟩ ∧
    (∃ (t11 : Int), ldc H a0b (a0o + 2) = some (.int .i64 t11) ∧
    (L0 ((some ⟨a0b, a0o, none⟩)) (a1) ((!(t11 == 0))) H r)))) :
    xC Try.prog good 73 [.pointer a0, .int .i64 a1] H = some r := by
  refine KR.enter (fn := Try.f73) (c := B) (by kernel_rfl) (by kernel_rfl) ?_
  refine KR.run 8 [(0, .pointer a0), (1, .int .i64 a1), (5, .pointer a0)] 20 (s' := (.reg (opsAt (sub B [1, 0, 0])) [1, 2, 3, 4, 5, 6, 7, 8] :: S1)) (by kernel_rfl) fun J => ?_
  refine KR.p (one_nl false a0 (by kernel_rfl)) ?_
  refine KR.run 1 [(0, .pointer a0), (1, .int .i64 a1), (7, .bool (Option.isNone a0))] 20 (s' := (.reg (opsAt (sub B [1, 0, 0])) [3, 4, 5, 6, 7, 8] :: S1)) (by kernel_rfl) fun J => ?_
  by_cases c2 : (Option.isNone a0) = true
  · replace h := iteT c2 h
    refine KR.setV 7 (by kernel_rfl) (bT c2) ?_
    exact KR.run 7 [(0, .pointer a0), (1, .int .i64 a1), (13, .bool true)] 20 (s' := (.code (sub B [1, 0, 1]) :: S0)) (by kernel_rfl) h
  · replace h := iteF c2 h
    refine KR.setV 7 (by kernel_rfl) (bF c2) ?_
    obtain ⟨a0b, a0o, rfl, h⟩ := h
    refine KR.run 3 [(0, .pointer (some ⟨a0b, a0o, none⟩)), (1, .int .i64 a1), (7, .bool false), (10, .pointer (some ⟨a0b, (a0o + 2), none⟩))] 20 (s' := (.reg (opsAt (sub B [1, 0, 0])) [6, 7, 8] :: S1)) (by kernel_rfl) fun J => ?_
    obtain ⟨t11, q3, h⟩ := h
    refine KR.rd (one_ld (by kernel_rfl) q3) ?_
    exact KR.run 3 [(0, .pointer (some ⟨a0b, a0o, none⟩)), (1, .int .i64 a1), (13, .bool (!(t11 == 0)))] 20 (s' := (.code (sub B [1, 0, 1]) :: S0)) (by kernel_rfl) h
end F73
/-! #### 74 (*campanile/bits.Reader).bit -/
namespace F74
noncomputable def B : Code := bodyOf Try.f74
noncomputable def S0 : List It := (.code (sub B [1, 1]) :: [])
noncomputable def S1 : List It := (.code (sub B [1, 1, 1]) :: [])
theorem call {a0 : Option Addr} {H : Heap} {r : Value × Heap} (h :
    ∃ (a0b a0o : Nat), a0 = some ⟨a0b, a0o, none⟩ ∧
    (∃ (t7a : Option Addr) (t7n : Nat) (t7k : Nat), ldc H a0b a0o = some (.slice t7a t7n t7k) ∧
    (∃ (t11 : Int), ldc H a0b (a0o + 1) = some (.int .i64 t11) ∧
    (∃ (t7ab t7ao : Nat), t7a = some ⟨t7ab, t7ao, none⟩ ∧
    ((0 : Int) ≤ (IntKind.wrap .i64 (Int.tdiv t11 8)) ∧ (IntKind.wrap .i64 (Int.tdiv t11 8)) < ((t7n : Nat) : Int) ∧
    (∃ (t14 : Int), ldc H t7ab (t7ao + Int.toNat (IntKind.wrap .i64 (Int.tdiv t11 8)) * 1) = some (.int .u8 t14) ∧
    (∃ (t18 : Int), ldc H a0b (a0o + 1) = some (.int .i64 t18) ∧
    ((0 : Int) ≤ (IntKind.wrap .i64 (7 - (Int.tmod t18 8))) ∧
    (∃ (t26 : Int), ldc H a0b (a0o + 1) = some (.int .i64 t26) ∧
    (∃ (H_1 : Heap), stc H a0b (a0o + 1) [.int .i64 (IntKind.wrap .i64 (t26 + 1))] = some H_1 ∧
    (r = (.int .u64 (IntKind.wrap .u64 (iand .u8 (ishr .u8 t14 (IntKind.wrap .i64 (7 - (Int.tmod t18 8)))) 1)), H_1)))))))))))) :
    xC Try.prog good 74 [.pointer a0] H = some r := by
  refine KR.enter (fn := Try.f74) (c := B) (by kernel_rfl) (by kernel_rfl) ?_
  refine KR.run 5 [(0, .pointer a0)] 32 (s' := (.code (sub B [1, 0]) :: S0)) (by kernel_rfl) fun J => ?_
  refine KR.sd (by kernel_rfl) ?_
  obtain ⟨a0b, a0o, rfl, h⟩ := h
  refine KR.run 3 [(0, .pointer (some ⟨a0b, a0o, none⟩)), (6, .pointer (some ⟨a0b, a0o, none⟩))] 32 (s' := (.reg (opsAt (sub B [1, 0])) [3, 4, 5, 6, 7, 8, 9, 10, 11, 12, 13, 14, 15, 16, 17, 18, 19] :: S0)) (by kernel_rfl) fun J => ?_
  obtain ⟨t7a, t7n, t7k, q1, h⟩ := h
  refine KR.rd (one_ld (by kernel_rfl) q1) ?_
  refine KR.run 3 [(0, .pointer (some ⟨a0b, a0o, none⟩)), (7, .slice t7a t7n t7k), (10, .pointer (some ⟨a0b, (a0o + 1), none⟩))] 32 (s' := (.reg (opsAt (sub B [1, 0])) [7, 8, 9, 10, 11, 12, 13, 14, 15, 16, 17, 18, 19] :: S0)) (by kernel_rfl) fun J => ?_
  obtain ⟨t11, q2, h⟩ := h
  refine KR.rd (one_ld (by kernel_rfl) q2) ?_
  obtain ⟨t7ab, t7ao, rfl, h⟩ := h
  refine KR.run 1 [(0, .pointer (some ⟨a0b, a0o, none⟩)), (7, .slice (some ⟨t7ab, t7ao, none⟩) t7n t7k), (12, .int .i64 (IntKind.wrap .i64 (Int.tdiv t11 8)))] 32 (s' := (.reg (opsAt (sub B [1, 0])) [9, 10, 11, 12, 13, 14, 15, 16, 17, 18, 19] :: S0)) (by kernel_rfl) fun J => ?_
  obtain ⟨q3, q3x, h⟩ := h
  refine KR.p (one_ix 1 t7ab t7ao (by kernel_rfl) q3 q3x) ?_
  obtain ⟨t14, q4, h⟩ := h
  refine KR.rd (one_ld (by kernel_rfl) q4) ?_
  refine KR.run 3 [(0, .pointer (some ⟨a0b, a0o, none⟩)), (14, .int .u8 t14), (17, .pointer (some ⟨a0b, (a0o + 1), none⟩))] 32 (s' := (.reg (opsAt (sub B [1, 0])) [14, 15, 16, 17, 18, 19] :: S0)) (by kernel_rfl) fun J => ?_
  obtain ⟨t18, q5, h⟩ := h
  refine KR.rd (one_ld (by kernel_rfl) q5) ?_
  refine KR.run 2 [(0, .pointer (some ⟨a0b, a0o, none⟩)), (14, .int .u8 t14), (20, .int .i64 (IntKind.wrap .i64 (7 - (Int.tmod t18 8))))] 32 (s' := (.reg (opsAt (sub B [1, 0])) [17, 18, 19] :: S0)) (by kernel_rfl) fun J => ?_
  obtain ⟨q6, h⟩ := h
  refine KR.p (one_shr .u8 .i64 t14 (by kernel_rfl) q6) ?_
  refine KR.run 8 [(3, .int .u8 (iand .u8 (ishr .u8 t14 (IntKind.wrap .i64 (7 - (Int.tmod t18 8)))) 1)), (23, .pointer (some ⟨a0b, a0o, none⟩)), (25, .pointer (some ⟨a0b, (a0o + 1), none⟩))] 32 (s' := (.reg (opsAt (sub B [1, 1, 0])) [3, 4, 5, 6, 7] :: S1)) (by kernel_rfl) fun J => ?_
  obtain ⟨t26, q7, h⟩ := h
  refine KR.rd (one_ld (by kernel_rfl) q7) ?_
  refine KR.run 3 [(3, .int .u8 (iand .u8 (ishr .u8 t14 (IntKind.wrap .i64 (7 - (Int.tmod t18 8)))) 1)), (27, .int .i64 (IntKind.wrap .i64 (t26 + 1))), (29, .pointer (some ⟨a0b, (a0o + 1), none⟩))] 32 (s' := (.reg (opsAt (sub B [1, 1, 0])) [7] :: S1)) (by kernel_rfl) fun J => ?_
  obtain ⟨H_1, q8, h⟩ := h
  refine KR.se (one_st (by kernel_rfl) q8) ?_
  refine KR.run 7 [(2, .int .u64 (IntKind.wrap .u64 (iand .u8 (ishr .u8 t14 (IntKind.wrap .i64 (7 - (Int.tmod t18 8)))) 1)))] 32 (s' := (.code (sub B [1, 1, 1, 1]) :: [])) (by kernel_rfl) fun J => ?_
  exact KR.fin (by kernel_rfl) h
end F74
/-! #### 75 (*campanile/bits.Reader).fails -/
namespace F75
noncomputable def B : Code := bodyOf Try.f75
theorem call {a0 : Option Addr} {a1 : Int} {H : Heap} {r : Value × Heap} (h :
    ∃ (a0b a0o : Nat), a0 = some ⟨a0b, a0o, none⟩ ∧
    (∃ (H_1 : Heap), stc H a0b (a0o + 2) [.int .i64 a1] = some H_1 ∧
    (∃ (H_2 : Heap), stc H_1 a0b a0o [.slice none 0 0] = some H_2 ∧
    (∃ (H_3 : Heap), stc H_2 a0b (a0o + 1) [.int .i64 0] = some H_3 ∧
    (r = (.tuple #[], H_3)))))) :
    xC Try.prog good 75 [.pointer a0, .int .i64 a1] H = some r := by
  refine KR.enter (fn := Try.f75) (c := B) (by kernel_rfl) (by kernel_rfl) ?_
  obtain ⟨a0b, a0o, rfl, h⟩ := h
  refine KR.run 7 [(5, .pointer (some ⟨a0b, a0o, none⟩)), (6, .pointer (some ⟨a0b, a0o, none⟩)), (7, .int .i64 a1), (9, .pointer (some ⟨a0b, (a0o + 2), none⟩))] 14 (s' := (.reg (opsAt (sub B [])) [6, 7, 8, 9, 10, 11, 12] :: [])) (by kernel_rfl) fun J => ?_
  obtain ⟨H_1, q1, h⟩ := h
  refine KR.se (one_st (by kernel_rfl) q1) ?_
  refine KR.run 2 [(6, .pointer (some ⟨a0b, a0o, none⟩)), (11, .pointer (some ⟨a0b, a0o, none⟩))] 14 (s' := (.reg (opsAt (sub B [])) [9, 10, 11, 12] :: [])) (by kernel_rfl) fun J => ?_
  obtain ⟨H_2, q2, h⟩ := h
  refine KR.se (one_st (by kernel_rfl) q2) ?_
  refine KR.run 2 [(13, .pointer (some ⟨a0b, (a0o + 1), none⟩))] 14 (s' := (.reg (opsAt (sub B [])) [12] :: [])) (by kernel_rfl) fun J => ?_
  obtain ⟨H_3, q3, h⟩ := h
  refine KR.se (one_st (by kernel_rfl) q3) ?_
  refine KR.run 1 [] 14 (s' := []) (by kernel_rfl) fun J => ?_
  exact KR.fin0 (by kernel_rfl) h
end F75
/-! #### 92 (campanile/join.request).may -/
namespace F92
noncomputable def B : Code := bodyOf Try.f92
noncomputable def S0 : List It := (.code (sub B [1]) :: [])
noncomputable def S1 : List It := (.code (sub B [1, 1]) :: [])
theorem call {a0c0 : Int} {a0c1 : Int} {a0c2 : Int} {a0c3 : Int} {a0c4 : Int} {H : Heap} {r : Value × Heap} (h :
    ∃ (H_1 : Heap), H_1 = H.push (.row [.int .i64 a0c0, .int .i64 a0c1, .int .u32 a0c2, .int .u32 a0c3, .int .u32 a0c4] true) ∧
    (∃ (t5 : Int), ldc H_1 H.next 0 = some (.int .i64 t5) ∧
    (∃ (t6 : Bool) (H_2 : Heap), xC Try.prog good 42 [.int .i64 t5] H_1 = some (.bool t6, H_2) ∧
    (if t6 = true then
    (∃ (t10 : Int), ldc H_2 H.next 1 = some (.int .i64 t10) ∧
    (∃ (t11 : Bool) (H_3 : Heap), xC Try.prog good 42 [.int .i64 t10] H_2 = some (.bool t11, H_3) ∧
    (if t11 = true then
    (∃ (t16 : Int), ldc H_3 H.next 0 = some (.int .i64 t16) ∧
    (∃ (t19 : Int), ldc H_3 H.next 1 = some (.int .i64 t19) ∧
    (r = (.bool (!(t16 == t19)), H_3))))
    else
    (r = (.bool false, H_3)))))
    else
    (r = (.bool false, H_2)))))) :
    xC Try.prog good 92 [.agg #[.int .i64 a0c0, .int .i64 a0c1, .int .u32 a0c2, .int .u32 a0c3, .int .u32 a0c4]] H = some r := by
  refine KR.enter (fn := Try.f92) (c := B) (by kernel_rfl) (by kernel_rfl) ?_
  refine KR.run 2 [(0, .agg #[.int .i64 a0c0, .int .i64 a0c1, .int .u32 a0c2, .int .u32 a0c3, .int .u32 a0c4])] 22 (s' := (.reg (opsAt (sub B [0])) [0, 1] :: S0)) (by kernel_rfl) fun J => ?_
  obtain ⟨H_1, q1, h⟩ := h
  refine KR.mk (w := pRow [.int .i64 a0c0, .int .i64 a0c1, .int .u32 a0c2, .int .u32 a0c3, .int .u32 a0c4]) (one_al (by kernel_rfl)) q1 ?_
  refine KR.run 6 [(1, .pointer (some ⟨H.next, 0, none⟩)), (4, .pointer (some ⟨H.next, 0, none⟩))] 22 (s' := (.reg (opsAt (sub B [1, 0])) [2, 3, 4, 5, 6, 7, 8, 9, 10, 11, 12, 13, 14, 15, 16, 17, 18, 19] :: S1)) (by kernel_rfl) fun J => ?_
  obtain ⟨t5, q2, h⟩ := h
  refine KR.rd (one_ld (by kernel_rfl) q2) ?_
  obtain ⟨t6, H_2, q3, h⟩ := h
  refine KR.se (one_ca (by kernel_rfl) q3) ?_
  refine KR.run 1 [(1, .pointer (some ⟨H.next, 0, none⟩)), (7, .bool t6)] 22 (s' := (.reg (opsAt (sub B [1, 0])) [5, 6, 7, 8, 9, 10, 11, 12, 13, 14, 15, 16, 17, 18, 19] :: S1)) (by kernel_rfl) fun J => ?_
  by_cases c4 : t6 = true
  · replace h := iteT c4 h
    refine KR.setV 7 (by kernel_rfl) (bT c4) ?_
    refine KR.run 2 [(1, .pointer (some ⟨H.next, 0, none⟩)), (7, .bool true), (9, .pointer (some ⟨H.next, 1, none⟩))] 22 (s' := (.reg (opsAt (sub B [1, 0])) [7, 8, 9, 10, 11, 12, 13, 14, 15, 16, 17, 18, 19] :: S1)) (by kernel_rfl) fun J => ?_
    obtain ⟨t10, q5, h⟩ := h
    refine KR.rd (one_ld (by kernel_rfl) q5) ?_
    obtain ⟨t11, H_3, q6, h⟩ := h
    refine KR.se (one_ca (by kernel_rfl) q6) ?_
    refine KR.run 2 [(1, .pointer (some ⟨H.next, 0, none⟩)), (13, .bool t11)] 22 (s' := (.reg (opsAt (sub B [1, 0])) [11, 12, 13, 14, 15, 16, 17, 18, 19] :: S1)) (by kernel_rfl) fun J => ?_
    by_cases c7 : t11 = true
    · replace h := iteT c7 h
      refine KR.setV 13 (by kernel_rfl) (bT c7) ?_
      refine KR.run 2 [(1, .pointer (some ⟨H.next, 0, none⟩)), (13, .bool true), (15, .pointer (some ⟨H.next, 0, none⟩))] 22 (s' := (.reg (opsAt (sub B [1, 0])) [13, 14, 15, 16, 17, 18, 19] :: S1)) (by kernel_rfl) fun J => ?_
      obtain ⟨t16, q8, h⟩ := h
      refine KR.rd (one_ld (by kernel_rfl) q8) ?_
      refine KR.run 2 [(13, .bool true), (16, .int .i64 t16), (18, .pointer (some ⟨H.next, 1, none⟩))] 22 (s' := (.reg (opsAt (sub B [1, 0])) [16, 17, 18, 19] :: S1)) (by kernel_rfl) fun J => ?_
      obtain ⟨t19, q9, h⟩ := h
      refine KR.rd (one_ld (by kernel_rfl) q9) ?_
      refine KR.run 4 [(2, .bool (!(t16 == t19)))] 22 (s' := (.code (sub B [1, 1]) :: [])) (by kernel_rfl) fun J => ?_
      exact KR.fin (by kernel_rfl) h
    · replace h := iteF c7 h
      refine KR.setV 13 (by kernel_rfl) (bF c7) ?_
      refine KR.run 10 [(2, .bool false)] 22 (s' := (.code (sub B [1, 1]) :: [])) (by kernel_rfl) fun J => ?_
      exact KR.fin (by kernel_rfl) h
  · replace h := iteF c4 h
    refine KR.setV 7 (by kernel_rfl) (bF c4) ?_
    refine KR.run 16 [(2, .bool false)] 22 (s' := (.code (sub B [1, 1]) :: [])) (by kernel_rfl) fun J => ?_
    exact KR.fin (by kernel_rfl) h
end F92
/-! #### 93 (campanile/join.request).put -/
namespace F93
noncomputable def B : Code := bodyOf Try.f93
noncomputable def S0 : List It := (.code (sub B [1]) :: [])
noncomputable def S1 : List It := (.code (sub B [1, 1]) :: [])
noncomputable def S2 : List It := (.code (sub B [1, 1, 1]) :: [])
noncomputable def S3 : List It := (.code (sub B [1, 1, 1, 1]) :: [])
noncomputable def S4 : List It := (.code (sub B [1, 1, 1, 1, 1]) :: [])
theorem call {a0c0 : Int} {a0c1 : Int} {a0c2 : Int} {a0c3 : Int} {a0c4 : Int} {a1 : Option Addr} {H : Heap} {r : Value × Heap} (h :
    ∃ (H_1 : Heap), H_1 = H.push (.row [.int .i64 a0c0, .int .i64 a0c1, .int .u32 a0c2, .int .u32 a0c3, .int .u32 a0c4] true) ∧
    (∃ (H_2 : Heap), xC Try.prog good 46 [.pointer a1, .int .u64 74, .int .i64 8] H_1 = some (.tuple #[], H_2) ∧
    (∃ (t9 : Int), ldc H_2 H.next 0 = some (.int .i64 t9) ∧
    (∃ (H_3 : Heap), xC Try.prog good 46 [.pointer a1, .int .u64 (IntKind.wrap .u64 t9), .int .i64 8] H_2 = some (.tuple #[], H_3) ∧
    (∃ (t15 : Int), ldc H_3 H.next 1 = some (.int .i64 t15) ∧
    (∃ (H_4 : Heap), xC Try.prog good 46 [.pointer a1, .int .u64 (IntKind.wrap .u64 t15), .int .i64 8] H_3 = some (.tuple #[], H_4) ∧
    (∃ (t21 : Int), ldc H_4 H.next 2 = some (.int .u32 t21) ∧
    (∃ (H_5 : Heap), xC Try.prog good 46 [.pointer a1, .int .u64 (IntKind.wrap .u64 t21), .int .i64 32] H_4 = some (.tuple #[], H_5) ∧
    (∃ (t27 : Int), ldc H_5 H.next 3 = some (.int .u32 t27) ∧
    (∃ (H_6 : Heap), xC Try.prog good 46 [.pointer a1, .int .u64 (IntKind.wrap .u64 t27), .int .i64 32] H_5 = some (.tuple #[], H_6) ∧
    (r = (.tuple #[], H_6)))))))))))) :
    xC Try.prog good 93 [.agg #[.int .i64 a0c0, .int .i64 a0c1, .int .u32 a0c2, .int .u32 a0c3, .int .u32 a0c4], .pointer a1] H = some r := by
  refine KR.enter (fn := Try.f93) (c := B) (by kernel_rfl) (by kernel_rfl) ?_
  refine KR.run 2 [(0, .agg #[.int .i64 a0c0, .int .i64 a0c1, .int .u32 a0c2, .int .u32 a0c3, .int .u32 a0c4]), (1, .pointer a1)] 30 (s' := (.reg (opsAt (sub B [0])) [0] :: S0)) (by kernel_rfl) fun J => ?_
  obtain ⟨H_1, q1, h⟩ := h
  refine KR.mk (w := pRow [.int .i64 a0c0, .int .i64 a0c1, .int .u32 a0c2, .int .u32 a0c3, .int .u32 a0c4]) (one_al (by kernel_rfl)) q1 ?_
  refine KR.run 4 [(1, .pointer a1), (2, .pointer (some ⟨H.next, 0, none⟩)), (4, .pointer a1)] 30 (s' := (.reg (opsAt (sub B [1, 0])) [1] :: S1)) (by kernel_rfl) fun J => ?_
  obtain ⟨H_2, q2, h⟩ := h
  refine KR.se (one_ca (by kernel_rfl) q2) ?_
  refine KR.run 6 [(1, .pointer a1), (2, .pointer (some ⟨H.next, 0, none⟩)), (6, .pointer a1), (8, .pointer (some ⟨H.next, 0, none⟩))] 30 (s' := (.reg (opsAt (sub B [1, 1, 0])) [3, 4, 5] :: S2)) (by kernel_rfl) fun J => ?_
  obtain ⟨t9, q3, h⟩ := h
  refine KR.rd (one_ld (by kernel_rfl) q3) ?_
  refine KR.run 1 [(1, .pointer a1), (2, .pointer (some ⟨H.next, 0, none⟩)), (6, .pointer a1), (10, .int .u64 (IntKind.wrap .u64 t9))] 30 (s' := (.reg (opsAt (sub B [1, 1, 0])) [5] :: S2)) (by kernel_rfl) fun J => ?_
  obtain ⟨H_3, q4, h⟩ := h
  refine KR.se (one_ca (by kernel_rfl) q4) ?_
  refine KR.run 6 [(1, .pointer a1), (2, .pointer (some ⟨H.next, 0, none⟩)), (12, .pointer a1), (14, .pointer (some ⟨H.next, 1, none⟩))] 30 (s' := (.reg (opsAt (sub B [1, 1, 1, 0])) [3, 4, 5] :: S3)) (by kernel_rfl) fun J => ?_
  obtain ⟨t15, q5, h⟩ := h
  refine KR.rd (one_ld (by kernel_rfl) q5) ?_
  refine KR.run 1 [(1, .pointer a1), (2, .pointer (some ⟨H.next, 0, none⟩)), (12, .pointer a1), (16, .int .u64 (IntKind.wrap .u64 t15))] 30 (s' := (.reg (opsAt (sub B [1, 1, 1, 0])) [5] :: S3)) (by kernel_rfl) fun J => ?_
  obtain ⟨H_4, q6, h⟩ := h
  refine KR.se (one_ca (by kernel_rfl) q6) ?_
  refine KR.run 6 [(1, .pointer a1), (2, .pointer (some ⟨H.next, 0, none⟩)), (18, .pointer a1), (20, .pointer (some ⟨H.next, 2, none⟩))] 30 (s' := (.reg (opsAt (sub B [1, 1, 1, 1, 0])) [3, 4, 5] :: S4)) (by kernel_rfl) fun J => ?_
  obtain ⟨t21, q7, h⟩ := h
  refine KR.rd (one_ld (by kernel_rfl) q7) ?_
  refine KR.run 1 [(1, .pointer a1), (2, .pointer (some ⟨H.next, 0, none⟩)), (18, .pointer a1), (22, .int .u64 (IntKind.wrap .u64 t21))] 30 (s' := (.reg (opsAt (sub B [1, 1, 1, 1, 0])) [5] :: S4)) (by kernel_rfl) fun J => ?_
  obtain ⟨H_5, q8, h⟩ := h
  refine KR.se (one_ca (by kernel_rfl) q8) ?_
  refine KR.run 5 [(24, .pointer a1), (26, .pointer (some ⟨H.next, 3, none⟩))] 30 (s' := (.reg (opsAt (sub B [1, 1, 1, 1, 1])) [3, 4, 5] :: [])) (by kernel_rfl) fun J => ?_
  obtain ⟨t27, q9, h⟩ := h
  refine KR.rd (one_ld (by kernel_rfl) q9) ?_
  refine KR.run 1 [(24, .pointer a1), (28, .int .u64 (IntKind.wrap .u64 t27))] 30 (s' := (.reg (opsAt (sub B [1, 1, 1, 1, 1])) [5] :: [])) (by kernel_rfl) fun J => ?_
  obtain ⟨H_6, q10, h⟩ := h
  refine KR.se (one_ca (by kernel_rfl) q10) ?_
  refine KR.run 1 [] 30 (s' := []) (by kernel_rfl) fun J => ?_
  exact KR.fin0 (by kernel_rfl) h
end F93
/-! #### 94 (campanile/join.grant).may -/
namespace F94
noncomputable def B : Code := bodyOf Try.f94
noncomputable def S0 : List It := (.code (sub B [1]) :: [])
noncomputable def S1 : List It := (.code (sub B [1, 1]) :: [])
theorem call {a0c0 : Int} {a0c1 : Int} {a0c2 : Int} {a0c3a : Option Addr} {a0c3n : Nat} {a0c3k : Nat} {a0c4 : Int} {H : Heap} {r : Value × Heap} (h :
    ∃ (H_1 : Heap), H_1 = H.push (.row [.int .i64 a0c0, .int .i64 a0c1, .int .u32 a0c2, .slice a0c3a a0c3n a0c3k, .int .u32 a0c4] true) ∧
    (∃ (t5 : Int), ldc H_1 H.next 0 = some (.int .i64 t5) ∧
    (∃ (t6 : Bool) (H_2 : Heap), xC Try.prog good 42 [.int .i64 t5] H_1 = some (.bool t6, H_2) ∧
    (if t6 = true then
    (∃ (t10 : Int), ldc H_2 H.next 1 = some (.int .i64 t10) ∧
    (if t10 ≥ 0 then
    (∃ (t16 : Int), ldc H_2 H.next 1 = some (.int .i64 t16) ∧
    (if t16 ≤ 255 then
    (∃ (t22a : Option Addr) (t22n : Nat) (t22k : Nat), ldc H_2 H.next 3 = some (.slice t22a t22n t22k) ∧
    (∃ (t23 : Bool) (H_3 : Heap), xC Try.prog good 44 [.slice t22a t22n t22k] H_2 = some (.bool t23, H_3) ∧
    (r = (.bool t23, H_3))))
    else
    (r = (.bool false, H_2))))
    else
    (r = (.bool false, H_2))))
    else
    (r = (.bool false, H_2)))))) :
    xC Try.prog good 94 [.agg #[.int .i64 a0c0, .int .i64 a0c1, .int .u32 a0c2, .slice a0c3a a0c3n a0c3k, .int .u32 a0c4]] H = some r := by
  refine KR.enter (fn := Try.f94) (c := B) (by kernel_rfl) (by kernel_rfl) ?_
  refine KR.run 2 [(0, .agg #[.int .i64 a0c0, .int .i64 a0c1, .int .u32 a0c2, .slice a0c3a a0c3n a0c3k, .int .u32 a0c4])] 25 (s' := (.reg (opsAt (sub B [0])) [0, 1] :: S0)) (by kernel_rfl) fun J => ?_
  obtain ⟨H_1, q1, h⟩ := h
  refine KR.mk (w := pRow [.int .i64 a0c0, .int .i64 a0c1, .int .u32 a0c2, .slice a0c3a a0c3n a0c3k, .int .u32 a0c4]) (one_al (by kernel_rfl)) q1 ?_
  refine KR.run 6 [(1, .pointer (some ⟨H.next, 0, none⟩)), (4, .pointer (some ⟨H.next, 0, none⟩))] 25 (s' := (.reg (opsAt (sub B [1, 0])) [2, 3, 4, 5, 6, 7, 8, 9, 10, 11, 12, 13, 14, 15, 16, 17, 18, 19, 20, 21, 22] :: S1)) (by kernel_rfl) fun J => ?_
  obtain ⟨t5, q2, h⟩ := h
  refine KR.rd (one_ld (by kernel_rfl) q2) ?_
  obtain ⟨t6, H_2, q3, h⟩ := h
  refine KR.se (one_ca (by kernel_rfl) q3) ?_
  refine KR.run 1 [(1, .pointer (some ⟨H.next, 0, none⟩)), (7, .bool t6)] 25 (s' := (.reg (opsAt (sub B [1, 0])) [5, 6, 7, 8, 9, 10, 11, 12, 13, 14, 15, 16, 17, 18, 19, 20, 21, 22] :: S1)) (by kernel_rfl) fun J => ?_
  by_cases c4 : t6 = true
  · replace h := iteT c4 h
    refine KR.setV 7 (by kernel_rfl) (bT c4) ?_
    refine KR.run 2 [(1, .pointer (some ⟨H.next, 0, none⟩)), (7, .bool true), (9, .pointer (some ⟨H.next, 1, none⟩))] 25 (s' := (.reg (opsAt (sub B [1, 0])) [7, 8, 9, 10, 11, 12, 13, 14, 15, 16, 17, 18, 19, 20, 21, 22] :: S1)) (by kernel_rfl) fun J => ?_
    obtain ⟨t10, q5, h⟩ := h
    refine KR.rd (one_ld (by kernel_rfl) q5) ?_
    refine KR.run 3 [(1, .pointer (some ⟨H.next, 0, none⟩)), (13, .bool (decide (t10 ≥ 0)))] 25 (s' := (.reg (opsAt (sub B [1, 0])) [11, 12, 13, 14, 15, 16, 17, 18, 19, 20, 21, 22] :: S1)) (by kernel_rfl) fun J => ?_
    by_cases c6 : t10 ≥ 0
    · replace h := iteT c6 h
      refine KR.setV 13 (by kernel_rfl) (dT c6) ?_
      refine KR.run 2 [(1, .pointer (some ⟨H.next, 0, none⟩)), (13, .bool true), (15, .pointer (some ⟨H.next, 1, none⟩))] 25 (s' := (.reg (opsAt (sub B [1, 0])) [13, 14, 15, 16, 17, 18, 19, 20, 21, 22] :: S1)) (by kernel_rfl) fun J => ?_
      obtain ⟨t16, q7, h⟩ := h
      refine KR.rd (one_ld (by kernel_rfl) q7) ?_
      refine KR.run 3 [(1, .pointer (some ⟨H.next, 0, none⟩)), (19, .bool (decide (t16 ≤ 255)))] 25 (s' := (.reg (opsAt (sub B [1, 0])) [17, 18, 19, 20, 21, 22] :: S1)) (by kernel_rfl) fun J => ?_
      by_cases c8 : t16 ≤ 255
      · replace h := iteT c8 h
        refine KR.setV 19 (by kernel_rfl) (dT c8) ?_
        refine KR.run 2 [(19, .bool true), (21, .pointer (some ⟨H.next, 3, none⟩))] 25 (s' := (.reg (opsAt (sub B [1, 0])) [19, 20, 21, 22] :: S1)) (by kernel_rfl) fun J => ?_
        obtain ⟨t22a, t22n, t22k, q9, h⟩ := h
        refine KR.rd (one_ld (by kernel_rfl) q9) ?_
        obtain ⟨t23, H_3, q10, h⟩ := h
        refine KR.se (one_ca (by kernel_rfl) q10) ?_
        refine KR.run 3 [(2, .bool t23)] 25 (s' := (.code (sub B [1, 1]) :: [])) (by kernel_rfl) fun J => ?_
        exact KR.fin (by kernel_rfl) h
      · replace h := iteF c8 h
        refine KR.setV 19 (by kernel_rfl) (dF c8) ?_
        refine KR.run 7 [(2, .bool false)] 25 (s' := (.code (sub B [1, 1]) :: [])) (by kernel_rfl) fun J => ?_
        exact KR.fin (by kernel_rfl) h
    · replace h := iteF c6 h
      refine KR.setV 13 (by kernel_rfl) (dF c6) ?_
      refine KR.run 13 [(2, .bool false)] 25 (s' := (.code (sub B [1, 1]) :: [])) (by kernel_rfl) fun J => ?_
      exact KR.fin (by kernel_rfl) h
  · replace h := iteF c4 h
    refine KR.setV 7 (by kernel_rfl) (bF c4) ?_
    refine KR.run 19 [(2, .bool false)] 25 (s' := (.code (sub B [1, 1]) :: [])) (by kernel_rfl) fun J => ?_
    exact KR.fin (by kernel_rfl) h
end F94
/-! #### 95 (campanile/join.grant).put -/
namespace F95
noncomputable def B : Code := bodyOf Try.f95
noncomputable def S0 : List It := (.code (sub B [1]) :: [])
noncomputable def S1 : List It := (.code (sub B [1, 1]) :: [])
noncomputable def S2 : List It := (.code (sub B [1, 1, 1]) :: [])
noncomputable def S3 : List It := (.code (sub B [1, 1, 1, 1]) :: [])
noncomputable def S4 : List It := (.code (sub B [1, 1, 1, 1, 1]) :: [])
noncomputable def S5 : List It := (.code (sub B [1, 1, 1, 1, 1, 1]) :: [])
noncomputable def S6 : List It := (.code (sub B [1, 1, 1, 1, 1, 1, 1]) :: [])
noncomputable def S7 : List It := (.blk 0 :: [])
noncomputable def S8 : List It := (.lp (sub B [1, 1, 1, 1, 1, 1, 1, 0, 0]) :: S7)
noncomputable def S9 : List It := (.code (sub B [1, 1, 1, 1, 1, 1, 1, 0, 0, 1, 1]) :: S8)
noncomputable def S10 : List It := (.code (sub B [1, 1, 1, 1, 1, 1, 1, 0, 0, 1, 1, 1]) :: S8)
noncomputable def S11 : List It := (.blk 1 :: S10)
noncomputable def S12 : List It := (.code (sub B [1, 1, 1, 1, 1, 1, 1, 0, 0, 1, 1, 0, 0, 1]) :: S11)
noncomputable def S13 : List It := (.code (sub B [1, 1, 1, 1, 1, 1, 1, 0, 0, 1, 1, 0, 0, 1, 1]) :: S11)
noncomputable def S14 : List It := (.blk 2 :: S11)
noncomputable def S15 : List It := (.lp (sub B [1, 1, 1, 1, 1, 1, 1, 0, 0, 1, 1, 0, 0, 1, 1, 0, 0]) :: S14)
noncomputable def S16 : List It := (.code (sub B [1, 1, 1, 1, 1, 1, 1, 0, 0, 1, 1, 0, 0, 1, 1, 0, 0, 1, 1]) :: S15)
noncomputable def S17 : List It := (.code (sub B [1, 1, 1, 1, 1, 1, 1, 0, 0, 1, 1, 0, 0, 1, 1, 0, 0, 1, 1, 1]) :: S15)
noncomputable def S18 : List It := (.blk 3 :: S17)
noncomputable def S19 : List It := (.code (sub B [1, 1, 1, 1, 1, 1, 1, 0, 0, 1, 1, 0, 0, 1, 1, 0, 0, 1, 1, 0, 0, 1]) :: S18)
def L0 (t1 : Option Addr) (t37a : Option Addr) (t37n : Nat) (t37k : Nat) (t38 : Int) (t39 : Int) (H : Heap) (r : Value × Heap) : Prop := ∀ J, KR Try.prog good Try.f95 S8 (mat J 63 [(1, .pointer t1), (37, .slice t37a t37n t37k), (38, .int .i64 t38), (39, .int .i64 t39)]) H r
def L1 (t1 : Option Addr) (t37b : Nat) (t37o : Nat) (t37n : Nat) (t37k : Nat) (t38 : Int) (t39 : Int) (t53c0 : Int) (t53c1 : Int) (t53c2 : Int) (t53c3 : Int) (t53c4 : Int) (t54 : Int) (H : Heap) (r : Value × Heap) : Prop := ∀ J, KR Try.prog good Try.f95 S15 (mat J 63 [(1, .pointer t1), (37, .slice (some ⟨t37b, t37o, none⟩) t37n t37k), (38, .int .i64 t38), (39, .int .i64 t39), (53, .agg #[.int .i64 t53c0, .int .i64 t53c1, .int .i64 t53c2, .int .i64 t53c3, .int .i64 t53c4]), (54, .int .i64 t54)]) H r
theorem L0_step {t1 : Option Addr} {t37a : Option Addr} {t37n : Nat} {t37k : Nat} {t38 : Int} {t39 : Int} {H : Heap} {r : Value × Heap} (h :
    if t39 < t38 then
    (∃ (t37ab t37ao : Nat), t37a = some ⟨t37ab, t37ao, none⟩ ∧
    ((0 : Int) ≤ t39 ∧ t39 < ((t37n : Nat) : Int) ∧
    (∃ (t42c0 : Int) (t42c1 : Int) (t42c2 : Int) (t42c3 : Int) (t42c4 : Int), ldAll H t37ab (t37ao + Int.toNat t39 * 5) [.int .i64 t42c0, .int .i64 t42c1, .int .i64 t42c2, .int .i64 t42c3, .int .i64 t42c4] ∧
    (∃ (H_1 : Heap), H_1 = H.push (.row [.int .i64 0, .int .i64 0, .int .i64 0, .int .i64 0, .int .i64 0] true) ∧
    (∃ (H_2 : Heap), stc H_1 H.next 0 [.int .i64 t42c0, .int .i64 t42c1, .int .i64 t42c2, .int .i64 t42c3, .int .i64 t42c4] = some H_2 ∧
    (∃ (t44 : Int), ldc H_2 H.next 0 = some (.int .i64 t44) ∧
    (∃ (t46 : Int), ldc H_2 H.next 1 = some (.int .i64 t46) ∧
    (∃ (t48 : Int), ldc H_2 H.next 2 = some (.int .i64 t48) ∧
    (∃ (t50 : Int), ldc H_2 H.next 3 = some (.int .i64 t50) ∧
    (∃ (t52 : Int), ldc H_2 H.next 4 = some (.int .i64 t52) ∧
    (L1 (t1) (t37ab) (t37ao) (t37n) (t37k) (t38) (t39) (t44) (t46) (t48) (t50) (t52) 0 H_2 r)))))))))))
    else
    (r = (.tuple #[], H))) :
    L0 t1 t37a t37n t37k t38 t39 H r := by
  intro J
  show KR _ _ _ (.lp (sub B [1, 1, 1, 1, 1, 1, 1, 0, 0]) :: S7) _ _ _
  refine KR.run 6 [(1, .pointer t1), (37, .slice t37a t37n t37k), (38, .int .i64 t38), (39, .int .i64 t39), (40, .bool (decide (t39 < t38)))] 63 (s' := (.code (sub B [1, 1, 1, 1, 1, 1, 1, 0, 0, 1, 0]) :: S9)) (by kernel_rfl) fun J => ?_
  by_cases c12 : t39 < t38
  · replace h := iteT c12 h
    refine KR.br true (by kernel_rfl) (vB (dT c12)) ?_
    obtain ⟨t37ab, t37ao, rfl, h⟩ := h
    refine KR.run 5 [(1, .pointer t1), (37, .slice (some ⟨t37ab, t37ao, none⟩) t37n t37k), (38, .int .i64 t38), (39, .int .i64 t39)] 63 (s' := (.reg (opsAt (sub B [1, 1, 1, 1, 1, 1, 1, 0, 0, 1, 1, 0, 0, 0])) [0, 1, 2, 3] :: S12)) (by kernel_rfl) fun J => ?_
    obtain ⟨q13, q13x, h⟩ := h
    refine KR.p (one_ix 5 t37ab t37ao (by kernel_rfl) q13 q13x) ?_
    obtain ⟨t42c0, t42c1, t42c2, t42c3, t42c4, q14, h⟩ := h
    refine KR.rd (one_ldA (by kernel_rfl) q14) ?_
    obtain ⟨H_1, q15, h⟩ := h
    refine KR.mk (w := pRow [.int .i64 0, .int .i64 0, .int .i64 0, .int .i64 0, .int .i64 0]) (one_al (by kernel_rfl)) q15 ?_
    obtain ⟨H_2, q16, h⟩ := h
    refine KR.se (one_st (by kernel_rfl) q16) ?_
    refine KR.run 4 [(1, .pointer t1), (5, .pointer (some ⟨H.next, 0, none⟩)), (37, .slice (some ⟨t37ab, t37ao, none⟩) t37n t37k), (38, .int .i64 t38), (39, .int .i64 t39), (43, .pointer (some ⟨H.next, 0, none⟩))] 63 (s' := (.reg (opsAt (sub B [1, 1, 1, 1, 1, 1, 1, 0, 0, 1, 1, 0, 0, 1, 0])) [1, 2, 3, 4, 5, 6, 7, 8, 9, 10, 11] :: S13)) (by kernel_rfl) fun J => ?_
    obtain ⟨t44, q17, h⟩ := h
    refine KR.rd (one_ld (by kernel_rfl) q17) ?_
    refine KR.run 1 [(1, .pointer t1), (5, .pointer (some ⟨H.next, 0, none⟩)), (37, .slice (some ⟨t37ab, t37ao, none⟩) t37n t37k), (38, .int .i64 t38), (39, .int .i64 t39), (44, .int .i64 t44), (45, .pointer (some ⟨H.next, 1, none⟩))] 63 (s' := (.reg (opsAt (sub B [1, 1, 1, 1, 1, 1, 1, 0, 0, 1, 1, 0, 0, 1, 0])) [3, 4, 5, 6, 7, 8, 9, 10, 11] :: S13)) (by kernel_rfl) fun J => ?_
    obtain ⟨t46, q18, h⟩ := h
    refine KR.rd (one_ld (by kernel_rfl) q18) ?_
    refine KR.run 1 [(1, .pointer t1), (5, .pointer (some ⟨H.next, 0, none⟩)), (37, .slice (some ⟨t37ab, t37ao, none⟩) t37n t37k), (38, .int .i64 t38), (39, .int .i64 t39), (44, .int .i64 t44), (46, .int .i64 t46), (47, .pointer (some ⟨H.next, 2, none⟩))] 63 (s' := (.reg (opsAt (sub B [1, 1, 1, 1, 1, 1, 1, 0, 0, 1, 1, 0, 0, 1, 0])) [5, 6, 7, 8, 9, 10, 11] :: S13)) (by kernel_rfl) fun J => ?_
    obtain ⟨t48, q19, h⟩ := h
    refine KR.rd (one_ld (by kernel_rfl) q19) ?_
    refine KR.run 1 [(1, .pointer t1), (5, .pointer (some ⟨H.next, 0, none⟩)), (37, .slice (some ⟨t37ab, t37ao, none⟩) t37n t37k), (38, .int .i64 t38), (39, .int .i64 t39), (44, .int .i64 t44), (46, .int .i64 t46), (48, .int .i64 t48), (49, .pointer (some ⟨H.next, 3, none⟩))] 63 (s' := (.reg (opsAt (sub B [1, 1, 1, 1, 1, 1, 1, 0, 0, 1, 1, 0, 0, 1, 0])) [7, 8, 9, 10, 11] :: S13)) (by kernel_rfl) fun J => ?_
    obtain ⟨t50, q20, h⟩ := h
    refine KR.rd (one_ld (by kernel_rfl) q20) ?_
    refine KR.run 1 [(1, .pointer t1), (37, .slice (some ⟨t37ab, t37ao, none⟩) t37n t37k), (38, .int .i64 t38), (39, .int .i64 t39), (44, .int .i64 t44), (46, .int .i64 t46), (48, .int .i64 t48), (50, .int .i64 t50), (51, .pointer (some ⟨H.next, 4, none⟩))] 63 (s' := (.reg (opsAt (sub B [1, 1, 1, 1, 1, 1, 1, 0, 0, 1, 1, 0, 0, 1, 0])) [9, 10, 11] :: S13)) (by kernel_rfl) fun J => ?_
    obtain ⟨t52, q21, h⟩ := h
    refine KR.rd (one_ld (by kernel_rfl) q21) ?_
    exact KR.run 5 [(1, .pointer t1), (37, .slice (some ⟨t37ab, t37ao, none⟩) t37n t37k), (38, .int .i64 t38), (39, .int .i64 t39), (53, .agg #[.int .i64 t44, .int .i64 t46, .int .i64 t48, .int .i64 t50, .int .i64 t52]), (54, .int .i64 0)] 63 (s' := (.lp (sub B [1, 1, 1, 1, 1, 1, 1, 0, 0, 1, 1, 0, 0, 1, 1, 0, 0]) :: S14)) (by kernel_rfl) h
  · replace h := iteF c12 h
    refine KR.br false (by kernel_rfl) (vB (dF c12)) ?_
    refine KR.run 1 [] 63 (s' := []) (by kernel_rfl) fun J => ?_
    exact KR.fin0 (by kernel_rfl) h
theorem L1_step {t1 : Option Addr} {t37b : Nat} {t37o : Nat} {t37n : Nat} {t37k : Nat} {t38 : Int} {t39 : Int} {t53c0 : Int} {t53c1 : Int} {t53c2 : Int} {t53c3 : Int} {t53c4 : Int} {t54 : Int} {H : Heap} {r : Value × Heap} (h :
    if t54 < 5 then
    (∃ (t56 : Int), pag [.int .i64 t53c0, .int .i64 t53c1, .int .i64 t53c2, .int .i64 t53c3, .int .i64 t53c4] t54 = some (.int .i64 t56) ∧
    (∃ (H_1 : Heap), xC Try.prog good 46 [.pointer t1, .int .u64 (IntKind.wrap .u64 t56), .int .i64 8] H = some (.tuple #[], H_1) ∧
    (L1 (t1) (t37b) (t37o) (t37n) (t37k) (t38) (t39) (t53c0) (t53c1) (t53c2) (t53c3) (t53c4) ((IntKind.wrap .i64 (t54 + 1))) H_1 r)))
    else
    (L0 (t1) ((some ⟨t37b, t37o, none⟩)) (t37n) (t37k) (t38) ((IntKind.wrap .i64 (t39 + 1))) H r)) :
    L1 t1 t37b t37o t37n t37k t38 t39 t53c0 t53c1 t53c2 t53c3 t53c4 t54 H r := by
  intro J
  show KR _ _ _ (.lp (sub B [1, 1, 1, 1, 1, 1, 1, 0, 0, 1, 1, 0, 0, 1, 1, 0, 0]) :: S14) _ _ _
  refine KR.run 6 [(1, .pointer t1), (37, .slice (some ⟨t37b, t37o, none⟩) t37n t37k), (38, .int .i64 t38), (39, .int .i64 t39), (53, .agg #[.int .i64 t53c0, .int .i64 t53c1, .int .i64 t53c2, .int .i64 t53c3, .int .i64 t53c4]), (54, .int .i64 t54), (55, .bool (decide (t54 < 5)))] 63 (s' := (.code (sub B [1, 1, 1, 1, 1, 1, 1, 0, 0, 1, 1, 0, 0, 1, 1, 0, 0, 1, 0]) :: S16)) (by kernel_rfl) fun J => ?_
  by_cases c22 : t54 < 5
  · replace h := iteT c22 h
    refine KR.br true (by kernel_rfl) (vB (dT c22)) ?_
    refine KR.run 5 [(1, .pointer t1), (37, .slice (some ⟨t37b, t37o, none⟩) t37n t37k), (38, .int .i64 t38), (39, .int .i64 t39), (53, .agg #[.int .i64 t53c0, .int .i64 t53c1, .int .i64 t53c2, .int .i64 t53c3, .int .i64 t53c4]), (54, .int .i64 t54)] 63 (s' := (.reg (opsAt (sub B [1, 1, 1, 1, 1, 1, 1, 0, 0, 1, 1, 0, 0, 1, 1, 0, 0, 1, 1, 0, 0, 0])) [0, 1] :: S19)) (by kernel_rfl) fun J => ?_
    obtain ⟨t56, q23, h⟩ := h
    refine KR.p (one_ag (by kernel_rfl) q23) ?_
    refine KR.run 6 [(1, .pointer t1), (37, .slice (some ⟨t37b, t37o, none⟩) t37n t37k), (38, .int .i64 t38), (39, .int .i64 t39), (53, .agg #[.int .i64 t53c0, .int .i64 t53c1, .int .i64 t53c2, .int .i64 t53c3, .int .i64 t53c4]), (54, .int .i64 t54), (57, .pointer t1), (59, .int .u64 (IntKind.wrap .u64 t56))] 63 (s' := (.reg (opsAt (sub B [1, 1, 1, 1, 1, 1, 1, 0, 0, 1, 1, 0, 0, 1, 1, 0, 0, 1, 1, 0, 0, 1])) [3] :: S18)) (by kernel_rfl) fun J => ?_
    obtain ⟨H_1, q24, h⟩ := h
    refine KR.se (one_ca (by kernel_rfl) q24) ?_
    exact KR.run 6 [(1, .pointer t1), (37, .slice (some ⟨t37b, t37o, none⟩) t37n t37k), (38, .int .i64 t38), (39, .int .i64 t39), (53, .agg #[.int .i64 t53c0, .int .i64 t53c1, .int .i64 t53c2, .int .i64 t53c3, .int .i64 t53c4]), (54, .int .i64 (IntKind.wrap .i64 (t54 + 1)))] 63 (s' := (.lp (sub B [1, 1, 1, 1, 1, 1, 1, 0, 0, 1, 1, 0, 0, 1, 1, 0, 0]) :: S14)) (by kernel_rfl) h
  · replace h := iteF c22 h
    refine KR.br false (by kernel_rfl) (vB (dF c22)) ?_
    exact KR.run 6 [(1, .pointer t1), (37, .slice (some ⟨t37b, t37o, none⟩) t37n t37k), (38, .int .i64 t38), (39, .int .i64 (IntKind.wrap .i64 (t39 + 1)))] 63 (s' := (.lp (sub B [1, 1, 1, 1, 1, 1, 1, 0, 0]) :: S7)) (by kernel_rfl) h
theorem call {a0c0 : Int} {a0c1 : Int} {a0c2 : Int} {a0c3a : Option Addr} {a0c3n : Nat} {a0c3k : Nat} {a0c4 : Int} {a1 : Option Addr} {H : Heap} {r : Value × Heap} (h :
    ∃ (H_1 : Heap), H_1 = H.push (.row [.int .i64 a0c0, .int .i64 a0c1, .int .u32 a0c2, .slice a0c3a a0c3n a0c3k, .int .u32 a0c4] true) ∧
    (∃ (H_2 : Heap), xC Try.prog good 46 [.pointer a1, .int .u64 71, .int .i64 8] H_1 = some (.tuple #[], H_2) ∧
    (∃ (t13 : Int), ldc H_2 H.next 0 = some (.int .i64 t13) ∧
    (∃ (H_3 : Heap), xC Try.prog good 46 [.pointer a1, .int .u64 (IntKind.wrap .u64 t13), .int .i64 8] H_2 = some (.tuple #[], H_3) ∧
    (∃ (t19 : Int), ldc H_3 H.next 1 = some (.int .i64 t19) ∧
    (∃ (H_4 : Heap), xC Try.prog good 46 [.pointer a1, .int .u64 (IntKind.wrap .u64 t19), .int .i64 8] H_3 = some (.tuple #[], H_4) ∧
    (∃ (t25 : Int), ldc H_4 H.next 2 = some (.int .u32 t25) ∧
    (∃ (H_5 : Heap), xC Try.prog good 46 [.pointer a1, .int .u64 (IntKind.wrap .u64 t25), .int .i64 32] H_4 = some (.tuple #[], H_5) ∧
    (∃ (t31a : Option Addr) (t31n : Nat) (t31k : Nat), ldc H_5 H.next 3 = some (.slice t31a t31n t31k) ∧
    (∃ (H_6 : Heap), xC Try.prog good 46 [.pointer a1, .int .u64 (IntKind.wrap .u64 ((t31n : Nat) : Int)), .int .i64 8] H_5 = some (.tuple #[], H_6) ∧
    (∃ (t37a : Option Addr) (t37n : Nat) (t37k : Nat), ldc H_6 H.next 3 = some (.slice t37a t37n t37k) ∧
    (L0 (a1) (t37a) (t37n) (t37k) (((t37n : Nat) : Int)) 0 H_6 r)))))))))))) :
    xC Try.prog good 95 [.agg #[.int .i64 a0c0, .int .i64 a0c1, .int .u32 a0c2, .slice a0c3a a0c3n a0c3k, .int .u32 a0c4], .pointer a1] H = some r := by
  refine KR.enter (fn := Try.f95) (c := B) (by kernel_rfl) (by kernel_rfl) ?_
  refine KR.run 2 [(0, .agg #[.int .i64 a0c0, .int .i64 a0c1, .int .u32 a0c2, .slice a0c3a a0c3n a0c3k, .int .u32 a0c4]), (1, .pointer a1)] 63 (s' := (.reg (opsAt (sub B [0])) [0] :: S0)) (by kernel_rfl) fun J => ?_
  obtain ⟨H_1, q1, h⟩ := h
  refine KR.mk (w := pRow [.int .i64 a0c0, .int .i64 a0c1, .int .u32 a0c2, .slice a0c3a a0c3n a0c3k, .int .u32 a0c4]) (one_al (by kernel_rfl)) q1 ?_
  refine KR.run 4 [(1, .pointer a1), (2, .pointer (some ⟨H.next, 0, none⟩)), (8, .pointer a1)] 63 (s' := (.reg (opsAt (sub B [1, 0])) [1] :: S1)) (by kernel_rfl) fun J => ?_
  obtain ⟨H_2, q2, h⟩ := h
  refine KR.se (one_ca (by kernel_rfl) q2) ?_
  refine KR.run 6 [(1, .pointer a1), (2, .pointer (some ⟨H.next, 0, none⟩)), (10, .pointer a1), (12, .pointer (some ⟨H.next, 0, none⟩))] 63 (s' := (.reg (opsAt (sub B [1, 1, 0])) [3, 4, 5] :: S2)) (by kernel_rfl) fun J => ?_
  obtain ⟨t13, q3, h⟩ := h
  refine KR.rd (one_ld (by kernel_rfl) q3) ?_
  refine KR.run 1 [(1, .pointer a1), (2, .pointer (some ⟨H.next, 0, none⟩)), (10, .pointer a1), (14, .int .u64 (IntKind.wrap .u64 t13))] 63 (s' := (.reg (opsAt (sub B [1, 1, 0])) [5] :: S2)) (by kernel_rfl) fun J => ?_
  obtain ⟨H_3, q4, h⟩ := h
  refine KR.se (one_ca (by kernel_rfl) q4) ?_
  refine KR.run 6 [(1, .pointer a1), (2, .pointer (some ⟨H.next, 0, none⟩)), (16, .pointer a1), (18, .pointer (some ⟨H.next, 1, none⟩))] 63 (s' := (.reg (opsAt (sub B [1, 1, 1, 0])) [3, 4, 5] :: S3)) (by kernel_rfl) fun J => ?_
  obtain ⟨t19, q5, h⟩ := h
  refine KR.rd (one_ld (by kernel_rfl) q5) ?_
  refine KR.run 1 [(1, .pointer a1), (2, .pointer (some ⟨H.next, 0, none⟩)), (16, .pointer a1), (20, .int .u64 (IntKind.wrap .u64 t19))] 63 (s' := (.reg (opsAt (sub B [1, 1, 1, 0])) [5] :: S3)) (by kernel_rfl) fun J => ?_
  obtain ⟨H_4, q6, h⟩ := h
  refine KR.se (one_ca (by kernel_rfl) q6) ?_
  refine KR.run 6 [(1, .pointer a1), (2, .pointer (some ⟨H.next, 0, none⟩)), (22, .pointer a1), (24, .pointer (some ⟨H.next, 2, none⟩))] 63 (s' := (.reg (opsAt (sub B [1, 1, 1, 1, 0])) [3, 4, 5] :: S4)) (by kernel_rfl) fun J => ?_
  obtain ⟨t25, q7, h⟩ := h
  refine KR.rd (one_ld (by kernel_rfl) q7) ?_
  refine KR.run 1 [(1, .pointer a1), (2, .pointer (some ⟨H.next, 0, none⟩)), (22, .pointer a1), (26, .int .u64 (IntKind.wrap .u64 t25))] 63 (s' := (.reg (opsAt (sub B [1, 1, 1, 1, 0])) [5] :: S4)) (by kernel_rfl) fun J => ?_
  obtain ⟨H_5, q8, h⟩ := h
  refine KR.se (one_ca (by kernel_rfl) q8) ?_
  refine KR.run 6 [(1, .pointer a1), (2, .pointer (some ⟨H.next, 0, none⟩)), (28, .pointer a1), (30, .pointer (some ⟨H.next, 3, none⟩))] 63 (s' := (.reg (opsAt (sub B [1, 1, 1, 1, 1, 0])) [3, 4, 5, 6] :: S5)) (by kernel_rfl) fun J => ?_
  obtain ⟨t31a, t31n, t31k, q9, h⟩ := h
  refine KR.rd (one_ld (by kernel_rfl) q9) ?_
  refine KR.run 2 [(1, .pointer a1), (2, .pointer (some ⟨H.next, 0, none⟩)), (28, .pointer a1), (33, .int .u64 (IntKind.wrap .u64 ((t31n : Nat) : Int)))] 63 (s' := (.reg (opsAt (sub B [1, 1, 1, 1, 1, 0])) [6] :: S5)) (by kernel_rfl) fun J => ?_
  obtain ⟨H_6, q10, h⟩ := h
  refine KR.se (one_ca (by kernel_rfl) q10) ?_
  refine KR.run 5 [(1, .pointer a1), (36, .pointer (some ⟨H.next, 3, none⟩))] 63 (s' := (.reg (opsAt (sub B [1, 1, 1, 1, 1, 1, 0])) [2, 3, 4] :: S6)) (by kernel_rfl) fun J => ?_
  obtain ⟨t37a, t37n, t37k, q11, h⟩ := h
  refine KR.rd (one_ld (by kernel_rfl) q11) ?_
  exact KR.run 5 [(1, .pointer a1), (37, .slice t37a t37n t37k), (38, .int .i64 ((t37n : Nat) : Int)), (39, .int .i64 0)] 63 (s' := (.lp (sub B [1, 1, 1, 1, 1, 1, 1, 0, 0]) :: S7)) (by kernel_rfl) h
end F95
end Go.X
