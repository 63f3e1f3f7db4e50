/- The walks of the functions: printed. -/
import Derived.Test.YtomibdncbioijaaXzGd
set_option linter.unusedVariables false
set_option maxRecDepth 100000
namespace Go.X
open Go Go.RowKit Go.Proofs
/-! #### 7 campanile/campanilelaw8.CellLess -/
namespace F7
noncomputable def B : Code := bodyOf Try.f7
noncomputable def S0 : List It := (.code (sub B [1]) :: [])
noncomputable def S1 : List It := (.code (sub B [1, 1]) :: [])
noncomputable def S2 : List It := (.code (sub B [1, 1, 1]) :: [])
noncomputable def S4 : List It := (.code (sub B [1, 1, 1, 1]) :: [])
noncomputable def S3 : List It := (.code (sub B [1, 1, 0, 1]) :: S2)
def L0 (t3b : Nat) (t3o : Nat) (t4b : Nat) (t4o : Nat) (t5b : Nat) (t5o : Nat) (t7 : Bool) (t30 : Bool) (H : Heap) (r : Value × Heap) : Prop := ∀ J, KR Try.prog good Try.f7 S3 (mat J 60 [(3, .pointer (some ⟨t3b, t3o, none⟩)), (4, .pointer (some ⟨t4b, t4o, none⟩)), (5, .pointer (some ⟨t5b, t5o, none⟩)), (7, .bool t7), (30, .bool t30)]) H r
theorem L0_step {t3b : Nat} {t3o : Nat} {t4b : Nat} {t4o : Nat} {t5b : Nat} {t5o : Nat} {t7 : Bool} {t30 : Bool} {H : Heap} {r : Value × Heap} (h :
    if t30 = true then
    (r = (.bool false, H))
    else
    (if t7 = true then
    (∃ (t34c0 : Int) (t34c1 : Int) (t34c2 : Int) (t34c3 : Int) (t34c4 : Int), ldAll H t4b t4o [.int .i64 t34c0, .int .i64 t34c1, .int .i64 t34c2, .int .i64 t34c3, .int .i64 t34c4] ∧
    (∃ (t35c0 : Int) (t35c1 : Int) (t35c2 : Int) (t35c3 : Int) (t35c4 : Int), ldAll H t5b t5o [.int .i64 t35c0, .int .i64 t35c1, .int .i64 t35c2, .int .i64 t35c3, .int .i64 t35c4] ∧
    (∃ (t36 : Bool) (H_1 : Heap), xC Try.prog good 22 [.agg #[.int .i64 t34c0, .int .i64 t34c1, .int .i64 t34c2, .int .i64 t34c3, .int .i64 t34c4], .agg #[.int .i64 t35c0, .int .i64 t35c1, .int .i64 t35c2, .int .i64 t35c3, .int .i64 t35c4]] H = some (.bool t36, H_1) ∧
    (if t36 = true then
    (∃ (t40c0 : Int) (t40c1 : Int) (t40c2 : Int) (t40c3 : Int) (t40c4 : Int), ldAll H_1 t3b t3o [.int .i64 t40c0, .int .i64 t40c1, .int .i64 t40c2, .int .i64 t40c3, .int .i64 t40c4] ∧
    (∃ (t41c0 : Int) (t41c1 : Int) (t41c2 : Int) (t41c3 : Int) (t41c4 : Int), ldAll H_1 t5b t5o [.int .i64 t41c0, .int .i64 t41c1, .int .i64 t41c2, .int .i64 t41c3, .int .i64 t41c4] ∧
    (∃ (t42 : Bool) (H_2 : Heap), xC Try.prog good 22 [.agg #[.int .i64 t40c0, .int .i64 t40c1, .int .i64 t40c2, .int .i64 t40c3, .int .i64 t40c4], .agg #[.int .i64 t41c0, .int .i64 t41c1, .int .i64 t41c2, .int .i64 t41c3, .int .i64 t41c4]] H_1 = some (.bool t42, H_2) ∧
    (if t42 = true then
    (∃ (t45c0 : Int) (t45c1 : Int) (t45c2 : Int) (t45c3 : Int) (t45c4 : Int), ldAll H_2 t3b t3o [.int .i64 t45c0, .int .i64 t45c1, .int .i64 t45c2, .int .i64 t45c3, .int .i64 t45c4] ∧
    (∃ (t46c0 : Int) (t46c1 : Int) (t46c2 : Int) (t46c3 : Int) (t46c4 : Int), ldAll H_2 t3b t3o [.int .i64 t46c0, .int .i64 t46c1, .int .i64 t46c2, .int .i64 t46c3, .int .i64 t46c4] ∧
    (∃ (t47 : Bool) (H_3 : Heap), xC Try.prog good 22 [.agg #[.int .i64 t45c0, .int .i64 t45c1, .int .i64 t45c2, .int .i64 t45c3, .int .i64 t45c4], .agg #[.int .i64 t46c0, .int .i64 t46c1, .int .i64 t46c2, .int .i64 t46c3, .int .i64 t46c4]] H_2 = some (.bool t47, H_3) ∧
    (if t47 = true then
    (r = (.bool false, H_3))
    else
    (∃ (t52c0 : Int) (t52c1 : Int) (t52c2 : Int) (t52c3 : Int) (t52c4 : Int), ldAll H_3 t3b t3o [.int .i64 t52c0, .int .i64 t52c1, .int .i64 t52c2, .int .i64 t52c3, .int .i64 t52c4] ∧
    (∃ (t53c0 : Int) (t53c1 : Int) (t53c2 : Int) (t53c3 : Int) (t53c4 : Int), ldAll H_3 t4b t4o [.int .i64 t53c0, .int .i64 t53c1, .int .i64 t53c2, .int .i64 t53c3, .int .i64 t53c4] ∧
    (∃ (t54 : Bool) (H_4 : Heap), xC Try.prog good 23 [.agg #[.int .i64 t52c0, .int .i64 t52c1, .int .i64 t52c2, .int .i64 t52c3, .int .i64 t52c4], .agg #[.int .i64 t53c0, .int .i64 t53c1, .int .i64 t53c2, .int .i64 t53c3, .int .i64 t53c4]] H_3 = some (.bool t54, H_4) ∧
    (if (t7 == t54) = true then
    (∃ (t58 : Bool) (H_5 : Heap), xC Try.prog good 19 [] H_4 = some (.bool t58, H_5) ∧
    (r = (.bool t58, H_5)))
    else
    (r = (.bool false, H_4))))))))))
    else
    (r = (.bool false, H_2))))))
    else
    (∃ (t45c0_1 : Int) (t45c1_1 : Int) (t45c2_1 : Int) (t45c3_1 : Int) (t45c4_1 : Int), ldAll H_1 t3b t3o [.int .i64 t45c0_1, .int .i64 t45c1_1, .int .i64 t45c2_1, .int .i64 t45c3_1, .int .i64 t45c4_1] ∧
    (∃ (t46c0_1 : Int) (t46c1_1 : Int) (t46c2_1 : Int) (t46c3_1 : Int) (t46c4_1 : Int), ldAll H_1 t3b t3o [.int .i64 t46c0_1, .int .i64 t46c1_1, .int .i64 t46c2_1, .int .i64 t46c3_1, .int .i64 t46c4_1] ∧
    (∃ (t47_1 : Bool) (H_6 : Heap), xC Try.prog good 22 [.agg #[.int .i64 t45c0_1, .int .i64 t45c1_1, .int .i64 t45c2_1, .int .i64 t45c3_1, .int .i64 t45c4_1], .agg #[.int .i64 t46c0_1, .int .i64 t46c1_1, .int .i64 t46c2_1, .int .i64 t46c3_1, .int .i64 t46c4_1]] H_1 = some (.bool t47_1, H_6) ∧
    (if t47_1 = true then
    (r = (.bool false, H_6))
    else
    (∃ (t52c0_1 : Int) (t52c1_1 : Int) (t52c2_1 : Int) (t52c3_1 : Int) (t52c4_1 : Int), ldAll H_6 t3b t3o [.int .i64 t52c0_1, .int .i64 t52c1_1, .int .i64 t52c2_1, .int .i64 t52c3_1, .int .i64 t52c4_1] ∧
    (∃ (t53c0_1 : Int) (t53c1_1 : Int) (t53c2_1 : Int) (t53c3_1 : Int) (t53c4_1 : Int), ldAll H_6 t4b t4o [.int .i64 t53c0_1, .int .i64 t53c1_1, .int .i64 t53c2_1, .int .i64 t53c3_1, .int .i64 t53c4_1] ∧
    (∃ (t54_1 : Bool) (H_7 : Heap), xC Try.prog good 23 [.agg #[.int .i64 t52c0_1, .int .i64 t52c1_1, .int .i64 t52c2_1, .int .i64 t52c3_1, .int .i64 t52c4_1], .agg #[.int .i64 t53c0_1, .int .i64 t53c1_1, .int .i64 t53c2_1, .int .i64 t53c3_1, .int .i64 t53c4_1]] H_6 = some (.bool t54_1, H_7) ∧
    (if (t7 == t54_1) = true then
    (∃ (t58_1 : Bool) (H_8 : Heap), xC Try.prog good 19 [] H_7 = some (.bool t58_1, H_8) ∧
    (r = (.bool t58_1, H_8)))
    else
    (r = (.bool false, H_7))))))))))))))
    else
    (∃ (t45c0_2 : Int) (t45c1_2 : Int) (t45c2_2 : Int) (t45c3_2 : Int) (t45c4_2 : Int), ldAll H t3b t3o [.int .i64 t45c0_2, .int .i64 t45c1_2, .int .i64 t45c2_2, .int .i64 t45c3_2, .int .i64 t45c4_2] ∧
    (∃ (t46c0_2 : Int) (t46c1_2 : Int) (t46c2_2 : Int) (t46c3_2 : Int) (t46c4_2 : Int), ldAll H t3b t3o [.int .i64 t46c0_2, .int .i64 t46c1_2, .int .i64 t46c2_2, .int .i64 t46c3_2, .int .i64 t46c4_2] ∧
    (∃ (t47_2 : Bool) (H_9 : Heap), xC Try.prog good 22 [.agg #[.int .i64 t45c0_2, .int .i64 t45c1_2, .int .i64 t45c2_2, .int .i64 t45c3_2, .int .i64 t45c4_2], .agg #[.int .i64 t46c0_2, .int .i64 t46c1_2, .int .i64 t46c2_2, .int .i64 t46c3_2, .int .i64 t46c4_2]] H = some (.bool t47_2, H_9) ∧
    (if t47_2 = true then
    (r = (.bool false, H_9))
    else
    (∃ (t52c0_2 : Int) (t52c1_2 : Int) (t52c2_2 : Int) (t52c3_2 : Int) (t52c4_2 : Int), ldAll H_9 t3b t3o [.int .i64 t52c0_2, .int .i64 t52c1_2, .int .i64 t52c2_2, .int .i64 t52c3_2, .int .i64 t52c4_2] ∧
    (∃ (t53c0_2 : Int) (t53c1_2 : Int) (t53c2_2 : Int) (t53c3_2 : Int) (t53c4_2 : Int), ldAll H_9 t4b t4o [.int .i64 t53c0_2, .int .i64 t53c1_2, .int .i64 t53c2_2, .int .i64 t53c3_2, .int .i64 t53c4_2] ∧
    (∃ (t54_2 : Bool) (H_10 : Heap), xC Try.prog good 23 [.agg #[.int .i64 t52c0_2, .int .i64 t52c1_2, .int .i64 t52c2_2, .int .i64 t52c3_2, .int .i64 t52c4_2], .agg #[.int .i64 t53c0_2, .int .i64 t53c1_2, .int .i64 t53c2_2, .int .i64 t53c3_2, .int .i64 t53c4_2]] H_9 = some (.bool t54_2, H_10) ∧
    (if (t7 == t54_2) = true then
    (∃ (t58_2 : Bool) (H_11 : Heap), xC Try.prog good 19 [] H_10 = some (.bool t58_2, H_11) ∧
    (r = (.bool t58_2, H_11)))
    else
    (r = (.bool false, H_10)))))))))))) :
    L0 t3b t3o t4b t4o t5b t5o t7 t30 H r := by
  intro J
  show KR _ _ _ (.code (sub B [1, 1, 0, 1]) :: S2) _ _ _
  by_cases c18 : t30 = true
  · replace h := iteT c18 h
    refine KR.br true (by kernel_rfl) (vB (bT c18)) ?_
    refine KR.run 4 [(6, .bool false)] 60 (s' := (.code (sub B [1, 1, 0, 1, 0, 1]) :: S2)) (by kernel_rfl) fun J => ?_
    exact KR.fin (by kernel_rfl) h
  · replace h := iteF c18 h
    refine KR.br false (by kernel_rfl) (vB (bF c18)) ?_
    refine KR.run 6 [(3, .pointer (some ⟨t3b, t3o, none⟩)), (4, .pointer (some ⟨t4b, t4o, none⟩)), (5, .pointer (some ⟨t5b, t5o, none⟩)), (7, .bool t7), (33, .bool (!t7))] 60 (s' := (.reg (opsAt (sub B [1, 1, 1, 0])) [3, 4, 5, 6, 7, 8, 9, 10, 11, 12, 13, 14, 15, 16, 17, 18, 19, 20, 21, 22, 23, 24, 25, 26, 27, 28, 29] :: S4)) (by kernel_rfl) fun J => ?_
    by_cases c19 : t7 = true
    · replace h := iteT c19 h
      refine KR.setV 33 (by kernel_rfl) (nB (bT c19)) ?_
      obtain ⟨t34c0, t34c1, t34c2, t34c3, t34c4, q20, h⟩ := h
      refine KR.rd (one_ldA (by kernel_rfl) q20) ?_
      obtain ⟨t35c0, t35c1, t35c2, t35c3, t35c4, q21, h⟩ := h
      refine KR.rd (one_ldA (by kernel_rfl) q21) ?_
      obtain ⟨t36, H_1, q22, h⟩ := h
      refine KR.se (one_ca (by kernel_rfl) q22) ?_
      refine KR.run 3 [(3, .pointer (some ⟨t3b, t3o, none⟩)), (4, .pointer (some ⟨t4b, t4o, none⟩)), (5, .pointer (some ⟨t5b, t5o, none⟩)), (7, .bool t7), (39, .bool (!t36))] 60 (s' := (.reg (opsAt (sub B [1, 1, 1, 0])) [9, 10, 11, 12, 13, 14, 15, 16, 17, 18, 19, 20, 21, 22, 23, 24, 25, 26, 27, 28, 29] :: S4)) (by kernel_rfl) fun J => ?_
      by_cases c23 : t36 = true
      · replace h := iteT c23 h
        refine KR.setV 39 (by kernel_rfl) (nB (bT c23)) ?_
        obtain ⟨t40c0, t40c1, t40c2, t40c3, t40c4, q24, h⟩ := h
        refine KR.rd (one_ldA (by kernel_rfl) q24) ?_
        obtain ⟨t41c0, t41c1, t41c2, t41c3, t41c4, q25, h⟩ := h
        refine KR.rd (one_ldA (by kernel_rfl) q25) ?_
        obtain ⟨t42, H_2, q26, h⟩ := h
        refine KR.se (one_ca (by kernel_rfl) q26) ?_
        refine KR.run 2 [(3, .pointer (some ⟨t3b, t3o, none⟩)), (4, .pointer (some ⟨t4b, t4o, none⟩)), (7, .bool t7), (44, .bool t42)] 60 (s' := (.reg (opsAt (sub B [1, 1, 1, 0])) [14, 15, 16, 17, 18, 19, 20, 21, 22, 23, 24, 25, 26, 27, 28, 29] :: S4)) (by kernel_rfl) fun J => ?_
        by_cases c27 : t42 = true
        · replace h := iteT c27 h
          refine KR.setV 44 (by kernel_rfl) (bT c27) ?_
          obtain ⟨t45c0, t45c1, t45c2, t45c3, t45c4, q28, h⟩ := h
          refine KR.rd (one_ldA (by kernel_rfl) q28) ?_
          obtain ⟨t46c0, t46c1, t46c2, t46c3, t46c4, q29, h⟩ := h
          refine KR.rd (one_ldA (by kernel_rfl) q29) ?_
          obtain ⟨t47, H_3, q30, h⟩ := h
          refine KR.se (one_ca (by kernel_rfl) q30) ?_
          refine KR.run 3 [(3, .pointer (some ⟨t3b, t3o, none⟩)), (4, .pointer (some ⟨t4b, t4o, none⟩)), (7, .bool t7), (50, .bool (!t47))] 60 (s' := (.reg (opsAt (sub B [1, 1, 1, 0])) [20, 21, 22, 23, 24, 25, 26, 27, 28, 29] :: S4)) (by kernel_rfl) fun J => ?_
          by_cases c31 : t47 = true
          · replace h := iteT c31 h
            refine KR.setV 50 (by kernel_rfl) (nB (bT c31)) ?_
            refine KR.run 11 [(6, .bool false)] 60 (s' := (.code (sub B [1, 1, 1, 1]) :: [])) (by kernel_rfl) fun J => ?_
            exact KR.fin (by kernel_rfl) h
          · replace h := iteF c31 h
            refine KR.setV 50 (by kernel_rfl) (nB (bF c31)) ?_
            refine KR.run 1 [(3, .pointer (some ⟨t3b, t3o, none⟩)), (4, .pointer (some ⟨t4b, t4o, none⟩)), (50, .bool true), (51, .bool t7)] 60 (s' := (.reg (opsAt (sub B [1, 1, 1, 0])) [21, 22, 23, 24, 25, 26, 27, 28, 29] :: S4)) (by kernel_rfl) fun J => ?_
            obtain ⟨t52c0, t52c1, t52c2, t52c3, t52c4, q32, h⟩ := h
            refine KR.rd (one_ldA (by kernel_rfl) q32) ?_
            obtain ⟨t53c0, t53c1, t53c2, t53c3, t53c4, q33, h⟩ := h
            refine KR.rd (one_ldA (by kernel_rfl) q33) ?_
            obtain ⟨t54, H_4, q34, h⟩ := h
            refine KR.se (one_ca (by kernel_rfl) q34) ?_
            refine KR.run 3 [(57, .bool (t7 == t54))] 60 (s' := (.reg (opsAt (sub B [1, 1, 1, 0])) [27, 28, 29] :: S4)) (by kernel_rfl) fun J => ?_
            by_cases c35 : (t7 == t54) = true
            · replace h := iteT c35 h
              refine KR.setV 57 (by kernel_rfl) (bT c35) ?_
              obtain ⟨t58, H_5, q36, h⟩ := h
              refine KR.se (one_ca (by kernel_rfl) q36) ?_
              refine KR.run 3 [(6, .bool t58)] 60 (s' := (.code (sub B [1, 1, 1, 1]) :: [])) (by kernel_rfl) fun J => ?_
              exact KR.fin (by kernel_rfl) h
            · replace h := iteF c35 h
              refine KR.setV 57 (by kernel_rfl) (bF c35) ?_
              refine KR.run 4 [(6, .bool false)] 60 (s' := (.code (sub B [1, 1, 1, 1]) :: [])) (by kernel_rfl) fun J => ?_
              exact KR.fin (by kernel_rfl) h
        · replace h := iteF c27 h
          refine KR.setV 44 (by kernel_rfl) (bF c27) ?_
          refine KR.run 17 [(6, .bool false)] 60 (s' := (.code (sub B [1, 1, 1, 1]) :: [])) (by kernel_rfl) fun J => ?_
          exact KR.fin (by kernel_rfl) h
      · replace h := iteF c23 h
        refine KR.setV 39 (by kernel_rfl) (nB (bF c23)) ?_
        refine KR.run 5 [(3, .pointer (some ⟨t3b, t3o, none⟩)), (4, .pointer (some ⟨t4b, t4o, none⟩)), (7, .bool t7), (44, .bool true)] 60 (s' := (.reg (opsAt (sub B [1, 1, 1, 0])) [14, 15, 16, 17, 18, 19, 20, 21, 22, 23, 24, 25, 26, 27, 28, 29] :: S4)) (by kernel_rfl) fun J => ?_
        obtain ⟨t45c0_1, t45c1_1, t45c2_1, t45c3_1, t45c4_1, q37, h⟩ := h
        refine KR.rd (one_ldA (by kernel_rfl) q37) ?_
        obtain ⟨t46c0_1, t46c1_1, t46c2_1, t46c3_1, t46c4_1, q38, h⟩ := h
        refine KR.rd (one_ldA (by kernel_rfl) q38) ?_
        obtain ⟨t47_1, H_6, q39, h⟩ := h
        refine KR.se (one_ca (by kernel_rfl) q39) ?_
        refine KR.run 3 [(3, .pointer (some ⟨t3b, t3o, none⟩)), (4, .pointer (some ⟨t4b, t4o, none⟩)), (7, .bool t7), (50, .bool (!t47_1))] 60 (s' := (.reg (opsAt (sub B [1, 1, 1, 0])) [20, 21, 22, 23, 24, 25, 26, 27, 28, 29] :: S4)) (by kernel_rfl) fun J => ?_
        by_cases c40 : t47_1 = true
        · replace h := iteT c40 h
          refine KR.setV 50 (by kernel_rfl) (nB (bT c40)) ?_
          refine KR.run 11 [(6, .bool false)] 60 (s' := (.code (sub B [1, 1, 1, 1]) :: [])) (by kernel_rfl) fun J => ?_
          exact KR.fin (by kernel_rfl) h
        · replace h := iteF c40 h
          refine KR.setV 50 (by kernel_rfl) (nB (bF c40)) ?_
          refine KR.run 1 [(3, .pointer (some ⟨t3b, t3o, none⟩)), (4, .pointer (some ⟨t4b, t4o, none⟩)), (50, .bool true), (51, .bool t7)] 60 (s' := (.reg (opsAt (sub B [1, 1, 1, 0])) [21, 22, 23, 24, 25, 26, 27, 28, 29] :: S4)) (by kernel_rfl) fun J => ?_
          obtain ⟨t52c0_1, t52c1_1, t52c2_1, t52c3_1, t52c4_1, q41, h⟩ := h
          refine KR.rd (one_ldA (by kernel_rfl) q41) ?_
          obtain ⟨t53c0_1, t53c1_1, t53c2_1, t53c3_1, t53c4_1, q42, h⟩ := h
          refine KR.rd (one_ldA (by kernel_rfl) q42) ?_
          obtain ⟨t54_1, H_7, q43, h⟩ := h
          refine KR.se (one_ca (by kernel_rfl) q43) ?_
          refine KR.run 3 [(57, .bool (t7 == t54_1))] 60 (s' := (.reg (opsAt (sub B [1, 1, 1, 0])) [27, 28, 29] :: S4)) (by kernel_rfl) fun J => ?_
          by_cases c44 : (t7 == t54_1) = true
          · replace h := iteT c44 h
            refine KR.setV 57 (by kernel_rfl) (bT c44) ?_
            obtain ⟨t58_1, H_8, q45, h⟩ := h
            refine KR.se (one_ca (by kernel_rfl) q45) ?_
            refine KR.run 3 [(6, .bool t58_1)] 60 (s' := (.code (sub B [1, 1, 1, 1]) :: [])) (by kernel_rfl) fun J => ?_
            exact KR.fin (by kernel_rfl) h
          · replace h := iteF c44 h
            refine KR.setV 57 (by kernel_rfl) (bF c44) ?_
            refine KR.run 4 [(6, .bool false)] 60 (s' := (.code (sub B [1, 1, 1, 1]) :: [])) (by kernel_rfl) fun J => ?_
            exact KR.fin (by kernel_rfl) h
    · replace h := iteF c19 h
      refine KR.setV 33 (by kernel_rfl) (nB (bF c19)) ?_
      refine KR.run 11 [(3, .pointer (some ⟨t3b, t3o, none⟩)), (4, .pointer (some ⟨t4b, t4o, none⟩)), (7, .bool t7), (44, .bool true)] 60 (s' := (.reg (opsAt (sub B [1, 1, 1, 0])) [14, 15, 16, 17, 18, 19, 20, 21, 22, 23, 24, 25, 26, 27, 28, 29] :: S4)) (by kernel_rfl) fun J => ?_
      obtain ⟨t45c0_2, t45c1_2, t45c2_2, t45c3_2, t45c4_2, q46, h⟩ := h
      refine KR.rd (one_ldA (by kernel_rfl) q46) ?_
      obtain ⟨t46c0_2, t46c1_2, t46c2_2, t46c3_2, t46c4_2, q47, h⟩ := h
      refine KR.rd (one_ldA (by kernel_rfl) q47) ?_
      obtain ⟨t47_2, H_9, q48, h⟩ := h
      refine KR.se (one_ca (by kernel_rfl) q48) ?_
      refine KR.run 3 [(3, .pointer (some ⟨t3b, t3o, none⟩)), (4, .pointer (some ⟨t4b, t4o, none⟩)), (7, .bool t7), (50, .bool (!t47_2))] 60 (s' := (.reg (opsAt (sub B [1, 1, 1, 0])) [20, 21, 22, 23, 24, 25, 26, 27, 28, 29] :: S4)) (by kernel_rfl) fun J => ?_
      by_cases c49 : t47_2 = true
      · replace h := iteT c49 h
        refine KR.setV 50 (by kernel_rfl) (nB (bT c49)) ?_
        refine KR.run 11 [(6, .bool false)] 60 (s' := (.code (sub B [1, 1, 1, 1]) :: [])) (by kernel_rfl) fun J => ?_
        exact KR.fin (by kernel_rfl) h
      · replace h := iteF c49 h
        refine KR.setV 50 (by kernel_rfl) (nB (bF c49)) ?_
        refine KR.run 1 [(3, .pointer (some ⟨t3b, t3o, none⟩)), (4, .pointer (some ⟨t4b, t4o, none⟩)), (50, .bool true), (51, .bool t7)] 60 (s' := (.reg (opsAt (sub B [1, 1, 1, 0])) [21, 22, 23, 24, 25, 26, 27, 28, 29] :: S4)) (by kernel_rfl) fun J => ?_
        obtain ⟨t52c0_2, t52c1_2, t52c2_2, t52c3_2, t52c4_2, q50, h⟩ := h
        refine KR.rd (one_ldA (by kernel_rfl) q50) ?_
        obtain ⟨t53c0_2, t53c1_2, t53c2_2, t53c3_2, t53c4_2, q51, h⟩ := h
        refine KR.rd (one_ldA (by kernel_rfl) q51) ?_
        obtain ⟨t54_2, H_10, q52, h⟩ := h
        refine KR.se (one_ca (by kernel_rfl) q52) ?_
        refine KR.run 3 [(57, .bool (t7 == t54_2))] 60 (s' := (.reg (opsAt (sub B [1, 1, 1, 0])) [27, 28, 29] :: S4)) (by kernel_rfl) fun J => ?_
        by_cases c53 : (t7 == t54_2) = true
        · replace h := iteT c53 h
          refine KR.setV 57 (by kernel_rfl) (bT c53) ?_
          obtain ⟨t58_2, H_11, q54, h⟩ := h
          refine KR.se (one_ca (by kernel_rfl) q54) ?_
          refine KR.run 3 [(6, .bool t58_2)] 60 (s' := (.code (sub B [1, 1, 1, 1]) :: [])) (by kernel_rfl) fun J => ?_
          exact KR.fin (by kernel_rfl) h
        · replace h := iteF c53 h
          refine KR.setV 57 (by kernel_rfl) (bF c53) ?_
          refine KR.run 4 [(6, .bool false)] 60 (s' := (.code (sub B [1, 1, 1, 1]) :: [])) (by kernel_rfl) fun J => ?_
          exact KR.fin (by kernel_rfl) h
theorem call {a0c0 : Int} {a0c1 : Int} {a0c2 : Int} {a0c3 : Int} {a0c4 : Int} {a1c0 : Int} {a1c1 : Int} {a1c2 : Int} {a1c3 : Int} {a1c4 : Int} {a2c0 : Int} {a2c1 : Int} {a2c2 : Int} {a2c3 : Int} {a2c4 : Int} {H : Heap} {r : Value × Heap} (h :
    ∃ (H_1 : Heap), H_1 = H.push (.row [.int .i64 a0c0, .int .i64 a0c1, .int .i64 a0c2, .int .i64 a0c3, .int .i64 a0c4] true) ∧
    (∃ (H_2 : Heap), H_2 = H_1.push (.row [.int .i64 a1c0, .int .i64 a1c1, .int .i64 a1c2, .int .i64 a1c3, .int .i64 a1c4] true) ∧
    (∃ (H_3 : Heap), H_3 = H_2.push (.row [.int .i64 a2c0, .int .i64 a2c1, .int .i64 a2c2, .int .i64 a2c3, .int .i64 a2c4] true) ∧
    (∃ (t9c0 : Int) (t9c1 : Int) (t9c2 : Int) (t9c3 : Int) (t9c4 : Int), ldAll H_3 H.next 0 [.int .i64 t9c0, .int .i64 t9c1, .int .i64 t9c2, .int .i64 t9c3, .int .i64 t9c4] ∧
    (∃ (t10c0 : Int) (t10c1 : Int) (t10c2 : Int) (t10c3 : Int) (t10c4 : Int), ldAll H_3 H_1.next 0 [.int .i64 t10c0, .int .i64 t10c1, .int .i64 t10c2, .int .i64 t10c3, .int .i64 t10c4] ∧
    (∃ (t11 : Bool) (H_4 : Heap), xC Try.prog good 22 [.agg #[.int .i64 t9c0, .int .i64 t9c1, .int .i64 t9c2, .int .i64 t9c3, .int .i64 t9c4], .agg #[.int .i64 t10c0, .int .i64 t10c1, .int .i64 t10c2, .int .i64 t10c3, .int .i64 t10c4]] H_3 = some (.bool t11, H_4) ∧
    (∃ (t12c0 : Int) (t12c1 : Int) (t12c2 : Int) (t12c3 : Int) (t12c4 : Int), ldAll H_3 H_1.next 0 [.int .i64 t12c0, .int .i64 t12c1, .int .i64 t12c2, .int .i64 t12c3, .int .i64 t12c4] ∧
    (∃ (t13c0 : Int) (t13c1 : Int) (t13c2 : Int) (t13c3 : Int) (t13c4 : Int), ldAll H_3 H.next 0 [.int .i64 t13c0, .int .i64 t13c1, .int .i64 t13c2, .int .i64 t13c3, .int .i64 t13c4] ∧
    (∃ (t14 : Bool) (H_5 : Heap), xC Try.prog good 22 [.agg #[.int .i64 t12c0, .int .i64 t12c1, .int .i64 t12c2, .int .i64 t12c3, .int .i64 t12c4], .agg #[.int .i64 t13c0, .int .i64 t13c1, .int .i64 t13c2, .int .i64 t13c3, .int .i64 t13c4]] H_4 = some (.bool t14, H_5) ∧
    (ldAll H_4 H_1.next 0 [.int .i64 t12c0, .int .i64 t12c1, .int .i64 t12c2, .int .i64 t12c3, .int .i64 t12c4] ∧
    ldAll H_4 H.next 0 [.int .i64 t13c0, .int .i64 t13c1, .int .i64 t13c2, .int .i64 t13c3, .int .i64 t13c4] ∧
    (if t11 = true then
    (if t14 = true then
    (L0 (H.next) (0) (H_1.next) (0) (H_2.next) (0) (t11) (true) H_5 r)
    else
    (∃ (t26c0 : Int) (t26c1 : Int) (t26c2 : Int) (t26c3 : Int) (t26c4 : Int), ldAll H_5 H.next 0 [.int .i64 t26c0, .int .i64 t26c1, .int .i64 t26c2, .int .i64 t26c3, .int .i64 t26c4] ∧
    (∃ (t27c0 : Int) (t27c1 : Int) (t27c2 : Int) (t27c3 : Int) (t27c4 : Int), ldAll H_5 H_1.next 0 [.int .i64 t27c0, .int .i64 t27c1, .int .i64 t27c2, .int .i64 t27c3, .int .i64 t27c4] ∧
    (L0 (H.next) (0) (H_1.next) (0) (H_2.next) (0) (t11) ((!(false == ((t26c0 == t27c0) && ((t26c1 == t27c1) && ((t26c2 == t27c2) && ((t26c3 == t27c3) && ((t26c4 == t27c4) && true)))))))) H_5 r))))
    else
    (∃ (t26c0_1 : Int) (t26c1_1 : Int) (t26c2_1 : Int) (t26c3_1 : Int) (t26c4_1 : Int), ldAll H_5 H.next 0 [.int .i64 t26c0_1, .int .i64 t26c1_1, .int .i64 t26c2_1, .int .i64 t26c3_1, .int .i64 t26c4_1] ∧
    (∃ (t27c0_1 : Int) (t27c1_1 : Int) (t27c2_1 : Int) (t27c3_1 : Int) (t27c4_1 : Int), ldAll H_5 H_1.next 0 [.int .i64 t27c0_1, .int .i64 t27c1_1, .int .i64 t27c2_1, .int .i64 t27c3_1, .int .i64 t27c4_1] ∧
    (L0 (H.next) (0) (H_1.next) (0) (H_2.next) (0) (t11) ((!((!t14) == ((t26c0_1 == t27c0_1) && ((t26c1_1 == t27c1_1) && ((t26c2_1 == t27c2_1) && ((t26c3_1 == t27c3_1) && ((t26c4_1 == t27c4_1) && true)))))))) H_5 r)))))))))))))) :
    xC Try.prog good 7 [.agg #[.int .i64 a0c0, .int .i64 a0c1, .int .i64 a0c2, .int .i64 a0c3, .int .i64 a0c4], .agg #[.int .i64 a1c0, .int .i64 a1c1, .int .i64 a1c2, .int .i64 a1c3, .int .i64 a1c4], .agg #[.int .i64 a2c0, .int .i64 a2c1, .int .i64 a2c2, .int .i64 a2c3, .int .i64 a2c4]] H = some r := by
  refine KR.enter (fn := Try.f7) (c := B) (by kernel_rfl) (by kernel_rfl) ?_
  refine KR.run 2 [(0, .agg #[.int .i64 a0c0, .int .i64 a0c1, .int .i64 a0c2, .int .i64 a0c3, .int .i64 a0c4]), (1, .agg #[.int .i64 a1c0, .int .i64 a1c1, .int .i64 a1c2, .int .i64 a1c3, .int .i64 a1c4]), (2, .agg #[.int .i64 a2c0, .int .i64 a2c1, .int .i64 a2c2, .int .i64 a2c3, .int .i64 a2c4])] 60 (s' := (.reg (opsAt (sub B [0])) [0, 1, 2, 3] :: S0)) (by kernel_rfl) fun J => ?_
  obtain ⟨H_1, q1, h⟩ := h
  refine KR.mk (w := pRow [.int .i64 a0c0, .int .i64 a0c1, .int .i64 a0c2, .int .i64 a0c3, .int .i64 a0c4]) (one_al (by kernel_rfl)) q1 ?_
  obtain ⟨H_2, q2, h⟩ := h
  refine KR.mk (w := pRow [.int .i64 a1c0, .int .i64 a1c1, .int .i64 a1c2, .int .i64 a1c3, .int .i64 a1c4]) (one_al (by kernel_rfl)) q2 ?_
  obtain ⟨H_3, q3, h⟩ := h
  refine KR.mk (w := pRow [.int .i64 a2c0, .int .i64 a2c1, .int .i64 a2c2, .int .i64 a2c3, .int .i64 a2c4]) (one_al (by kernel_rfl)) q3 ?_
  refine KR.run 3 [(3, .pointer (some ⟨H.next, 0, none⟩)), (4, .pointer (some ⟨H_1.next, 0, none⟩)), (5, .pointer (some ⟨H_2.next, 0, none⟩))] 60 (s' := (.code (sub B [1, 0]) :: S1)) (by kernel_rfl) fun J => ?_
  refine KE.start H_3 (by kernel_rfl) (by kernel_rfl) ?_
  obtain ⟨t9c0, t9c1, t9c2, t9c3, t9c4, q4, h⟩ := h
  refine KE.rdN (one_ldA (by kernel_rfl) q4) (by kernel_rfl) ?_
  obtain ⟨t10c0, t10c1, t10c2, t10c3, t10c4, q5, h⟩ := h
  refine KE.rdN (one_ldA (by kernel_rfl) q5) (by kernel_rfl) ?_
  obtain ⟨t11, H_4, q6, h⟩ := h
  refine KE.se (one_ca (by kernel_rfl) q6) (by kernel_rfl) ?_
  obtain ⟨t12c0, t12c1, t12c2, t12c3, t12c4, q7, h⟩ := h
  refine KE.rdF (one_ldA (by kernel_rfl) q7) (by kernel_rfl) ?_
  obtain ⟨t13c0, t13c1, t13c2, t13c3, t13c4, q8, h⟩ := h
  refine KE.rdF (one_ldA (by kernel_rfl) q8) (by kernel_rfl) ?_
  obtain ⟨t14, H_5, q9, h⟩ := h
  refine KE.se (one_ca (by kernel_rfl) q9) (by kernel_rfl) ?_
  refine KE.run 2 [(3, .pointer (some ⟨H.next, 0, none⟩)), (4, .pointer (some ⟨H_1.next, 0, none⟩)), (5, .pointer (some ⟨H_2.next, 0, none⟩)), (7, .bool t11), (8, .bool t14)] 60 8 (by kernel_rfl) fun J => ?_
  obtain ⟨q10, q11, h⟩ := h
  refine KE.fin (H' := H_5) (by kernel_rfl) (rdsS (rdsS (rfl) (rd_ok (Hs := [H_4]) (by kernel_rfl) (by kernel_rfl) ⟨one_ldA (by kernel_rfl) q10, trivial⟩)) (rd_ok (Hs := [H_4]) (by kernel_rfl) (by kernel_rfl) ⟨one_ldA (by kernel_rfl) q11, trivial⟩)) (by kernel_rfl) ?_
  refine KR.run 5 [(3, .pointer (some ⟨H.next, 0, none⟩)), (4, .pointer (some ⟨H_1.next, 0, none⟩)), (5, .pointer (some ⟨H_2.next, 0, none⟩)), (7, .bool t11), (8, .bool t14), (16, .bool t11)] 60 (s' := (.reg (opsAt (sub B [1, 1, 0, 0])) [2, 3, 4, 5, 6, 7, 8, 9, 10, 11, 12, 13, 14, 15] :: S3)) (by kernel_rfl) fun J => ?_
  by_cases c12 : t11 = true
  · replace h := iteT c12 h
    refine KR.setV 16 (by kernel_rfl) (bT c12) ?_
    refine KR.run 3 [(3, .pointer (some ⟨H.next, 0, none⟩)), (4, .pointer (some ⟨H_1.next, 0, none⟩)), (5, .pointer (some ⟨H_2.next, 0, none⟩)), (7, .bool t11), (8, .bool t14), (19, .bool t14)] 60 (s' := (.reg (opsAt (sub B [1, 1, 0, 0])) [5, 6, 7, 8, 9, 10, 11, 12, 13, 14, 15] :: S3)) (by kernel_rfl) fun J => ?_
    by_cases c13 : t14 = true
    · replace h := iteT c13 h
      refine KR.setV 19 (by kernel_rfl) (bT c13) ?_
      exact KR.run 12 [(3, .pointer (some ⟨H.next, 0, none⟩)), (4, .pointer (some ⟨H_1.next, 0, none⟩)), (5, .pointer (some ⟨H_2.next, 0, none⟩)), (7, .bool t11), (30, .bool true)] 60 (s' := (.code (sub B [1, 1, 0, 1]) :: S2)) (by kernel_rfl) h
    · replace h := iteF c13 h
      refine KR.setV 19 (by kernel_rfl) (bF c13) ?_
      refine KR.run 3 [(3, .pointer (some ⟨H.next, 0, none⟩)), (4, .pointer (some ⟨H_1.next, 0, none⟩)), (5, .pointer (some ⟨H_2.next, 0, none⟩)), (7, .bool t11), (8, .bool t14), (19, .bool false), (22, .bool (!t11))] 60 (s' := (.reg (opsAt (sub B [1, 1, 0, 0])) [8, 9, 10, 11, 12, 13, 14, 15] :: S3)) (by kernel_rfl) fun J => ?_
      refine KR.setV 22 (by kernel_rfl) (nB (bT c12)) ?_
      refine KR.run 3 [(3, .pointer (some ⟨H.next, 0, none⟩)), (4, .pointer (some ⟨H_1.next, 0, none⟩)), (5, .pointer (some ⟨H_2.next, 0, none⟩)), (7, .bool t11), (19, .bool false), (25, .bool false)] 60 (s' := (.reg (opsAt (sub B [1, 1, 0, 0])) [11, 12, 13, 14, 15] :: S3)) (by kernel_rfl) fun J => ?_
      obtain ⟨t26c0, t26c1, t26c2, t26c3, t26c4, q14, h⟩ := h
      refine KR.rd (one_ldA (by kernel_rfl) q14) ?_
      obtain ⟨t27c0, t27c1, t27c2, t27c3, t27c4, q15, h⟩ := h
      refine KR.rd (one_ldA (by kernel_rfl) q15) ?_
      exact KR.run 4 [(3, .pointer (some ⟨H.next, 0, none⟩)), (4, .pointer (some ⟨H_1.next, 0, none⟩)), (5, .pointer (some ⟨H_2.next, 0, none⟩)), (7, .bool t11), (30, .bool (!(false == ((t26c0 == t27c0) && ((t26c1 == t27c1) && ((t26c2 == t27c2) && ((t26c3 == t27c3) && ((t26c4 == t27c4) && true))))))))] 60 (s' := (.code (sub B [1, 1, 0, 1]) :: S2)) (by kernel_rfl) h
  · replace h := iteF c12 h
    refine KR.setV 16 (by kernel_rfl) (bF c12) ?_
    refine KR.run 6 [(3, .pointer (some ⟨H.next, 0, none⟩)), (4, .pointer (some ⟨H_1.next, 0, none⟩)), (5, .pointer (some ⟨H_2.next, 0, none⟩)), (7, .bool t11), (8, .bool t14), (19, .bool false), (22, .bool (!t11))] 60 (s' := (.reg (opsAt (sub B [1, 1, 0, 0])) [8, 9, 10, 11, 12, 13, 14, 15] :: S3)) (by kernel_rfl) fun J => ?_
    refine KR.setV 22 (by kernel_rfl) (nB (bF c12)) ?_
    refine KR.run 3 [(3, .pointer (some ⟨H.next, 0, none⟩)), (4, .pointer (some ⟨H_1.next, 0, none⟩)), (5, .pointer (some ⟨H_2.next, 0, none⟩)), (7, .bool t11), (19, .bool false), (25, .bool (!t14))] 60 (s' := (.reg (opsAt (sub B [1, 1, 0, 0])) [11, 12, 13, 14, 15] :: S3)) (by kernel_rfl) fun J => ?_
    obtain ⟨t26c0_1, t26c1_1, t26c2_1, t26c3_1, t26c4_1, q16, h⟩ := h
    refine KR.rd (one_ldA (by kernel_rfl) q16) ?_
    obtain ⟨t27c0_1, t27c1_1, t27c2_1, t27c3_1, t27c4_1, q17, h⟩ := h
    refine KR.rd (one_ldA (by kernel_rfl) q17) ?_
    exact KR.run 4 [(3, .pointer (some ⟨H.next, 0, none⟩)), (4, .pointer (some ⟨H_1.next, 0, none⟩)), (5, .pointer (some ⟨H_2.next, 0, none⟩)), (7, .bool t11), (30, .bool (!((!t14) == ((t26c0_1 == t27c0_1) && ((t26c1_1 == t27c1_1) && ((t26c2_1 == t27c2_1) && ((t26c3_1 == t27c3_1) && ((t26c4_1 == t27c4_1) && true))))))))] 60 (s' := (.code (sub B [1, 1, 0, 1]) :: S2)) (by kernel_rfl) h
end F7
end Go.X
