/- The walks of the functions: printed. -/
import Derived.Test.YtomibdncbioijaaXzGd
set_option linter.unusedVariables false
set_option maxRecDepth 100000
namespace Go.X
open Go Go.RowKit Go.Proofs
/-! #### 8 campanile/campanilelaw8.CellFrames -/
namespace F8
noncomputable def B : Code := bodyOf Try.f8
noncomputable def S0 : List It := (.code (sub B [1]) :: [])
noncomputable def S1 : List It := (.code (sub B [1, 1]) :: [])
noncomputable def S3 : List It := (.code (sub B [1, 1, 1, 1]) :: [])
noncomputable def S4 : List It := (.code (sub B [1, 1, 1, 1, 1]) :: [])
noncomputable def S7 : List It := (.code (sub B [1, 1, 1, 1, 1, 1]) :: [])
noncomputable def S8 : List It := (.code (sub B [1, 1, 1, 1, 1, 1, 1]) :: [])
noncomputable def S10 : List It := (.code (sub B [1, 1, 1, 1, 1, 1, 1, 1, 1]) :: [])
noncomputable def S11 : List It := (.code (sub B [1, 1, 1, 1, 1, 1, 1, 1, 1, 1]) :: [])
noncomputable def S2 : List It := (.code (sub B [1, 0, 1]) :: S1)
noncomputable def S5 : List It := (.code (sub B [1, 1, 1, 1, 0, 1]) :: S4)
noncomputable def S6 : List It := (.code (sub B [1, 0, 1, 0, 1]) :: S1)
noncomputable def S9 : List It := (.code (sub B [1, 1, 1, 1, 1, 1, 0, 1]) :: S8)
noncomputable def S12 : List It := (.reg (opsAt (sub B [1, 1, 1, 1, 1, 1, 1, 1, 1, 0])) [0, 1, 2, 3, 4, 5, 6, 7, 8, 9, 10, 11, 12, 13, 14, 15] :: S11)
def L0 (t1 : Int) (t2b : Nat) (t2o : Nat) (t5 : Option Addr) (t27 : Bool) (H : Heap) (r : Value × Heap) : Prop := ∀ J, KR Try.prog good Try.f8 S5 (mat J 66 [(1, .int .i64 t1), (2, .pointer (some ⟨t2b, t2o, none⟩)), (5, .pointer t5), (27, .bool t27)]) H r
def L1 (t1 : Int) (t2b : Nat) (t2o : Nat) (t5 : Option Addr) (t6 : Int) (t47 : Bool) (H : Heap) (r : Value × Heap) : Prop := ∀ J, KR Try.prog good Try.f8 S9 (mat J 66 [(1, .int .i64 t1), (2, .pointer (some ⟨t2b, t2o, none⟩)), (5, .pointer t5), (6, .int .i64 t6), (47, .bool t47)]) H r
def L2 (t2b : Nat) (t2o : Nat) (t5 : Option Addr) (t7 : Int) (H : Heap) (r : Value × Heap) : Prop := ∀ J, KR Try.prog good Try.f8 S12 (mat J 66 [(2, .pointer (some ⟨t2b, t2o, none⟩)), (5, .pointer t5), (7, .int .i64 t7)]) H r
theorem L0_step {t1 : Int} {t2b : Nat} {t2o : Nat} {t5 : Option Addr} {t27 : Bool} {H : Heap} {r : Value × Heap} (h :
    if t27 = true then
    (r = (.bool false, H))
    else
    (∃ (t30 : Int), ldc H t2b t2o = some (.int .i64 t30) ∧
    (∃ (t32 : Int) (H_1 : Heap), xC Try.prog good 20 [.pointer t5, .int .i64 t30, .int .i64 t1] H = some (.int .i64 t32, H_1) ∧
    (∃ (t37 : Int), ldc H_1 t2b (t2o + 1) = some (.int .i64 t37) ∧
    (if ((t32 == 0) == (decide (t1 > t37))) = true then
    (if t32 = 0 then
    (L1 (t1) (t2b) (t2o) (t5) (t32) (false) H_1 r)
    else
    (L1 (t1) (t2b) (t2o) (t5) (t32) ((!(t32 == 9))) H_1 r))
    else
    (L1 (t1) (t2b) (t2o) (t5) (t32) (true) H_1 r)))))) :
    L0 t1 t2b t2o t5 t27 H r := by
  intro J
  show KR _ _ _ (.code (sub B [1, 1, 1, 1, 0, 1]) :: S4) _ _ _
  by_cases c12 : t27 = true
  · replace h := iteT c12 h
    refine KR.br true (by kernel_rfl) (vB (bT c12)) ?_
    refine KR.run 4 [(4, .bool false)] 66 (s' := (.code (sub B [1, 1, 1, 1, 0, 1, 0, 1]) :: S4)) (by kernel_rfl) fun J => ?_
    exact KR.fin (by kernel_rfl) h
  · replace h := iteF c12 h
    refine KR.br false (by kernel_rfl) (vB (bF c12)) ?_
    refine KR.run 5 [(1, .int .i64 t1), (2, .pointer (some ⟨t2b, t2o, none⟩)), (5, .pointer t5), (28, .pointer t5), (29, .pointer (some ⟨t2b, t2o, none⟩))] 66 (s' := (.reg (opsAt (sub B [1, 1, 1, 1, 1, 0])) [2, 3, 4, 5] :: S7)) (by kernel_rfl) fun J => ?_
    obtain ⟨t30, q13, h⟩ := h
    refine KR.rd (one_ld (by kernel_rfl) q13) ?_
    refine KR.run 1 [(1, .int .i64 t1), (2, .pointer (some ⟨t2b, t2o, none⟩)), (5, .pointer t5), (28, .pointer t5), (30, .int .i64 t30), (31, .int .i64 t1)] 66 (s' := (.reg (opsAt (sub B [1, 1, 1, 1, 1, 0])) [4, 5] :: S7)) (by kernel_rfl) fun J => ?_
    obtain ⟨t32, H_1, q14, h⟩ := h
    refine KR.se (one_ca (by kernel_rfl) q14) ?_
    refine KR.run 9 [(1, .int .i64 t1), (2, .pointer (some ⟨t2b, t2o, none⟩)), (5, .pointer t5), (6, .int .i64 t32), (34, .bool (t32 == 0)), (35, .int .i64 t1), (36, .pointer (some ⟨t2b, (t2o + 1), none⟩))] 66 (s' := (.reg (opsAt (sub B [1, 1, 1, 1, 1, 1, 0, 0])) [4, 5, 6, 7, 8, 9, 10, 11, 12, 13, 14] :: S9)) (by kernel_rfl) fun J => ?_
    obtain ⟨t37, q15, h⟩ := h
    refine KR.rd (one_ld (by kernel_rfl) q15) ?_
    refine KR.run 3 [(1, .int .i64 t1), (2, .pointer (some ⟨t2b, t2o, none⟩)), (5, .pointer t5), (6, .int .i64 t32), (40, .bool (!((t32 == 0) == (decide (t1 > t37)))))] 66 (s' := (.reg (opsAt (sub B [1, 1, 1, 1, 1, 1, 0, 0])) [8, 9, 10, 11, 12, 13, 14] :: S9)) (by kernel_rfl) fun J => ?_
    by_cases c16 : ((t32 == 0) == (decide (t1 > t37))) = true
    · replace h := iteT c16 h
      refine KR.setV 40 (by kernel_rfl) (nB (bT c16)) ?_
      refine KR.run 3 [(1, .int .i64 t1), (2, .pointer (some ⟨t2b, t2o, none⟩)), (5, .pointer t5), (6, .int .i64 t32), (40, .bool false), (43, .bool (!(t32 == 0)))] 66 (s' := (.reg (opsAt (sub B [1, 1, 1, 1, 1, 1, 0, 0])) [11, 12, 13, 14] :: S9)) (by kernel_rfl) fun J => ?_
      by_cases c17 : t32 = 0
      · replace h := iteT c17 h
        refine KR.setV 43 (by kernel_rfl) (nB (eT c17)) ?_
        exact KR.run 5 [(1, .int .i64 t1), (2, .pointer (some ⟨t2b, t2o, none⟩)), (5, .pointer t5), (6, .int .i64 t32), (47, .bool false)] 66 (s' := (.code (sub B [1, 1, 1, 1, 1, 1, 0, 1]) :: S8)) (by kernel_rfl) h
      · replace h := iteF c17 h
        refine KR.setV 43 (by kernel_rfl) (nB (eF c17)) ?_
        exact KR.run 5 [(1, .int .i64 t1), (2, .pointer (some ⟨t2b, t2o, none⟩)), (5, .pointer t5), (6, .int .i64 t32), (47, .bool (!(t32 == 9)))] 66 (s' := (.code (sub B [1, 1, 1, 1, 1, 1, 0, 1]) :: S8)) (by kernel_rfl) h
    · replace h := iteF c16 h
      refine KR.setV 40 (by kernel_rfl) (nB (bF c16)) ?_
      exact KR.run 8 [(1, .int .i64 t1), (2, .pointer (some ⟨t2b, t2o, none⟩)), (5, .pointer t5), (6, .int .i64 t32), (47, .bool true)] 66 (s' := (.code (sub B [1, 1, 1, 1, 1, 1, 0, 1]) :: S8)) (by kernel_rfl) h
theorem L1_step {t1 : Int} {t2b : Nat} {t2o : Nat} {t5 : Option Addr} {t6 : Int} {t47 : Bool} {H : Heap} {r : Value × Heap} (h :
    if t47 = true then
    (r = (.bool false, H))
    else
    (if t6 = 0 then
    (L2 (t2b) (t2o) (t5) (t1) H r)
    else
    (L2 (t2b) (t2o) (t5) 200 H r))) :
    L1 t1 t2b t2o t5 t6 t47 H r := by
  intro J
  show KR _ _ _ (.code (sub B [1, 1, 1, 1, 1, 1, 0, 1]) :: S8) _ _ _
  by_cases c18 : t47 = true
  · replace h := iteT c18 h
    refine KR.br true (by kernel_rfl) (vB (bT c18)) ?_
    refine KR.run 4 [(4, .bool false)] 66 (s' := (.code (sub B [1, 1, 1, 1, 1, 1, 0, 1, 0, 1]) :: S8)) (by kernel_rfl) fun J => ?_
    exact KR.fin (by kernel_rfl) h
  · replace h := iteF c18 h
    refine KR.br false (by kernel_rfl) (vB (bF c18)) ?_
    refine KR.run 11 [(1, .int .i64 t1), (2, .pointer (some ⟨t2b, t2o, none⟩)), (5, .pointer t5), (7, .int .i64 200), (49, .bool (t6 == 0))] 66 (s' := (.code (sub B [1, 1, 1, 1, 1, 1, 1, 1, 0, 1]) :: S10)) (by kernel_rfl) fun J => ?_
    by_cases c19 : t6 = 0
    · replace h := iteT c19 h
      refine KR.br true (by kernel_rfl) (vB (eT c19)) ?_
      exact KR.run 6 [(2, .pointer (some ⟨t2b, t2o, none⟩)), (5, .pointer t5), (7, .int .i64 t1)] 66 (s' := (.reg (opsAt (sub B [1, 1, 1, 1, 1, 1, 1, 1, 1, 0])) [0, 1, 2, 3, 4, 5, 6, 7, 8, 9, 10, 11, 12, 13, 14, 15] :: S11)) (by kernel_rfl) h
    · replace h := iteF c19 h
      refine KR.br false (by kernel_rfl) (vB (eF c19)) ?_
      exact KR.run 3 [(2, .pointer (some ⟨t2b, t2o, none⟩)), (5, .pointer t5), (7, .int .i64 200)] 66 (s' := (.reg (opsAt (sub B [1, 1, 1, 1, 1, 1, 1, 1, 1, 0])) [0, 1, 2, 3, 4, 5, 6, 7, 8, 9, 10, 11, 12, 13, 14, 15] :: S11)) (by kernel_rfl) h
theorem L2_step {t2b : Nat} {t2o : Nat} {t5 : Option Addr} {t7 : Int} {H : Heap} {r : Value × Heap} (h :
    ∃ (t53 : Int), ldc H t2b t2o = some (.int .i64 t53) ∧
    (∃ (t54 : Int) (H_1 : Heap), xC Try.prog good 24 [.pointer t5, .int .i64 t53] H = some (.int .i64 t54, H_1) ∧
    (if t54 = t7 then
    (∃ (t59a : Option Addr) (t59n : Nat) (t59k : Nat) (H_2 : Heap), xC Try.prog good 25 [.pointer t5] H_1 = some (.slice t59a t59n t59k, H_2) ∧
    (if ((t59n : Nat) : Int) = 1 then
    (∃ (t64 : Bool) (H_3 : Heap), xC Try.prog good 19 [] H_2 = some (.bool t64, H_3) ∧
    (r = (.bool t64, H_3)))
    else
    (r = (.bool false, H_2))))
    else
    (r = (.bool false, H_1))))) :
    L2 t2b t2o t5 t7 H r := by
  intro J
  show KR _ _ _ (.reg (opsAt (sub B [1, 1, 1, 1, 1, 1, 1, 1, 1, 0])) [0, 1, 2, 3, 4, 5, 6, 7, 8, 9, 10, 11, 12, 13, 14, 15] :: S11) _ _ _
  refine KR.run 2 [(5, .pointer t5), (7, .int .i64 t7), (51, .pointer t5), (52, .pointer (some ⟨t2b, t2o, none⟩))] 66 (s' := (.reg (opsAt (sub B [1, 1, 1, 1, 1, 1, 1, 1, 1, 0])) [2, 3, 4, 5, 6, 7, 8, 9, 10, 11, 12, 13, 14, 15] :: S11)) (by kernel_rfl) fun J => ?_
  obtain ⟨t53, q20, h⟩ := h
  refine KR.rd (one_ld (by kernel_rfl) q20) ?_
  obtain ⟨t54, H_1, q21, h⟩ := h
  refine KR.se (one_ca (by kernel_rfl) q21) ?_
  refine KR.run 3 [(5, .pointer t5), (57, .bool (t54 == t7))] 66 (s' := (.reg (opsAt (sub B [1, 1, 1, 1, 1, 1, 1, 1, 1, 0])) [7, 8, 9, 10, 11, 12, 13, 14, 15] :: S11)) (by kernel_rfl) fun J => ?_
  by_cases c22 : t54 = t7
  · replace h := iteT c22 h
    refine KR.setV 57 (by kernel_rfl) (eT c22) ?_
    refine KR.run 1 [(57, .bool true), (58, .pointer t5)] 66 (s' := (.reg (opsAt (sub B [1, 1, 1, 1, 1, 1, 1, 1, 1, 0])) [8, 9, 10, 11, 12, 13, 14, 15] :: S11)) (by kernel_rfl) fun J => ?_
    obtain ⟨t59a, t59n, t59k, H_2, q23, h⟩ := h
    refine KR.se (one_ca (by kernel_rfl) q23) ?_
    refine KR.run 4 [(63, .bool (((t59n : Nat) : Int) == 1))] 66 (s' := (.reg (opsAt (sub B [1, 1, 1, 1, 1, 1, 1, 1, 1, 0])) [13, 14, 15] :: S11)) (by kernel_rfl) fun J => ?_
    by_cases c24 : ((t59n : Nat) : Int) = 1
    · replace h := iteT c24 h
      refine KR.setV 63 (by kernel_rfl) (eT c24) ?_
      obtain ⟨t64, H_3, q25, h⟩ := h
      refine KR.se (one_ca (by kernel_rfl) q25) ?_
      refine KR.run 3 [(4, .bool t64)] 66 (s' := (.code (sub B [1, 1, 1, 1, 1, 1, 1, 1, 1, 1]) :: [])) (by kernel_rfl) fun J => ?_
      exact KR.fin (by kernel_rfl) h
    · replace h := iteF c24 h
      refine KR.setV 63 (by kernel_rfl) (eF c24) ?_
      refine KR.run 4 [(4, .bool false)] 66 (s' := (.code (sub B [1, 1, 1, 1, 1, 1, 1, 1, 1, 1]) :: [])) (by kernel_rfl) fun J => ?_
      exact KR.fin (by kernel_rfl) h
  · replace h := iteF c22 h
    refine KR.setV 57 (by kernel_rfl) (eF c22) ?_
    refine KR.run 10 [(4, .bool false)] 66 (s' := (.code (sub B [1, 1, 1, 1, 1, 1, 1, 1, 1, 1]) :: [])) (by kernel_rfl) fun J => ?_
    exact KR.fin (by kernel_rfl) h
theorem call {a0c0 : Int} {a0c1 : Int} {a0c2 : Int} {a0c3 : Int} {a0c4 : Int} {a1 : Int} {H : Heap} {r : Value × Heap} (h :
    ∃ (H_1 : Heap), H_1 = H.push (.row [.int .i64 a0c0, .int .i64 a0c1, .int .i64 a0c2, .int .i64 a0c3, .int .i64 a0c4] true) ∧
    (∃ (t8c0 : Int) (t8c1 : Int) (t8c2 : Int) (t8c3 : Int) (t8c4 : Int), ldAll H_1 H.next 0 [.int .i64 t8c0, .int .i64 t8c1, .int .i64 t8c2, .int .i64 t8c3, .int .i64 t8c4] ∧
    (∃ (t9 : Bool) (H_2 : Heap), xC Try.prog good 17 [.agg #[.int .i64 t8c0, .int .i64 t8c1, .int .i64 t8c2, .int .i64 t8c3, .int .i64 t8c4]] H_1 = some (.bool t9, H_2) ∧
    (if t9 = true then
    (∃ (t16 : Option Addr) (H_3 : Heap), xC Try.prog good 16 [] H_2 = some (.pointer t16, H_3) ∧
    (∃ (t19 : Int), ldc H_3 H.next 0 = some (.int .i64 t19) ∧
    (∃ (t20 : Int) (H_4 : Heap), xC Try.prog good 20 [.pointer t16, .int .i64 t19, .int .i64 200] H_3 = some (.int .i64 t20, H_4) ∧
    (if t20 = 0 then
    (∃ (t24c0 : Int) (t24c1 : Int) (t24c2 : Int) (t24c3 : Int) (t24c4 : Int), ldAll H_4 H.next 0 [.int .i64 t24c0, .int .i64 t24c1, .int .i64 t24c2, .int .i64 t24c3, .int .i64 t24c4] ∧
    (∃ (t25 : Int) (H_5 : Heap), xC Try.prog good 18 [.pointer t16, .agg #[.int .i64 t24c0, .int .i64 t24c1, .int .i64 t24c2, .int .i64 t24c3, .int .i64 t24c4]] H_4 = some (.int .i64 t25, H_5) ∧
    (L0 ((IntKind.wrap .i64 (Int.tmod (IntKind.wrap .u64 a1) 201))) (H.next) (0) (t16) ((!(t25 == 0))) H_5 r)))
    else
    (L0 ((IntKind.wrap .i64 (Int.tmod (IntKind.wrap .u64 a1) 201))) (H.next) (0) (t16) (true) H_4 r)))))
    else
    (∃ (t11 : Bool) (H_6 : Heap), xC Try.prog good 19 [] H_2 = some (.bool t11, H_6) ∧
    (r = (.bool t11, H_6))))))) :
    xC Try.prog good 8 [.agg #[.int .i64 a0c0, .int .i64 a0c1, .int .i64 a0c2, .int .i64 a0c3, .int .i64 a0c4], .int .i64 a1] H = some r := by
  refine KR.enter (fn := Try.f8) (c := B) (by kernel_rfl) (by kernel_rfl) ?_
  refine KR.run 2 [(0, .agg #[.int .i64 a0c0, .int .i64 a0c1, .int .i64 a0c2, .int .i64 a0c3, .int .i64 a0c4]), (1, .int .i64 a1)] 66 (s' := (.reg (opsAt (sub B [0])) [0, 1] :: S0)) (by kernel_rfl) fun J => ?_
  obtain ⟨H_1, q1, h⟩ := h
  refine KR.mk (w := pRow [.int .i64 a0c0, .int .i64 a0c1, .int .i64 a0c2, .int .i64 a0c3, .int .i64 a0c4]) (one_al (by kernel_rfl)) q1 ?_
  refine KR.run 5 [(1, .int .i64 a1), (2, .pointer (some ⟨H.next, 0, none⟩))] 66 (s' := (.reg (opsAt (sub B [1, 0, 0])) [0, 1, 2] :: S2)) (by kernel_rfl) fun J => ?_
  obtain ⟨t8c0, t8c1, t8c2, t8c3, t8c4, q2, h⟩ := h
  refine KR.rd (one_ldA (by kernel_rfl) q2) ?_
  obtain ⟨t9, H_2, q3, h⟩ := h
  refine KR.se (one_ca (by kernel_rfl) q3) ?_
  refine KR.run 2 [(1, .int .i64 a1), (2, .pointer (some ⟨H.next, 0, none⟩)), (10, .bool (!t9))] 66 (s' := (.code (sub B [1, 0, 1]) :: S1)) (by kernel_rfl) fun J => ?_
  by_cases c4 : t9 = true
  · replace h := iteT c4 h
    refine KR.br false (by kernel_rfl) (vB (nB (bT c4))) ?_
    refine KR.run 11 [(1, .int .i64 (IntKind.wrap .i64 (Int.tmod (IntKind.wrap .u64 a1) 201))), (2, .pointer (some ⟨H.next, 0, none⟩))] 66 (s' := (.reg (opsAt (sub B [1, 1, 1, 0])) [0, 1] :: S3)) (by kernel_rfl) fun J => ?_
    obtain ⟨t16, H_3, q5, h⟩ := h
    refine KR.se (one_ca (by kernel_rfl) q5) ?_
    refine KR.run 7 [(1, .int .i64 (IntKind.wrap .i64 (Int.tmod (IntKind.wrap .u64 a1) 201))), (2, .pointer (some ⟨H.next, 0, none⟩)), (5, .pointer t16), (17, .pointer t16), (18, .pointer (some ⟨H.next, 0, none⟩))] 66 (s' := (.reg (opsAt (sub B [1, 1, 1, 1, 0, 0])) [2, 3, 4, 5, 6, 7, 8, 9, 10] :: S5)) (by kernel_rfl) fun J => ?_
    obtain ⟨t19, q6, h⟩ := h
    refine KR.rd (one_ld (by kernel_rfl) q6) ?_
    obtain ⟨t20, H_4, q7, h⟩ := h
    refine KR.se (one_ca (by kernel_rfl) q7) ?_
    refine KR.run 2 [(1, .int .i64 (IntKind.wrap .i64 (Int.tmod (IntKind.wrap .u64 a1) 201))), (2, .pointer (some ⟨H.next, 0, none⟩)), (5, .pointer t16), (22, .bool (!(t20 == 0)))] 66 (s' := (.reg (opsAt (sub B [1, 1, 1, 1, 0, 0])) [6, 7, 8, 9, 10] :: S5)) (by kernel_rfl) fun J => ?_
    by_cases c8 : t20 = 0
    · replace h := iteT c8 h
      refine KR.setV 22 (by kernel_rfl) (nB (eT c8)) ?_
      refine KR.run 1 [(1, .int .i64 (IntKind.wrap .i64 (Int.tmod (IntKind.wrap .u64 a1) 201))), (2, .pointer (some ⟨H.next, 0, none⟩)), (5, .pointer t16), (22, .bool false), (23, .pointer t16)] 66 (s' := (.reg (opsAt (sub B [1, 1, 1, 1, 0, 0])) [7, 8, 9, 10] :: S5)) (by kernel_rfl) fun J => ?_
      obtain ⟨t24c0, t24c1, t24c2, t24c3, t24c4, q9, h⟩ := h
      refine KR.rd (one_ldA (by kernel_rfl) q9) ?_
      obtain ⟨t25, H_5, q10, h⟩ := h
      refine KR.se (one_ca (by kernel_rfl) q10) ?_
      exact KR.run 3 [(1, .int .i64 (IntKind.wrap .i64 (Int.tmod (IntKind.wrap .u64 a1) 201))), (2, .pointer (some ⟨H.next, 0, none⟩)), (5, .pointer t16), (27, .bool (!(t25 == 0)))] 66 (s' := (.code (sub B [1, 1, 1, 1, 0, 1]) :: S4)) (by kernel_rfl) h
    · replace h := iteF c8 h
      refine KR.setV 22 (by kernel_rfl) (nB (eF c8)) ?_
      exact KR.run 6 [(1, .int .i64 (IntKind.wrap .i64 (Int.tmod (IntKind.wrap .u64 a1) 201))), (2, .pointer (some ⟨H.next, 0, none⟩)), (5, .pointer t16), (27, .bool true)] 66 (s' := (.code (sub B [1, 1, 1, 1, 0, 1]) :: S4)) (by kernel_rfl) h
  · replace h := iteF c4 h
    refine KR.br true (by kernel_rfl) (vB (nB (bF c4))) ?_
    refine KR.run 2 [] 66 (s' := (.reg (opsAt (sub B [1, 0, 1, 0, 0])) [0, 1] :: S6)) (by kernel_rfl) fun J => ?_
    obtain ⟨t11, H_6, q11, h⟩ := h
    refine KR.se (one_ca (by kernel_rfl) q11) ?_
    refine KR.run 2 [(4, .bool t11)] 66 (s' := (.code (sub B [1, 0, 1, 0, 1]) :: S1)) (by kernel_rfl) fun J => ?_
    exact KR.fin (by kernel_rfl) h
end F8
end Go.X
