/- The walks of the functions: printed. -/
import Derived.Test.YtomibdncbioijaaXzGd
set_option linter.unusedVariables false
set_option maxRecDepth 100000
namespace Go.X
open Go Go.RowKit Go.Proofs
/-! #### 9 campanile/campanilelaw8.CellApart -/
namespace F9
noncomputable def B : Code := bodyOf Try.f9
noncomputable def S0 : List It := (.code (sub B [1]) :: [])
noncomputable def S1 : List It := (.code (sub B [1, 1]) :: [])
noncomputable def S4 : List It := (.code (sub B [1, 1, 1]) :: [])
noncomputable def S5 : List It := (.code (sub B [1, 1, 1, 1]) :: [])
noncomputable def S12 : List It := (.code (sub B [1, 1, 1, 1, 1]) :: [])
noncomputable def S13 : List It := (.code (sub B [1, 1, 1, 1, 1, 1]) :: [])
noncomputable def S14 : List It := (.code (sub B [1, 1, 1, 1, 1, 1, 1]) :: [])
noncomputable def S16 : List It := (.code (sub B [1, 1, 1, 1, 1, 1, 1, 1]) :: [])
noncomputable def S18 : List It := (.code (sub B [1, 1, 1, 1, 1, 1, 1, 1, 1]) :: [])
noncomputable def S19 : List It := (.code (sub B [1, 1, 1, 1, 1, 1, 1, 1, 1, 1]) :: [])
noncomputable def S2 : List It := (.code (sub B [1, 0, 1]) :: S1)
noncomputable def S3 : List It := (.code (sub B [1, 0, 1, 0, 1]) :: S1)
noncomputable def S6 : List It := (.blk 0 :: S5)
noncomputable def S15 : List It := (.code (sub B [1, 1, 1, 1, 1, 1, 0, 1]) :: S14)
noncomputable def S17 : List It := (.code (sub B [1, 1, 1, 1, 1, 1, 1, 0, 1]) :: S16)
noncomputable def S20 : List It := (.code (sub B [1, 1, 1, 1, 1, 0]) :: S13)
noncomputable def S7 : List It := (.lp (sub B [1, 1, 1, 0, 1, 0, 0]) :: S6)
noncomputable def S8 : List It := (.code (sub B [1, 1, 1, 0, 1, 0, 0, 1, 1]) :: S7)
noncomputable def S9 : List It := (.code (sub B [1, 1, 1, 0, 1, 0, 0, 1, 1, 1]) :: S7)
noncomputable def S10 : List It := (.blk 1 :: S9)
noncomputable def S11 : List It := (.code (sub B [1, 1, 1, 0, 1, 0, 0, 1, 1, 0, 0, 1, 1]) :: S10)
def L0 (t2b : Nat) (t2o : Nat) (t3b : Nat) (t3o : Nat) (t18 : Bool) (H : Heap) (r : Value × Heap) : Prop := ∀ J, KR Try.prog good Try.f9 S2 (mat J 104 [(2, .pointer (some ⟨t2b, t2o, none⟩)), (3, .pointer (some ⟨t3b, t3o, none⟩)), (18, .bool t18)]) H r
def L1 (t2b : Nat) (t2o : Nat) (t3b : Nat) (t3o : Nat) (t5 : Option Addr) (t21 : Int) (H : Heap) (r : Value × Heap) : Prop := ∀ J, KR Try.prog good Try.f9 S7 (mat J 104 [(2, .pointer (some ⟨t2b, t2o, none⟩)), (3, .pointer (some ⟨t3b, t3o, none⟩)), (5, .pointer t5), (21, .int .i64 t21)]) H r
def L2 (t2b : Nat) (t2o : Nat) (t3b : Nat) (t3o : Nat) (t5 : Option Addr) (t7 : Bool) (H : Heap) (r : Value × Heap) : Prop := ∀ J, KR Try.prog good Try.f9 S20 (mat J 104 [(2, .pointer (some ⟨t2b, t2o, none⟩)), (3, .pointer (some ⟨t3b, t3o, none⟩)), (5, .pointer t5), (7, .bool t7)]) H r
def L3 (t2b : Nat) (t2o : Nat) (t3b : Nat) (t3o : Nat) (t5 : Option Addr) (t7 : Bool) (t69 : Bool) (H : Heap) (r : Value × Heap) : Prop := ∀ J, KR Try.prog good Try.f9 S15 (mat J 104 [(2, .pointer (some ⟨t2b, t2o, none⟩)), (3, .pointer (some ⟨t3b, t3o, none⟩)), (5, .pointer t5), (7, .bool t7), (69, .bool t69)]) H r
def L4 (t3b : Nat) (t3o : Nat) (t5 : Option Addr) (t7 : Bool) (t79 : Bool) (H : Heap) (r : Value × Heap) : Prop := ∀ J, KR Try.prog good Try.f9 S17 (mat J 104 [(3, .pointer (some ⟨t3b, t3o, none⟩)), (5, .pointer t5), (7, .bool t7), (79, .bool t79)]) H r
theorem L0_step {t2b : Nat} {t2o : Nat} {t3b : Nat} {t3o : Nat} {t18 : Bool} {H : Heap} {r : Value × Heap} (h :
    if t18 = true then
    (∃ (t19 : Bool) (H_1 : Heap), xC Try.prog good 19 [] H = some (.bool t19, H_1) ∧
    (r = (.bool t19, H_1)))
    else
    (∃ (t20 : Option Addr) (H_2 : Heap), xC Try.prog good 16 [] H = some (.pointer t20, H_2) ∧
    (L1 (t2b) (t2o) (t3b) (t3o) (t20) 0 H_2 r))) :
    L0 t2b t2o t3b t3o t18 H r := by
  intro J
  show KR _ _ _ (.code (sub B [1, 0, 1]) :: S1) _ _ _
  by_cases c8 : t18 = true
  · replace h := iteT c8 h
    refine KR.br true (by kernel_rfl) (vB (bT c8)) ?_
    refine KR.run 2 [] 104 (s' := (.reg (opsAt (sub B [1, 0, 1, 0, 0])) [0, 1] :: S3)) (by kernel_rfl) fun J => ?_
    obtain ⟨t19, H_1, q9, h⟩ := h
    refine KR.se (one_ca (by kernel_rfl) q9) ?_
    refine KR.run 2 [(4, .bool t19)] 104 (s' := (.code (sub B [1, 0, 1, 0, 1]) :: S1)) (by kernel_rfl) fun J => ?_
    exact KR.fin (by kernel_rfl) h
  · replace h := iteF c8 h
    refine KR.br false (by kernel_rfl) (vB (bF c8)) ?_
    refine KR.run 3 [(2, .pointer (some ⟨t2b, t2o, none⟩)), (3, .pointer (some ⟨t3b, t3o, none⟩))] 104 (s' := (.reg (opsAt (sub B [1, 1, 0])) [0, 1] :: S4)) (by kernel_rfl) fun J => ?_
    obtain ⟨t20, H_2, q10, h⟩ := h
    refine KR.se (one_ca (by kernel_rfl) q10) ?_
    exact KR.run 9 [(2, .pointer (some ⟨t2b, t2o, none⟩)), (3, .pointer (some ⟨t3b, t3o, none⟩)), (5, .pointer t20), (21, .int .i64 0)] 104 (s' := (.lp (sub B [1, 1, 1, 0, 1, 0, 0]) :: S6)) (by kernel_rfl) h
theorem L1_step {t2b : Nat} {t2o : Nat} {t3b : Nat} {t3o : Nat} {t5 : Option Addr} {t21 : Int} {H : Heap} {r : Value × Heap} (h :
    if t21 < 4 then
    (∃ (t26 : Int) (H_1 : Heap), xC Try.prog good 20 [.pointer t5, .int .i64 t21, .int .i64 200] H = some (.int .i64 t26, H_1) ∧
    (if t26 = 0 then
    (L1 (t2b) (t2o) (t3b) (t3o) (t5) ((IntKind.wrap .i64 (t21 + 1))) H_1 r)
    else
    (r = (.bool false, H_1))))
    else
    (∃ (t30 : Int), ldc H t2b t2o = some (.int .i64 t30) ∧
    (∃ (t32 : Int), ldc H t3b t3o = some (.int .i64 t32) ∧
    (if t30 = t32 then
    (∃ (t36 : Int), ldc H t2b (t2o + 1) = some (.int .i64 t36) ∧
    (∃ (t38 : Int), ldc H t3b (t3o + 1) = some (.int .i64 t38) ∧
    (if t36 = t38 then
    (∃ (t43 : Int), ldc H t2b (t2o + 2) = some (.int .i64 t43) ∧
    (∃ (t45 : Int), ldc H t3b (t3o + 2) = some (.int .i64 t45) ∧
    (L2 (t2b) (t2o) (t3b) (t3o) (t5) ((t43 == t45)) H r)))
    else
    (L2 (t2b) (t2o) (t3b) (t3o) (t5) (false) H r))))
    else
    (L2 (t2b) (t2o) (t3b) (t3o) (t5) (false) H r))))) :
    L1 t2b t2o t3b t3o t5 t21 H r := by
  intro J
  show KR _ _ _ (.lp (sub B [1, 1, 1, 0, 1, 0, 0]) :: S6) _ _ _
  refine KR.run 6 [(2, .pointer (some ⟨t2b, t2o, none⟩)), (3, .pointer (some ⟨t3b, t3o, none⟩)), (5, .pointer t5), (21, .int .i64 t21), (22, .bool (decide (t21 < 4)))] 104 (s' := (.code (sub B [1, 1, 1, 0, 1, 0, 0, 1, 0]) :: S8)) (by kernel_rfl) fun J => ?_
  by_cases c11 : t21 < 4
  · replace h := iteT c11 h
    refine KR.br true (by kernel_rfl) (vB (dT c11)) ?_
    refine KR.run 12 [(2, .pointer (some ⟨t2b, t2o, none⟩)), (3, .pointer (some ⟨t3b, t3o, none⟩)), (5, .pointer t5), (21, .int .i64 t21), (24, .pointer t5), (25, .int .i64 t21)] 104 (s' := (.reg (opsAt (sub B [1, 1, 1, 0, 1, 0, 0, 1, 1, 0, 0, 1, 0])) [2, 3] :: S11)) (by kernel_rfl) fun J => ?_
    obtain ⟨t26, H_1, q12, h⟩ := h
    refine KR.se (one_ca (by kernel_rfl) q12) ?_
    refine KR.run 2 [(2, .pointer (some ⟨t2b, t2o, none⟩)), (3, .pointer (some ⟨t3b, t3o, none⟩)), (5, .pointer t5), (21, .int .i64 t21), (27, .bool (!(t26 == 0)))] 104 (s' := (.code (sub B [1, 1, 1, 0, 1, 0, 0, 1, 1, 0, 0, 1, 1]) :: S10)) (by kernel_rfl) fun J => ?_
    by_cases c13 : t26 = 0
    · replace h := iteT c13 h
      refine KR.br false (by kernel_rfl) (vB (nB (eT c13))) ?_
      exact KR.run 6 [(2, .pointer (some ⟨t2b, t2o, none⟩)), (3, .pointer (some ⟨t3b, t3o, none⟩)), (5, .pointer t5), (21, .int .i64 (IntKind.wrap .i64 (t21 + 1)))] 104 (s' := (.lp (sub B [1, 1, 1, 0, 1, 0, 0]) :: S6)) (by kernel_rfl) h
    · replace h := iteF c13 h
      refine KR.br true (by kernel_rfl) (vB (nB (eF c13))) ?_
      refine KR.run 4 [(4, .bool false)] 104 (s' := (.code (sub B [1, 1, 1, 0, 1, 0, 0, 1, 1, 0, 0, 1, 1, 0, 1]) :: S10)) (by kernel_rfl) fun J => ?_
      exact KR.fin (by kernel_rfl) h
  · replace h := iteF c11 h
    refine KR.br false (by kernel_rfl) (vB (dF c11)) ?_
    refine KR.run 4 [(2, .pointer (some ⟨t2b, t2o, none⟩)), (3, .pointer (some ⟨t3b, t3o, none⟩)), (5, .pointer t5), (29, .pointer (some ⟨t2b, t2o, none⟩))] 104 (s' := (.reg (opsAt (sub B [1, 1, 1, 1, 0])) [1, 2, 3, 4, 5, 6, 7, 8, 9, 10, 11, 12, 13, 14, 15, 16, 17, 18, 19] :: S12)) (by kernel_rfl) fun J => ?_
    obtain ⟨t30, q14, h⟩ := h
    refine KR.rd (one_ld (by kernel_rfl) q14) ?_
    refine KR.run 1 [(2, .pointer (some ⟨t2b, t2o, none⟩)), (3, .pointer (some ⟨t3b, t3o, none⟩)), (5, .pointer t5), (30, .int .i64 t30), (31, .pointer (some ⟨t3b, t3o, none⟩))] 104 (s' := (.reg (opsAt (sub B [1, 1, 1, 1, 0])) [3, 4, 5, 6, 7, 8, 9, 10, 11, 12, 13, 14, 15, 16, 17, 18, 19] :: S12)) (by kernel_rfl) fun J => ?_
    obtain ⟨t32, q15, h⟩ := h
    refine KR.rd (one_ld (by kernel_rfl) q15) ?_
    refine KR.run 2 [(2, .pointer (some ⟨t2b, t2o, none⟩)), (3, .pointer (some ⟨t3b, t3o, none⟩)), (5, .pointer t5), (34, .bool (t30 == t32))] 104 (s' := (.reg (opsAt (sub B [1, 1, 1, 1, 0])) [6, 7, 8, 9, 10, 11, 12, 13, 14, 15, 16, 17, 18, 19] :: S12)) (by kernel_rfl) fun J => ?_
    by_cases c16 : t30 = t32
    · replace h := iteT c16 h
      refine KR.setV 34 (by kernel_rfl) (eT c16) ?_
      refine KR.run 1 [(2, .pointer (some ⟨t2b, t2o, none⟩)), (3, .pointer (some ⟨t3b, t3o, none⟩)), (5, .pointer t5), (34, .bool true), (35, .pointer (some ⟨t2b, (t2o + 1), none⟩))] 104 (s' := (.reg (opsAt (sub B [1, 1, 1, 1, 0])) [7, 8, 9, 10, 11, 12, 13, 14, 15, 16, 17, 18, 19] :: S12)) (by kernel_rfl) fun J => ?_
      obtain ⟨t36, q17, h⟩ := h
      refine KR.rd (one_ld (by kernel_rfl) q17) ?_
      refine KR.run 1 [(2, .pointer (some ⟨t2b, t2o, none⟩)), (3, .pointer (some ⟨t3b, t3o, none⟩)), (5, .pointer t5), (34, .bool true), (36, .int .i64 t36), (37, .pointer (some ⟨t3b, (t3o + 1), none⟩))] 104 (s' := (.reg (opsAt (sub B [1, 1, 1, 1, 0])) [9, 10, 11, 12, 13, 14, 15, 16, 17, 18, 19] :: S12)) (by kernel_rfl) fun J => ?_
      obtain ⟨t38, q18, h⟩ := h
      refine KR.rd (one_ld (by kernel_rfl) q18) ?_
      refine KR.run 3 [(2, .pointer (some ⟨t2b, t2o, none⟩)), (3, .pointer (some ⟨t3b, t3o, none⟩)), (5, .pointer t5), (41, .bool (t36 == t38))] 104 (s' := (.reg (opsAt (sub B [1, 1, 1, 1, 0])) [13, 14, 15, 16, 17, 18, 19] :: S12)) (by kernel_rfl) fun J => ?_
      by_cases c19 : t36 = t38
      · replace h := iteT c19 h
        refine KR.setV 41 (by kernel_rfl) (eT c19) ?_
        refine KR.run 1 [(2, .pointer (some ⟨t2b, t2o, none⟩)), (3, .pointer (some ⟨t3b, t3o, none⟩)), (5, .pointer t5), (41, .bool true), (42, .pointer (some ⟨t2b, (t2o + 2), none⟩))] 104 (s' := (.reg (opsAt (sub B [1, 1, 1, 1, 0])) [14, 15, 16, 17, 18, 19] :: S12)) (by kernel_rfl) fun J => ?_
        obtain ⟨t43, q20, h⟩ := h
        refine KR.rd (one_ld (by kernel_rfl) q20) ?_
        refine KR.run 1 [(2, .pointer (some ⟨t2b, t2o, none⟩)), (3, .pointer (some ⟨t3b, t3o, none⟩)), (5, .pointer t5), (41, .bool true), (43, .int .i64 t43), (44, .pointer (some ⟨t3b, (t3o + 2), none⟩))] 104 (s' := (.reg (opsAt (sub B [1, 1, 1, 1, 0])) [16, 17, 18, 19] :: S12)) (by kernel_rfl) fun J => ?_
        obtain ⟨t45, q21, h⟩ := h
        refine KR.rd (one_ld (by kernel_rfl) q21) ?_
        exact KR.run 5 [(2, .pointer (some ⟨t2b, t2o, none⟩)), (3, .pointer (some ⟨t3b, t3o, none⟩)), (5, .pointer t5), (7, .bool (t43 == t45))] 104 (s' := (.code (sub B [1, 1, 1, 1, 1, 0]) :: S13)) (by kernel_rfl) h
      · replace h := iteF c19 h
        refine KR.setV 41 (by kernel_rfl) (eF c19) ?_
        exact KR.run 9 [(2, .pointer (some ⟨t2b, t2o, none⟩)), (3, .pointer (some ⟨t3b, t3o, none⟩)), (5, .pointer t5), (7, .bool false)] 104 (s' := (.code (sub B [1, 1, 1, 1, 1, 0]) :: S13)) (by kernel_rfl) h
    · replace h := iteF c16 h
      refine KR.setV 34 (by kernel_rfl) (eF c16) ?_
      exact KR.run 16 [(2, .pointer (some ⟨t2b, t2o, none⟩)), (3, .pointer (some ⟨t3b, t3o, none⟩)), (5, .pointer t5), (7, .bool false)] 104 (s' := (.code (sub B [1, 1, 1, 1, 1, 0]) :: S13)) (by kernel_rfl) h
theorem L2_step {t2b : Nat} {t2o : Nat} {t3b : Nat} {t3o : Nat} {t5 : Option Addr} {t7 : Bool} {H : Heap} {r : Value × Heap} (h :
    ∃ (t49c0 : Int) (t49c1 : Int) (t49c2 : Int) (t49c3 : Int) (t49c4 : Int), ldAll H t2b t2o [.int .i64 t49c0, .int .i64 t49c1, .int .i64 t49c2, .int .i64 t49c3, .int .i64 t49c4] ∧
    (∃ (t50 : Int) (H_1 : Heap), xC Try.prog good 18 [.pointer t5, .agg #[.int .i64 t49c0, .int .i64 t49c1, .int .i64 t49c2, .int .i64 t49c3, .int .i64 t49c4]] H = some (.int .i64 t50, H_1) ∧
    (∃ (t52c0 : Int) (t52c1 : Int) (t52c2 : Int) (t52c3 : Int) (t52c4 : Int), ldAll H t3b t3o [.int .i64 t52c0, .int .i64 t52c1, .int .i64 t52c2, .int .i64 t52c3, .int .i64 t52c4] ∧
    (∃ (t53 : Int) (H_2 : Heap), xC Try.prog good 18 [.pointer t5, .agg #[.int .i64 t52c0, .int .i64 t52c1, .int .i64 t52c2, .int .i64 t52c3, .int .i64 t52c4]] H_1 = some (.int .i64 t53, H_2) ∧
    (ldAll H_1 t3b t3o [.int .i64 t52c0, .int .i64 t52c1, .int .i64 t52c2, .int .i64 t52c3, .int .i64 t52c4] ∧
    (if t50 = 0 then
    (if ((t53 == 9) == t7) = true then
    (if t7 = true then
    (L3 (t2b) (t2o) (t3b) (t3o) (t5) (t7) (false) H_2 r)
    else
    (L3 (t2b) (t2o) (t3b) (t3o) (t5) (t7) ((!(t53 == 0))) H_2 r))
    else
    (L3 (t2b) (t2o) (t3b) (t3o) (t5) (t7) (true) H_2 r))
    else
    (L3 (t2b) (t2o) (t3b) (t3o) (t5) (t7) (true) H_2 r))))))) :
    L2 t2b t2o t3b t3o t5 t7 H r := by
  intro J
  show KR _ _ _ (.code (sub B [1, 1, 1, 1, 1, 0]) :: S13) _ _ _
  refine KE.start H (by kernel_rfl) (by kernel_rfl) ?_
  refine KE.run 1 [(2, .pointer (some ⟨t2b, t2o, none⟩)), (3, .pointer (some ⟨t3b, t3o, none⟩)), (5, .pointer t5), (7, .bool t7), (48, .pointer t5)] 104 1 (by kernel_rfl) fun J => ?_
  obtain ⟨t49c0, t49c1, t49c2, t49c3, t49c4, q22, h⟩ := h
  refine KE.rdN (one_ldA (by kernel_rfl) q22) (by kernel_rfl) ?_
  obtain ⟨t50, H_1, q23, h⟩ := h
  refine KE.se (one_ca (by kernel_rfl) q23) (by kernel_rfl) ?_
  refine KE.run 1 [(2, .pointer (some ⟨t2b, t2o, none⟩)), (3, .pointer (some ⟨t3b, t3o, none⟩)), (5, .pointer t5), (7, .bool t7), (50, .int .i64 t50), (51, .pointer t5)] 104 4 (by kernel_rfl) fun J => ?_
  obtain ⟨t52c0, t52c1, t52c2, t52c3, t52c4, q24, h⟩ := h
  refine KE.rdF (one_ldA (by kernel_rfl) q24) (by kernel_rfl) ?_
  obtain ⟨t53, H_2, q25, h⟩ := h
  refine KE.se (one_ca (by kernel_rfl) q25) (by kernel_rfl) ?_
  refine KE.run 2 [(2, .pointer (some ⟨t2b, t2o, none⟩)), (3, .pointer (some ⟨t3b, t3o, none⟩)), (5, .pointer t5), (7, .bool t7), (8, .int .i64 t50), (9, .int .i64 t53)] 104 8 (by kernel_rfl) fun J => ?_
  obtain ⟨q26, h⟩ := h
  refine KE.fin (H' := H_2) (by kernel_rfl) (rdsS (rfl) (rd_ok (Hs := [H_1]) (by kernel_rfl) (by kernel_rfl) ⟨one_ldA (by kernel_rfl) q26, trivial⟩)) (by kernel_rfl) ?_
  refine KR.run 6 [(2, .pointer (some ⟨t2b, t2o, none⟩)), (3, .pointer (some ⟨t3b, t3o, none⟩)), (5, .pointer t5), (7, .bool t7), (9, .int .i64 t53), (56, .bool (!(t50 == 0)))] 104 (s' := (.reg (opsAt (sub B [1, 1, 1, 1, 1, 1, 0, 0])) [3, 4, 5, 6, 7, 8, 9, 10, 11, 12, 13, 14, 15] :: S15)) (by kernel_rfl) fun J => ?_
  by_cases c27 : t50 = 0
  · replace h := iteT c27 h
    refine KR.setV 56 (by kernel_rfl) (nB (eT c27)) ?_
    refine KR.run 6 [(2, .pointer (some ⟨t2b, t2o, none⟩)), (3, .pointer (some ⟨t3b, t3o, none⟩)), (5, .pointer t5), (7, .bool t7), (9, .int .i64 t53), (62, .bool (!((t53 == 9) == t7)))] 104 (s' := (.reg (opsAt (sub B [1, 1, 1, 1, 1, 1, 0, 0])) [9, 10, 11, 12, 13, 14, 15] :: S15)) (by kernel_rfl) fun J => ?_
    by_cases c28 : ((t53 == 9) == t7) = true
    · replace h := iteT c28 h
      refine KR.setV 62 (by kernel_rfl) (nB (bT c28)) ?_
      refine KR.run 3 [(2, .pointer (some ⟨t2b, t2o, none⟩)), (3, .pointer (some ⟨t3b, t3o, none⟩)), (5, .pointer t5), (7, .bool t7), (9, .int .i64 t53), (62, .bool false), (65, .bool (!t7))] 104 (s' := (.reg (opsAt (sub B [1, 1, 1, 1, 1, 1, 0, 0])) [12, 13, 14, 15] :: S15)) (by kernel_rfl) fun J => ?_
      by_cases c29 : t7 = true
      · replace h := iteT c29 h
        refine KR.setV 65 (by kernel_rfl) (nB (bT c29)) ?_
        exact KR.run 5 [(2, .pointer (some ⟨t2b, t2o, none⟩)), (3, .pointer (some ⟨t3b, t3o, none⟩)), (5, .pointer t5), (7, .bool t7), (69, .bool false)] 104 (s' := (.code (sub B [1, 1, 1, 1, 1, 1, 0, 1]) :: S14)) (by kernel_rfl) h
      · replace h := iteF c29 h
        refine KR.setV 65 (by kernel_rfl) (nB (bF c29)) ?_
        exact KR.run 5 [(2, .pointer (some ⟨t2b, t2o, none⟩)), (3, .pointer (some ⟨t3b, t3o, none⟩)), (5, .pointer t5), (7, .bool t7), (69, .bool (!(t53 == 0)))] 104 (s' := (.code (sub B [1, 1, 1, 1, 1, 1, 0, 1]) :: S14)) (by kernel_rfl) h
    · replace h := iteF c28 h
      refine KR.setV 62 (by kernel_rfl) (nB (bF c28)) ?_
      exact KR.run 8 [(2, .pointer (some ⟨t2b, t2o, none⟩)), (3, .pointer (some ⟨t3b, t3o, none⟩)), (5, .pointer t5), (7, .bool t7), (69, .bool true)] 104 (s' := (.code (sub B [1, 1, 1, 1, 1, 1, 0, 1]) :: S14)) (by kernel_rfl) h
  · replace h := iteF c27 h
    refine KR.setV 56 (by kernel_rfl) (nB (eF c27)) ?_
    exact KR.run 14 [(2, .pointer (some ⟨t2b, t2o, none⟩)), (3, .pointer (some ⟨t3b, t3o, none⟩)), (5, .pointer t5), (7, .bool t7), (69, .bool true)] 104 (s' := (.code (sub B [1, 1, 1, 1, 1, 1, 0, 1]) :: S14)) (by kernel_rfl) h
theorem L3_step {t2b : Nat} {t2o : Nat} {t3b : Nat} {t3o : Nat} {t5 : Option Addr} {t7 : Bool} {t69 : Bool} {H : Heap} {r : Value × Heap} (h :
    if t69 = true then
    (r = (.bool false, H))
    else
    (∃ (t71c0 : Int) (t71c1 : Int) (t71c2 : Int) (t71c3 : Int) (t71c4 : Int), ldAll H t2b t2o [.int .i64 t71c0, .int .i64 t71c1, .int .i64 t71c2, .int .i64 t71c3, .int .i64 t71c4] ∧
    (∃ (t72 : Int) (H_1 : Heap), xC Try.prog good 26 [.pointer t5, .agg #[.int .i64 t71c0, .int .i64 t71c1, .int .i64 t71c2, .int .i64 t71c3, .int .i64 t71c4]] H = some (.int .i64 t72, H_1) ∧
    (if t72 = 0 then
    (∃ (t76c0 : Int) (t76c1 : Int) (t76c2 : Int) (t76c3 : Int) (t76c4 : Int), ldAll H_1 t2b t2o [.int .i64 t76c0, .int .i64 t76c1, .int .i64 t76c2, .int .i64 t76c3, .int .i64 t76c4] ∧
    (∃ (t77 : Int) (H_2 : Heap), xC Try.prog good 26 [.pointer t5, .agg #[.int .i64 t76c0, .int .i64 t76c1, .int .i64 t76c2, .int .i64 t76c3, .int .i64 t76c4]] H_1 = some (.int .i64 t77, H_2) ∧
    (L4 (t3b) (t3o) (t5) (t7) ((!(t77 == 6))) H_2 r)))
    else
    (L4 (t3b) (t3o) (t5) (t7) (true) H_1 r))))) :
    L3 t2b t2o t3b t3o t5 t7 t69 H r := by
  intro J
  show KR _ _ _ (.code (sub B [1, 1, 1, 1, 1, 1, 0, 1]) :: S14) _ _ _
  by_cases c30 : t69 = true
  · replace h := iteT c30 h
    refine KR.br true (by kernel_rfl) (vB (bT c30)) ?_
    refine KR.run 4 [(4, .bool false)] 104 (s' := (.code (sub B [1, 1, 1, 1, 1, 1, 0, 1, 0, 1]) :: S14)) (by kernel_rfl) fun J => ?_
    exact KR.fin (by kernel_rfl) h
  · replace h := iteF c30 h
    refine KR.br false (by kernel_rfl) (vB (bF c30)) ?_
    refine KR.run 5 [(2, .pointer (some ⟨t2b, t2o, none⟩)), (3, .pointer (some ⟨t3b, t3o, none⟩)), (5, .pointer t5), (7, .bool t7), (70, .pointer t5)] 104 (s' := (.reg (opsAt (sub B [1, 1, 1, 1, 1, 1, 1, 0, 0])) [1, 2, 3, 4, 5, 6, 7, 8, 9] :: S17)) (by kernel_rfl) fun J => ?_
    obtain ⟨t71c0, t71c1, t71c2, t71c3, t71c4, q31, h⟩ := h
    refine KR.rd (one_ldA (by kernel_rfl) q31) ?_
    obtain ⟨t72, H_1, q32, h⟩ := h
    refine KR.se (one_ca (by kernel_rfl) q32) ?_
    refine KR.run 2 [(2, .pointer (some ⟨t2b, t2o, none⟩)), (3, .pointer (some ⟨t3b, t3o, none⟩)), (5, .pointer t5), (7, .bool t7), (74, .bool (!(t72 == 0)))] 104 (s' := (.reg (opsAt (sub B [1, 1, 1, 1, 1, 1, 1, 0, 0])) [5, 6, 7, 8, 9] :: S17)) (by kernel_rfl) fun J => ?_
    by_cases c33 : t72 = 0
    · replace h := iteT c33 h
      refine KR.setV 74 (by kernel_rfl) (nB (eT c33)) ?_
      refine KR.run 1 [(2, .pointer (some ⟨t2b, t2o, none⟩)), (3, .pointer (some ⟨t3b, t3o, none⟩)), (5, .pointer t5), (7, .bool t7), (74, .bool false), (75, .pointer t5)] 104 (s' := (.reg (opsAt (sub B [1, 1, 1, 1, 1, 1, 1, 0, 0])) [6, 7, 8, 9] :: S17)) (by kernel_rfl) fun J => ?_
      obtain ⟨t76c0, t76c1, t76c2, t76c3, t76c4, q34, h⟩ := h
      refine KR.rd (one_ldA (by kernel_rfl) q34) ?_
      obtain ⟨t77, H_2, q35, h⟩ := h
      refine KR.se (one_ca (by kernel_rfl) q35) ?_
      exact KR.run 3 [(3, .pointer (some ⟨t3b, t3o, none⟩)), (5, .pointer t5), (7, .bool t7), (79, .bool (!(t77 == 6)))] 104 (s' := (.code (sub B [1, 1, 1, 1, 1, 1, 1, 0, 1]) :: S16)) (by kernel_rfl) h
    · replace h := iteF c33 h
      refine KR.setV 74 (by kernel_rfl) (nB (eF c33)) ?_
      exact KR.run 6 [(3, .pointer (some ⟨t3b, t3o, none⟩)), (5, .pointer t5), (7, .bool t7), (79, .bool true)] 104 (s' := (.code (sub B [1, 1, 1, 1, 1, 1, 1, 0, 1]) :: S16)) (by kernel_rfl) h
theorem L4_step {t3b : Nat} {t3o : Nat} {t5 : Option Addr} {t7 : Bool} {t79 : Bool} {H : Heap} {r : Value × Heap} (h :
    if t79 = true then
    (r = (.bool false, H))
    else
    (∃ (t81c0 : Int) (t81c1 : Int) (t81c2 : Int) (t81c3 : Int) (t81c4 : Int), ldAll H t3b t3o [.int .i64 t81c0, .int .i64 t81c1, .int .i64 t81c2, .int .i64 t81c3, .int .i64 t81c4] ∧
    (∃ (t82 : Int) (H_1 : Heap), xC Try.prog good 18 [.pointer t5, .agg #[.int .i64 t81c0, .int .i64 t81c1, .int .i64 t81c2, .int .i64 t81c3, .int .i64 t81c4]] H = some (.int .i64 t82, H_1) ∧
    (if ((t82 == 0) == t7) = true then
    (∃ (t89a : Option Addr) (t89n : Nat) (t89k : Nat) (H_2 : Heap), xC Try.prog good 25 [.pointer t5] H_1 = some (.slice t89a t89n t89k, H_2) ∧
    (if ((t89n : Nat) : Int) = 1 then
    (∃ (t95a : Option Addr) (t95n : Nat) (t95k : Nat) (H_3 : Heap), xC Try.prog good 25 [.pointer t5] H_2 = some (.slice t95a t95n t95k, H_3) ∧
    (∃ (t95ab t95ao : Nat), t95a = some ⟨t95ab, t95ao, none⟩ ∧
    ((0 : Int) ≤ 0 ∧ 0 < ((t95n : Nat) : Int) ∧
    (∃ (t97c0 : Int) (t97c1 : Int) (t97c2 : Int) (t97c3 : Int) (t97c4 : Int), ldAll H_3 t95ab t95ao [.int .i64 t97c0, .int .i64 t97c1, .int .i64 t97c2, .int .i64 t97c3, .int .i64 t97c4] ∧
    (∃ (t98c0 : Int) (t98c1 : Int) (t98c2 : Int) (t98c3 : Int) (t98c4 : Int), ldAll H_2 t3b t3o [.int .i64 t98c0, .int .i64 t98c1, .int .i64 t98c2, .int .i64 t98c3, .int .i64 t98c4] ∧
    (if ((t97c0 == t98c0) && ((t97c1 == t98c1) && ((t97c2 == t98c2) && ((t97c3 == t98c3) && ((t97c4 == t98c4) && true))))) = true then
    (∃ (t102 : Bool) (H_4 : Heap), xC Try.prog good 19 [] H_3 = some (.bool t102, H_4) ∧
    (ldAll H_3 t3b t3o [.int .i64 t98c0, .int .i64 t98c1, .int .i64 t98c2, .int .i64 t98c3, .int .i64 t98c4] ∧
    (r = (.bool t102, H_4))))
    else
    (ldAll H_3 t3b t3o [.int .i64 t98c0, .int .i64 t98c1, .int .i64 t98c2, .int .i64 t98c3, .int .i64 t98c4] ∧
    (r = (.bool false, H_3)))))))))
    else
    ((r = (.bool false, H_2)))))
    else
    ((r = (.bool false, H_1))))))) :
    L4 t3b t3o t5 t7 t79 H r := by
  intro J
  show KR _ _ _ (.code (sub B [1, 1, 1, 1, 1, 1, 1, 0, 1]) :: S16) _ _ _
  by_cases c36 : t79 = true
  · replace h := iteT c36 h
    refine KR.br true (by kernel_rfl) (vB (bT c36)) ?_
    refine KR.run 4 [(4, .bool false)] 104 (s' := (.code (sub B [1, 1, 1, 1, 1, 1, 1, 0, 1, 0, 1]) :: S16)) (by kernel_rfl) fun J => ?_
    exact KR.fin (by kernel_rfl) h
  · replace h := iteF c36 h
    refine KR.br false (by kernel_rfl) (vB (bF c36)) ?_
    refine KR.run 4 [(3, .pointer (some ⟨t3b, t3o, none⟩)), (5, .pointer t5), (7, .bool t7), (80, .pointer t5)] 104 (s' := (.reg (opsAt (sub B [1, 1, 1, 1, 1, 1, 1, 1, 0])) [1, 2, 3] :: S18)) (by kernel_rfl) fun J => ?_
    obtain ⟨t81c0, t81c1, t81c2, t81c3, t81c4, q37, h⟩ := h
    refine KR.rd (one_ldA (by kernel_rfl) q37) ?_
    obtain ⟨t82, H_1, q38, h⟩ := h
    refine KR.se (one_ca (by kernel_rfl) q38) ?_
    refine KR.run 3 [(3, .pointer (some ⟨t3b, t3o, none⟩)), (5, .pointer t5), (7, .bool t7), (10, .int .i64 t82)] 104 (s' := (.code (sub B [1, 1, 1, 1, 1, 1, 1, 1, 1, 0]) :: S19)) (by kernel_rfl) fun J => ?_
    refine KE.start H_1 (by kernel_rfl) (by kernel_rfl) ?_
    refine KE.run 5 [(3, .pointer (some ⟨t3b, t3o, none⟩)), (5, .pointer t5), (87, .bool ((t82 == 0) == t7))] 104 5 (by kernel_rfl) fun J => ?_
    by_cases c39 : ((t82 == 0) == t7) = true
    · replace h := iteT c39 h
      refine KE.setV 87 (by kernel_rfl) (bT c39) ?_
      refine KE.run 1 [(3, .pointer (some ⟨t3b, t3o, none⟩)), (5, .pointer t5), (87, .bool true), (88, .pointer t5)] 104 6 (by kernel_rfl) fun J => ?_
      obtain ⟨t89a, t89n, t89k, H_2, q40, h⟩ := h
      refine KE.se (one_ca (by kernel_rfl) q40) (by kernel_rfl) ?_
      refine KE.run 4 [(3, .pointer (some ⟨t3b, t3o, none⟩)), (5, .pointer t5), (93, .bool (((t89n : Nat) : Int) == 1))] 104 11 (by kernel_rfl) fun J => ?_
      by_cases c41 : ((t89n : Nat) : Int) = 1
      · replace h := iteT c41 h
        refine KE.setV 93 (by kernel_rfl) (eT c41) ?_
        refine KE.run 1 [(3, .pointer (some ⟨t3b, t3o, none⟩)), (93, .bool true), (94, .pointer t5)] 104 12 (by kernel_rfl) fun J => ?_
        obtain ⟨t95a, t95n, t95k, H_3, q42, h⟩ := h
        refine KE.se (one_ca (by kernel_rfl) q42) (by kernel_rfl) ?_
        obtain ⟨t95ab, t95ao, rfl, h⟩ := h
        obtain ⟨q43, q43x, h⟩ := h
        refine KE.p (one_ix 5 t95ab t95ao (by kernel_rfl) q43 q43x) ?_
        obtain ⟨t97c0, t97c1, t97c2, t97c3, t97c4, q44, h⟩ := h
        refine KE.rdN (one_ldA (by kernel_rfl) q44) (by kernel_rfl) ?_
        obtain ⟨t98c0, t98c1, t98c2, t98c3, t98c4, q45, h⟩ := h
        refine KE.rdF (one_ldA (by kernel_rfl) q45) (by kernel_rfl) ?_
        refine KE.run 3 [(101, .bool ((t97c0 == t98c0) && ((t97c1 == t98c1) && ((t97c2 == t98c2) && ((t97c3 == t98c3) && ((t97c4 == t98c4) && true))))))] 104 19 (by kernel_rfl) fun J => ?_
        by_cases c46 : ((t97c0 == t98c0) && ((t97c1 == t98c1) && ((t97c2 == t98c2) && ((t97c3 == t98c3) && ((t97c4 == t98c4) && true))))) = true
        · replace h := iteT c46 h
          refine KE.setV 101 (by kernel_rfl) (bT c46) ?_
          obtain ⟨t102, H_4, q47, h⟩ := h
          refine KE.se (one_ca (by kernel_rfl) q47) (by kernel_rfl) ?_
          refine KE.run 2 [(4, .bool t102)] 104 22 (by kernel_rfl) fun J => ?_
          obtain ⟨q48, h⟩ := h
          refine KE.fin (H' := H_4) (by kernel_rfl) (rdsS (rfl) (rd_ok (Hs := [H_3]) (by kernel_rfl) (by kernel_rfl) ⟨one_ldA (by kernel_rfl) q48, trivial⟩)) (by kernel_rfl) ?_
          refine KR.run 0 [(4, .bool t102)] 104 (s' := (.code (sub B [1, 1, 1, 1, 1, 1, 1, 1, 1, 1]) :: [])) (by kernel_rfl) fun J => ?_
          exact KR.fin (by kernel_rfl) h
        · replace h := iteF c46 h
          refine KE.setV 101 (by kernel_rfl) (bF c46) ?_
          refine KE.no (Gc := H_3) (by kernel_rfl) (by kernel_rfl) (by kernel_rfl) ?_
          refine KE.run 2 [(4, .bool false)] 104 22 (by kernel_rfl) fun J => ?_
          obtain ⟨q49, h⟩ := h
          refine KE.fin (H' := H_3) (by kernel_rfl) (rdsS (rfl) (rd_ok (Hs := [H_3]) (by kernel_rfl) (by kernel_rfl) ⟨one_ldA (by kernel_rfl) q49, trivial⟩)) (by kernel_rfl) ?_
          refine KR.run 0 [(4, .bool false)] 104 (s' := (.code (sub B [1, 1, 1, 1, 1, 1, 1, 1, 1, 1]) :: [])) (by kernel_rfl) fun J => ?_
          exact KR.fin (by kernel_rfl) h
      · replace h := iteF c41 h
        refine KE.setV 93 (by kernel_rfl) (eF c41) ?_
        refine KE.run 1 [(3, .pointer (some ⟨t3b, t3o, none⟩)), (93, .bool false), (94, undef)] 104 12 (by kernel_rfl) fun J => ?_
        refine KE.no (Gc := H_2) (by kernel_rfl) (by kernel_rfl) (by kernel_rfl) ?_
        refine KE.run 6 [(101, .bool false)] 104 19 (by kernel_rfl) fun J => ?_
        refine KE.no (Gc := H_2) (by kernel_rfl) (by kernel_rfl) (by kernel_rfl) ?_
        refine KE.run 2 [(4, .bool false)] 104 22 (by kernel_rfl) fun J => ?_
        refine KE.fin (H' := H_2) (by kernel_rfl) (rfl) (by kernel_rfl) ?_
        refine KR.run 0 [(4, .bool false)] 104 (s' := (.code (sub B [1, 1, 1, 1, 1, 1, 1, 1, 1, 1]) :: [])) (by kernel_rfl) fun J => ?_
        exact KR.fin (by kernel_rfl) h
    · replace h := iteF c39 h
      refine KE.setV 87 (by kernel_rfl) (bF c39) ?_
      refine KE.run 1 [(3, .pointer (some ⟨t3b, t3o, none⟩)), (5, .pointer t5), (87, .bool false), (88, undef)] 104 6 (by kernel_rfl) fun J => ?_
      refine KE.no (Gc := H_1) (by kernel_rfl) (by kernel_rfl) (by kernel_rfl) ?_
      refine KE.run 5 [(3, .pointer (some ⟨t3b, t3o, none⟩)), (93, .bool false), (94, undef)] 104 12 (by kernel_rfl) fun J => ?_
      refine KE.no (Gc := H_1) (by kernel_rfl) (by kernel_rfl) (by kernel_rfl) ?_
      refine KE.run 6 [(101, .bool false)] 104 19 (by kernel_rfl) fun J => ?_
      refine KE.no (Gc := H_1) (by kernel_rfl) (by kernel_rfl) (by kernel_rfl) ?_
      refine KE.run 2 [(4, .bool false)] 104 22 (by kernel_rfl) fun J => ?_
      refine KE.fin (H' := H_1) (by kernel_rfl) (rfl) (by kernel_rfl) ?_
      refine KR.run 0 [(4, .bool false)] 104 (s' := (.code (sub B [1, 1, 1, 1, 1, 1, 1, 1, 1, 1]) :: [])) (by kernel_rfl) fun J => ?_
      exact KR.fin (by kernel_rfl) h
theorem call {a0c0 : Int} {a0c1 : Int} {a0c2 : Int} {a0c3 : Int} {a0c4 : Int} {a1c0 : Int} {a1c1 : Int} {a1c2 : Int} {a1c3 : Int} {a1c4 : Int} {H : Heap} {r : Value × Heap} (h :
    ∃ (H_1 : Heap), H_1 = H.push (.row [.int .i64 a0c0, .int .i64 a0c1, .int .i64 a0c2, .int .i64 a0c3, .int .i64 a0c4] true) ∧
    (∃ (H_2 : Heap), H_2 = H_1.push (.row [.int .i64 a1c0, .int .i64 a1c1, .int .i64 a1c2, .int .i64 a1c3, .int .i64 a1c4] true) ∧
    (∃ (t11c0 : Int) (t11c1 : Int) (t11c2 : Int) (t11c3 : Int) (t11c4 : Int), ldAll H_2 H.next 0 [.int .i64 t11c0, .int .i64 t11c1, .int .i64 t11c2, .int .i64 t11c3, .int .i64 t11c4] ∧
    (∃ (t12 : Bool) (H_3 : Heap), xC Try.prog good 17 [.agg #[.int .i64 t11c0, .int .i64 t11c1, .int .i64 t11c2, .int .i64 t11c3, .int .i64 t11c4]] H_2 = some (.bool t12, H_3) ∧
    (if t12 = true then
    (∃ (t15c0 : Int) (t15c1 : Int) (t15c2 : Int) (t15c3 : Int) (t15c4 : Int), ldAll H_3 H_1.next 0 [.int .i64 t15c0, .int .i64 t15c1, .int .i64 t15c2, .int .i64 t15c3, .int .i64 t15c4] ∧
    (∃ (t16 : Bool) (H_4 : Heap), xC Try.prog good 17 [.agg #[.int .i64 t15c0, .int .i64 t15c1, .int .i64 t15c2, .int .i64 t15c3, .int .i64 t15c4]] H_3 = some (.bool t16, H_4) ∧
    (L0 (H.next) (0) (H_1.next) (0) ((!t16)) H_4 r)))
    else
    (L0 (H.next) (0) (H_1.next) (0) (true) H_3 r)))))) :
    xC Try.prog good 9 [.agg #[.int .i64 a0c0, .int .i64 a0c1, .int .i64 a0c2, .int .i64 a0c3, .int .i64 a0c4], .agg #[.int .i64 a1c0, .int .i64 a1c1, .int .i64 a1c2, .int .i64 a1c3, .int .i64 a1c4]] H = some r := by
  refine KR.enter (fn := Try.f9) (c := B) (by kernel_rfl) (by kernel_rfl) ?_
  refine KR.run 2 [(0, .agg #[.int .i64 a0c0, .int .i64 a0c1, .int .i64 a0c2, .int .i64 a0c3, .int .i64 a0c4]), (1, .agg #[.int .i64 a1c0, .int .i64 a1c1, .int .i64 a1c2, .int .i64 a1c3, .int .i64 a1c4])] 104 (s' := (.reg (opsAt (sub B [0])) [0, 1, 2] :: S0)) (by kernel_rfl) fun J => ?_
  obtain ⟨H_1, q1, h⟩ := h
  refine KR.mk (w := pRow [.int .i64 a0c0, .int .i64 a0c1, .int .i64 a0c2, .int .i64 a0c3, .int .i64 a0c4]) (one_al (by kernel_rfl)) q1 ?_
  obtain ⟨H_2, q2, h⟩ := h
  refine KR.mk (w := pRow [.int .i64 a1c0, .int .i64 a1c1, .int .i64 a1c2, .int .i64 a1c3, .int .i64 a1c4]) (one_al (by kernel_rfl)) q2 ?_
  refine KR.run 5 [(2, .pointer (some ⟨H.next, 0, none⟩)), (3, .pointer (some ⟨H_1.next, 0, none⟩))] 104 (s' := (.reg (opsAt (sub B [1, 0, 0])) [0, 1, 2, 3, 4, 5, 6, 7] :: S2)) (by kernel_rfl) fun J => ?_
  obtain ⟨t11c0, t11c1, t11c2, t11c3, t11c4, q3, h⟩ := h
  refine KR.rd (one_ldA (by kernel_rfl) q3) ?_
  obtain ⟨t12, H_3, q4, h⟩ := h
  refine KR.se (one_ca (by kernel_rfl) q4) ?_
  refine KR.run 2 [(2, .pointer (some ⟨H.next, 0, none⟩)), (3, .pointer (some ⟨H_1.next, 0, none⟩)), (14, .bool (!t12))] 104 (s' := (.reg (opsAt (sub B [1, 0, 0])) [4, 5, 6, 7] :: S2)) (by kernel_rfl) fun J => ?_
  by_cases c5 : t12 = true
  · replace h := iteT c5 h
    refine KR.setV 14 (by kernel_rfl) (nB (bT c5)) ?_
    obtain ⟨t15c0, t15c1, t15c2, t15c3, t15c4, q6, h⟩ := h
    refine KR.rd (one_ldA (by kernel_rfl) q6) ?_
    obtain ⟨t16, H_4, q7, h⟩ := h
    refine KR.se (one_ca (by kernel_rfl) q7) ?_
    exact KR.run 3 [(2, .pointer (some ⟨H.next, 0, none⟩)), (3, .pointer (some ⟨H_1.next, 0, none⟩)), (18, .bool (!t16))] 104 (s' := (.code (sub B [1, 0, 1]) :: S1)) (by kernel_rfl) h
  · replace h := iteF c5 h
    refine KR.setV 14 (by kernel_rfl) (nB (bF c5)) ?_
    exact KR.run 5 [(2, .pointer (some ⟨H.next, 0, none⟩)), (3, .pointer (some ⟨H_1.next, 0, none⟩)), (18, .bool true)] 104 (s' := (.code (sub B [1, 0, 1]) :: S1)) (by kernel_rfl) h
end F9
end Go.X
