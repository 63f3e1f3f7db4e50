/- The walks of the functions: printed. -/
import Derived.Test.YtomibdncbioijaaXzGd
set_option linter.unusedVariables false
set_option maxRecDepth 100000
namespace Go.X
open Go Go.RowKit Go.Proofs
/-! #### 10 campanile/campanilelaw8.CellPlays -/
namespace F10
noncomputable def B : Code := bodyOf Try.f10
noncomputable def S0 : List It := (.code (sub B [1, 1]) :: [])
noncomputable def S1 : List It := (.code (sub B [1, 1, 1]) :: [])
noncomputable def S3 : List It := (.code (sub B [1, 1, 1, 1]) :: [])
noncomputable def S11 : List It := (.code (sub B [1, 1, 1, 1, 1]) :: [])
noncomputable def S25 : List It := (.code (sub B [1, 1, 1, 1, 1, 1]) :: [])
noncomputable def S2 : List It := (.code (sub B [1, 1, 0, 1]) :: S1)
noncomputable def S4 : List It := (.blk 0 :: S3)
noncomputable def S12 : List It := (.code (sub B [1, 1, 1, 1, 0, 1]) :: S11)
noncomputable def S17 : List It := (.blk 3 :: S11)
noncomputable def S5 : List It := (.lp (sub B [1, 1, 1, 0, 1, 0, 0]) :: S4)
noncomputable def S20 : List It := (.lp (sub B [1, 1, 1, 1, 0, 1, 0, 0]) :: S17)
noncomputable def S26 : List It := (.reg (opsAt (sub B [1, 1, 1, 1, 0, 0])) [0] :: S12)
noncomputable def S6 : List It := (.code (sub B [1, 1, 1, 0, 1, 0, 0, 1, 1]) :: S5)
noncomputable def S7 : List It := (.code (sub B [1, 1, 1, 0, 1, 0, 0, 1, 1, 1]) :: S5)
noncomputable def S21 : List It := (.code (sub B [1, 1, 1, 1, 0, 1, 0, 0, 1, 1]) :: S20)
noncomputable def S22 : List It := (.code (sub B [1, 1, 1, 1, 0, 1, 0, 0, 1, 1, 1]) :: S20)
noncomputable def S8 : List It := (.blk 1 :: S7)
noncomputable def S23 : List It := (.blk 4 :: S22)
noncomputable def S9 : List It := (.code (sub B [1, 1, 1, 0, 1, 0, 0, 1, 1, 0, 0, 1]) :: S8)
noncomputable def S10 : List It := (.code (sub B [1, 1, 1, 0, 1, 0, 0, 1, 1, 0, 0, 1, 1]) :: S8)
noncomputable def S13 : List It := (.code (sub B [1, 1, 1, 0, 1, 0, 0, 1, 1, 0, 0, 1, 1, 1, 1]) :: S8)
noncomputable def S16 : List It := (.code (sub B [1, 1, 1, 0, 1, 0, 0, 1, 1, 0, 0, 1, 1, 1, 1, 1]) :: S8)
noncomputable def S18 : List It := (.code (sub B [1, 1, 1, 0, 1, 0, 0, 1, 1, 0, 0, 1, 1, 1, 1, 1, 1]) :: S8)
noncomputable def S19 : List It := (.code (sub B [1, 1, 1, 0, 1, 0, 0, 1, 1, 0, 0, 1, 1, 1, 1, 1, 1, 1]) :: S8)
noncomputable def S24 : List It := (.code (sub B [1, 1, 1, 1, 0, 1, 0, 0, 1, 1, 0, 0, 1, 1]) :: S23)
noncomputable def S14 : List It := (.code (sub B [1, 1, 1, 0, 1, 0, 0, 1, 1, 0, 0, 1, 1, 1, 0, 1]) :: S13)
noncomputable def S15 : List It := (.blk 2 :: S13)
noncomputable def S27 : List It := (.reg (opsAt (sub B [1, 1, 1, 0, 1, 0, 0, 1, 1, 0, 0, 1, 1, 1, 1, 0])) [0, 1, 2, 3, 4] :: S16)
noncomputable def S28 : List It := (.code (sub B [1, 1, 1, 0, 1, 0, 0, 1, 1, 0, 0, 1, 1, 1, 1, 1, 1, 0]) :: S19)
def L0 (t1 : Int) (t5 : Option Addr) (t6b : Nat) (t6o : Nat) (t17a : Option Addr) (t17n : Nat) (t17k : Nat) (t18 : Int) (t19 : Int) (H : Heap) (r : Value × Heap) : Prop := ∀ J, KR Try.prog good Try.f10 S5 (mat J 127 [(1, .int .i64 t1), (5, .pointer t5), (6, .pointer (some ⟨t6b, t6o, none⟩)), (17, .slice t17a t17n t17k), (18, .int .i64 t18), (19, .int .i64 t19)]) H r
def L1 (t5 : Option Addr) (t6b : Nat) (t6o : Nat) (H : Heap) (r : Value × Heap) : Prop := ∀ J, KR Try.prog good Try.f10 S26 (mat J 127 [(5, .pointer t5), (6, .pointer (some ⟨t6b, t6o, none⟩))]) H r
def L2 (t1 : Int) (t5 : Option Addr) (t6b : Nat) (t6o : Nat) (t7 : Int) (t8b : Nat) (t8o : Nat) (t9 : Bool) (t17b : Nat) (t17o : Nat) (t17n : Nat) (t17k : Nat) (t18 : Int) (t19 : Int) (H : Heap) (r : Value × Heap) : Prop := ∀ J, KR Try.prog good Try.f10 S27 (mat J 127 [(1, .int .i64 t1), (5, .pointer t5), (6, .pointer (some ⟨t6b, t6o, none⟩)), (7, .int .i64 t7), (8, .pointer (some ⟨t8b, t8o, none⟩)), (9, .bool t9), (17, .slice (some ⟨t17b, t17o, none⟩) t17n t17k), (18, .int .i64 t18), (19, .int .i64 t19)]) H r
def L3 (t5 : Option Addr) (t6b : Nat) (t6o : Nat) (t102 : Int) (H : Heap) (r : Value × Heap) : Prop := ∀ J, KR Try.prog good Try.f10 S20 (mat J 127 [(5, .pointer t5), (6, .pointer (some ⟨t6b, t6o, none⟩)), (102, .int .i64 t102)]) H r
def L4 (t1 : Int) (t5 : Option Addr) (t6b : Nat) (t6o : Nat) (t8b : Nat) (t8o : Nat) (t9 : Bool) (t10 : Int) (t17b : Nat) (t17o : Nat) (t17n : Nat) (t17k : Nat) (t18 : Int) (t19 : Int) (H : Heap) (r : Value × Heap) : Prop := ∀ J, KR Try.prog good Try.f10 S28 (mat J 127 [(1, .int .i64 t1), (5, .pointer t5), (6, .pointer (some ⟨t6b, t6o, none⟩)), (8, .pointer (some ⟨t8b, t8o, none⟩)), (9, .bool t9), (10, .int .i64 t10), (17, .slice (some ⟨t17b, t17o, none⟩) t17n t17k), (18, .int .i64 t18), (19, .int .i64 t19)]) H r
def L5 (t1 : Int) (t5 : Option Addr) (t6b : Nat) (t6o : Nat) (t17b : Nat) (t17o : Nat) (t17n : Nat) (t17k : Nat) (t18 : Int) (t19 : Int) (t100 : Bool) (H : Heap) (r : Value × Heap) : Prop := ∀ J, KR Try.prog good Try.f10 S19 (mat J 127 [(1, .int .i64 t1), (5, .pointer t5), (6, .pointer (some ⟨t6b, t6o, none⟩)), (17, .slice (some ⟨t17b, t17o, none⟩) t17n t17k), (18, .int .i64 t18), (19, .int .i64 t19), (100, .bool t100)]) H r
theorem L0_step {t1 : Int} {t5 : Option Addr} {t6b : Nat} {t6o : Nat} {t17a : Option Addr} {t17n : Nat} {t17k : Nat} {t18 : Int} {t19 : Int} {H : Heap} {r : Value × Heap} (h :
    if t19 < t18 then
    (∃ (t17ab t17ao : Nat), t17a = some ⟨t17ab, t17ao, none⟩ ∧
    ((0 : Int) ≤ t19 ∧ t19 < ((t17n : Nat) : Int) ∧
    (∃ (t23c0 : Int) (t23c1 : Int) (t23c2 : Int) (t23c3 : Int) (t23c4 : Int) (t23c5 : Int) (t23c6 : Int) (t23c7 : Int), ldAll H t17ab (t17ao + Int.toNat t19 * 8) [.int .i64 t23c0, .int .i64 t23c1, .int .i64 t23c2, .int .i64 t23c3, .int .i64 t23c4, .int .i64 t23c5, .int .i64 t23c6, .int .i64 t23c7] ∧
    (∃ (H_1 : Heap), H_1 = H.push (.row [.int .i64 0, .int .i64 0, .int .i64 0, .int .i64 0, .int .i64 0, .int .i64 0, .int .i64 0, .int .i64 0] true) ∧
    (∃ (H_2 : Heap), stc H_1 H.next 0 [.int .i64 t23c0, .int .i64 t23c1, .int .i64 t23c2, .int .i64 t23c3, .int .i64 t23c4, .int .i64 t23c5, .int .i64 t23c6, .int .i64 t23c7] = some H_2 ∧
    (if t19 ≥ 150 then
    (L1 (t5) (t6b) (t6o) H_2 r)
    else
    (∃ (t27 : Int), ldc H_2 H.next 0 = some (.int .i64 t27) ∧
    (if t27 = 0 then
    (∃ (t41 : Int), ldc H_2 H.next 1 = some (.int .i64 t41) ∧
    (∃ (t43 : Int), ldc H_2 H.next 2 = some (.int .i64 t43) ∧
    (∃ (t44 : Int) (H_3 : Heap), xC Try.prog good 20 [.pointer t5, .int .i64 t41, .int .i64 t43] H_2 = some (.int .i64 t44, H_3) ∧
    (∃ (t47 : Int), ldc H_2 H.next 1 = some (.int .i64 t47) ∧
    (∃ (t49 : Int), ldc H_2 H.next 2 = some (.int .i64 t49) ∧
    (∃ (t50 : Int) (H_4 : Heap), xC Try.prog good 27 [.pointer (some ⟨t6b, t6o, none⟩), .int .i64 t47, .int .i64 t49] H_3 = some (.int .i64 t50, H_4) ∧
    (ldc H_3 H.next 1 = some (.int .i64 t47) ∧
    ldc H_3 H.next 2 = some (.int .i64 t49) ∧
    (L2 (t1) (t5) (t6b) (t6o) (t19) (H.next) (0) ((t44 == t50)) (t17ab) (t17ao) (t17n) (t17k) (t18) (t19) H_4 r))))))))
    else
    (if t27 = 1 then
    (∃ (t56c0 : Int) (t56c1 : Int) (t56c2 : Int) (t56c3 : Int) (t56c4 : Int), ldAll H_2 H.next 3 [.int .i64 t56c0, .int .i64 t56c1, .int .i64 t56c2, .int .i64 t56c3, .int .i64 t56c4] ∧
    (∃ (t57 : Int) (H_5 : Heap), xC Try.prog good 18 [.pointer t5, .agg #[.int .i64 t56c0, .int .i64 t56c1, .int .i64 t56c2, .int .i64 t56c3, .int .i64 t56c4]] H_2 = some (.int .i64 t57, H_5) ∧
    (∃ (t60c0 : Int) (t60c1 : Int) (t60c2 : Int) (t60c3 : Int) (t60c4 : Int), ldAll H_2 H.next 3 [.int .i64 t60c0, .int .i64 t60c1, .int .i64 t60c2, .int .i64 t60c3, .int .i64 t60c4] ∧
    (∃ (t61 : Int) (H_6 : Heap), xC Try.prog good 28 [.pointer (some ⟨t6b, t6o, none⟩), .agg #[.int .i64 t60c0, .int .i64 t60c1, .int .i64 t60c2, .int .i64 t60c3, .int .i64 t60c4]] H_5 = some (.int .i64 t61, H_6) ∧
    (ldAll H_5 H.next 3 [.int .i64 t60c0, .int .i64 t60c1, .int .i64 t60c2, .int .i64 t60c3, .int .i64 t60c4] ∧
    (L2 (t1) (t5) (t6b) (t6o) (t19) (H.next) (0) ((t57 == t61)) (t17ab) (t17ao) (t17n) (t17k) (t18) (t19) H_6 r))))))
    else
    (∃ (t30c0 : Int) (t30c1 : Int) (t30c2 : Int) (t30c3 : Int) (t30c4 : Int), ldAll H_2 H.next 3 [.int .i64 t30c0, .int .i64 t30c1, .int .i64 t30c2, .int .i64 t30c3, .int .i64 t30c4] ∧
    (∃ (t31 : Int) (H_7 : Heap), xC Try.prog good 26 [.pointer t5, .agg #[.int .i64 t30c0, .int .i64 t30c1, .int .i64 t30c2, .int .i64 t30c3, .int .i64 t30c4]] H_2 = some (.int .i64 t31, H_7) ∧
    (∃ (t34c0 : Int) (t34c1 : Int) (t34c2 : Int) (t34c3 : Int) (t34c4 : Int), ldAll H_2 H.next 3 [.int .i64 t34c0, .int .i64 t34c1, .int .i64 t34c2, .int .i64 t34c3, .int .i64 t34c4] ∧
    (∃ (t35 : Int) (H_8 : Heap), xC Try.prog good 29 [.pointer (some ⟨t6b, t6o, none⟩), .agg #[.int .i64 t34c0, .int .i64 t34c1, .int .i64 t34c2, .int .i64 t34c3, .int .i64 t34c4]] H_7 = some (.int .i64 t35, H_8) ∧
    (ldAll H_7 H.next 3 [.int .i64 t34c0, .int .i64 t34c1, .int .i64 t34c2, .int .i64 t34c3, .int .i64 t34c4] ∧
    (L2 (t1) (t5) (t6b) (t6o) (t19) (H.next) (0) ((t31 == t35)) (t17ab) (t17ao) (t17n) (t17k) (t18) (t19) H_8 r)))))))))))))))
    else
    (L1 (t5) (t6b) (t6o) H r)) :
    L0 t1 t5 t6b t6o t17a t17n t17k t18 t19 H r := by
  intro J
  show KR _ _ _ (.lp (sub B [1, 1, 1, 0, 1, 0, 0]) :: S4) _ _ _
  refine KR.run 6 [(1, .int .i64 t1), (5, .pointer t5), (6, .pointer (some ⟨t6b, t6o, none⟩)), (17, .slice t17a t17n t17k), (18, .int .i64 t18), (19, .int .i64 t19), (20, .bool (decide (t19 < t18)))] 127 (s' := (.code (sub B [1, 1, 1, 0, 1, 0, 0, 1, 0]) :: S6)) (by kernel_rfl) fun J => ?_
  by_cases c5 : t19 < t18
  · replace h := iteT c5 h
    refine KR.br true (by kernel_rfl) (vB (dT c5)) ?_
    obtain ⟨t17ab, t17ao, rfl, h⟩ := h
    refine KR.run 6 [(1, .int .i64 t1), (5, .pointer t5), (6, .pointer (some ⟨t6b, t6o, none⟩)), (17, .slice (some ⟨t17ab, t17ao, none⟩) t17n t17k), (18, .int .i64 t18), (19, .int .i64 t19), (21, .int .i64 t19)] 127 (s' := (.reg (opsAt (sub B [1, 1, 1, 0, 1, 0, 0, 1, 1, 0, 0, 0])) [1, 2, 3, 4, 5] :: S9)) (by kernel_rfl) fun J => ?_
    obtain ⟨q6, q6x, h⟩ := h
    refine KR.p (one_ix 8 t17ab t17ao (by kernel_rfl) q6 q6x) ?_
    obtain ⟨t23c0, t23c1, t23c2, t23c3, t23c4, t23c5, t23c6, t23c7, q7, h⟩ := h
    refine KR.rd (one_ldA (by kernel_rfl) q7) ?_
    obtain ⟨H_1, q8, h⟩ := h
    refine KR.mk (w := pRow [.int .i64 0, .int .i64 0, .int .i64 0, .int .i64 0, .int .i64 0, .int .i64 0, .int .i64 0, .int .i64 0]) (one_al (by kernel_rfl)) q8 ?_
    refine KR.run 1 [(1, .int .i64 t1), (5, .pointer t5), (6, .pointer (some ⟨t6b, t6o, none⟩)), (7, .int .i64 t19), (8, .pointer (some ⟨H.next, 0, none⟩)), (17, .slice (some ⟨t17ab, t17ao, none⟩) t17n t17k), (18, .int .i64 t18), (19, .int .i64 t19), (23, .agg #[.int .i64 t23c0, .int .i64 t23c1, .int .i64 t23c2, .int .i64 t23c3, .int .i64 t23c4, .int .i64 t23c5, .int .i64 t23c6, .int .i64 t23c7])] 127 (s' := (.reg (opsAt (sub B [1, 1, 1, 0, 1, 0, 0, 1, 1, 0, 0, 0])) [5] :: S9)) (by kernel_rfl) fun J => ?_
    obtain ⟨H_2, q9, h⟩ := h
    refine KR.se (one_st (by kernel_rfl) q9) ?_
    refine KR.run 7 [(1, .int .i64 t1), (5, .pointer t5), (6, .pointer (some ⟨t6b, t6o, none⟩)), (7, .int .i64 t19), (8, .pointer (some ⟨H.next, 0, none⟩)), (17, .slice (some ⟨t17ab, t17ao, none⟩) t17n t17k), (18, .int .i64 t18), (19, .int .i64 t19), (25, .bool (decide (t19 ≥ 150)))] 127 (s' := (.code (sub B [1, 1, 1, 0, 1, 0, 0, 1, 1, 0, 0, 1, 0, 1]) :: S10)) (by kernel_rfl) fun J => ?_
    by_cases c10 : t19 ≥ 150
    · replace h := iteT c10 h
      refine KR.br true (by kernel_rfl) (vB (dT c10)) ?_
      exact KR.run 4 [(5, .pointer t5), (6, .pointer (some ⟨t6b, t6o, none⟩))] 127 (s' := (.reg (opsAt (sub B [1, 1, 1, 1, 0, 0])) [0] :: S12)) (by kernel_rfl) h
    · replace h := iteF c10 h
      refine KR.br false (by kernel_rfl) (vB (dF c10)) ?_
      refine KR.run 9 [(1, .int .i64 t1), (5, .pointer t5), (6, .pointer (some ⟨t6b, t6o, none⟩)), (7, .int .i64 t19), (8, .pointer (some ⟨H.next, 0, none⟩)), (17, .slice (some ⟨t17ab, t17ao, none⟩) t17n t17k), (18, .int .i64 t18), (19, .int .i64 t19), (26, .pointer (some ⟨H.next, 0, none⟩))] 127 (s' := (.reg (opsAt (sub B [1, 1, 1, 0, 1, 0, 0, 1, 1, 0, 0, 1, 1, 1, 0, 0])) [1] :: S14)) (by kernel_rfl) fun J => ?_
      obtain ⟨t27, q11, h⟩ := h
      refine KR.rd (one_ld (by kernel_rfl) q11) ?_
      refine KR.run 7 [(1, .int .i64 t1), (5, .pointer t5), (6, .pointer (some ⟨t6b, t6o, none⟩)), (7, .int .i64 t19), (8, .pointer (some ⟨H.next, 0, none⟩)), (17, .slice (some ⟨t17ab, t17ao, none⟩) t17n t17k), (18, .int .i64 t18), (19, .int .i64 t19), (27, .int .i64 t27), (37, .bool (t27 == 0))] 127 (s' := (.code (sub B [1, 1, 1, 0, 1, 0, 0, 1, 1, 0, 0, 1, 1, 1, 0, 1, 0, 1]) :: S15)) (by kernel_rfl) fun J => ?_
      by_cases c12 : t27 = 0
      · replace h := iteT c12 h
        refine KR.br true (by kernel_rfl) (vB (eT c12)) ?_
        refine KE.start H_2 (by kernel_rfl) (by kernel_rfl) ?_
        refine KE.run 2 [(1, .int .i64 t1), (5, .pointer t5), (6, .pointer (some ⟨t6b, t6o, none⟩)), (7, .int .i64 t19), (8, .pointer (some ⟨H.next, 0, none⟩)), (17, .slice (some ⟨t17ab, t17ao, none⟩) t17n t17k), (18, .int .i64 t18), (19, .int .i64 t19), (39, .pointer t5), (40, .pointer (some ⟨H.next, 1, none⟩))] 127 2 (by kernel_rfl) fun J => ?_
        obtain ⟨t41, q13, h⟩ := h
        refine KE.rdN (one_ld (by kernel_rfl) q13) (by kernel_rfl) ?_
        refine KE.run 1 [(1, .int .i64 t1), (5, .pointer t5), (6, .pointer (some ⟨t6b, t6o, none⟩)), (7, .int .i64 t19), (8, .pointer (some ⟨H.next, 0, none⟩)), (17, .slice (some ⟨t17ab, t17ao, none⟩) t17n t17k), (18, .int .i64 t18), (19, .int .i64 t19), (39, .pointer t5), (41, .int .i64 t41), (42, .pointer (some ⟨H.next, 2, none⟩))] 127 4 (by kernel_rfl) fun J => ?_
        obtain ⟨t43, q14, h⟩ := h
        refine KE.rdN (one_ld (by kernel_rfl) q14) (by kernel_rfl) ?_
        obtain ⟨t44, H_3, q15, h⟩ := h
        refine KE.se (one_ca (by kernel_rfl) q15) (by kernel_rfl) ?_
        refine KE.run 2 [(1, .int .i64 t1), (5, .pointer t5), (6, .pointer (some ⟨t6b, t6o, none⟩)), (7, .int .i64 t19), (8, .pointer (some ⟨H.next, 0, none⟩)), (17, .slice (some ⟨t17ab, t17ao, none⟩) t17n t17k), (18, .int .i64 t18), (19, .int .i64 t19), (44, .int .i64 t44), (45, .pointer (some ⟨t6b, t6o, none⟩)), (46, .pointer (some ⟨H.next, 1, none⟩))] 127 8 (by kernel_rfl) fun J => ?_
        obtain ⟨t47, q16, h⟩ := h
        refine KE.rdF (one_ld (by kernel_rfl) q16) (by kernel_rfl) ?_
        refine KE.run 1 [(1, .int .i64 t1), (5, .pointer t5), (6, .pointer (some ⟨t6b, t6o, none⟩)), (7, .int .i64 t19), (8, .pointer (some ⟨H.next, 0, none⟩)), (17, .slice (some ⟨t17ab, t17ao, none⟩) t17n t17k), (18, .int .i64 t18), (19, .int .i64 t19), (44, .int .i64 t44), (45, .pointer (some ⟨t6b, t6o, none⟩)), (47, .int .i64 t47), (48, .pointer (some ⟨H.next, 2, none⟩))] 127 10 (by kernel_rfl) fun J => ?_
        obtain ⟨t49, q17, h⟩ := h
        refine KE.rdF (one_ld (by kernel_rfl) q17) (by kernel_rfl) ?_
        obtain ⟨t50, H_4, q18, h⟩ := h
        refine KE.se (one_ca (by kernel_rfl) q18) (by kernel_rfl) ?_
        refine KE.run 2 [(1, .int .i64 t1), (5, .pointer t5), (6, .pointer (some ⟨t6b, t6o, none⟩)), (7, .int .i64 t19), (8, .pointer (some ⟨H.next, 0, none⟩)), (9, .bool (t44 == t50)), (17, .slice (some ⟨t17ab, t17ao, none⟩) t17n t17k), (18, .int .i64 t18), (19, .int .i64 t19)] 127 14 (by kernel_rfl) fun J => ?_
        obtain ⟨q19, q20, h⟩ := h
        refine KE.fin (H' := H_4) (by kernel_rfl) (rdsS (rdsS (rfl) (rd_ok (Hs := [H_3]) (by kernel_rfl) (by kernel_rfl) ⟨one_ld (by kernel_rfl) q19, trivial⟩)) (rd_ok (Hs := [H_3]) (by kernel_rfl) (by kernel_rfl) ⟨one_ld (by kernel_rfl) q20, trivial⟩)) (by kernel_rfl) ?_
        exact KR.run 3 [(1, .int .i64 t1), (5, .pointer t5), (6, .pointer (some ⟨t6b, t6o, none⟩)), (7, .int .i64 t19), (8, .pointer (some ⟨H.next, 0, none⟩)), (9, .bool (t44 == t50)), (17, .slice (some ⟨t17ab, t17ao, none⟩) t17n t17k), (18, .int .i64 t18), (19, .int .i64 t19)] 127 (s' := (.reg (opsAt (sub B [1, 1, 1, 0, 1, 0, 0, 1, 1, 0, 0, 1, 1, 1, 1, 0])) [0, 1, 2, 3, 4] :: S16)) (by kernel_rfl) h
      · replace h := iteF c12 h
        refine KR.br false (by kernel_rfl) (vB (eF c12)) ?_
        refine KR.run 5 [(1, .int .i64 t1), (5, .pointer t5), (6, .pointer (some ⟨t6b, t6o, none⟩)), (7, .int .i64 t19), (8, .pointer (some ⟨H.next, 0, none⟩)), (17, .slice (some ⟨t17ab, t17ao, none⟩) t17n t17k), (18, .int .i64 t18), (19, .int .i64 t19), (52, .bool (t27 == 1))] 127 (s' := (.code (sub B [1, 1, 1, 0, 1, 0, 0, 1, 1, 0, 0, 1, 1, 1, 0, 1, 0, 1, 1, 1]) :: S15)) (by kernel_rfl) fun J => ?_
        by_cases c21 : t27 = 1
        · replace h := iteT c21 h
          refine KR.br true (by kernel_rfl) (vB (eT c21)) ?_
          refine KE.start H_2 (by kernel_rfl) (by kernel_rfl) ?_
          refine KE.run 2 [(1, .int .i64 t1), (5, .pointer t5), (6, .pointer (some ⟨t6b, t6o, none⟩)), (7, .int .i64 t19), (8, .pointer (some ⟨H.next, 0, none⟩)), (17, .slice (some ⟨t17ab, t17ao, none⟩) t17n t17k), (18, .int .i64 t18), (19, .int .i64 t19), (54, .pointer t5), (55, .pointer (some ⟨H.next, 3, none⟩))] 127 2 (by kernel_rfl) fun J => ?_
          obtain ⟨t56c0, t56c1, t56c2, t56c3, t56c4, q22, h⟩ := h
          refine KE.rdN (one_ldA (by kernel_rfl) q22) (by kernel_rfl) ?_
          obtain ⟨t57, H_5, q23, h⟩ := h
          refine KE.se (one_ca (by kernel_rfl) q23) (by kernel_rfl) ?_
          refine KE.run 2 [(1, .int .i64 t1), (5, .pointer t5), (6, .pointer (some ⟨t6b, t6o, none⟩)), (7, .int .i64 t19), (8, .pointer (some ⟨H.next, 0, none⟩)), (17, .slice (some ⟨t17ab, t17ao, none⟩) t17n t17k), (18, .int .i64 t18), (19, .int .i64 t19), (57, .int .i64 t57), (58, .pointer (some ⟨t6b, t6o, none⟩)), (59, .pointer (some ⟨H.next, 3, none⟩))] 127 6 (by kernel_rfl) fun J => ?_
          obtain ⟨t60c0, t60c1, t60c2, t60c3, t60c4, q24, h⟩ := h
          refine KE.rdF (one_ldA (by kernel_rfl) q24) (by kernel_rfl) ?_
          obtain ⟨t61, H_6, q25, h⟩ := h
          refine KE.se (one_ca (by kernel_rfl) q25) (by kernel_rfl) ?_
          refine KE.run 2 [(1, .int .i64 t1), (5, .pointer t5), (6, .pointer (some ⟨t6b, t6o, none⟩)), (7, .int .i64 t19), (8, .pointer (some ⟨H.next, 0, none⟩)), (9, .bool (t57 == t61)), (17, .slice (some ⟨t17ab, t17ao, none⟩) t17n t17k), (18, .int .i64 t18), (19, .int .i64 t19)] 127 10 (by kernel_rfl) fun J => ?_
          obtain ⟨q26, h⟩ := h
          refine KE.fin (H' := H_6) (by kernel_rfl) (rdsS (rfl) (rd_ok (Hs := [H_5]) (by kernel_rfl) (by kernel_rfl) ⟨one_ldA (by kernel_rfl) q26, trivial⟩)) (by kernel_rfl) ?_
          exact KR.run 3 [(1, .int .i64 t1), (5, .pointer t5), (6, .pointer (some ⟨t6b, t6o, none⟩)), (7, .int .i64 t19), (8, .pointer (some ⟨H.next, 0, none⟩)), (9, .bool (t57 == t61)), (17, .slice (some ⟨t17ab, t17ao, none⟩) t17n t17k), (18, .int .i64 t18), (19, .int .i64 t19)] 127 (s' := (.reg (opsAt (sub B [1, 1, 1, 0, 1, 0, 0, 1, 1, 0, 0, 1, 1, 1, 1, 0])) [0, 1, 2, 3, 4] :: S16)) (by kernel_rfl) h
        · replace h := iteF c21 h
          refine KR.br false (by kernel_rfl) (vB (eF c21)) ?_
          refine KE.start H_2 (by kernel_rfl) (by kernel_rfl) ?_
          refine KE.run 2 [(1, .int .i64 t1), (5, .pointer t5), (6, .pointer (some ⟨t6b, t6o, none⟩)), (7, .int .i64 t19), (8, .pointer (some ⟨H.next, 0, none⟩)), (17, .slice (some ⟨t17ab, t17ao, none⟩) t17n t17k), (18, .int .i64 t18), (19, .int .i64 t19), (28, .pointer t5), (29, .pointer (some ⟨H.next, 3, none⟩))] 127 2 (by kernel_rfl) fun J => ?_
          obtain ⟨t30c0, t30c1, t30c2, t30c3, t30c4, q27, h⟩ := h
          refine KE.rdN (one_ldA (by kernel_rfl) q27) (by kernel_rfl) ?_
          obtain ⟨t31, H_7, q28, h⟩ := h
          refine KE.se (one_ca (by kernel_rfl) q28) (by kernel_rfl) ?_
          refine KE.run 2 [(1, .int .i64 t1), (5, .pointer t5), (6, .pointer (some ⟨t6b, t6o, none⟩)), (7, .int .i64 t19), (8, .pointer (some ⟨H.next, 0, none⟩)), (17, .slice (some ⟨t17ab, t17ao, none⟩) t17n t17k), (18, .int .i64 t18), (19, .int .i64 t19), (31, .int .i64 t31), (32, .pointer (some ⟨t6b, t6o, none⟩)), (33, .pointer (some ⟨H.next, 3, none⟩))] 127 6 (by kernel_rfl) fun J => ?_
          obtain ⟨t34c0, t34c1, t34c2, t34c3, t34c4, q29, h⟩ := h
          refine KE.rdF (one_ldA (by kernel_rfl) q29) (by kernel_rfl) ?_
          obtain ⟨t35, H_8, q30, h⟩ := h
          refine KE.se (one_ca (by kernel_rfl) q30) (by kernel_rfl) ?_
          refine KE.run 2 [(1, .int .i64 t1), (5, .pointer t5), (6, .pointer (some ⟨t6b, t6o, none⟩)), (7, .int .i64 t19), (8, .pointer (some ⟨H.next, 0, none⟩)), (9, .bool (t31 == t35)), (17, .slice (some ⟨t17ab, t17ao, none⟩) t17n t17k), (18, .int .i64 t18), (19, .int .i64 t19)] 127 10 (by kernel_rfl) fun J => ?_
          obtain ⟨q31, h⟩ := h
          refine KE.fin (H' := H_8) (by kernel_rfl) (rdsS (rfl) (rd_ok (Hs := [H_7]) (by kernel_rfl) (by kernel_rfl) ⟨one_ldA (by kernel_rfl) q31, trivial⟩)) (by kernel_rfl) ?_
          exact KR.run 3 [(1, .int .i64 t1), (5, .pointer t5), (6, .pointer (some ⟨t6b, t6o, none⟩)), (7, .int .i64 t19), (8, .pointer (some ⟨H.next, 0, none⟩)), (9, .bool (t31 == t35)), (17, .slice (some ⟨t17ab, t17ao, none⟩) t17n t17k), (18, .int .i64 t18), (19, .int .i64 t19)] 127 (s' := (.reg (opsAt (sub B [1, 1, 1, 0, 1, 0, 0, 1, 1, 0, 0, 1, 1, 1, 1, 0])) [0, 1, 2, 3, 4] :: S16)) (by kernel_rfl) h
  · replace h := iteF c5 h
    refine KR.br false (by kernel_rfl) (vB (dF c5)) ?_
    exact KR.run 4 [(5, .pointer t5), (6, .pointer (some ⟨t6b, t6o, none⟩))] 127 (s' := (.reg (opsAt (sub B [1, 1, 1, 1, 0, 0])) [0] :: S12)) (by kernel_rfl) h
theorem L1_step {t5 : Option Addr} {t6b : Nat} {t6o : Nat} {H : Heap} {r : Value × Heap} (h :
    L3 (t5) (t6b) (t6o) 0 H r) :
    L1 t5 t6b t6o H r := by
  intro J
  show KR _ _ _ (.reg (opsAt (sub B [1, 1, 1, 1, 0, 0])) [0] :: S12) _ _ _
  exact KR.run 4 [(5, .pointer t5), (6, .pointer (some ⟨t6b, t6o, none⟩)), (102, .int .i64 0)] 127 (s' := (.lp (sub B [1, 1, 1, 1, 0, 1, 0, 0]) :: S17)) (by kernel_rfl) h
theorem L2_step {t1 : Int} {t5 : Option Addr} {t6b : Nat} {t6o : Nat} {t7 : Int} {t8b : Nat} {t8o : Nat} {t9 : Bool} {t17b : Nat} {t17o : Nat} {t17n : Nat} {t17k : Nat} {t18 : Int} {t19 : Int} {H : Heap} {r : Value × Heap} (h :
    if t1 > 1125899906842624 then
    (L4 (t1) (t5) (t6b) (t6o) (t8b) (t8o) (t9) (t1) (t17b) (t17o) (t17n) (t17k) (t18) (t19) H r)
    else
    (L4 (t1) (t5) (t6b) (t6o) (t8b) (t8o) (t9) ((IntKind.wrap .i64 (t1 + (Int.tmod t7 1000)))) (t17b) (t17o) (t17n) (t17k) (t18) (t19) H r)) :
    L2 t1 t5 t6b t6o t7 t8b t8o t9 t17b t17o t17n t17k t18 t19 H r := by
  intro J
  show KR _ _ _ (.reg (opsAt (sub B [1, 1, 1, 0, 1, 0, 0, 1, 1, 0, 0, 1, 1, 1, 1, 0])) [0, 1, 2, 3, 4] :: S16) _ _ _
  refine KR.run 12 [(1, .int .i64 t1), (5, .pointer t5), (6, .pointer (some ⟨t6b, t6o, none⟩)), (8, .pointer (some ⟨t8b, t8o, none⟩)), (9, .bool t9), (10, .int .i64 (IntKind.wrap .i64 (t1 + (Int.tmod t7 1000)))), (17, .slice (some ⟨t17b, t17o, none⟩) t17n t17k), (18, .int .i64 t18), (19, .int .i64 t19), (68, .bool (decide (t1 > 1125899906842624)))] 127 (s' := (.code (sub B [1, 1, 1, 0, 1, 0, 0, 1, 1, 0, 0, 1, 1, 1, 1, 1, 0, 1]) :: S18)) (by kernel_rfl) fun J => ?_
  by_cases c32 : t1 > 1125899906842624
  · replace h := iteT c32 h
    refine KR.br true (by kernel_rfl) (vB (dT c32)) ?_
    exact KR.run 5 [(1, .int .i64 t1), (5, .pointer t5), (6, .pointer (some ⟨t6b, t6o, none⟩)), (8, .pointer (some ⟨t8b, t8o, none⟩)), (9, .bool t9), (10, .int .i64 t1), (17, .slice (some ⟨t17b, t17o, none⟩) t17n t17k), (18, .int .i64 t18), (19, .int .i64 t19)] 127 (s' := (.code (sub B [1, 1, 1, 0, 1, 0, 0, 1, 1, 0, 0, 1, 1, 1, 1, 1, 1, 0]) :: S19)) (by kernel_rfl) h
  · replace h := iteF c32 h
    refine KR.br false (by kernel_rfl) (vB (dF c32)) ?_
    exact KR.run 2 [(1, .int .i64 t1), (5, .pointer t5), (6, .pointer (some ⟨t6b, t6o, none⟩)), (8, .pointer (some ⟨t8b, t8o, none⟩)), (9, .bool t9), (10, .int .i64 (IntKind.wrap .i64 (t1 + (Int.tmod t7 1000)))), (17, .slice (some ⟨t17b, t17o, none⟩) t17n t17k), (18, .int .i64 t18), (19, .int .i64 t19)] 127 (s' := (.code (sub B [1, 1, 1, 0, 1, 0, 0, 1, 1, 0, 0, 1, 1, 1, 1, 1, 1, 0]) :: S19)) (by kernel_rfl) h
theorem L3_step {t5 : Option Addr} {t6b : Nat} {t6o : Nat} {t102 : Int} {H : Heap} {r : Value × Heap} (h :
    if t102 < 4 then
    (∃ (t107 : Int) (H_1 : Heap), xC Try.prog good 24 [.pointer t5, .int .i64 t102] H = some (.int .i64 t107, H_1) ∧
    ((0 : Int) ≤ t102 ∧ t102 < (4 : Int) ∧
    (∃ (t113 : Int), ldc H t6b (t6o + Int.toNat t102 * 1) = some (.int .i64 t113) ∧
    (ldc H_1 t6b (t6o + Int.toNat t102 * 1) = some (.int .i64 t113) ∧
    (if t107 = t113 then
    (L3 (t5) (t6b) (t6o) ((IntKind.wrap .i64 (t102 + 1))) H_1 r)
    else
    (r = (.bool false, H_1)))))))
    else
    (∃ (t117 : Int) (H_2 : Heap), xC Try.prog good 24 [.pointer t5, .int .i64 (-1)] H = some (.int .i64 t117, H_2) ∧
    (if t117 = 0 then
    (∃ (t121 : Int) (H_3 : Heap), xC Try.prog good 24 [.pointer t5, .int .i64 4] H_2 = some (.int .i64 t121, H_3) ∧
    (if t121 = 0 then
    (∃ (t125 : Bool) (H_4 : Heap), xC Try.prog good 19 [] H_3 = some (.bool t125, H_4) ∧
    (r = (.bool t125, H_4)))
    else
    (r = (.bool false, H_3))))
    else
    (r = (.bool false, H_2))))) :
    L3 t5 t6b t6o t102 H r := by
  intro J
  show KR _ _ _ (.lp (sub B [1, 1, 1, 1, 0, 1, 0, 0]) :: S17) _ _ _
  refine KR.run 6 [(5, .pointer t5), (6, .pointer (some ⟨t6b, t6o, none⟩)), (102, .int .i64 t102), (103, .bool (decide (t102 < 4)))] 127 (s' := (.code (sub B [1, 1, 1, 1, 0, 1, 0, 0, 1, 0]) :: S21)) (by kernel_rfl) fun J => ?_
  by_cases c33 : t102 < 4
  · replace h := iteT c33 h
    refine KR.br true (by kernel_rfl) (vB (dT c33)) ?_
    refine KR.run 9 [(5, .pointer t5), (6, .pointer (some ⟨t6b, t6o, none⟩)), (11, .int .i64 t102), (102, .int .i64 t102)] 127 (s' := (.code (sub B [1, 1, 1, 1, 0, 1, 0, 0, 1, 1, 0, 0, 1, 0]) :: S24)) (by kernel_rfl) fun J => ?_
    refine KE.start H (by kernel_rfl) (by kernel_rfl) ?_
    refine KE.run 2 [(5, .pointer t5), (6, .pointer (some ⟨t6b, t6o, none⟩)), (11, .int .i64 t102), (102, .int .i64 t102), (105, .pointer t5), (106, .int .i64 t102)] 127 2 (by kernel_rfl) fun J => ?_
    obtain ⟨t107, H_1, q34, h⟩ := h
    refine KE.se (one_ca (by kernel_rfl) q34) (by kernel_rfl) ?_
    refine KE.run 4 [(5, .pointer t5), (6, .pointer (some ⟨t6b, t6o, none⟩)), (102, .int .i64 t102), (107, .int .i64 t107), (109, .int .i64 t102), (111, .pointer (some ⟨t6b, t6o, none⟩))] 127 7 (by kernel_rfl) fun J => ?_
    obtain ⟨q35, q35x, h⟩ := h
    refine KE.p (one_ix 1 t6b t6o (by kernel_rfl) q35 q35x) ?_
    obtain ⟨t113, q36, h⟩ := h
    refine KE.rdF (one_ld (by kernel_rfl) q36) (by kernel_rfl) ?_
    refine KE.run 1 [(5, .pointer t5), (6, .pointer (some ⟨t6b, t6o, none⟩)), (102, .int .i64 t102), (114, .bool (!(t107 == t113)))] 127 10 (by kernel_rfl) fun J => ?_
    obtain ⟨q37, h⟩ := h
    refine KE.fin (H' := H_1) (by kernel_rfl) (rdsS (rfl) (rd_ok (Hs := [H_1]) (by kernel_rfl) (by kernel_rfl) ⟨one_ld (by kernel_rfl) q37, trivial⟩)) (by kernel_rfl) ?_
    refine KR.run 0 [(5, .pointer t5), (6, .pointer (some ⟨t6b, t6o, none⟩)), (102, .int .i64 t102), (114, .bool (!(t107 == t113)))] 127 (s' := (.code (sub B [1, 1, 1, 1, 0, 1, 0, 0, 1, 1, 0, 0, 1, 1]) :: S23)) (by kernel_rfl) fun J => ?_
    by_cases c38 : t107 = t113
    · replace h := iteT c38 h
      refine KR.br false (by kernel_rfl) (vB (nB (eT c38))) ?_
      exact KR.run 6 [(5, .pointer t5), (6, .pointer (some ⟨t6b, t6o, none⟩)), (102, .int .i64 (IntKind.wrap .i64 (t102 + 1)))] 127 (s' := (.lp (sub B [1, 1, 1, 1, 0, 1, 0, 0]) :: S17)) (by kernel_rfl) h
    · replace h := iteF c38 h
      refine KR.br true (by kernel_rfl) (vB (nB (eF c38))) ?_
      refine KR.run 4 [(4, .bool false)] 127 (s' := (.code (sub B [1, 1, 1, 1, 0, 1, 0, 0, 1, 1, 0, 0, 1, 1, 0, 1]) :: S23)) (by kernel_rfl) fun J => ?_
      exact KR.fin (by kernel_rfl) h
  · replace h := iteF c33 h
    refine KR.br false (by kernel_rfl) (vB (dF c33)) ?_
    refine KR.run 4 [(5, .pointer t5), (116, .pointer t5)] 127 (s' := (.reg (opsAt (sub B [1, 1, 1, 1, 1, 0])) [1, 2, 3, 4, 5, 6, 7, 8, 9, 10, 11] :: S25)) (by kernel_rfl) fun J => ?_
    obtain ⟨t117, H_2, q39, h⟩ := h
    refine KR.se (one_ca (by kernel_rfl) q39) ?_
    refine KR.run 2 [(5, .pointer t5), (119, .bool (t117 == 0))] 127 (s' := (.reg (opsAt (sub B [1, 1, 1, 1, 1, 0])) [4, 5, 6, 7, 8, 9, 10, 11] :: S25)) (by kernel_rfl) fun J => ?_
    by_cases c40 : t117 = 0
    · replace h := iteT c40 h
      refine KR.setV 119 (by kernel_rfl) (eT c40) ?_
      refine KR.run 1 [(119, .bool true), (120, .pointer t5)] 127 (s' := (.reg (opsAt (sub B [1, 1, 1, 1, 1, 0])) [5, 6, 7, 8, 9, 10, 11] :: S25)) (by kernel_rfl) fun J => ?_
      obtain ⟨t121, H_3, q41, h⟩ := h
      refine KR.se (one_ca (by kernel_rfl) q41) ?_
      refine KR.run 3 [(124, .bool (t121 == 0))] 127 (s' := (.reg (opsAt (sub B [1, 1, 1, 1, 1, 0])) [9, 10, 11] :: S25)) (by kernel_rfl) fun J => ?_
      by_cases c42 : t121 = 0
      · replace h := iteT c42 h
        refine KR.setV 124 (by kernel_rfl) (eT c42) ?_
        obtain ⟨t125, H_4, q43, h⟩ := h
        refine KR.se (one_ca (by kernel_rfl) q43) ?_
        refine KR.run 3 [(4, .bool t125)] 127 (s' := (.code (sub B [1, 1, 1, 1, 1, 1]) :: [])) (by kernel_rfl) fun J => ?_
        exact KR.fin (by kernel_rfl) h
      · replace h := iteF c42 h
        refine KR.setV 124 (by kernel_rfl) (eF c42) ?_
        refine KR.run 4 [(4, .bool false)] 127 (s' := (.code (sub B [1, 1, 1, 1, 1, 1]) :: [])) (by kernel_rfl) fun J => ?_
        exact KR.fin (by kernel_rfl) h
    · replace h := iteF c40 h
      refine KR.setV 119 (by kernel_rfl) (eF c40) ?_
      refine KR.run 9 [(4, .bool false)] 127 (s' := (.code (sub B [1, 1, 1, 1, 1, 1]) :: [])) (by kernel_rfl) fun J => ?_
      exact KR.fin (by kernel_rfl) h
theorem L4_step {t1 : Int} {t5 : Option Addr} {t6b : Nat} {t6o : Nat} {t8b : Nat} {t8o : Nat} {t9 : Bool} {t10 : Int} {t17b : Nat} {t17o : Nat} {t17n : Nat} {t17k : Nat} {t18 : Int} {t19 : Int} {H : Heap} {r : Value × Heap} (h :
    if t9 = true then
    (∃ (t74a : Option Addr) (t74n : Nat) (t74k : Nat) (H_1 : Heap), xC Try.prog good 25 [.pointer t5] H = some (.slice t74a t74n t74k, H_1) ∧
    (∃ (t78a : Option Addr) (t78n : Nat) (t78k : Nat), ldc H t6b (t6o + 4) = some (.slice t78a t78n t78k) ∧
    (∃ (t79 : Bool) (H_2 : Heap), xC Try.prog good 30 [.slice t74a t74n t74k, .slice t78a t78n t78k] H_1 = some (.bool t79, H_2) ∧
    (if t79 = true then
    (∃ (t85a : Option Addr) (t85n : Nat) (t85k : Nat) (H_3 : Heap), xC Try.prog good 21 [.pointer t5, .int .i64 t10] H_2 = some (.slice t85a t85n t85k, H_3) ∧
    (∃ (t88a : Option Addr) (t88n : Nat) (t88k : Nat) (H_4 : Heap), xC Try.prog good 31 [.pointer (some ⟨t6b, t6o, none⟩), .int .i64 t10] H_3 = some (.slice t88a t88n t88k, H_4) ∧
    (∃ (t89 : Bool) (H_5 : Heap), xC Try.prog good 30 [.slice t85a t85n t85k, .slice t88a t88n t88k] H_4 = some (.bool t89, H_5) ∧
    (if t89 = true then
    (∃ (t94c0 : Int) (t94c1 : Int) (t94c2 : Int) (t94c3 : Int) (t94c4 : Int), ldAll H_5 t8b (t8o + 3) [.int .i64 t94c0, .int .i64 t94c1, .int .i64 t94c2, .int .i64 t94c3, .int .i64 t94c4] ∧
    (∃ (t95 : Bool) (H_6 : Heap), xC Try.prog good 17 [.agg #[.int .i64 t94c0, .int .i64 t94c1, .int .i64 t94c2, .int .i64 t94c3, .int .i64 t94c4]] H_5 = some (.bool t95, H_6) ∧
    (∃ (t97c0 : Int) (t97c1 : Int) (t97c2 : Int) (t97c3 : Int) (t97c4 : Int), ldAll H_5 t8b (t8o + 3) [.int .i64 t97c0, .int .i64 t97c1, .int .i64 t97c2, .int .i64 t97c3, .int .i64 t97c4] ∧
    (∃ (t98 : Bool) (H_7 : Heap), xC Try.prog good 15 [.agg #[.int .i64 t97c0, .int .i64 t97c1, .int .i64 t97c2, .int .i64 t97c3, .int .i64 t97c4]] H_6 = some (.bool t98, H_7) ∧
    (ldc H_1 t6b (t6o + 4) = some (.slice t78a t78n t78k) ∧
    ldAll H_6 t8b (t8o + 3) [.int .i64 t97c0, .int .i64 t97c1, .int .i64 t97c2, .int .i64 t97c3, .int .i64 t97c4] ∧
    (L5 (t1) (t5) (t6b) (t6o) (t17b) (t17o) (t17n) (t17k) (t18) (t19) ((!(t95 == t98))) H_7 r))))))
    else
    (ldc H_1 t6b (t6o + 4) = some (.slice t78a t78n t78k) ∧
    (L5 (t1) (t5) (t6b) (t6o) (t17b) (t17o) (t17n) (t17k) (t18) (t19) (true) H_5 r))))))
    else
    (ldc H_1 t6b (t6o + 4) = some (.slice t78a t78n t78k) ∧
    (L5 (t1) (t5) (t6b) (t6o) (t17b) (t17o) (t17n) (t17k) (t18) (t19) (true) H_2 r))))))
    else
    ((L5 (t1) (t5) (t6b) (t6o) (t17b) (t17o) (t17n) (t17k) (t18) (t19) (true) H r))) :
    L4 t1 t5 t6b t6o t8b t8o t9 t10 t17b t17o t17n t17k t18 t19 H r := by
  intro J
  show KR _ _ _ (.code (sub B [1, 1, 1, 0, 1, 0, 0, 1, 1, 0, 0, 1, 1, 1, 1, 1, 1, 0]) :: S19) _ _ _
  refine KE.start H (by kernel_rfl) (by kernel_rfl) ?_
  refine KE.run 3 [(1, .int .i64 t1), (5, .pointer t5), (6, .pointer (some ⟨t6b, t6o, none⟩)), (8, .pointer (some ⟨t8b, t8o, none⟩)), (10, .int .i64 t10), (17, .slice (some ⟨t17b, t17o, none⟩) t17n t17k), (18, .int .i64 t18), (19, .int .i64 t19), (72, .bool (!t9))] 127 3 (by kernel_rfl) fun J => ?_
  by_cases c44 : t9 = true
  · replace h := iteT c44 h
    refine KE.setV 72 (by kernel_rfl) (nB (bT c44)) ?_
    refine KE.run 1 [(1, .int .i64 t1), (5, .pointer t5), (6, .pointer (some ⟨t6b, t6o, none⟩)), (8, .pointer (some ⟨t8b, t8o, none⟩)), (10, .int .i64 t10), (17, .slice (some ⟨t17b, t17o, none⟩) t17n t17k), (18, .int .i64 t18), (19, .int .i64 t19), (72, .bool false), (73, .pointer t5)] 127 4 (by kernel_rfl) fun J => ?_
    obtain ⟨t74a, t74n, t74k, H_1, q45, h⟩ := h
    refine KE.se (one_ca (by kernel_rfl) q45) (by kernel_rfl) ?_
    refine KE.run 3 [(1, .int .i64 t1), (5, .pointer t5), (6, .pointer (some ⟨t6b, t6o, none⟩)), (8, .pointer (some ⟨t8b, t8o, none⟩)), (10, .int .i64 t10), (17, .slice (some ⟨t17b, t17o, none⟩) t17n t17k), (18, .int .i64 t18), (19, .int .i64 t19), (72, .bool false), (74, .slice t74a t74n t74k), (77, .pointer (some ⟨t6b, (t6o + 4), none⟩))] 127 8 (by kernel_rfl) fun J => ?_
    obtain ⟨t78a, t78n, t78k, q46, h⟩ := h
    refine KE.rdF (one_ld (by kernel_rfl) q46) (by kernel_rfl) ?_
    obtain ⟨t79, H_2, q47, h⟩ := h
    refine KE.se (one_ca (by kernel_rfl) q47) (by kernel_rfl) ?_
    refine KE.run 3 [(1, .int .i64 t1), (5, .pointer t5), (6, .pointer (some ⟨t6b, t6o, none⟩)), (8, .pointer (some ⟨t8b, t8o, none⟩)), (10, .int .i64 t10), (17, .slice (some ⟨t17b, t17o, none⟩) t17n t17k), (18, .int .i64 t18), (19, .int .i64 t19), (82, .bool (!t79))] 127 13 (by kernel_rfl) fun J => ?_
    by_cases c48 : t79 = true
    · replace h := iteT c48 h
      refine KE.setV 82 (by kernel_rfl) (nB (bT c48)) ?_
      refine KE.run 2 [(1, .int .i64 t1), (5, .pointer t5), (6, .pointer (some ⟨t6b, t6o, none⟩)), (8, .pointer (some ⟨t8b, t8o, none⟩)), (10, .int .i64 t10), (17, .slice (some ⟨t17b, t17o, none⟩) t17n t17k), (18, .int .i64 t18), (19, .int .i64 t19), (82, .bool false), (83, .pointer t5), (84, .int .i64 t10)] 127 15 (by kernel_rfl) fun J => ?_
      obtain ⟨t85a, t85n, t85k, H_3, q49, h⟩ := h
      refine KE.se (one_ca (by kernel_rfl) q49) (by kernel_rfl) ?_
      refine KE.run 2 [(1, .int .i64 t1), (5, .pointer t5), (6, .pointer (some ⟨t6b, t6o, none⟩)), (8, .pointer (some ⟨t8b, t8o, none⟩)), (17, .slice (some ⟨t17b, t17o, none⟩) t17n t17k), (18, .int .i64 t18), (19, .int .i64 t19), (82, .bool false), (85, .slice t85a t85n t85k), (86, .pointer (some ⟨t6b, t6o, none⟩)), (87, .int .i64 t10)] 127 18 (by kernel_rfl) fun J => ?_
      obtain ⟨t88a, t88n, t88k, H_4, q50, h⟩ := h
      refine KE.se (one_ca (by kernel_rfl) q50) (by kernel_rfl) ?_
      obtain ⟨t89, H_5, q51, h⟩ := h
      refine KE.se (one_ca (by kernel_rfl) q51) (by kernel_rfl) ?_
      refine KE.run 3 [(1, .int .i64 t1), (5, .pointer t5), (6, .pointer (some ⟨t6b, t6o, none⟩)), (8, .pointer (some ⟨t8b, t8o, none⟩)), (17, .slice (some ⟨t17b, t17o, none⟩) t17n t17k), (18, .int .i64 t18), (19, .int .i64 t19), (92, .bool (!t89))] 127 23 (by kernel_rfl) fun J => ?_
      by_cases c52 : t89 = true
      · replace h := iteT c52 h
        refine KE.setV 92 (by kernel_rfl) (nB (bT c52)) ?_
        refine KE.run 1 [(1, .int .i64 t1), (5, .pointer t5), (6, .pointer (some ⟨t6b, t6o, none⟩)), (8, .pointer (some ⟨t8b, t8o, none⟩)), (17, .slice (some ⟨t17b, t17o, none⟩) t17n t17k), (18, .int .i64 t18), (19, .int .i64 t19), (92, .bool false), (93, .pointer (some ⟨t8b, (t8o + 3), none⟩))] 127 24 (by kernel_rfl) fun J => ?_
        obtain ⟨t94c0, t94c1, t94c2, t94c3, t94c4, q53, h⟩ := h
        refine KE.rdN (one_ldA (by kernel_rfl) q53) (by kernel_rfl) ?_
        obtain ⟨t95, H_6, q54, h⟩ := h
        refine KE.se (one_ca (by kernel_rfl) q54) (by kernel_rfl) ?_
        refine KE.run 1 [(1, .int .i64 t1), (5, .pointer t5), (6, .pointer (some ⟨t6b, t6o, none⟩)), (17, .slice (some ⟨t17b, t17o, none⟩) t17n t17k), (18, .int .i64 t18), (19, .int .i64 t19), (92, .bool false), (95, .bool t95), (96, .pointer (some ⟨t8b, (t8o + 3), none⟩))] 127 27 (by kernel_rfl) fun J => ?_
        obtain ⟨t97c0, t97c1, t97c2, t97c3, t97c4, q55, h⟩ := h
        refine KE.rdF (one_ldA (by kernel_rfl) q55) (by kernel_rfl) ?_
        obtain ⟨t98, H_7, q56, h⟩ := h
        refine KE.se (one_ca (by kernel_rfl) q56) (by kernel_rfl) ?_
        refine KE.run 2 [(1, .int .i64 t1), (5, .pointer t5), (6, .pointer (some ⟨t6b, t6o, none⟩)), (17, .slice (some ⟨t17b, t17o, none⟩) t17n t17k), (18, .int .i64 t18), (19, .int .i64 t19), (100, .bool (!(t95 == t98)))] 127 31 (by kernel_rfl) fun J => ?_
        obtain ⟨q57, q58, h⟩ := h
        refine KE.fin (H' := H_7) (by kernel_rfl) (rdsS (rdsS (rfl) (rd_ok (Hs := [H_1]) (by kernel_rfl) (by kernel_rfl) ⟨one_ld (by kernel_rfl) q57, trivial⟩)) (rd_ok (Hs := [H_6]) (by kernel_rfl) (by kernel_rfl) ⟨one_ldA (by kernel_rfl) q58, trivial⟩)) (by kernel_rfl) ?_
        exact KR.run 0 [(1, .int .i64 t1), (5, .pointer t5), (6, .pointer (some ⟨t6b, t6o, none⟩)), (17, .slice (some ⟨t17b, t17o, none⟩) t17n t17k), (18, .int .i64 t18), (19, .int .i64 t19), (100, .bool (!(t95 == t98)))] 127 (s' := (.code (sub B [1, 1, 1, 0, 1, 0, 0, 1, 1, 0, 0, 1, 1, 1, 1, 1, 1, 1]) :: S8)) (by kernel_rfl) h
      · replace h := iteF c52 h
        refine KE.setV 92 (by kernel_rfl) (nB (bF c52)) ?_
        refine KE.run 2 [(1, .int .i64 t1), (5, .pointer t5), (6, .pointer (some ⟨t6b, t6o, none⟩)), (8, .pointer (some ⟨t8b, t8o, none⟩)), (17, .slice (some ⟨t17b, t17o, none⟩) t17n t17k), (18, .int .i64 t18), (19, .int .i64 t19), (92, .bool true), (94, undef)] 127 25 (by kernel_rfl) fun J => ?_
        refine KE.no (Gc := H_5) (by kernel_rfl) (by kernel_rfl) (by kernel_rfl) ?_
        refine KE.run 2 [(1, .int .i64 t1), (5, .pointer t5), (6, .pointer (some ⟨t6b, t6o, none⟩)), (17, .slice (some ⟨t17b, t17o, none⟩) t17n t17k), (18, .int .i64 t18), (19, .int .i64 t19), (92, .bool true), (95, undef), (97, undef)] 127 28 (by kernel_rfl) fun J => ?_
        refine KE.no (Gc := H_5) (by kernel_rfl) (by kernel_rfl) (by kernel_rfl) ?_
        refine KE.run 2 [(1, .int .i64 t1), (5, .pointer t5), (6, .pointer (some ⟨t6b, t6o, none⟩)), (17, .slice (some ⟨t17b, t17o, none⟩) t17n t17k), (18, .int .i64 t18), (19, .int .i64 t19), (100, .bool true)] 127 31 (by kernel_rfl) fun J => ?_
        obtain ⟨q59, h⟩ := h
        refine KE.fin (H' := H_5) (by kernel_rfl) (rdsS (rfl) (rd_ok (Hs := [H_1]) (by kernel_rfl) (by kernel_rfl) ⟨one_ld (by kernel_rfl) q59, trivial⟩)) (by kernel_rfl) ?_
        exact KR.run 0 [(1, .int .i64 t1), (5, .pointer t5), (6, .pointer (some ⟨t6b, t6o, none⟩)), (17, .slice (some ⟨t17b, t17o, none⟩) t17n t17k), (18, .int .i64 t18), (19, .int .i64 t19), (100, .bool true)] 127 (s' := (.code (sub B [1, 1, 1, 0, 1, 0, 0, 1, 1, 0, 0, 1, 1, 1, 1, 1, 1, 1]) :: S8)) (by kernel_rfl) h
    · replace h := iteF c48 h
      refine KE.setV 82 (by kernel_rfl) (nB (bF c48)) ?_
      refine KE.run 2 [(1, .int .i64 t1), (5, .pointer t5), (6, .pointer (some ⟨t6b, t6o, none⟩)), (8, .pointer (some ⟨t8b, t8o, none⟩)), (10, .int .i64 t10), (17, .slice (some ⟨t17b, t17o, none⟩) t17n t17k), (18, .int .i64 t18), (19, .int .i64 t19), (82, .bool true), (83, undef), (84, undef)] 127 15 (by kernel_rfl) fun J => ?_
      refine KE.no (Gc := H_2) (by kernel_rfl) (by kernel_rfl) (by kernel_rfl) ?_
      refine KE.run 2 [(1, .int .i64 t1), (5, .pointer t5), (6, .pointer (some ⟨t6b, t6o, none⟩)), (8, .pointer (some ⟨t8b, t8o, none⟩)), (17, .slice (some ⟨t17b, t17o, none⟩) t17n t17k), (18, .int .i64 t18), (19, .int .i64 t19), (82, .bool true), (85, undef), (86, undef), (87, undef)] 127 18 (by kernel_rfl) fun J => ?_
      refine KE.no (Gc := H_2) (by kernel_rfl) (by kernel_rfl) (by kernel_rfl) ?_
      refine KE.no (Gc := H_2) (by kernel_rfl) (by kernel_rfl) (by kernel_rfl) ?_
      refine KE.run 5 [(1, .int .i64 t1), (5, .pointer t5), (6, .pointer (some ⟨t6b, t6o, none⟩)), (8, .pointer (some ⟨t8b, t8o, none⟩)), (17, .slice (some ⟨t17b, t17o, none⟩) t17n t17k), (18, .int .i64 t18), (19, .int .i64 t19), (92, .bool true), (94, undef)] 127 25 (by kernel_rfl) fun J => ?_
      refine KE.no (Gc := H_2) (by kernel_rfl) (by kernel_rfl) (by kernel_rfl) ?_
      refine KE.run 2 [(1, .int .i64 t1), (5, .pointer t5), (6, .pointer (some ⟨t6b, t6o, none⟩)), (17, .slice (some ⟨t17b, t17o, none⟩) t17n t17k), (18, .int .i64 t18), (19, .int .i64 t19), (92, .bool true), (95, undef), (97, undef)] 127 28 (by kernel_rfl) fun J => ?_
      refine KE.no (Gc := H_2) (by kernel_rfl) (by kernel_rfl) (by kernel_rfl) ?_
      refine KE.run 2 [(1, .int .i64 t1), (5, .pointer t5), (6, .pointer (some ⟨t6b, t6o, none⟩)), (17, .slice (some ⟨t17b, t17o, none⟩) t17n t17k), (18, .int .i64 t18), (19, .int .i64 t19), (100, .bool true)] 127 31 (by kernel_rfl) fun J => ?_
      obtain ⟨q60, h⟩ := h
      refine KE.fin (H' := H_2) (by kernel_rfl) (rdsS (rfl) (rd_ok (Hs := [H_1]) (by kernel_rfl) (by kernel_rfl) ⟨one_ld (by kernel_rfl) q60, trivial⟩)) (by kernel_rfl) ?_
      exact KR.run 0 [(1, .int .i64 t1), (5, .pointer t5), (6, .pointer (some ⟨t6b, t6o, none⟩)), (17, .slice (some ⟨t17b, t17o, none⟩) t17n t17k), (18, .int .i64 t18), (19, .int .i64 t19), (100, .bool true)] 127 (s' := (.code (sub B [1, 1, 1, 0, 1, 0, 0, 1, 1, 0, 0, 1, 1, 1, 1, 1, 1, 1]) :: S8)) (by kernel_rfl) h
  · replace h := iteF c44 h
    refine KE.setV 72 (by kernel_rfl) (nB (bF c44)) ?_
    refine KE.run 1 [(1, .int .i64 t1), (5, .pointer t5), (6, .pointer (some ⟨t6b, t6o, none⟩)), (8, .pointer (some ⟨t8b, t8o, none⟩)), (10, .int .i64 t10), (17, .slice (some ⟨t17b, t17o, none⟩) t17n t17k), (18, .int .i64 t18), (19, .int .i64 t19), (72, .bool true), (73, undef)] 127 4 (by kernel_rfl) fun J => ?_
    refine KE.no (Gc := H) (by kernel_rfl) (by kernel_rfl) (by kernel_rfl) ?_
    refine KE.run 4 [(1, .int .i64 t1), (5, .pointer t5), (6, .pointer (some ⟨t6b, t6o, none⟩)), (8, .pointer (some ⟨t8b, t8o, none⟩)), (10, .int .i64 t10), (17, .slice (some ⟨t17b, t17o, none⟩) t17n t17k), (18, .int .i64 t18), (19, .int .i64 t19), (72, .bool true), (74, undef), (78, undef)] 127 9 (by kernel_rfl) fun J => ?_
    refine KE.no (Gc := H) (by kernel_rfl) (by kernel_rfl) (by kernel_rfl) ?_
    refine KE.run 5 [(1, .int .i64 t1), (5, .pointer t5), (6, .pointer (some ⟨t6b, t6o, none⟩)), (8, .pointer (some ⟨t8b, t8o, none⟩)), (10, .int .i64 t10), (17, .slice (some ⟨t17b, t17o, none⟩) t17n t17k), (18, .int .i64 t18), (19, .int .i64 t19), (82, .bool true), (83, undef), (84, undef)] 127 15 (by kernel_rfl) fun J => ?_
    refine KE.no (Gc := H) (by kernel_rfl) (by kernel_rfl) (by kernel_rfl) ?_
    refine KE.run 2 [(1, .int .i64 t1), (5, .pointer t5), (6, .pointer (some ⟨t6b, t6o, none⟩)), (8, .pointer (some ⟨t8b, t8o, none⟩)), (17, .slice (some ⟨t17b, t17o, none⟩) t17n t17k), (18, .int .i64 t18), (19, .int .i64 t19), (82, .bool true), (85, undef), (86, undef), (87, undef)] 127 18 (by kernel_rfl) fun J => ?_
    refine KE.no (Gc := H) (by kernel_rfl) (by kernel_rfl) (by kernel_rfl) ?_
    refine KE.no (Gc := H) (by kernel_rfl) (by kernel_rfl) (by kernel_rfl) ?_
    refine KE.run 5 [(1, .int .i64 t1), (5, .pointer t5), (6, .pointer (some ⟨t6b, t6o, none⟩)), (8, .pointer (some ⟨t8b, t8o, none⟩)), (17, .slice (some ⟨t17b, t17o, none⟩) t17n t17k), (18, .int .i64 t18), (19, .int .i64 t19), (92, .bool true), (94, undef)] 127 25 (by kernel_rfl) fun J => ?_
    refine KE.no (Gc := H) (by kernel_rfl) (by kernel_rfl) (by kernel_rfl) ?_
    refine KE.run 2 [(1, .int .i64 t1), (5, .pointer t5), (6, .pointer (some ⟨t6b, t6o, none⟩)), (17, .slice (some ⟨t17b, t17o, none⟩) t17n t17k), (18, .int .i64 t18), (19, .int .i64 t19), (92, .bool true), (95, undef), (97, undef)] 127 28 (by kernel_rfl) fun J => ?_
    refine KE.no (Gc := H) (by kernel_rfl) (by kernel_rfl) (by kernel_rfl) ?_
    refine KE.run 2 [(1, .int .i64 t1), (5, .pointer t5), (6, .pointer (some ⟨t6b, t6o, none⟩)), (17, .slice (some ⟨t17b, t17o, none⟩) t17n t17k), (18, .int .i64 t18), (19, .int .i64 t19), (100, .bool true)] 127 31 (by kernel_rfl) fun J => ?_
    refine KE.fin (H' := H) (by kernel_rfl) (rfl) (by kernel_rfl) ?_
    exact KR.run 0 [(1, .int .i64 t1), (5, .pointer t5), (6, .pointer (some ⟨t6b, t6o, none⟩)), (17, .slice (some ⟨t17b, t17o, none⟩) t17n t17k), (18, .int .i64 t18), (19, .int .i64 t19), (100, .bool true)] 127 (s' := (.code (sub B [1, 1, 1, 0, 1, 0, 0, 1, 1, 0, 0, 1, 1, 1, 1, 1, 1, 1]) :: S8)) (by kernel_rfl) h
theorem L5_step {t1 : Int} {t5 : Option Addr} {t6b : Nat} {t6o : Nat} {t17b : Nat} {t17o : Nat} {t17n : Nat} {t17k : Nat} {t18 : Int} {t19 : Int} {t100 : Bool} {H : Heap} {r : Value × Heap} (h :
    if t100 = true then
    (r = (.bool false, H))
    else
    (L0 (t1) (t5) (t6b) (t6o) ((some ⟨t17b, t17o, none⟩)) (t17n) (t17k) (t18) ((IntKind.wrap .i64 (t19 + 1))) H r)) :
    L5 t1 t5 t6b t6o t17b t17o t17n t17k t18 t19 t100 H r := by
  intro J
  show KR _ _ _ (.code (sub B [1, 1, 1, 0, 1, 0, 0, 1, 1, 0, 0, 1, 1, 1, 1, 1, 1, 1]) :: S8) _ _ _
  by_cases c61 : t100 = true
  · replace h := iteT c61 h
    refine KR.br true (by kernel_rfl) (vB (bT c61)) ?_
    refine KR.run 4 [(4, .bool false)] 127 (s' := (.code (sub B [1, 1, 1, 0, 1, 0, 0, 1, 1, 0, 0, 1, 1, 1, 1, 1, 1, 1, 0, 1]) :: S8)) (by kernel_rfl) fun J => ?_
    exact KR.fin (by kernel_rfl) h
  · replace h := iteF c61 h
    refine KR.br false (by kernel_rfl) (vB (bF c61)) ?_
    exact KR.run 6 [(1, .int .i64 t1), (5, .pointer t5), (6, .pointer (some ⟨t6b, t6o, none⟩)), (17, .slice (some ⟨t17b, t17o, none⟩) t17n t17k), (18, .int .i64 t18), (19, .int .i64 (IntKind.wrap .i64 (t19 + 1)))] 127 (s' := (.lp (sub B [1, 1, 1, 0, 1, 0, 0]) :: S4)) (by kernel_rfl) h
theorem call {a0a : Option Addr} {a0n : Nat} {a0k : Nat} {a1 : Int} {H : Heap} {r : Value × Heap} (h :
    ∃ (t12 : Option Addr) (H_1 : Heap), xC Try.prog good 16 [] H = some (.pointer t12, H_1) ∧
    (∃ (H_2 : Heap), H_2 = H_1.push (.row [.int .i64 0, .int .i64 0, .int .i64 0, .int .i64 0, .slice none 0 0] true) ∧
    (if (Option.isNone t12) = true then
    (r = (.bool false, H_2))
    else
    (L0 (a1) (t12) (H_1.next) (0) (a0a) (a0n) (a0k) (((a0n : Nat) : Int)) 0 H_2 r)))) :
    xC Try.prog good 10 [.slice a0a a0n a0k, .int .i64 a1] H = some r := by
  refine KR.enter (fn := Try.f10) (c := B) (by kernel_rfl) (by kernel_rfl) ?_
  refine KR.run 6 [(0, .slice a0a a0n a0k), (1, .int .i64 a1)] 127 (s' := (.reg (opsAt (sub B [1, 0])) [0, 1, 2, 3, 4] :: S0)) (by kernel_rfl) fun J => ?_
  obtain ⟨t12, H_1, q1, h⟩ := h
  refine KR.se (one_ca (by kernel_rfl) q1) ?_
  refine KR.run 1 [(0, .slice a0a a0n a0k), (1, .int .i64 a1), (12, .pointer t12), (13, .agg #[.int .i64 0, .int .i64 0, .int .i64 0, .int .i64 0, .slice none 0 0])] 127 (s' := (.reg (opsAt (sub B [1, 0])) [2, 3, 4] :: S0)) (by kernel_rfl) fun J => ?_
  obtain ⟨H_2, q2, h⟩ := h
  refine KR.mk (w := pRow [.int .i64 0, .int .i64 0, .int .i64 0, .int .i64 0, .slice none 0 0]) (one_al (by kernel_rfl)) q2 ?_
  refine KR.run 7 [(0, .slice a0a a0n a0k), (1, .int .i64 a1), (5, .pointer t12), (6, .pointer (some ⟨H_1.next, 0, none⟩)), (15, .pointer t12)] 127 (s' := (.reg (opsAt (sub B [1, 1, 0, 0])) [1] :: S2)) (by kernel_rfl) fun J => ?_
  refine KR.p (one_nl false t12 (by kernel_rfl)) ?_
  refine KR.run 1 [(0, .slice a0a a0n a0k), (1, .int .i64 a1), (5, .pointer t12), (6, .pointer (some ⟨H_1.next, 0, none⟩)), (16, .bool (Option.isNone t12))] 127 (s' := (.code (sub B [1, 1, 0, 1]) :: S1)) (by kernel_rfl) fun J => ?_
  by_cases c4 : (Option.isNone t12) = true
  · replace h := iteT c4 h
    refine KR.br true (by kernel_rfl) (vB (bT c4)) ?_
    refine KR.run 4 [(4, .bool false)] 127 (s' := (.code (sub B [1, 1, 0, 1, 0, 1]) :: S1)) (by kernel_rfl) fun J => ?_
    exact KR.fin (by kernel_rfl) h
  · replace h := iteF c4 h
    refine KR.br false (by kernel_rfl) (vB (bF c4)) ?_
    exact KR.run 10 [(1, .int .i64 a1), (5, .pointer t12), (6, .pointer (some ⟨H_1.next, 0, none⟩)), (17, .slice a0a a0n a0k), (18, .int .i64 ((a0n : Nat) : Int)), (19, .int .i64 0)] 127 (s' := (.lp (sub B [1, 1, 1, 0, 1, 0, 0]) :: S4)) (by kernel_rfl) h
end F10
end Go.X
