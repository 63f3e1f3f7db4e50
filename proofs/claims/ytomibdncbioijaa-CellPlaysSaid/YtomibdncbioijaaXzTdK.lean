/- The walks of the functions: printed. -/
import Derived.Test.YtomibdncbioijaaXzGd
set_option linter.unusedVariables false
set_option maxRecDepth 100000
namespace Go.X
open Go Go.RowKit Go.Proofs
/-! #### 22 campanile/cell.Less -/
namespace F22
noncomputable def B : Code := bodyOf Try.f22
noncomputable def S0 : List It := (.code (sub B [1]) :: [])
noncomputable def S1 : List It := (.code (sub B [1, 1]) :: [])
theorem call {a0c0 : Int} {a0c1 : Int} {a0c2 : Int} {a0c3 : Int} {a0c4 : Int} {a1c0 : Int} {a1c1 : Int} {a1c2 : Int} {a1c3 : Int} {a1c4 : Int} {H : Heap} {r : Value × Heap} (h :
    ∃ (H_1 : Heap), H_1 = H.push (.row [.int .i64 a0c0, .int .i64 a0c1, .int .i64 a0c2, .int .i64 a0c3, .int .i64 a0c4] true) ∧
    (∃ (H_2 : Heap), H_2 = H_1.push (.row [.int .i64 a1c0, .int .i64 a1c1, .int .i64 a1c2, .int .i64 a1c3, .int .i64 a1c4] true) ∧
    (∃ (t5c0 : Int) (t5c1 : Int) (t5c2 : Int) (t5c3 : Int) (t5c4 : Int), ldAll H_2 H.next 0 [.int .i64 t5c0, .int .i64 t5c1, .int .i64 t5c2, .int .i64 t5c3, .int .i64 t5c4] ∧
    (∃ (t6c0 : Int) (t6c1 : Int) (t6c2 : Int) (t6c3 : Int) (t6c4 : Int), ldAll H_2 H_1.next 0 [.int .i64 t6c0, .int .i64 t6c1, .int .i64 t6c2, .int .i64 t6c3, .int .i64 t6c4] ∧
    (∃ (t7 : Int) (H_3 : Heap), xC Try.prog good 42 [.agg #[.int .i64 t5c0, .int .i64 t5c1, .int .i64 t5c2, .int .i64 t5c3, .int .i64 t5c4], .agg #[.int .i64 t6c0, .int .i64 t6c1, .int .i64 t6c2, .int .i64 t6c3, .int .i64 t6c4]] H_2 = some (.int .i64 t7, H_3) ∧
    (r = (.bool (decide (t7 < 0)), H_3))))))) :
    xC Try.prog good 22 [.agg #[.int .i64 a0c0, .int .i64 a0c1, .int .i64 a0c2, .int .i64 a0c3, .int .i64 a0c4], .agg #[.int .i64 a1c0, .int .i64 a1c1, .int .i64 a1c2, .int .i64 a1c3, .int .i64 a1c4]] H = some r := by
  refine KR.enter (fn := Try.f22) (c := B) (by kernel_rfl) (by kernel_rfl) ?_
  refine KR.run 2 [(0, .agg #[.int .i64 a0c0, .int .i64 a0c1, .int .i64 a0c2, .int .i64 a0c3, .int .i64 a0c4]), (1, .agg #[.int .i64 a1c0, .int .i64 a1c1, .int .i64 a1c2, .int .i64 a1c3, .int .i64 a1c4])] 9 (s' := (.reg (opsAt (sub B [0])) [0, 1, 2] :: S0)) (by kernel_rfl) fun J => ?_
  obtain ⟨H_1, q1, h⟩ := h
  refine KR.mk (w := pRow [.int .i64 a0c0, .int .i64 a0c1, .int .i64 a0c2, .int .i64 a0c3, .int .i64 a0c4]) (one_al (by kernel_rfl)) q1 ?_
  obtain ⟨H_2, q2, h⟩ := h
  refine KR.mk (w := pRow [.int .i64 a1c0, .int .i64 a1c1, .int .i64 a1c2, .int .i64 a1c3, .int .i64 a1c4]) (one_al (by kernel_rfl)) q2 ?_
  refine KR.run 4 [(2, .pointer (some ⟨H.next, 0, none⟩)), (3, .pointer (some ⟨H_1.next, 0, none⟩))] 9 (s' := (.reg (opsAt (sub B [1, 0])) [0, 1, 2, 3, 4] :: S1)) (by kernel_rfl) fun J => ?_
  obtain ⟨t5c0, t5c1, t5c2, t5c3, t5c4, q3, h⟩ := h
  refine KR.rd (one_ldA (by kernel_rfl) q3) ?_
  obtain ⟨t6c0, t6c1, t6c2, t6c3, t6c4, q4, h⟩ := h
  refine KR.rd (one_ldA (by kernel_rfl) q4) ?_
  obtain ⟨t7, H_3, q5, h⟩ := h
  refine KR.se (one_ca (by kernel_rfl) q5) ?_
  refine KR.run 3 [(4, .bool (decide (t7 < 0)))] 9 (s' := (.code (sub B [1, 1]) :: [])) (by kernel_rfl) fun J => ?_
  exact KR.fin (by kernel_rfl) h
end F22
/-! #### 23 campanile/campanileref8.Less -/
namespace F23
noncomputable def B : Code := bodyOf Try.f23
noncomputable def S0 : List It := (.code (sub B [1]) :: [])
noncomputable def S1 : List It := (.code (sub B [1, 1]) :: [])
noncomputable def S2 : List It := (.code (sub B [1, 1, 1]) :: [])
noncomputable def S3 : List It := (.code (sub B [1, 1, 1, 1]) :: [])
noncomputable def S4 : List It := (.blk 0 :: S3)
noncomputable def S5 : List It := (.lp (sub B [1, 1, 1, 0, 1, 0, 0]) :: S4)
noncomputable def S6 : List It := (.code (sub B [1, 1, 1, 0, 1, 0, 0, 1, 1]) :: S5)
noncomputable def S7 : List It := (.code (sub B [1, 1, 1, 0, 1, 0, 0, 1, 1, 1]) :: S5)
noncomputable def S8 : List It := (.blk 1 :: S7)
noncomputable def S9 : List It := (.code (sub B [1, 1, 1, 0, 1, 0, 0, 1, 1, 0, 0, 1, 1]) :: S8)
noncomputable def S10 : List It := (.code (sub B [1, 1, 1, 0, 1, 0, 0, 1, 1, 0, 0, 1, 1, 0, 1]) :: S8)
def L0 (t5b : Nat) (t5o : Nat) (t6b : Nat) (t6o : Nat) (t30 : Int) (H : Heap) (r : Value × Heap) : Prop := ∀ J, KR Try.prog good Try.f23 S5 (mat J 48 [(5, .pointer (some ⟨t5b, t5o, none⟩)), (6, .pointer (some ⟨t6b, t6o, none⟩)), (30, .int .i64 t30)]) H r
theorem L0_step {t5b : Nat} {t5o : Nat} {t6b : Nat} {t6o : Nat} {t30 : Int} {H : Heap} {r : Value × Heap} (h :
    if t30 < 5 then
    ((0 : Int) ≤ t30 ∧ t30 < (5 : Int) ∧
    (∃ (t35 : Int), ldc H t5b (t5o + Int.toNat t30 * 1) = some (.int .i64 t35) ∧
    ((0 : Int) ≤ t30 ∧ t30 < (5 : Int) ∧
    (∃ (t38 : Int), ldc H t6b (t6o + Int.toNat t30 * 1) = some (.int .i64 t38) ∧
    (if t35 = t38 then
    (L0 (t5b) (t5o) (t6b) (t6o) ((IntKind.wrap .i64 (t30 + 1))) H r)
    else
    ((0 : Int) ≤ t30 ∧ t30 < (5 : Int) ∧
    (∃ (t42 : Int), ldc H t5b (t5o + Int.toNat t30 * 1) = some (.int .i64 t42) ∧
    ((0 : Int) ≤ t30 ∧ t30 < (5 : Int) ∧
    (∃ (t45 : Int), ldc H t6b (t6o + Int.toNat t30 * 1) = some (.int .i64 t45) ∧
    (r = (.bool (decide (t42 < t45)), H)))))))))))
    else
    (r = (.bool false, H))) :
    L0 t5b t5o t6b t6o t30 H r := by
  intro J
  show KR _ _ _ (.lp (sub B [1, 1, 1, 0, 1, 0, 0]) :: S4) _ _ _
  refine KR.run 6 [(5, .pointer (some ⟨t5b, t5o, none⟩)), (6, .pointer (some ⟨t6b, t6o, none⟩)), (30, .int .i64 t30), (31, .bool (decide (t30 < 5)))] 48 (s' := (.code (sub B [1, 1, 1, 0, 1, 0, 0, 1, 0]) :: S6)) (by kernel_rfl) fun J => ?_
  by_cases c17 : t30 < 5
  · replace h := iteT c17 h
    refine KR.br true (by kernel_rfl) (vB (dT c17)) ?_
    refine KR.run 9 [(5, .pointer (some ⟨t5b, t5o, none⟩)), (6, .pointer (some ⟨t6b, t6o, none⟩)), (7, .int .i64 t30), (30, .int .i64 t30)] 48 (s' := (.code (sub B [1, 1, 1, 0, 1, 0, 0, 1, 1, 0, 0, 1, 0]) :: S9)) (by kernel_rfl) fun J => ?_
    refine KR.sd (by kernel_rfl) ?_
    refine KR.run 1 [(5, .pointer (some ⟨t5b, t5o, none⟩)), (6, .pointer (some ⟨t6b, t6o, none⟩)), (7, .int .i64 t30), (30, .int .i64 t30), (33, .int .i64 t30)] 48 (s' := (.reg (opsAt (sub B [1, 1, 1, 0, 1, 0, 0, 1, 1, 0, 0, 1, 0])) [1, 2, 3, 4, 5, 6] :: S9)) (by kernel_rfl) fun J => ?_
    obtain ⟨q18, q18x, h⟩ := h
    refine KR.p (one_ix 1 t5b t5o (by kernel_rfl) q18 q18x) ?_
    obtain ⟨t35, q19, h⟩ := h
    refine KR.rd (one_ld (by kernel_rfl) q19) ?_
    refine KR.run 1 [(5, .pointer (some ⟨t5b, t5o, none⟩)), (6, .pointer (some ⟨t6b, t6o, none⟩)), (7, .int .i64 t30), (30, .int .i64 t30), (35, .int .i64 t35), (36, .int .i64 t30)] 48 (s' := (.reg (opsAt (sub B [1, 1, 1, 0, 1, 0, 0, 1, 1, 0, 0, 1, 0])) [4, 5, 6] :: S9)) (by kernel_rfl) fun J => ?_
    obtain ⟨q20, q20x, h⟩ := h
    refine KR.p (one_ix 1 t6b t6o (by kernel_rfl) q20 q20x) ?_
    obtain ⟨t38, q21, h⟩ := h
    refine KR.rd (one_ld (by kernel_rfl) q21) ?_
    refine KR.run 2 [(5, .pointer (some ⟨t5b, t5o, none⟩)), (6, .pointer (some ⟨t6b, t6o, none⟩)), (7, .int .i64 t30), (30, .int .i64 t30), (39, .bool (!(t35 == t38)))] 48 (s' := (.code (sub B [1, 1, 1, 0, 1, 0, 0, 1, 1, 0, 0, 1, 1]) :: S8)) (by kernel_rfl) fun J => ?_
    by_cases c22 : t35 = t38
    · replace h := iteT c22 h
      refine KR.br false (by kernel_rfl) (vB (nB (eT c22))) ?_
      exact KR.run 6 [(5, .pointer (some ⟨t5b, t5o, none⟩)), (6, .pointer (some ⟨t6b, t6o, none⟩)), (30, .int .i64 (IntKind.wrap .i64 (t30 + 1)))] 48 (s' := (.lp (sub B [1, 1, 1, 0, 1, 0, 0]) :: S4)) (by kernel_rfl) h
    · replace h := iteF c22 h
      refine KR.br true (by kernel_rfl) (vB (nB (eF c22))) ?_
      refine KR.run 1 [(5, .pointer (some ⟨t5b, t5o, none⟩)), (6, .pointer (some ⟨t6b, t6o, none⟩)), (7, .int .i64 t30)] 48 (s' := (.code (sub B [1, 1, 1, 0, 1, 0, 0, 1, 1, 0, 0, 1, 1, 0, 0]) :: S10)) (by kernel_rfl) fun J => ?_
      refine KR.sd (by kernel_rfl) ?_
      refine KR.run 1 [(5, .pointer (some ⟨t5b, t5o, none⟩)), (6, .pointer (some ⟨t6b, t6o, none⟩)), (7, .int .i64 t30), (40, .int .i64 t30)] 48 (s' := (.reg (opsAt (sub B [1, 1, 1, 0, 1, 0, 0, 1, 1, 0, 0, 1, 1, 0, 0])) [1, 2, 3, 4, 5, 6, 7] :: S10)) (by kernel_rfl) fun J => ?_
      obtain ⟨q23, q23x, h⟩ := h
      refine KR.p (one_ix 1 t5b t5o (by kernel_rfl) q23 q23x) ?_
      obtain ⟨t42, q24, h⟩ := h
      refine KR.rd (one_ld (by kernel_rfl) q24) ?_
      refine KR.run 1 [(6, .pointer (some ⟨t6b, t6o, none⟩)), (42, .int .i64 t42), (43, .int .i64 t30)] 48 (s' := (.reg (opsAt (sub B [1, 1, 1, 0, 1, 0, 0, 1, 1, 0, 0, 1, 1, 0, 0])) [4, 5, 6, 7] :: S10)) (by kernel_rfl) fun J => ?_
      obtain ⟨q25, q25x, h⟩ := h
      refine KR.p (one_ix 1 t6b t6o (by kernel_rfl) q25 q25x) ?_
      obtain ⟨t45, q26, h⟩ := h
      refine KR.rd (one_ld (by kernel_rfl) q26) ?_
      refine KR.run 3 [(4, .bool (decide (t42 < t45)))] 48 (s' := (.code (sub B [1, 1, 1, 0, 1, 0, 0, 1, 1, 0, 0, 1, 1, 0, 1]) :: S8)) (by kernel_rfl) fun J => ?_
      exact KR.fin (by kernel_rfl) h
  · replace h := iteF c17 h
    refine KR.br false (by kernel_rfl) (vB (dF c17)) ?_
    refine KR.run 5 [(4, .bool false)] 48 (s' := (.code (sub B [1, 1, 1, 1, 1]) :: [])) (by kernel_rfl) fun J => ?_
    exact KR.fin (by kernel_rfl) h
theorem call {a0c0 : Int} {a0c1 : Int} {a0c2 : Int} {a0c3 : Int} {a0c4 : Int} {a1c0 : Int} {a1c1 : Int} {a1c2 : Int} {a1c3 : Int} {a1c4 : Int} {H : Heap} {r : Value × Heap} (h :
    ∃ (H_1 : Heap), H_1 = H.push (.row [.int .i64 a0c0, .int .i64 a0c1, .int .i64 a0c2, .int .i64 a0c3, .int .i64 a0c4] true) ∧
    (∃ (H_2 : Heap), H_2 = H_1.push (.row [.int .i64 a1c0, .int .i64 a1c1, .int .i64 a1c2, .int .i64 a1c3, .int .i64 a1c4] true) ∧
    (∃ (t9 : Int), ldc H_2 H.next 0 = some (.int .i64 t9) ∧
    (∃ (t11 : Int), ldc H_2 H.next 1 = some (.int .i64 t11) ∧
    (∃ (t13 : Int), ldc H_2 H.next 2 = some (.int .i64 t13) ∧
    (∃ (t15 : Int), ldc H_2 H.next 3 = some (.int .i64 t15) ∧
    (∃ (t17 : Int), ldc H_2 H.next 4 = some (.int .i64 t17) ∧
    (∃ (H_3 : Heap), H_3 = H_2.push (.row [.int .i64 0, .int .i64 0, .int .i64 0, .int .i64 0, .int .i64 0] true) ∧
    (∃ (H_4 : Heap), stc H_3 H_2.next 0 [.int .i64 t9, .int .i64 t11, .int .i64 t13, .int .i64 t15, .int .i64 t17] = some H_4 ∧
    (∃ (t20 : Int), ldc H_4 H_1.next 0 = some (.int .i64 t20) ∧
    (∃ (t22 : Int), ldc H_4 H_1.next 1 = some (.int .i64 t22) ∧
    (∃ (t24 : Int), ldc H_4 H_1.next 2 = some (.int .i64 t24) ∧
    (∃ (t26 : Int), ldc H_4 H_1.next 3 = some (.int .i64 t26) ∧
    (∃ (t28 : Int), ldc H_4 H_1.next 4 = some (.int .i64 t28) ∧
    (∃ (H_5 : Heap), H_5 = H_4.push (.row [.int .i64 0, .int .i64 0, .int .i64 0, .int .i64 0, .int .i64 0] true) ∧
    (∃ (H_6 : Heap), stc H_5 H_4.next 0 [.int .i64 t20, .int .i64 t22, .int .i64 t24, .int .i64 t26, .int .i64 t28] = some H_6 ∧
    (L0 (H_2.next) (0) (H_4.next) (0) 0 H_6 r))))))))))))))))) :
    xC Try.prog good 23 [.agg #[.int .i64 a0c0, .int .i64 a0c1, .int .i64 a0c2, .int .i64 a0c3, .int .i64 a0c4], .agg #[.int .i64 a1c0, .int .i64 a1c1, .int .i64 a1c2, .int .i64 a1c3, .int .i64 a1c4]] H = some r := by
  refine KR.enter (fn := Try.f23) (c := B) (by kernel_rfl) (by kernel_rfl) ?_
  refine KR.run 2 [(0, .agg #[.int .i64 a0c0, .int .i64 a0c1, .int .i64 a0c2, .int .i64 a0c3, .int .i64 a0c4]), (1, .agg #[.int .i64 a1c0, .int .i64 a1c1, .int .i64 a1c2, .int .i64 a1c3, .int .i64 a1c4])] 48 (s' := (.reg (opsAt (sub B [0])) [0, 1, 2] :: S0)) (by kernel_rfl) fun J => ?_
  obtain ⟨H_1, q1, h⟩ := h
  refine KR.mk (w := pRow [.int .i64 a0c0, .int .i64 a0c1, .int .i64 a0c2, .int .i64 a0c3, .int .i64 a0c4]) (one_al (by kernel_rfl)) q1 ?_
  obtain ⟨H_2, q2, h⟩ := h
  refine KR.mk (w := pRow [.int .i64 a1c0, .int .i64 a1c1, .int .i64 a1c2, .int .i64 a1c3, .int .i64 a1c4]) (one_al (by kernel_rfl)) q2 ?_
  refine KR.run 5 [(2, .pointer (some ⟨H.next, 0, none⟩)), (3, .pointer (some ⟨H_1.next, 0, none⟩)), (8, .pointer (some ⟨H.next, 0, none⟩))] 48 (s' := (.reg (opsAt (sub B [1, 0])) [1, 2, 3, 4, 5, 6, 7, 8, 9, 10, 11, 12] :: S1)) (by kernel_rfl) fun J => ?_
  obtain ⟨t9, q3, h⟩ := h
  refine KR.rd (one_ld (by kernel_rfl) q3) ?_
  refine KR.run 1 [(2, .pointer (some ⟨H.next, 0, none⟩)), (3, .pointer (some ⟨H_1.next, 0, none⟩)), (9, .int .i64 t9), (10, .pointer (some ⟨H.next, 1, none⟩))] 48 (s' := (.reg (opsAt (sub B [1, 0])) [3, 4, 5, 6, 7, 8, 9, 10, 11, 12] :: S1)) (by kernel_rfl) fun J => ?_
  obtain ⟨t11, q4, h⟩ := h
  refine KR.rd (one_ld (by kernel_rfl) q4) ?_
  refine KR.run 1 [(2, .pointer (some ⟨H.next, 0, none⟩)), (3, .pointer (some ⟨H_1.next, 0, none⟩)), (9, .int .i64 t9), (11, .int .i64 t11), (12, .pointer (some ⟨H.next, 2, none⟩))] 48 (s' := (.reg (opsAt (sub B [1, 0])) [5, 6, 7, 8, 9, 10, 11, 12] :: S1)) (by kernel_rfl) fun J => ?_
  obtain ⟨t13, q5, h⟩ := h
  refine KR.rd (one_ld (by kernel_rfl) q5) ?_
  refine KR.run 1 [(2, .pointer (some ⟨H.next, 0, none⟩)), (3, .pointer (some ⟨H_1.next, 0, none⟩)), (9, .int .i64 t9), (11, .int .i64 t11), (13, .int .i64 t13), (14, .pointer (some ⟨H.next, 3, none⟩))] 48 (s' := (.reg (opsAt (sub B [1, 0])) [7, 8, 9, 10, 11, 12] :: S1)) (by kernel_rfl) fun J => ?_
  obtain ⟨t15, q6, h⟩ := h
  refine KR.rd (one_ld (by kernel_rfl) q6) ?_
  refine KR.run 1 [(3, .pointer (some ⟨H_1.next, 0, none⟩)), (9, .int .i64 t9), (11, .int .i64 t11), (13, .int .i64 t13), (15, .int .i64 t15), (16, .pointer (some ⟨H.next, 4, none⟩))] 48 (s' := (.reg (opsAt (sub B [1, 0])) [9, 10, 11, 12] :: S1)) (by kernel_rfl) fun J => ?_
  obtain ⟨t17, q7, h⟩ := h
  refine KR.rd (one_ld (by kernel_rfl) q7) ?_
  refine KR.run 1 [(3, .pointer (some ⟨H_1.next, 0, none⟩)), (18, .agg #[.int .i64 t9, .int .i64 t11, .int .i64 t13, .int .i64 t15, .int .i64 t17])] 48 (s' := (.reg (opsAt (sub B [1, 0])) [11, 12] :: S1)) (by kernel_rfl) fun J => ?_
  obtain ⟨H_3, q8, h⟩ := h
  refine KR.mk (w := pRow [.int .i64 0, .int .i64 0, .int .i64 0, .int .i64 0, .int .i64 0]) (one_al (by kernel_rfl)) q8 ?_
  obtain ⟨H_4, q9, h⟩ := h
  refine KR.se (one_st (by kernel_rfl) q9) ?_
  refine KR.run 4 [(3, .pointer (some ⟨H_1.next, 0, none⟩)), (5, .pointer (some ⟨H_2.next, 0, none⟩)), (19, .pointer (some ⟨H_1.next, 0, none⟩))] 48 (s' := (.reg (opsAt (sub B [1, 1, 0])) [1, 2, 3, 4, 5, 6, 7, 8, 9, 10, 11, 12] :: S2)) (by kernel_rfl) fun J => ?_
  obtain ⟨t20, q10, h⟩ := h
  refine KR.rd (one_ld (by kernel_rfl) q10) ?_
  refine KR.run 1 [(3, .pointer (some ⟨H_1.next, 0, none⟩)), (5, .pointer (some ⟨H_2.next, 0, none⟩)), (20, .int .i64 t20), (21, .pointer (some ⟨H_1.next, 1, none⟩))] 48 (s' := (.reg (opsAt (sub B [1, 1, 0])) [3, 4, 5, 6, 7, 8, 9, 10, 11, 12] :: S2)) (by kernel_rfl) fun J => ?_
  obtain ⟨t22, q11, h⟩ := h
  refine KR.rd (one_ld (by kernel_rfl) q11) ?_
  refine KR.run 1 [(3, .pointer (some ⟨H_1.next, 0, none⟩)), (5, .pointer (some ⟨H_2.next, 0, none⟩)), (20, .int .i64 t20), (22, .int .i64 t22), (23, .pointer (some ⟨H_1.next, 2, none⟩))] 48 (s' := (.reg (opsAt (sub B [1, 1, 0])) [5, 6, 7, 8, 9, 10, 11, 12] :: S2)) (by kernel_rfl) fun J => ?_
  obtain ⟨t24, q12, h⟩ := h
  refine KR.rd (one_ld (by kernel_rfl) q12) ?_
  refine KR.run 1 [(3, .pointer (some ⟨H_1.next, 0, none⟩)), (5, .pointer (some ⟨H_2.next, 0, none⟩)), (20, .int .i64 t20), (22, .int .i64 t22), (24, .int .i64 t24), (25, .pointer (some ⟨H_1.next, 3, none⟩))] 48 (s' := (.reg (opsAt (sub B [1, 1, 0])) [7, 8, 9, 10, 11, 12] :: S2)) (by kernel_rfl) fun J => ?_
  obtain ⟨t26, q13, h⟩ := h
  refine KR.rd (one_ld (by kernel_rfl) q13) ?_
  refine KR.run 1 [(5, .pointer (some ⟨H_2.next, 0, none⟩)), (20, .int .i64 t20), (22, .int .i64 t22), (24, .int .i64 t24), (26, .int .i64 t26), (27, .pointer (some ⟨H_1.next, 4, none⟩))] 48 (s' := (.reg (opsAt (sub B [1, 1, 0])) [9, 10, 11, 12] :: S2)) (by kernel_rfl) fun J => ?_
  obtain ⟨t28, q14, h⟩ := h
  refine KR.rd (one_ld (by kernel_rfl) q14) ?_
  refine KR.run 1 [(5, .pointer (some ⟨H_2.next, 0, none⟩)), (29, .agg #[.int .i64 t20, .int .i64 t22, .int .i64 t24, .int .i64 t26, .int .i64 t28])] 48 (s' := (.reg (opsAt (sub B [1, 1, 0])) [11, 12] :: S2)) (by kernel_rfl) fun J => ?_
  obtain ⟨H_5, q15, h⟩ := h
  refine KR.mk (w := pRow [.int .i64 0, .int .i64 0, .int .i64 0, .int .i64 0, .int .i64 0]) (one_al (by kernel_rfl)) q15 ?_
  obtain ⟨H_6, q16, h⟩ := h
  refine KR.se (one_st (by kernel_rfl) q16) ?_
  exact KR.run 8 [(5, .pointer (some ⟨H_2.next, 0, none⟩)), (6, .pointer (some ⟨H_4.next, 0, none⟩)), (30, .int .i64 0)] 48 (s' := (.lp (sub B [1, 1, 1, 0, 1, 0, 0]) :: S4)) (by kernel_rfl) h
end F23
/-! #### 42 campanile/cell.compare -/
namespace F42
noncomputable def B : Code := bodyOf Try.f42
noncomputable def S0 : List It := (.code (sub B [1]) :: [])
noncomputable def S1 : List It := (.code (sub B [1, 1]) :: [])
theorem call {a0c0 : Int} {a0c1 : Int} {a0c2 : Int} {a0c3 : Int} {a0c4 : Int} {a1c0 : Int} {a1c1 : Int} {a1c2 : Int} {a1c3 : Int} {a1c4 : Int} {H : Heap} {r : Value × Heap} (h :
    ∃ (H_1 : Heap), H_1 = H.push (.row [.int .i64 a0c0, .int .i64 a0c1, .int .i64 a0c2, .int .i64 a0c3, .int .i64 a0c4] true) ∧
    (∃ (H_2 : Heap), H_2 = H_1.push (.row [.int .i64 a1c0, .int .i64 a1c1, .int .i64 a1c2, .int .i64 a1c3, .int .i64 a1c4] true) ∧
    (∃ (t6 : Int), ldc H_2 H.next 0 = some (.int .i64 t6) ∧
    (∃ (t8 : Int), ldc H_2 H_1.next 0 = some (.int .i64 t8) ∧
    (∃ (t9 : Int) (H_3 : Heap), xC Try.prog good 52 [.int .i64 t6, .int .i64 t8] H_2 = some (.int .i64 t9, H_3) ∧
    (∃ (t11 : Int), ldc H_2 H.next 1 = some (.int .i64 t11) ∧
    (∃ (t13 : Int), ldc H_2 H_1.next 1 = some (.int .i64 t13) ∧
    (∃ (t14 : Int) (H_4 : Heap), xC Try.prog good 52 [.int .i64 t11, .int .i64 t13] H_3 = some (.int .i64 t14, H_4) ∧
    (∃ (t16 : Int), ldc H_2 H.next 2 = some (.int .i64 t16) ∧
    (∃ (t18 : Int), ldc H_2 H_1.next 2 = some (.int .i64 t18) ∧
    (∃ (t19 : Int) (H_5 : Heap), xC Try.prog good 52 [.int .i64 t16, .int .i64 t18] H_4 = some (.int .i64 t19, H_5) ∧
    (∃ (t21 : Int), ldc H_2 H.next 3 = some (.int .i64 t21) ∧
    (∃ (t23 : Int), ldc H_2 H_1.next 3 = some (.int .i64 t23) ∧
    (∃ (t24 : Int) (H_6 : Heap), xC Try.prog good 52 [.int .i64 t21, .int .i64 t23] H_5 = some (.int .i64 t24, H_6) ∧
    (∃ (t26 : Int), ldc H_2 H.next 4 = some (.int .i64 t26) ∧
    (∃ (t28 : Int), ldc H_2 H_1.next 4 = some (.int .i64 t28) ∧
    (∃ (t29 : Int) (H_7 : Heap), xC Try.prog good 52 [.int .i64 t26, .int .i64 t28] H_6 = some (.int .i64 t29, H_7) ∧
    (∃ (H_8 : Heap), H_8 = H_7.push (.row [.int .i64 t9, .int .i64 t14, .int .i64 t19, .int .i64 t24, .int .i64 t29] true) ∧
    (∃ (t31 : Int) (H_9 : Heap), xC Try.prog good 51 [.slice (some ⟨H_7.next, 0, none⟩) 5 (UNK 1)] H_8 = some (.int .i64 t31, H_9) ∧
    (ldc H_3 H.next 1 = some (.int .i64 t11) ∧
    ldc H_3 H_1.next 1 = some (.int .i64 t13) ∧
    ldc H_3 H.next 2 = some (.int .i64 t16) ∧
    ldc H_4 H.next 2 = some (.int .i64 t16) ∧
    ldc H_3 H_1.next 2 = some (.int .i64 t18) ∧
    ldc H_4 H_1.next 2 = some (.int .i64 t18) ∧
    ldc H_3 H.next 3 = some (.int .i64 t21) ∧
    ldc H_4 H.next 3 = some (.int .i64 t21) ∧
    ldc H_5 H.next 3 = some (.int .i64 t21) ∧
    ldc H_3 H_1.next 3 = some (.int .i64 t23) ∧
    ldc H_4 H_1.next 3 = some (.int .i64 t23) ∧
    ldc H_5 H_1.next 3 = some (.int .i64 t23) ∧
    ldc H_3 H.next 4 = some (.int .i64 t26) ∧
    ldc H_4 H.next 4 = some (.int .i64 t26) ∧
    ldc H_5 H.next 4 = some (.int .i64 t26) ∧
    ldc H_6 H.next 4 = some (.int .i64 t26) ∧
    ldc H_3 H_1.next 4 = some (.int .i64 t28) ∧
    ldc H_4 H_1.next 4 = some (.int .i64 t28) ∧
    ldc H_5 H_1.next 4 = some (.int .i64 t28) ∧
    ldc H_6 H_1.next 4 = some (.int .i64 t28) ∧
    (r = (.int .i64 t31, H_9)))))))))))))))))))))) :
    xC Try.prog good 42 [.agg #[.int .i64 a0c0, .int .i64 a0c1, .int .i64 a0c2, .int .i64 a0c3, .int .i64 a0c4], .agg #[.int .i64 a1c0, .int .i64 a1c1, .int .i64 a1c2, .int .i64 a1c3, .int .i64 a1c4]] H = some r := by
  refine KR.enter (fn := Try.f42) (c := B) (by kernel_rfl) (by kernel_rfl) ?_
  refine KR.run 2 [(0, .agg #[.int .i64 a0c0, .int .i64 a0c1, .int .i64 a0c2, .int .i64 a0c3, .int .i64 a0c4]), (1, .agg #[.int .i64 a1c0, .int .i64 a1c1, .int .i64 a1c2, .int .i64 a1c3, .int .i64 a1c4])] 32 (s' := (.reg (opsAt (sub B [0])) [0, 1, 2] :: S0)) (by kernel_rfl) fun J => ?_
  obtain ⟨H_1, q1, h⟩ := h
  refine KR.mk (w := pRow [.int .i64 a0c0, .int .i64 a0c1, .int .i64 a0c2, .int .i64 a0c3, .int .i64 a0c4]) (one_al (by kernel_rfl)) q1 ?_
  obtain ⟨H_2, q2, h⟩ := h
  refine KR.mk (w := pRow [.int .i64 a1c0, .int .i64 a1c1, .int .i64 a1c2, .int .i64 a1c3, .int .i64 a1c4]) (one_al (by kernel_rfl)) q2 ?_
  refine KR.run 3 [(2, .pointer (some ⟨H.next, 0, none⟩)), (3, .pointer (some ⟨H_1.next, 0, none⟩))] 32 (s' := (.code (sub B [1, 0]) :: S1)) (by kernel_rfl) fun J => ?_
  refine KE.start H_2 (by kernel_rfl) (by kernel_rfl) ?_
  refine KE.run 1 [(2, .pointer (some ⟨H.next, 0, none⟩)), (3, .pointer (some ⟨H_1.next, 0, none⟩)), (5, .pointer (some ⟨H.next, 0, none⟩))] 32 1 (by kernel_rfl) fun J => ?_
  obtain ⟨t6, q3, h⟩ := h
  refine KE.rdN (one_ld (by kernel_rfl) q3) (by kernel_rfl) ?_
  refine KE.run 1 [(2, .pointer (some ⟨H.next, 0, none⟩)), (3, .pointer (some ⟨H_1.next, 0, none⟩)), (6, .int .i64 t6), (7, .pointer (some ⟨H_1.next, 0, none⟩))] 32 3 (by kernel_rfl) fun J => ?_
  obtain ⟨t8, q4, h⟩ := h
  refine KE.rdN (one_ld (by kernel_rfl) q4) (by kernel_rfl) ?_
  obtain ⟨t9, H_3, q5, h⟩ := h
  refine KE.se (one_ca (by kernel_rfl) q5) (by kernel_rfl) ?_
  refine KE.run 1 [(2, .pointer (some ⟨H.next, 0, none⟩)), (3, .pointer (some ⟨H_1.next, 0, none⟩)), (9, .int .i64 t9), (10, .pointer (some ⟨H.next, 1, none⟩))] 32 6 (by kernel_rfl) fun J => ?_
  obtain ⟨t11, q6, h⟩ := h
  refine KE.rdF (one_ld (by kernel_rfl) q6) (by kernel_rfl) ?_
  refine KE.run 1 [(2, .pointer (some ⟨H.next, 0, none⟩)), (3, .pointer (some ⟨H_1.next, 0, none⟩)), (9, .int .i64 t9), (11, .int .i64 t11), (12, .pointer (some ⟨H_1.next, 1, none⟩))] 32 8 (by kernel_rfl) fun J => ?_
  obtain ⟨t13, q7, h⟩ := h
  refine KE.rdF (one_ld (by kernel_rfl) q7) (by kernel_rfl) ?_
  obtain ⟨t14, H_4, q8, h⟩ := h
  refine KE.se (one_ca (by kernel_rfl) q8) (by kernel_rfl) ?_
  refine KE.run 1 [(2, .pointer (some ⟨H.next, 0, none⟩)), (3, .pointer (some ⟨H_1.next, 0, none⟩)), (9, .int .i64 t9), (14, .int .i64 t14), (15, .pointer (some ⟨H.next, 2, none⟩))] 32 11 (by kernel_rfl) fun J => ?_
  obtain ⟨t16, q9, h⟩ := h
  refine KE.rdF (one_ld (by kernel_rfl) q9) (by kernel_rfl) ?_
  refine KE.run 1 [(2, .pointer (some ⟨H.next, 0, none⟩)), (3, .pointer (some ⟨H_1.next, 0, none⟩)), (9, .int .i64 t9), (14, .int .i64 t14), (16, .int .i64 t16), (17, .pointer (some ⟨H_1.next, 2, none⟩))] 32 13 (by kernel_rfl) fun J => ?_
  obtain ⟨t18, q10, h⟩ := h
  refine KE.rdF (one_ld (by kernel_rfl) q10) (by kernel_rfl) ?_
  obtain ⟨t19, H_5, q11, h⟩ := h
  refine KE.se (one_ca (by kernel_rfl) q11) (by kernel_rfl) ?_
  refine KE.run 1 [(2, .pointer (some ⟨H.next, 0, none⟩)), (3, .pointer (some ⟨H_1.next, 0, none⟩)), (9, .int .i64 t9), (14, .int .i64 t14), (19, .int .i64 t19), (20, .pointer (some ⟨H.next, 3, none⟩))] 32 16 (by kernel_rfl) fun J => ?_
  obtain ⟨t21, q12, h⟩ := h
  refine KE.rdF (one_ld (by kernel_rfl) q12) (by kernel_rfl) ?_
  refine KE.run 1 [(2, .pointer (some ⟨H.next, 0, none⟩)), (3, .pointer (some ⟨H_1.next, 0, none⟩)), (9, .int .i64 t9), (14, .int .i64 t14), (19, .int .i64 t19), (21, .int .i64 t21), (22, .pointer (some ⟨H_1.next, 3, none⟩))] 32 18 (by kernel_rfl) fun J => ?_
  obtain ⟨t23, q13, h⟩ := h
  refine KE.rdF (one_ld (by kernel_rfl) q13) (by kernel_rfl) ?_
  obtain ⟨t24, H_6, q14, h⟩ := h
  refine KE.se (one_ca (by kernel_rfl) q14) (by kernel_rfl) ?_
  refine KE.run 1 [(3, .pointer (some ⟨H_1.next, 0, none⟩)), (9, .int .i64 t9), (14, .int .i64 t14), (19, .int .i64 t19), (24, .int .i64 t24), (25, .pointer (some ⟨H.next, 4, none⟩))] 32 21 (by kernel_rfl) fun J => ?_
  obtain ⟨t26, q15, h⟩ := h
  refine KE.rdF (one_ld (by kernel_rfl) q15) (by kernel_rfl) ?_
  refine KE.run 1 [(9, .int .i64 t9), (14, .int .i64 t14), (19, .int .i64 t19), (24, .int .i64 t24), (26, .int .i64 t26), (27, .pointer (some ⟨H_1.next, 4, none⟩))] 32 23 (by kernel_rfl) fun J => ?_
  obtain ⟨t28, q16, h⟩ := h
  refine KE.rdF (one_ld (by kernel_rfl) q16) (by kernel_rfl) ?_
  obtain ⟨t29, H_7, q17, h⟩ := h
  refine KE.se (one_ca (by kernel_rfl) q17) (by kernel_rfl) ?_
  obtain ⟨H_8, q18, h⟩ := h
  refine KE.mk (w := sRow 5 1 [.int .i64 t9, .int .i64 t14, .int .i64 t19, .int .i64 t24, .int .i64 t29]) (one_al (by kernel_rfl)) (by kernel_rfl) (by kernel_rfl) q18 ?_
  obtain ⟨t31, H_9, q19, h⟩ := h
  refine KE.se (one_ca (by kernel_rfl) q19) (by kernel_rfl) ?_
  refine KE.run 1 [(4, .int .i64 t31)] 32 28 (by kernel_rfl) fun J => ?_
  obtain ⟨q20, q21, q22, q23, q24, q25, q26, q27, q28, q29, q30, q31, q32, q33, q34, q35, q36, q37, q38, q39, h⟩ := h
  refine KE.fin (H' := H_9) (by kernel_rfl) (rdsS (rdsS (rdsS (rdsS (rdsS (rdsS (rdsS (rdsS (rfl) (rd_ok (Hs := [H_3]) (by kernel_rfl) (by kernel_rfl) ⟨one_ld (by kernel_rfl) q20, trivial⟩)) (rd_ok (Hs := [H_3]) (by kernel_rfl) (by kernel_rfl) ⟨one_ld (by kernel_rfl) q21, trivial⟩)) (rd_ok (Hs := [H_3, H_4]) (by kernel_rfl) (by kernel_rfl) ⟨one_ld (by kernel_rfl) q22, ⟨one_ld (by kernel_rfl) q23, trivial⟩⟩)) (rd_ok (Hs := [H_3, H_4]) (by kernel_rfl) (by kernel_rfl) ⟨one_ld (by kernel_rfl) q24, ⟨one_ld (by kernel_rfl) q25, trivial⟩⟩)) (rd_ok (Hs := [H_3, H_4, H_5]) (by kernel_rfl) (by kernel_rfl) ⟨one_ld (by kernel_rfl) q26, ⟨one_ld (by kernel_rfl) q27, ⟨one_ld (by kernel_rfl) q28, trivial⟩⟩⟩)) (rd_ok (Hs := [H_3, H_4, H_5]) (by kernel_rfl) (by kernel_rfl) ⟨one_ld (by kernel_rfl) q29, ⟨one_ld (by kernel_rfl) q30, ⟨one_ld (by kernel_rfl) q31, trivial⟩⟩⟩)) (rd_ok (Hs := [H_3, H_4, H_5, H_6]) (by kernel_rfl) (by kernel_rfl) ⟨one_ld (by kernel_rfl) q32, ⟨one_ld (by kernel_rfl) q33, ⟨one_ld (by kernel_rfl) q34, ⟨one_ld (by kernel_rfl) q35, trivial⟩⟩⟩⟩)) (rd_ok (Hs := [H_3, H_4, H_5, H_6]) (by kernel_rfl) (by kernel_rfl) ⟨one_ld (by kernel_rfl) q36, ⟨one_ld (by kernel_rfl) q37, ⟨one_ld (by kernel_rfl) q38, ⟨one_ld (by kernel_rfl) q39, trivial⟩⟩⟩⟩)) (by kernel_rfl) ?_
  refine KR.run 0 [(4, .int .i64 t31)] 32 (s' := (.code (sub B [1, 1]) :: [])) (by kernel_rfl) fun J => ?_
  exact KR.fin (by kernel_rfl) h
end F42
/-! #### 51 cmp.Or[int] -/
namespace F51
noncomputable def B : Code := bodyOf Try.f51
noncomputable def S0 : List It := (.code (sub B [1, 1, 1]) :: [])
noncomputable def S1 : List It := (.blk 0 :: S0)
noncomputable def S2 : List It := (.lp (sub B [1, 1, 0, 1, 0, 0]) :: S1)
noncomputable def S3 : List It := (.code (sub B [1, 1, 0, 1, 0, 0, 1, 1]) :: S2)
noncomputable def S4 : List It := (.code (sub B [1, 1, 0, 1, 0, 0, 1, 1, 1]) :: S2)
noncomputable def S5 : List It := (.blk 1 :: S4)
noncomputable def S6 : List It := (.code (sub B [1, 1, 0, 1, 0, 0, 1, 1, 0, 0, 1]) :: S5)
def L0 (t3 : Int) (t6a : Option Addr) (t6n : Nat) (t6k : Nat) (t7 : Int) (t8 : Int) (H : Heap) (r : Value × Heap) : Prop := ∀ J, KR Try.prog good Try.f51 S2 (mat J 18 [(3, .int .i64 t3), (6, .slice t6a t6n t6k), (7, .int .i64 t7), (8, .int .i64 t8)]) H r
theorem L0_step {t3 : Int} {t6a : Option Addr} {t6n : Nat} {t6k : Nat} {t7 : Int} {t8 : Int} {H : Heap} {r : Value × Heap} (h :
    if t8 < t7 then
    (∃ (t6ab t6ao : Nat), t6a = some ⟨t6ab, t6ao, none⟩ ∧
    ((0 : Int) ≤ t8 ∧ t8 < ((t6n : Nat) : Int) ∧
    (∃ (t11 : Int), ldc H t6ab (t6ao + Int.toNat t8 * 1) = some (.int .i64 t11) ∧
    (if t11 = t3 then
    (L0 (t3) ((some ⟨t6ab, t6ao, none⟩)) (t6n) (t6k) (t7) ((IntKind.wrap .i64 (t8 + 1))) H r)
    else
    (r = (.int .i64 t11, H))))))
    else
    (r = (.int .i64 t3, H))) :
    L0 t3 t6a t6n t6k t7 t8 H r := by
  intro J
  show KR _ _ _ (.lp (sub B [1, 1, 0, 1, 0, 0]) :: S1) _ _ _
  refine KR.run 6 [(3, .int .i64 t3), (6, .slice t6a t6n t6k), (7, .int .i64 t7), (8, .int .i64 t8), (9, .bool (decide (t8 < t7)))] 18 (s' := (.code (sub B [1, 1, 0, 1, 0, 0, 1, 0]) :: S3)) (by kernel_rfl) fun J => ?_
  by_cases c1 : t8 < t7
  · replace h := iteT c1 h
    refine KR.br true (by kernel_rfl) (vB (dT c1)) ?_
    obtain ⟨t6ab, t6ao, rfl, h⟩ := h
    refine KR.run 5 [(3, .int .i64 t3), (6, .slice (some ⟨t6ab, t6ao, none⟩) t6n t6k), (7, .int .i64 t7), (8, .int .i64 t8)] 18 (s' := (.reg (opsAt (sub B [1, 1, 0, 1, 0, 0, 1, 1, 0, 0, 0])) [0, 1, 2] :: S6)) (by kernel_rfl) fun J => ?_
    obtain ⟨q2, q2x, h⟩ := h
    refine KR.p (one_ix 1 t6ab t6ao (by kernel_rfl) q2 q2x) ?_
    obtain ⟨t11, q3, h⟩ := h
    refine KR.rd (one_ld (by kernel_rfl) q3) ?_
    refine KR.run 8 [(3, .int .i64 t3), (5, .int .i64 t11), (6, .slice (some ⟨t6ab, t6ao, none⟩) t6n t6k), (7, .int .i64 t7), (8, .int .i64 t8), (14, .bool (!(t11 == t3)))] 18 (s' := (.code (sub B [1, 1, 0, 1, 0, 0, 1, 1, 0, 0, 1, 1]) :: S5)) (by kernel_rfl) fun J => ?_
    by_cases c4 : t11 = t3
    · replace h := iteT c4 h
      refine KR.br false (by kernel_rfl) (vB (nB (eT c4))) ?_
      exact KR.run 6 [(3, .int .i64 t3), (6, .slice (some ⟨t6ab, t6ao, none⟩) t6n t6k), (7, .int .i64 t7), (8, .int .i64 (IntKind.wrap .i64 (t8 + 1)))] 18 (s' := (.lp (sub B [1, 1, 0, 1, 0, 0]) :: S1)) (by kernel_rfl) h
    · replace h := iteF c4 h
      refine KR.br true (by kernel_rfl) (vB (nB (eF c4))) ?_
      refine KR.run 5 [(2, .int .i64 t11)] 18 (s' := (.code (sub B [1, 1, 0, 1, 0, 0, 1, 1, 0, 0, 1, 1, 0, 1]) :: S5)) (by kernel_rfl) fun J => ?_
      exact KR.fin (by kernel_rfl) h
  · replace h := iteF c1 h
    refine KR.br false (by kernel_rfl) (vB (dF c1)) ?_
    refine KR.run 6 [(2, .int .i64 t3)] 18 (s' := (.code (sub B [1, 1, 1, 1]) :: [])) (by kernel_rfl) fun J => ?_
    exact KR.fin (by kernel_rfl) h
theorem call {a0a : Option Addr} {a0n : Nat} {a0k : Nat} {H : Heap} {r : Value × Heap} (h :
    L0 0 (a0a) (a0n) (a0k) (((a0n : Nat) : Int)) 0 H r) :
    xC Try.prog good 51 [.slice a0a a0n a0k] H = some r := by
  refine KR.enter (fn := Try.f51) (c := B) (by kernel_rfl) (by kernel_rfl) ?_
  exact KR.run 17 [(3, .int .i64 0), (6, .slice a0a a0n a0k), (7, .int .i64 ((a0n : Nat) : Int)), (8, .int .i64 0)] 18 (s' := (.lp (sub B [1, 1, 0, 1, 0, 0]) :: S1)) (by kernel_rfl) h
end F51
/-! #### 52 cmp.Compare[int] -/
namespace F52
noncomputable def B : Code := bodyOf Try.f52
noncomputable def S0 : List It := (.code (sub B [1, 1]) :: [])
noncomputable def S1 : List It := (.code (sub B [1, 1, 1]) :: [])
noncomputable def S2 : List It := (.code (sub B [1, 1, 1, 1]) :: [])
noncomputable def S4 : List It := (.code (sub B [1, 1, 1, 1, 1]) :: [])
noncomputable def S5 : List It := (.code (sub B [1, 1, 1, 1, 1, 1]) :: [])
noncomputable def S6 : List It := (.code (sub B [1, 1, 1, 1, 1, 1, 1]) :: [])
noncomputable def S3 : List It := (.code (sub B [1, 1, 1, 0, 1, 0, 1]) :: S2)
theorem call {a0 : Int} {a1 : Int} {H : Heap} {r : Value × Heap} (h :
    ∃ (t8 : Bool) (H_1 : Heap), xC Try.prog good 55 [.int .i64 a0] H = some (.bool t8, H_1) ∧
    (∃ (t10 : Bool) (H_2 : Heap), xC Try.prog good 55 [.int .i64 a1] H_1 = some (.bool t10, H_2) ∧
    (if t8 = true then
    (if t10 = true then
    (r = (.int .i64 0, H_2))
    else
    (r = (.int .i64 (-1), H_2)))
    else
    (if t10 = true then
    (r = (.int .i64 1, H_2))
    else
    (if a0 < a1 then
    (r = (.int .i64 (-1), H_2))
    else
    (if a0 > a1 then
    (r = (.int .i64 1, H_2))
    else
    (r = (.int .i64 0, H_2)))))))) :
    xC Try.prog good 52 [.int .i64 a0, .int .i64 a1] H = some r := by
  refine KR.enter (fn := Try.f52) (c := B) (by kernel_rfl) (by kernel_rfl) ?_
  refine KR.run 7 [(0, .int .i64 a0), (1, .int .i64 a1), (7, .int .i64 a0)] 20 (s' := (.reg (opsAt (sub B [1, 0])) [1, 2] :: S0)) (by kernel_rfl) fun J => ?_
  obtain ⟨t8, H_1, q1, h⟩ := h
  refine KR.se (one_ca (by kernel_rfl) q1) ?_
  refine KR.run 5 [(0, .int .i64 a0), (1, .int .i64 a1), (5, .bool t8), (9, .int .i64 a1)] 20 (s' := (.reg (opsAt (sub B [1, 1, 0])) [1, 2] :: S1)) (by kernel_rfl) fun J => ?_
  obtain ⟨t10, H_2, q2, h⟩ := h
  refine KR.se (one_ca (by kernel_rfl) q2) ?_
  refine KR.run 7 [(0, .int .i64 a0), (1, .int .i64 a1), (6, .bool t10), (11, .bool t8)] 20 (s' := (.code (sub B [1, 1, 1, 0, 1]) :: S2)) (by kernel_rfl) fun J => ?_
  by_cases c3 : t8 = true
  · replace h := iteT c3 h
    refine KR.br true (by kernel_rfl) (vB (bT c3)) ?_
    refine KR.run 5 [(12, .bool t10)] 20 (s' := (.code (sub B [1, 1, 1, 0, 1, 0, 0, 1]) :: S3)) (by kernel_rfl) fun J => ?_
    by_cases c4 : t10 = true
    · replace h := iteT c4 h
      refine KR.br true (by kernel_rfl) (vB (bT c4)) ?_
      refine KR.run 4 [(4, .int .i64 0)] 20 (s' := (.code (sub B [1, 1, 1, 0, 1, 0, 0, 1, 0, 1]) :: S3)) (by kernel_rfl) fun J => ?_
      exact KR.fin (by kernel_rfl) h
    · replace h := iteF c4 h
      refine KR.br false (by kernel_rfl) (vB (bF c4)) ?_
      refine KR.run 5 [(4, .int .i64 (-1))] 20 (s' := (.code (sub B [1, 1, 1, 0, 1, 0, 1, 1]) :: S2)) (by kernel_rfl) fun J => ?_
      exact KR.fin (by kernel_rfl) h
  · replace h := iteF c3 h
    refine KR.br false (by kernel_rfl) (vB (bF c3)) ?_
    refine KR.run 6 [(0, .int .i64 a0), (1, .int .i64 a1), (13, .bool t10)] 20 (s' := (.code (sub B [1, 1, 1, 1, 0, 1]) :: S4)) (by kernel_rfl) fun J => ?_
    by_cases c5 : t10 = true
    · replace h := iteT c5 h
      refine KR.br true (by kernel_rfl) (vB (bT c5)) ?_
      refine KR.run 4 [(4, .int .i64 1)] 20 (s' := (.code (sub B [1, 1, 1, 1, 0, 1, 0, 1]) :: S4)) (by kernel_rfl) fun J => ?_
      exact KR.fin (by kernel_rfl) h
    · replace h := iteF c5 h
      refine KR.br false (by kernel_rfl) (vB (bF c5)) ?_
      refine KR.run 8 [(0, .int .i64 a0), (1, .int .i64 a1), (16, .bool (decide (a0 < a1)))] 20 (s' := (.code (sub B [1, 1, 1, 1, 1, 0, 1]) :: S5)) (by kernel_rfl) fun J => ?_
      by_cases c6 : a0 < a1
      · replace h := iteT c6 h
        refine KR.br true (by kernel_rfl) (vB (dT c6)) ?_
        refine KR.run 4 [(4, .int .i64 (-1))] 20 (s' := (.code (sub B [1, 1, 1, 1, 1, 0, 1, 0, 1]) :: S5)) (by kernel_rfl) fun J => ?_
        exact KR.fin (by kernel_rfl) h
      · replace h := iteF c6 h
        refine KR.br false (by kernel_rfl) (vB (dF c6)) ?_
        refine KR.run 8 [(19, .bool (decide (a0 > a1)))] 20 (s' := (.code (sub B [1, 1, 1, 1, 1, 1, 0, 1]) :: S6)) (by kernel_rfl) fun J => ?_
        by_cases c7 : a0 > a1
        · replace h := iteT c7 h
          refine KR.br true (by kernel_rfl) (vB (dT c7)) ?_
          refine KR.run 4 [(4, .int .i64 1)] 20 (s' := (.code (sub B [1, 1, 1, 1, 1, 1, 0, 1, 0, 1]) :: S6)) (by kernel_rfl) fun J => ?_
          exact KR.fin (by kernel_rfl) h
        · replace h := iteF c7 h
          refine KR.br false (by kernel_rfl) (vB (dF c7)) ?_
          refine KR.run 5 [(4, .int .i64 0)] 20 (s' := (.code (sub B [1, 1, 1, 1, 1, 1, 1, 1]) :: [])) (by kernel_rfl) fun J => ?_
          exact KR.fin (by kernel_rfl) h
end F52
/-! #### 55 cmp.isNaN[int] -/
namespace F55
noncomputable def B : Code := bodyOf Try.f55
theorem call {a0 : Int} {H : Heap} {r : Value × Heap} (h :
    r = (.bool (!(a0 == a0)), H)) :
    xC Try.prog good 55 [.int .i64 a0] H = some r := by
  refine KR.enter (fn := Try.f55) (c := B) (by kernel_rfl) (by kernel_rfl) ?_
  refine KR.run 11 [(2, .bool (!(a0 == a0)))] 6 (s' := (.code (sub B [1, 1]) :: [])) (by kernel_rfl) fun J => ?_
  exact KR.fin (by kernel_rfl) h
end F55
end Go.X
