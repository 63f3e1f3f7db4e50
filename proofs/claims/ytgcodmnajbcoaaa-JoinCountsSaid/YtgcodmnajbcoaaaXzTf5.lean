/- The walks of the functions: printed. -/
import Derived.Test.YtgcodmnajbcoaaaXzGf
set_option linter.unusedVariables false
set_option maxRecDepth 100000
namespace Go.X
open Go Go.RowKit Go.Proofs
/-! #### 3 campanile/campanilelaw18.JoinForms -/
namespace F5
noncomputable def B : Code := bodyOf Try.f5
noncomputable def S0 : List It := (.code (sub B [1, 1]) :: [])
noncomputable def S1 : List It := (.code (sub B [1, 1, 1]) :: [])
noncomputable def S2 : List It := (.code (sub B [1, 1, 1, 1]) :: [])
noncomputable def S3 : List It := (.code (sub B [1, 1, 1, 1, 1]) :: [])
noncomputable def S5 : List It := (.code (sub B [1, 1, 1, 1, 1, 1]) :: [])
noncomputable def S6 : List It := (.code (sub B [1, 1, 1, 1, 1, 1, 1]) :: [])
noncomputable def S7 : List It := (.code (sub B [1, 1, 1, 1, 1, 1, 1, 1]) :: [])
noncomputable def S8 : List It := (.code (sub B [1, 1, 1, 1, 1, 1, 1, 1, 1]) :: [])
noncomputable def S9 : List It := (.code (sub B [1, 1, 1, 1, 1, 1, 1, 1, 1, 1]) :: [])
noncomputable def S11 : List It := (.code (sub B [1, 1, 1, 1, 1, 1, 1, 1, 1, 1, 1]) :: [])
noncomputable def S4 : List It := (.code (sub B [1, 1, 1, 1, 0, 1]) :: S3)
noncomputable def S10 : List It := (.code (sub B [1, 1, 1, 1, 1, 1, 1, 1, 1, 0, 1]) :: S9)
noncomputable def S12 : List It := (.code (sub B [1, 1, 1, 1, 1, 1, 1, 1, 1, 0, 1, 0, 1]) :: S9)
def L0 (t0 : Int) (t2 : Int) (t7 : Option Addr) (t8a : Option Addr) (t8n : Nat) (t8k : Nat) (t10b : Nat) (t10o : Nat) (t45 : Bool) (H : Heap) (r : Value × Heap) : Prop := ∀ J, KR Try.prog good Try.f5 S4 (mat J 93 [(0, .int .u64 t0), (2, .int .u32 t2), (7, .pointer t7), (8, .slice t8a t8n t8k), (10, .pointer (some ⟨t10b, t10o, none⟩)), (45, .bool t45)]) H r
theorem L0_step {t0 : Int} {t2 : Int} {t7 : Option Addr} {t8a : Option Addr} {t8n : Nat} {t8k : Nat} {t10b : Nat} {t10o : Nat} {t45 : Bool} {H : Heap} {r : Value × Heap} (h :
    if t45 = true then
    (r = (.bool false, H))
    else
    (∃ (t50r0a : Option Addr) (t50r0n : Nat) (t50r0k : Nat) (t50r1 : Int) (H_1 : Heap), xC Try.prog good 10 [.int .u64 t0, .agg #[.int .i64 0, .int .i64 1, .int .u32 t2, .int .u32 1, .int .u32 0]] H = some (.tuple #[.slice t50r0a t50r0n t50r0k, .int .i64 t50r1], H_1) ∧
    (∃ (t55r0c0 : Int) (t55r0c1 : Int) (t55r0c2 : Int) (t55r0c3 : Int) (t55r0c4 : Int) (t55r1 : Int) (H_2 : Heap), xC Try.prog good 15 [.slice t50r0a t50r0n t50r0k] H_1 = some (.tuple #[.agg #[.int .i64 t55r0c0, .int .i64 t55r0c1, .int .u32 t55r0c2, .int .u32 t55r0c3, .int .u32 t55r0c4], .int .i64 t55r1], H_2) ∧
    (∃ (H_3 : Heap), H_3 = H_2.push (.row [.int .i64 0, .int .i64 0, .int .u32 0, .int .u32 0, .int .u32 0] true) ∧
    (∃ (H_4 : Heap), stc H_3 H_2.next 0 [.int .i64 t55r0c0, .int .i64 t55r0c1, .int .u32 t55r0c2, .int .u32 t55r0c3, .int .u32 t55r0c4] = some H_4 ∧
    (∃ (t61r0c0 : Int) (t61r0c1 : Int) (t61r0c2 : Int) (t61r0c3a : Option Addr) (t61r0c3n : Nat) (t61r0c3k : Nat) (t61r0c4 : Int) (t61r1 : Int) (H_5 : Heap), xC Try.prog good 22 [.pointer t7, .slice t8a t8n t8k, .slice none 0 0] H_4 = some (.tuple #[.agg #[.int .i64 t61r0c0, .int .i64 t61r0c1, .int .u32 t61r0c2, .slice t61r0c3a t61r0c3n t61r0c3k, .int .u32 t61r0c4], .int .i64 t61r1], H_5) ∧
    (∃ (H_6 : Heap), H_6 = H_5.push (.row [.int .i64 0, .int .i64 0, .int .u32 0, .slice none 0 0, .int .u32 0] true) ∧
    (∃ (H_7 : Heap), stc H_6 H_5.next 0 [.int .i64 t61r0c0, .int .i64 t61r0c1, .int .u32 t61r0c2, .slice t61r0c3a t61r0c3n t61r0c3k, .int .u32 t61r0c4] = some H_7 ∧
    (∃ (t67r0c0 : Int) (t67r0c1 : Int) (t67r0c2 : Int) (t67r0c3a : Option Addr) (t67r0c3n : Nat) (t67r0c3k : Nat) (t67r0c4 : Int) (t67r1 : Int) (H_8 : Heap), xC Try.prog good 22 [.pointer t7, .slice t50r0a t50r0n t50r0k, .slice none 0 0] H_7 = some (.tuple #[.agg #[.int .i64 t67r0c0, .int .i64 t67r0c1, .int .u32 t67r0c2, .slice t67r0c3a t67r0c3n t67r0c3k, .int .u32 t67r0c4], .int .i64 t67r1], H_8) ∧
    (∃ (H_9 : Heap), H_9 = H_8.push (.row [.int .i64 0, .int .i64 0, .int .u32 0, .slice none 0 0, .int .u32 0] true) ∧
    (∃ (H_10 : Heap), stc H_9 H_8.next 0 [.int .i64 t67r0c0, .int .i64 t67r0c1, .int .u32 t67r0c2, .slice t67r0c3a t67r0c3n t67r0c3k, .int .u32 t67r0c4] = some H_10 ∧
    (∃ (t71 : Int), ldc H_10 t10b (t10o + 4) = some (.int .u32 t71) ∧
    (∃ (t73 : Int), ldc H_10 H_2.next 4 = some (.int .u32 t73) ∧
    (if t71 = t73 then
    (if t61r1 = 0 then
    (if t67r1 = 8 then
    (∃ (t91 : Bool) (H_11 : Heap), xC Try.prog good 8 [] H_10 = some (.bool t91, H_11) ∧
    (r = (.bool t91, H_11)))
    else
    (r = (.bool false, H_10)))
    else
    (r = (.bool false, H_10)))
    else
    (if t61r1 = 10 then
    (if t67r1 = 0 then
    (∃ (t82 : Bool) (H_12 : Heap), xC Try.prog good 8 [] H_10 = some (.bool t82, H_12) ∧
    (r = (.bool t82, H_12)))
    else
    (r = (.bool false, H_10)))
    else
    (r = (.bool false, H_10))))))))))))))))) :
    L0 t0 t2 t7 t8a t8n t8k t10b t10o t45 H r := by
  intro J
  show KR _ _ _ (.code (sub B [1, 1, 1, 1, 0, 1]) :: S3) _ _ _
  by_cases c10 : t45 = true
  · replace h := iteT c10 h
    refine KR.br true (by kernel_rfl) (vB (bT c10)) ?_
    refine KR.run 4 [(6, .bool false)] 93 (s' := (.code (sub B [1, 1, 1, 1, 0, 1, 0, 1]) :: S3)) (by kernel_rfl) fun J => ?_
    exact KR.fin (by kernel_rfl) h
  · replace h := iteF c10 h
    refine KR.br false (by kernel_rfl) (vB (bF c10)) ?_
    refine KR.run 6 [(7, .pointer t7), (8, .slice t8a t8n t8k), (10, .pointer (some ⟨t10b, t10o, none⟩)), (47, .int .u64 t0), (49, .agg #[.int .i64 0, .int .i64 1, .int .u32 t2, .int .u32 1, .int .u32 0])] 93 (s' := (.reg (opsAt (sub B [1, 1, 1, 1, 1, 0])) [3, 4, 5, 6, 7, 8] :: S5)) (by kernel_rfl) fun J => ?_
    obtain ⟨t50r0a, t50r0n, t50r0k, t50r1, H_1, q11, h⟩ := h
    refine KR.se (one_ca (by kernel_rfl) q11) ?_
    refine KR.run 9 [(7, .pointer t7), (8, .slice t8a t8n t8k), (10, .pointer (some ⟨t10b, t10o, none⟩)), (12, .slice t50r0a t50r0n t50r0k), (54, .slice t50r0a t50r0n t50r0k)] 93 (s' := (.reg (opsAt (sub B [1, 1, 1, 1, 1, 1, 0])) [1, 2, 3, 4, 5, 6, 7] :: S6)) (by kernel_rfl) fun J => ?_
    obtain ⟨t55r0c0, t55r0c1, t55r0c2, t55r0c3, t55r0c4, t55r1, H_2, q12, h⟩ := h
    refine KR.se (one_ca (by kernel_rfl) q12) ?_
    refine KR.run 3 [(7, .pointer t7), (8, .slice t8a t8n t8k), (10, .pointer (some ⟨t10b, t10o, none⟩)), (12, .slice t50r0a t50r0n t50r0k), (56, .agg #[.int .i64 t55r0c0, .int .i64 t55r0c1, .int .u32 t55r0c2, .int .u32 t55r0c3, .int .u32 t55r0c4]), (57, .int .i64 t55r1)] 93 (s' := (.reg (opsAt (sub B [1, 1, 1, 1, 1, 1, 0])) [5, 6, 7] :: S6)) (by kernel_rfl) fun J => ?_
    obtain ⟨H_3, q13, h⟩ := h
    refine KR.mk (w := pRow [.int .i64 0, .int .i64 0, .int .u32 0, .int .u32 0, .int .u32 0]) (one_al (by kernel_rfl)) q13 ?_
    obtain ⟨H_4, q14, h⟩ := h
    refine KR.se (one_st (by kernel_rfl) q14) ?_
    refine KR.run 6 [(7, .pointer t7), (10, .pointer (some ⟨t10b, t10o, none⟩)), (12, .slice t50r0a t50r0n t50r0k), (14, .pointer (some ⟨H_2.next, 0, none⟩)), (59, .pointer t7), (60, .slice t8a t8n t8k)] 93 (s' := (.reg (opsAt (sub B [1, 1, 1, 1, 1, 1, 1, 0])) [2, 3, 4, 5, 6, 7, 8] :: S7)) (by kernel_rfl) fun J => ?_
    obtain ⟨t61r0c0, t61r0c1, t61r0c2, t61r0c3a, t61r0c3n, t61r0c3k, t61r0c4, t61r1, H_5, q15, h⟩ := h
    refine KR.se (one_ca (by kernel_rfl) q15) ?_
    refine KR.run 3 [(7, .pointer t7), (10, .pointer (some ⟨t10b, t10o, none⟩)), (12, .slice t50r0a t50r0n t50r0k), (14, .pointer (some ⟨H_2.next, 0, none⟩)), (62, .agg #[.int .i64 t61r0c0, .int .i64 t61r0c1, .int .u32 t61r0c2, .slice t61r0c3a t61r0c3n t61r0c3k, .int .u32 t61r0c4]), (63, .int .i64 t61r1)] 93 (s' := (.reg (opsAt (sub B [1, 1, 1, 1, 1, 1, 1, 0])) [6, 7, 8] :: S7)) (by kernel_rfl) fun J => ?_
    obtain ⟨H_6, q16, h⟩ := h
    refine KR.mk (w := pRow [.int .i64 0, .int .i64 0, .int .u32 0, .slice none 0 0, .int .u32 0]) (one_al (by kernel_rfl)) q16 ?_
    obtain ⟨H_7, q17, h⟩ := h
    refine KR.se (one_st (by kernel_rfl) q17) ?_
    refine KR.run 6 [(10, .pointer (some ⟨t10b, t10o, none⟩)), (14, .pointer (some ⟨H_2.next, 0, none⟩)), (17, .int .i64 t61r1), (65, .pointer t7), (66, .slice t50r0a t50r0n t50r0k)] 93 (s' := (.reg (opsAt (sub B [1, 1, 1, 1, 1, 1, 1, 1, 0])) [2, 3, 4, 5, 6, 7, 8] :: S8)) (by kernel_rfl) fun J => ?_
    obtain ⟨t67r0c0, t67r0c1, t67r0c2, t67r0c3a, t67r0c3n, t67r0c3k, t67r0c4, t67r1, H_8, q18, h⟩ := h
    refine KR.se (one_ca (by kernel_rfl) q18) ?_
    refine KR.run 3 [(10, .pointer (some ⟨t10b, t10o, none⟩)), (14, .pointer (some ⟨H_2.next, 0, none⟩)), (17, .int .i64 t61r1), (68, .agg #[.int .i64 t67r0c0, .int .i64 t67r0c1, .int .u32 t67r0c2, .slice t67r0c3a t67r0c3n t67r0c3k, .int .u32 t67r0c4]), (69, .int .i64 t67r1)] 93 (s' := (.reg (opsAt (sub B [1, 1, 1, 1, 1, 1, 1, 1, 0])) [6, 7, 8] :: S8)) (by kernel_rfl) fun J => ?_
    obtain ⟨H_9, q19, h⟩ := h
    refine KR.mk (w := pRow [.int .i64 0, .int .i64 0, .int .u32 0, .slice none 0 0, .int .u32 0]) (one_al (by kernel_rfl)) q19 ?_
    obtain ⟨H_10, q20, h⟩ := h
    refine KR.se (one_st (by kernel_rfl) q20) ?_
    refine KR.run 6 [(14, .pointer (some ⟨H_2.next, 0, none⟩)), (17, .int .i64 t61r1), (19, .int .i64 t67r1), (70, .pointer (some ⟨t10b, (t10o + 4), none⟩))] 93 (s' := (.reg (opsAt (sub B [1, 1, 1, 1, 1, 1, 1, 1, 1, 0, 0])) [1, 2, 3, 4] :: S10)) (by kernel_rfl) fun J => ?_
    obtain ⟨t71, q21, h⟩ := h
    refine KR.rd (one_ld (by kernel_rfl) q21) ?_
    refine KR.run 1 [(17, .int .i64 t61r1), (19, .int .i64 t67r1), (71, .int .u32 t71), (72, .pointer (some ⟨H_2.next, 4, none⟩))] 93 (s' := (.reg (opsAt (sub B [1, 1, 1, 1, 1, 1, 1, 1, 1, 0, 0])) [3, 4] :: S10)) (by kernel_rfl) fun J => ?_
    obtain ⟨t73, q22, h⟩ := h
    refine KR.rd (one_ld (by kernel_rfl) q22) ?_
    refine KR.run 2 [(17, .int .i64 t61r1), (19, .int .i64 t67r1), (74, .bool (!(t71 == t73)))] 93 (s' := (.code (sub B [1, 1, 1, 1, 1, 1, 1, 1, 1, 0, 1]) :: S9)) (by kernel_rfl) fun J => ?_
    by_cases c23 : t71 = t73
    · replace h := iteT c23 h
      refine KR.br false (by kernel_rfl) (vB (nB (eT c23))) ?_
      refine KR.run 6 [(19, .int .i64 t67r1), (86, .bool (t61r1 == 0))] 93 (s' := (.reg (opsAt (sub B [1, 1, 1, 1, 1, 1, 1, 1, 1, 1, 0])) [3, 4, 5, 6, 7, 8, 9] :: S11)) (by kernel_rfl) fun J => ?_
      by_cases c24 : t61r1 = 0
      · replace h := iteT c24 h
        refine KR.setV 86 (by kernel_rfl) (eT c24) ?_
        refine KR.run 4 [(90, .bool (t67r1 == 8))] 93 (s' := (.reg (opsAt (sub B [1, 1, 1, 1, 1, 1, 1, 1, 1, 1, 0])) [7, 8, 9] :: S11)) (by kernel_rfl) fun J => ?_
        by_cases c25 : t67r1 = 8
        · replace h := iteT c25 h
          refine KR.setV 90 (by kernel_rfl) (eT c25) ?_
          obtain ⟨t91, H_11, q26, h⟩ := h
          refine KR.se (one_ca (by kernel_rfl) q26) ?_
          refine KR.run 3 [(6, .bool t91)] 93 (s' := (.code (sub B [1, 1, 1, 1, 1, 1, 1, 1, 1, 1, 1]) :: [])) (by kernel_rfl) fun J => ?_
          exact KR.fin (by kernel_rfl) h
        · replace h := iteF c25 h
          refine KR.setV 90 (by kernel_rfl) (eF c25) ?_
          refine KR.run 4 [(6, .bool false)] 93 (s' := (.code (sub B [1, 1, 1, 1, 1, 1, 1, 1, 1, 1, 1]) :: [])) (by kernel_rfl) fun J => ?_
          exact KR.fin (by kernel_rfl) h
      · replace h := iteF c24 h
        refine KR.setV 86 (by kernel_rfl) (eF c24) ?_
        refine KR.run 8 [(6, .bool false)] 93 (s' := (.code (sub B [1, 1, 1, 1, 1, 1, 1, 1, 1, 1, 1]) :: [])) (by kernel_rfl) fun J => ?_
        exact KR.fin (by kernel_rfl) h
    · replace h := iteF c23 h
      refine KR.br true (by kernel_rfl) (vB (nB (eF c23))) ?_
      refine KR.run 5 [(19, .int .i64 t67r1), (77, .bool (t61r1 == 10))] 93 (s' := (.reg (opsAt (sub B [1, 1, 1, 1, 1, 1, 1, 1, 1, 0, 1, 0, 0])) [3, 4, 5, 6, 7, 8, 9] :: S12)) (by kernel_rfl) fun J => ?_
      by_cases c27 : t61r1 = 10
      · replace h := iteT c27 h
        refine KR.setV 77 (by kernel_rfl) (eT c27) ?_
        refine KR.run 4 [(81, .bool (t67r1 == 0))] 93 (s' := (.reg (opsAt (sub B [1, 1, 1, 1, 1, 1, 1, 1, 1, 0, 1, 0, 0])) [7, 8, 9] :: S12)) (by kernel_rfl) fun J => ?_
        by_cases c28 : t67r1 = 0
        · replace h := iteT c28 h
          refine KR.setV 81 (by kernel_rfl) (eT c28) ?_
          obtain ⟨t82, H_12, q29, h⟩ := h
          refine KR.se (one_ca (by kernel_rfl) q29) ?_
          refine KR.run 3 [(6, .bool t82)] 93 (s' := (.code (sub B [1, 1, 1, 1, 1, 1, 1, 1, 1, 0, 1, 0, 1]) :: S9)) (by kernel_rfl) fun J => ?_
          exact KR.fin (by kernel_rfl) h
        · replace h := iteF c28 h
          refine KR.setV 81 (by kernel_rfl) (eF c28) ?_
          refine KR.run 4 [(6, .bool false)] 93 (s' := (.code (sub B [1, 1, 1, 1, 1, 1, 1, 1, 1, 0, 1, 0, 1]) :: S9)) (by kernel_rfl) fun J => ?_
          exact KR.fin (by kernel_rfl) h
      · replace h := iteF c27 h
        refine KR.setV 77 (by kernel_rfl) (eF c27) ?_
        refine KR.run 8 [(6, .bool false)] 93 (s' := (.code (sub B [1, 1, 1, 1, 1, 1, 1, 1, 1, 0, 1, 0, 1]) :: S9)) (by kernel_rfl) fun J => ?_
        exact KR.fin (by kernel_rfl) h
theorem call {a0 : Int} {a1 : Int} {a2 : Int} {H : Heap} {r : Value × Heap} (h :
    ∃ (H_1 : Heap), H_1 = H.push (.row [.int .u64 a0, .int .u64 a1] true) ∧
    (∃ (t23 : Option Addr) (H_2 : Heap), xC Try.prog good 19 [.slice (some ⟨H.next, 0, none⟩) 2 (UNK 1)] H_1 = some (.pointer t23, H_2) ∧
    (∃ (t28r0a : Option Addr) (t28r0n : Nat) (t28r0k : Nat) (t28r1 : Int) (H_3 : Heap), xC Try.prog good 9 [.int .u64 a1, .agg #[.int .i64 0, .int .i64 1, .int .u32 a2, .int .u32 1, .int .u32 0]] H_2 = some (.tuple #[.slice t28r0a t28r0n t28r0k, .int .i64 t28r1], H_3) ∧
    (∃ (t33r0c0 : Int) (t33r0c1 : Int) (t33r0c2 : Int) (t33r0c3 : Int) (t33r0c4 : Int) (t33r1 : Int) (H_4 : Heap), xC Try.prog good 14 [.slice t28r0a t28r0n t28r0k] H_3 = some (.tuple #[.agg #[.int .i64 t33r0c0, .int .i64 t33r0c1, .int .u32 t33r0c2, .int .u32 t33r0c3, .int .u32 t33r0c4], .int .i64 t33r1], H_4) ∧
    (∃ (H_5 : Heap), H_5 = H_4.push (.row [.int .i64 0, .int .i64 0, .int .u32 0, .int .u32 0, .int .u32 0] true) ∧
    (∃ (H_6 : Heap), stc H_5 H_4.next 0 [.int .i64 t33r0c0, .int .i64 t33r0c1, .int .u32 t33r0c2, .int .u32 t33r0c3, .int .u32 t33r0c4] = some H_6 ∧
    (if (Option.isNone t23) = true then
    (L0 (a0) (a2) (t23) (t28r0a) (t28r0n) (t28r0k) (H_4.next) (0) (true) H_6 r)
    else
    (if t28r1 = 0 then
    (L0 (a0) (a2) (t23) (t28r0a) (t28r0n) (t28r0k) (H_4.next) (0) ((!(t33r1 == 0))) H_6 r)
    else
    (L0 (a0) (a2) (t23) (t28r0a) (t28r0n) (t28r0k) (H_4.next) (0) (true) H_6 r))))))))) :
    xC Try.prog good 5 [.int .u64 a0, .int .u64 a1, .int .u32 a2] H = some r := by
  refine KR.enter (fn := Try.f5) (c := B) (by kernel_rfl) (by kernel_rfl) ?_
  refine KR.run 8 [(0, .int .u64 a0), (1, .int .u64 a1), (2, .int .u32 a2), (20, .int .u64 a0), (21, .int .u64 a1)] 93 (s' := (.reg (opsAt (sub B [1, 0])) [2, 3, 4] :: S0)) (by kernel_rfl) fun J => ?_
  obtain ⟨H_1, q1, h⟩ := h
  refine KR.mk (w := sRow 2 1 [.int .u64 a0, .int .u64 a1]) (one_al (by kernel_rfl)) q1 ?_
  obtain ⟨t23, H_2, q2, h⟩ := h
  refine KR.se (one_ca (by kernel_rfl) q2) ?_
  refine KR.run 7 [(0, .int .u64 a0), (2, .int .u32 a2), (7, .pointer t23), (25, .int .u64 a1), (27, .agg #[.int .i64 0, .int .i64 1, .int .u32 a2, .int .u32 1, .int .u32 0])] 93 (s' := (.reg (opsAt (sub B [1, 1, 0])) [3, 4, 5, 6, 7, 8] :: S1)) (by kernel_rfl) fun J => ?_
  obtain ⟨t28r0a, t28r0n, t28r0k, t28r1, H_3, q3, h⟩ := h
  refine KR.se (one_ca (by kernel_rfl) q3) ?_
  refine KR.run 9 [(0, .int .u64 a0), (2, .int .u32 a2), (7, .pointer t23), (8, .slice t28r0a t28r0n t28r0k), (9, .int .i64 t28r1), (32, .slice t28r0a t28r0n t28r0k)] 93 (s' := (.reg (opsAt (sub B [1, 1, 1, 0])) [1, 2, 3, 4, 5, 6, 7] :: S2)) (by kernel_rfl) fun J => ?_
  obtain ⟨t33r0c0, t33r0c1, t33r0c2, t33r0c3, t33r0c4, t33r1, H_4, q4, h⟩ := h
  refine KR.se (one_ca (by kernel_rfl) q4) ?_
  refine KR.run 3 [(0, .int .u64 a0), (2, .int .u32 a2), (7, .pointer t23), (8, .slice t28r0a t28r0n t28r0k), (9, .int .i64 t28r1), (34, .agg #[.int .i64 t33r0c0, .int .i64 t33r0c1, .int .u32 t33r0c2, .int .u32 t33r0c3, .int .u32 t33r0c4]), (35, .int .i64 t33r1)] 93 (s' := (.reg (opsAt (sub B [1, 1, 1, 0])) [5, 6, 7] :: S2)) (by kernel_rfl) fun J => ?_
  obtain ⟨H_5, q5, h⟩ := h
  refine KR.mk (w := pRow [.int .i64 0, .int .i64 0, .int .u32 0, .int .u32 0, .int .u32 0]) (one_al (by kernel_rfl)) q5 ?_
  obtain ⟨H_6, q6, h⟩ := h
  refine KR.se (one_st (by kernel_rfl) q6) ?_
  refine KR.run 6 [(0, .int .u64 a0), (2, .int .u32 a2), (7, .pointer t23), (8, .slice t28r0a t28r0n t28r0k), (9, .int .i64 t28r1), (10, .pointer (some ⟨H_4.next, 0, none⟩)), (11, .int .i64 t33r1), (36, .pointer t23)] 93 (s' := (.reg (opsAt (sub B [1, 1, 1, 1, 0, 0])) [1, 2, 3, 4, 5, 6, 7, 8, 9] :: S4)) (by kernel_rfl) fun J => ?_
  refine KR.p (one_nl false t23 (by kernel_rfl)) ?_
  refine KR.run 1 [(0, .int .u64 a0), (2, .int .u32 a2), (7, .pointer t23), (8, .slice t28r0a t28r0n t28r0k), (9, .int .i64 t28r1), (10, .pointer (some ⟨H_4.next, 0, none⟩)), (11, .int .i64 t33r1), (38, .bool (Option.isNone t23))] 93 (s' := (.reg (opsAt (sub B [1, 1, 1, 1, 0, 0])) [3, 4, 5, 6, 7, 8, 9] :: S4)) (by kernel_rfl) fun J => ?_
  by_cases c8 : (Option.isNone t23) = true
  · replace h := iteT c8 h
    refine KR.setV 38 (by kernel_rfl) (bT c8) ?_
    exact KR.run 8 [(0, .int .u64 a0), (2, .int .u32 a2), (7, .pointer t23), (8, .slice t28r0a t28r0n t28r0k), (10, .pointer (some ⟨H_4.next, 0, none⟩)), (45, .bool true)] 93 (s' := (.code (sub B [1, 1, 1, 1, 0, 1]) :: S3)) (by kernel_rfl) h
  · replace h := iteF c8 h
    refine KR.setV 38 (by kernel_rfl) (bF c8) ?_
    refine KR.run 4 [(0, .int .u64 a0), (2, .int .u32 a2), (7, .pointer t23), (8, .slice t28r0a t28r0n t28r0k), (10, .pointer (some ⟨H_4.next, 0, none⟩)), (11, .int .i64 t33r1), (42, .bool (!(t28r1 == 0)))] 93 (s' := (.reg (opsAt (sub B [1, 1, 1, 1, 0, 0])) [7, 8, 9] :: S4)) (by kernel_rfl) fun J => ?_
    by_cases c9 : t28r1 = 0
    · replace h := iteT c9 h
      refine KR.setV 42 (by kernel_rfl) (nB (eT c9)) ?_
      exact KR.run 4 [(0, .int .u64 a0), (2, .int .u32 a2), (7, .pointer t23), (8, .slice t28r0a t28r0n t28r0k), (10, .pointer (some ⟨H_4.next, 0, none⟩)), (45, .bool (!(t33r1 == 0)))] 93 (s' := (.code (sub B [1, 1, 1, 1, 0, 1]) :: S3)) (by kernel_rfl) h
    · replace h := iteF c9 h
      refine KR.setV 42 (by kernel_rfl) (nB (eF c9)) ?_
      exact KR.run 4 [(0, .int .u64 a0), (2, .int .u32 a2), (7, .pointer t23), (8, .slice t28r0a t28r0n t28r0k), (10, .pointer (some ⟨H_4.next, 0, none⟩)), (45, .bool true)] 93 (s' := (.code (sub B [1, 1, 1, 1, 0, 1]) :: S3)) (by kernel_rfl) h
end F5
end Go.X
