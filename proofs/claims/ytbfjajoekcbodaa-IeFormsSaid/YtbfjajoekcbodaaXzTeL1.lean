/- The walks of the functions: printed. -/
import Derived.Test.YtbfjajoekcbodaaXzGe
set_option linter.unusedVariables false
set_option maxRecDepth 100000
namespace Go.X
open Go Go.RowKit Go.Proofs
/-! #### 3 campanile/campanilelaw6.IeFields -/
namespace F3
noncomputable def B : Code := bodyOf Try.f3
noncomputable def S0 : List It := (.code (sub B [1]) :: [])
noncomputable def S1 : List It := (.code (sub B [1, 1]) :: [])
noncomputable def S4 : List It := (.code (sub B [1, 1, 1]) :: [])
noncomputable def S5 : List It := (.code (sub B [1, 1, 1, 1]) :: [])
noncomputable def S8 : List It := (.code (sub B [1, 1, 1, 1, 1]) :: [])
noncomputable def S9 : List It := (.code (sub B [1, 1, 1, 1, 1, 1]) :: [])
noncomputable def S2 : List It := (.code (sub B [1, 0, 1]) :: S1)
noncomputable def S3 : List It := (.code (sub B [1, 0, 1, 0, 1]) :: S1)
noncomputable def S6 : List It := (.code (sub B [1, 1, 1, 0, 1]) :: S5)
noncomputable def S7 : List It := (.blk 0 :: S5)
noncomputable def S10 : List It := (.reg (opsAt (sub B [1, 1, 1, 1, 0])) [0, 1, 2, 3, 4, 5, 6, 7] :: S8)
def L0 (t1 : Int) (t2b : Nat) (t2o : Nat) (t20 : Bool) (H : Heap) (r : Value × Heap) : Prop := ∀ J, KR Try.prog good Try.f3 S2 (mat J 62 [(1, .int .i64 t1), (2, .pointer (some ⟨t2b, t2o, none⟩)), (20, .bool t20)]) H r
def L1 (t2b : Nat) (t2o : Nat) (t5b : Nat) (t5o : Nat) (H : Heap) (r : Value × Heap) : Prop := ∀ J, KR Try.prog good Try.f3 S10 (mat J 62 [(2, .pointer (some ⟨t2b, t2o, none⟩)), (5, .pointer (some ⟨t5b, t5o, none⟩))]) H r
theorem L0_step {t1 : Int} {t2b : Nat} {t2o : Nat} {t20 : Bool} {H : Heap} {r : Value × Heap} (h :
    if t20 = true then
    (∃ (t21 : Bool) (H_1 : Heap), xC Try.prog good 15 [] H = some (.bool t21, H_1) ∧
    (r = (.bool t21, H_1)))
    else
    (∃ (t22c0 : Int) (t22c1 : Int) (t22c2 : Int) (t22c3 : Int) (t22c4a : Option Addr) (t22c4n : Nat) (t22c4k : Nat), ldAll H t2b t2o [.int .i64 t22c0, .int .i64 t22c1, .int .i64 t22c2, .int .i64 t22c3, .slice t22c4a t22c4n t22c4k] ∧
    (∃ (H_2 : Heap), H_2 = H.push (.row [.int .i64 0, .int .i64 0, .int .i64 0, .int .i64 0, .slice none 0 0] true) ∧
    (∃ (H_3 : Heap), stc H_2 H.next 0 [.int .i64 t22c0, .int .i64 t22c1, .int .i64 t22c2, .int .i64 t22c3, .slice t22c4a t22c4n t22c4k] = some H_3 ∧
    (∃ (t24 : Int), ldc H_3 t2b t2o = some (.int .i64 t24) ∧
    (if t24 = 1 then
    (∃ (H_4 : Heap), stc H_3 H.next 3 [.int .i64 t1] = some H_4 ∧
    (L1 (t2b) (t2o) (H.next) (0) H_4 r))
    else
    (if t24 = 2 then
    (∃ (H_5 : Heap), stc H_3 H.next 2 [.int .i64 t1] = some H_5 ∧
    (L1 (t2b) (t2o) (H.next) (0) H_5 r))
    else
    (∃ (H_6 : Heap), stc H_3 H.next 1 [.int .i64 t1] = some H_6 ∧
    (L1 (t2b) (t2o) (H.next) (0) H_6 r))))))))) :
    L0 t1 t2b t2o t20 H r := by
  intro J
  show KR _ _ _ (.code (sub B [1, 0, 1]) :: S1) _ _ _
  by_cases c9 : t20 = true
  · replace h := iteT c9 h
    refine KR.br true (by kernel_rfl) (vB (bT c9)) ?_
    refine KR.run 2 [] 62 (s' := (.reg (opsAt (sub B [1, 0, 1, 0, 0])) [0, 1] :: S3)) (by kernel_rfl) fun J => ?_
    obtain ⟨t21, H_1, q10, h⟩ := h
    refine KR.se (one_ca (by kernel_rfl) q10) ?_
    refine KR.run 2 [(4, .bool t21)] 62 (s' := (.code (sub B [1, 0, 1, 0, 1]) :: S1)) (by kernel_rfl) fun J => ?_
    exact KR.fin (by kernel_rfl) h
  · replace h := iteF c9 h
    refine KR.br false (by kernel_rfl) (vB (bF c9)) ?_
    refine KR.run 3 [(1, .int .i64 t1), (2, .pointer (some ⟨t2b, t2o, none⟩))] 62 (s' := (.reg (opsAt (sub B [1, 1, 0])) [0, 1, 2] :: S4)) (by kernel_rfl) fun J => ?_
    obtain ⟨t22c0, t22c1, t22c2, t22c3, t22c4a, t22c4n, t22c4k, q11, h⟩ := h
    refine KR.rd (one_ldA (by kernel_rfl) q11) ?_
    obtain ⟨H_2, q12, h⟩ := h
    refine KR.mk (w := pRow [.int .i64 0, .int .i64 0, .int .i64 0, .int .i64 0, .slice none 0 0]) (one_al (by kernel_rfl)) q12 ?_
    obtain ⟨H_3, q13, h⟩ := h
    refine KR.se (one_st (by kernel_rfl) q13) ?_
    refine KR.run 5 [(1, .int .i64 t1), (2, .pointer (some ⟨t2b, t2o, none⟩)), (5, .pointer (some ⟨H.next, 0, none⟩)), (23, .pointer (some ⟨t2b, t2o, none⟩))] 62 (s' := (.reg (opsAt (sub B [1, 1, 1, 0, 0])) [1] :: S6)) (by kernel_rfl) fun J => ?_
    obtain ⟨t24, q14, h⟩ := h
    refine KR.rd (one_ld (by kernel_rfl) q14) ?_
    refine KR.run 7 [(1, .int .i64 t1), (2, .pointer (some ⟨t2b, t2o, none⟩)), (5, .pointer (some ⟨H.next, 0, none⟩)), (24, .int .i64 t24), (27, .bool (t24 == 1))] 62 (s' := (.code (sub B [1, 1, 1, 0, 1, 0, 1]) :: S7)) (by kernel_rfl) fun J => ?_
    by_cases c15 : t24 = 1
    · replace h := iteT c15 h
      refine KR.br true (by kernel_rfl) (vB (eT c15)) ?_
      refine KR.run 3 [(2, .pointer (some ⟨t2b, t2o, none⟩)), (5, .pointer (some ⟨H.next, 0, none⟩)), (29, .int .i64 t1), (30, .pointer (some ⟨H.next, 3, none⟩))] 62 (s' := (.reg (opsAt (sub B [1, 1, 1, 0, 1, 0, 1, 0])) [2] :: S7)) (by kernel_rfl) fun J => ?_
      obtain ⟨H_4, q16, h⟩ := h
      refine KR.se (one_st (by kernel_rfl) q16) ?_
      exact KR.run 4 [(2, .pointer (some ⟨t2b, t2o, none⟩)), (5, .pointer (some ⟨H.next, 0, none⟩))] 62 (s' := (.reg (opsAt (sub B [1, 1, 1, 1, 0])) [0, 1, 2, 3, 4, 5, 6, 7] :: S8)) (by kernel_rfl) h
    · replace h := iteF c15 h
      refine KR.br false (by kernel_rfl) (vB (eF c15)) ?_
      refine KR.run 5 [(1, .int .i64 t1), (2, .pointer (some ⟨t2b, t2o, none⟩)), (5, .pointer (some ⟨H.next, 0, none⟩)), (31, .bool (t24 == 2))] 62 (s' := (.code (sub B [1, 1, 1, 0, 1, 0, 1, 1, 1]) :: S7)) (by kernel_rfl) fun J => ?_
      by_cases c17 : t24 = 2
      · replace h := iteT c17 h
        refine KR.br true (by kernel_rfl) (vB (eT c17)) ?_
        refine KR.run 3 [(2, .pointer (some ⟨t2b, t2o, none⟩)), (5, .pointer (some ⟨H.next, 0, none⟩)), (33, .int .i64 t1), (34, .pointer (some ⟨H.next, 2, none⟩))] 62 (s' := (.reg (opsAt (sub B [1, 1, 1, 0, 1, 0, 1, 1, 1, 0])) [2] :: S7)) (by kernel_rfl) fun J => ?_
        obtain ⟨H_5, q18, h⟩ := h
        refine KR.se (one_st (by kernel_rfl) q18) ?_
        exact KR.run 4 [(2, .pointer (some ⟨t2b, t2o, none⟩)), (5, .pointer (some ⟨H.next, 0, none⟩))] 62 (s' := (.reg (opsAt (sub B [1, 1, 1, 1, 0])) [0, 1, 2, 3, 4, 5, 6, 7] :: S8)) (by kernel_rfl) h
      · replace h := iteF c17 h
        refine KR.br false (by kernel_rfl) (vB (eF c17)) ?_
        refine KR.run 3 [(2, .pointer (some ⟨t2b, t2o, none⟩)), (5, .pointer (some ⟨H.next, 0, none⟩)), (25, .int .i64 t1), (26, .pointer (some ⟨H.next, 1, none⟩))] 62 (s' := (.reg (opsAt (sub B [1, 1, 1, 0, 1, 0, 1, 1, 1, 1])) [2] :: S7)) (by kernel_rfl) fun J => ?_
        obtain ⟨H_6, q19, h⟩ := h
        refine KR.se (one_st (by kernel_rfl) q19) ?_
        exact KR.run 4 [(2, .pointer (some ⟨t2b, t2o, none⟩)), (5, .pointer (some ⟨H.next, 0, none⟩))] 62 (s' := (.reg (opsAt (sub B [1, 1, 1, 1, 0])) [0, 1, 2, 3, 4, 5, 6, 7] :: S8)) (by kernel_rfl) h
theorem L1_step {t2b : Nat} {t2o : Nat} {t5b : Nat} {t5o : Nat} {H : Heap} {r : Value × Heap} (h :
    ∃ (t36c0 : Int) (t36c1 : Int) (t36c2 : Int) (t36c3 : Int) (t36c4a : Option Addr) (t36c4n : Nat) (t36c4k : Nat), ldAll H t5b t5o [.int .i64 t36c0, .int .i64 t36c1, .int .i64 t36c2, .int .i64 t36c3, .slice t36c4a t36c4n t36c4k] ∧
    (∃ (H_1 : Heap), H_1 = H.push (.row [.int .i64 t36c0, .int .i64 t36c1, .int .i64 t36c2, .int .i64 t36c3, .slice t36c4a t36c4n t36c4k] true) ∧
    (∃ (t38r0a : Option Addr) (t38r0n : Nat) (t38r0k : Nat) (t38r1 : Int) (H_2 : Heap), xC Try.prog good 16 [.slice (some ⟨H.next, 0, none⟩) 1 (UNK 5)] H_1 = some (.tuple #[.slice t38r0a t38r0n t38r0k, .int .i64 t38r1], H_2) ∧
    (∃ (t41c0 : Int) (t41c1 : Int) (t41c2 : Int) (t41c3 : Int) (t41c4a : Option Addr) (t41c4n : Nat) (t41c4k : Nat), ldAll H_2 t5b t5o [.int .i64 t41c0, .int .i64 t41c1, .int .i64 t41c2, .int .i64 t41c3, .slice t41c4a t41c4n t41c4k] ∧
    (∃ (t42 : Bool) (H_3 : Heap), xC Try.prog good 14 [.agg #[.int .i64 t41c0, .int .i64 t41c1, .int .i64 t41c2, .int .i64 t41c3, .slice t41c4a t41c4n t41c4k]] H_2 = some (.bool t42, H_3) ∧
    (if t42 = true then
    (r = (.bool false, H_3))
    else
    (if t38r1 = 1 then
    (∃ (t49c0 : Int) (t49c1 : Int) (t49c2 : Int) (t49c3 : Int) (t49c4a : Option Addr) (t49c4n : Nat) (t49c4k : Nat), ldAll H_3 t2b t2o [.int .i64 t49c0, .int .i64 t49c1, .int .i64 t49c2, .int .i64 t49c3, .slice t49c4a t49c4n t49c4k] ∧
    (∃ (t50c0 : Int) (t50c1 : Int) (t50c2 : Int) (t50c3 : Int) (t50c4a : Option Addr) (t50c4n : Nat) (t50c4k : Nat), ldAll H_3 t5b t5o [.int .i64 t50c0, .int .i64 t50c1, .int .i64 t50c2, .int .i64 t50c3, .slice t50c4a t50c4n t50c4k] ∧
    (∃ (t51 : Bool) (H_4 : Heap), xC Try.prog good 17 [.agg #[.int .i64 t49c0, .int .i64 t49c1, .int .i64 t49c2, .int .i64 t49c3, .slice t49c4a t49c4n t49c4k], .agg #[.int .i64 t50c0, .int .i64 t50c1, .int .i64 t50c2, .int .i64 t50c3, .slice t50c4a t50c4n t50c4k]] H_3 = some (.bool t51, H_4) ∧
    (if t51 = true then
    (r = (.bool false, H_4))
    else
    (∃ (t55c0 : Int) (t55c1 : Int) (t55c2 : Int) (t55c3 : Int) (t55c4a : Option Addr) (t55c4n : Nat) (t55c4k : Nat), ldAll H_4 t2b t2o [.int .i64 t55c0, .int .i64 t55c1, .int .i64 t55c2, .int .i64 t55c3, .slice t55c4a t55c4n t55c4k] ∧
    (∃ (t56c0 : Int) (t56c1 : Int) (t56c2 : Int) (t56c3 : Int) (t56c4a : Option Addr) (t56c4n : Nat) (t56c4k : Nat), ldAll H_4 t2b t2o [.int .i64 t56c0, .int .i64 t56c1, .int .i64 t56c2, .int .i64 t56c3, .slice t56c4a t56c4n t56c4k] ∧
    (∃ (t57 : Bool) (H_5 : Heap), xC Try.prog good 17 [.agg #[.int .i64 t55c0, .int .i64 t55c1, .int .i64 t55c2, .int .i64 t55c3, .slice t55c4a t55c4n t55c4k], .agg #[.int .i64 t56c0, .int .i64 t56c1, .int .i64 t56c2, .int .i64 t56c3, .slice t56c4a t56c4n t56c4k]] H_4 = some (.bool t57, H_5) ∧
    (if t57 = true then
    (∃ (t60 : Bool) (H_6 : Heap), xC Try.prog good 15 [] H_5 = some (.bool t60, H_6) ∧
    (r = (.bool t60, H_6)))
    else
    (r = (.bool false, H_5))))))))))
    else
    (r = (.bool false, H_3))))))))) :
    L1 t2b t2o t5b t5o H r := by
  intro J
  show KR _ _ _ (.reg (opsAt (sub B [1, 1, 1, 1, 0])) [0, 1, 2, 3, 4, 5, 6, 7] :: S8) _ _ _
  obtain ⟨t36c0, t36c1, t36c2, t36c3, t36c4a, t36c4n, t36c4k, q20, h⟩ := h
  refine KR.rd (one_ldA (by kernel_rfl) q20) ?_
  obtain ⟨H_1, q21, h⟩ := h
  refine KR.mk (w := sRow 1 5 [.int .i64 t36c0, .int .i64 t36c1, .int .i64 t36c2, .int .i64 t36c3, .slice t36c4a t36c4n t36c4k]) (one_al (by kernel_rfl)) q21 ?_
  obtain ⟨t38r0a, t38r0n, t38r0k, t38r1, H_2, q22, h⟩ := h
  refine KR.se (one_ca (by kernel_rfl) q22) ?_
  refine KR.run 8 [(2, .pointer (some ⟨t2b, t2o, none⟩)), (5, .pointer (some ⟨t5b, t5o, none⟩)), (7, .int .i64 t38r1)] 62 (s' := (.reg (opsAt (sub B [1, 1, 1, 1, 1, 0])) [0, 1, 2, 3, 4, 5, 6, 7, 8, 9, 10, 11, 12, 13, 14, 15, 16, 17, 18, 19, 20, 21] :: S9)) (by kernel_rfl) fun J => ?_
  obtain ⟨t41c0, t41c1, t41c2, t41c3, t41c4a, t41c4n, t41c4k, q23, h⟩ := h
  refine KR.rd (one_ldA (by kernel_rfl) q23) ?_
  obtain ⟨t42, H_3, q24, h⟩ := h
  refine KR.se (one_ca (by kernel_rfl) q24) ?_
  refine KR.run 2 [(2, .pointer (some ⟨t2b, t2o, none⟩)), (5, .pointer (some ⟨t5b, t5o, none⟩)), (7, .int .i64 t38r1), (44, .bool (!t42))] 62 (s' := (.reg (opsAt (sub B [1, 1, 1, 1, 1, 0])) [4, 5, 6, 7, 8, 9, 10, 11, 12, 13, 14, 15, 16, 17, 18, 19, 20, 21] :: S9)) (by kernel_rfl) fun J => ?_
  by_cases c25 : t42 = true
  · replace h := iteT c25 h
    refine KR.setV 44 (by kernel_rfl) (nB (bT c25)) ?_
    refine KR.run 19 [(4, .bool false)] 62 (s' := (.code (sub B [1, 1, 1, 1, 1, 1]) :: [])) (by kernel_rfl) fun J => ?_
    exact KR.fin (by kernel_rfl) h
  · replace h := iteF c25 h
    refine KR.setV 44 (by kernel_rfl) (nB (bF c25)) ?_
    refine KR.run 4 [(2, .pointer (some ⟨t2b, t2o, none⟩)), (5, .pointer (some ⟨t5b, t5o, none⟩)), (48, .bool (t38r1 == 1))] 62 (s' := (.reg (opsAt (sub B [1, 1, 1, 1, 1, 0])) [8, 9, 10, 11, 12, 13, 14, 15, 16, 17, 18, 19, 20, 21] :: S9)) (by kernel_rfl) fun J => ?_
    by_cases c26 : t38r1 = 1
    · replace h := iteT c26 h
      refine KR.setV 48 (by kernel_rfl) (eT c26) ?_
      obtain ⟨t49c0, t49c1, t49c2, t49c3, t49c4a, t49c4n, t49c4k, q27, h⟩ := h
      refine KR.rd (one_ldA (by kernel_rfl) q27) ?_
      obtain ⟨t50c0, t50c1, t50c2, t50c3, t50c4a, t50c4n, t50c4k, q28, h⟩ := h
      refine KR.rd (one_ldA (by kernel_rfl) q28) ?_
      obtain ⟨t51, H_4, q29, h⟩ := h
      refine KR.se (one_ca (by kernel_rfl) q29) ?_
      refine KR.run 3 [(2, .pointer (some ⟨t2b, t2o, none⟩)), (54, .bool (!t51))] 62 (s' := (.reg (opsAt (sub B [1, 1, 1, 1, 1, 0])) [14, 15, 16, 17, 18, 19, 20, 21] :: S9)) (by kernel_rfl) fun J => ?_
      by_cases c30 : t51 = true
      · replace h := iteT c30 h
        refine KR.setV 54 (by kernel_rfl) (nB (bT c30)) ?_
        refine KR.run 9 [(4, .bool false)] 62 (s' := (.code (sub B [1, 1, 1, 1, 1, 1]) :: [])) (by kernel_rfl) fun J => ?_
        exact KR.fin (by kernel_rfl) h
      · replace h := iteF c30 h
        refine KR.setV 54 (by kernel_rfl) (nB (bF c30)) ?_
        obtain ⟨t55c0, t55c1, t55c2, t55c3, t55c4a, t55c4n, t55c4k, q31, h⟩ := h
        refine KR.rd (one_ldA (by kernel_rfl) q31) ?_
        obtain ⟨t56c0, t56c1, t56c2, t56c3, t56c4a, t56c4n, t56c4k, q32, h⟩ := h
        refine KR.rd (one_ldA (by kernel_rfl) q32) ?_
        obtain ⟨t57, H_5, q33, h⟩ := h
        refine KR.se (one_ca (by kernel_rfl) q33) ?_
        refine KR.run 2 [(59, .bool t57)] 62 (s' := (.reg (opsAt (sub B [1, 1, 1, 1, 1, 0])) [19, 20, 21] :: S9)) (by kernel_rfl) fun J => ?_
        by_cases c34 : t57 = true
        · replace h := iteT c34 h
          refine KR.setV 59 (by kernel_rfl) (bT c34) ?_
          obtain ⟨t60, H_6, q35, h⟩ := h
          refine KR.se (one_ca (by kernel_rfl) q35) ?_
          refine KR.run 3 [(4, .bool t60)] 62 (s' := (.code (sub B [1, 1, 1, 1, 1, 1]) :: [])) (by kernel_rfl) fun J => ?_
          exact KR.fin (by kernel_rfl) h
        · replace h := iteF c34 h
          refine KR.setV 59 (by kernel_rfl) (bF c34) ?_
          refine KR.run 4 [(4, .bool false)] 62 (s' := (.code (sub B [1, 1, 1, 1, 1, 1]) :: [])) (by kernel_rfl) fun J => ?_
          exact KR.fin (by kernel_rfl) h
    · replace h := iteF c26 h
      refine KR.setV 48 (by kernel_rfl) (eF c26) ?_
      refine KR.run 15 [(4, .bool false)] 62 (s' := (.code (sub B [1, 1, 1, 1, 1, 1]) :: [])) (by kernel_rfl) fun J => ?_
      exact KR.fin (by kernel_rfl) h
theorem call {a0c0 : Int} {a0c1 : Int} {a0c2 : Int} {a0c3 : Int} {a0c4a : Option Addr} {a0c4n : Nat} {a0c4k : Nat} {a1 : Int} {H : Heap} {r : Value × Heap} (h :
    ∃ (H_1 : Heap), H_1 = H.push (.row [.int .i64 a0c0, .int .i64 a0c1, .int .i64 a0c2, .int .i64 a0c3, .slice a0c4a a0c4n a0c4k] true) ∧
    (∃ (t8c0 : Int) (t8c1 : Int) (t8c2 : Int) (t8c3 : Int) (t8c4a : Option Addr) (t8c4n : Nat) (t8c4k : Nat), ldAll H_1 H.next 0 [.int .i64 t8c0, .int .i64 t8c1, .int .i64 t8c2, .int .i64 t8c3, .slice t8c4a t8c4n t8c4k] ∧
    (∃ (H_2 : Heap), H_2 = H_1.push (.row [.int .i64 t8c0, .int .i64 t8c1, .int .i64 t8c2, .int .i64 t8c3, .slice t8c4a t8c4n t8c4k] true) ∧
    (∃ (t10 : Int) (H_3 : Heap), xC Try.prog good 13 [.slice (some ⟨H_1.next, 0, none⟩) 1 (UNK 5)] H_2 = some (.int .i64 t10, H_3) ∧
    (if t10 > 0 then
    (L0 (a1) (H.next) (0) (true) H_3 r)
    else
    (∃ (t13c0 : Int) (t13c1 : Int) (t13c2 : Int) (t13c3 : Int) (t13c4a : Option Addr) (t13c4n : Nat) (t13c4k : Nat), ldAll H_3 H.next 0 [.int .i64 t13c0, .int .i64 t13c1, .int .i64 t13c2, .int .i64 t13c3, .slice t13c4a t13c4n t13c4k] ∧
    (∃ (t14 : Bool) (H_4 : Heap), xC Try.prog good 14 [.agg #[.int .i64 t13c0, .int .i64 t13c1, .int .i64 t13c2, .int .i64 t13c3, .slice t13c4a t13c4n t13c4k]] H_3 = some (.bool t14, H_4) ∧
    (if t14 = true then
    (L0 (a1) (H.next) (0) ((a1 == 0)) H_4 r)
    else
    (L0 (a1) (H.next) (0) (true) H_4 r))))))))) :
    xC Try.prog good 3 [.agg #[.int .i64 a0c0, .int .i64 a0c1, .int .i64 a0c2, .int .i64 a0c3, .slice a0c4a a0c4n a0c4k], .int .i64 a1] H = some r := by
  refine KR.enter (fn := Try.f3) (c := B) (by kernel_rfl) (by kernel_rfl) ?_
  refine KR.run 2 [(0, .agg #[.int .i64 a0c0, .int .i64 a0c1, .int .i64 a0c2, .int .i64 a0c3, .slice a0c4a a0c4n a0c4k]), (1, .int .i64 a1)] 62 (s' := (.reg (opsAt (sub B [0])) [0, 1] :: S0)) (by kernel_rfl) fun J => ?_
  obtain ⟨H_1, q1, h⟩ := h
  refine KR.mk (w := pRow [.int .i64 a0c0, .int .i64 a0c1, .int .i64 a0c2, .int .i64 a0c3, .slice a0c4a a0c4n a0c4k]) (one_al (by kernel_rfl)) q1 ?_
  refine KR.run 5 [(1, .int .i64 a1), (2, .pointer (some ⟨H.next, 0, none⟩))] 62 (s' := (.reg (opsAt (sub B [1, 0, 0])) [0, 1, 2, 3, 4, 5, 6, 7, 8, 9, 10, 11, 12] :: S2)) (by kernel_rfl) fun J => ?_
  obtain ⟨t8c0, t8c1, t8c2, t8c3, t8c4a, t8c4n, t8c4k, q2, h⟩ := h
  refine KR.rd (one_ldA (by kernel_rfl) q2) ?_
  obtain ⟨H_2, q3, h⟩ := h
  refine KR.mk (w := sRow 1 5 [.int .i64 t8c0, .int .i64 t8c1, .int .i64 t8c2, .int .i64 t8c3, .slice t8c4a t8c4n t8c4k]) (one_al (by kernel_rfl)) q3 ?_
  obtain ⟨t10, H_3, q4, h⟩ := h
  refine KR.se (one_ca (by kernel_rfl) q4) ?_
  refine KR.run 2 [(1, .int .i64 a1), (2, .pointer (some ⟨H.next, 0, none⟩)), (12, .bool (decide (t10 > 0)))] 62 (s' := (.reg (opsAt (sub B [1, 0, 0])) [5, 6, 7, 8, 9, 10, 11, 12] :: S2)) (by kernel_rfl) fun J => ?_
  by_cases c5 : t10 > 0
  · replace h := iteT c5 h
    refine KR.setV 12 (by kernel_rfl) (dT c5) ?_
    exact KR.run 9 [(1, .int .i64 a1), (2, .pointer (some ⟨H.next, 0, none⟩)), (20, .bool true)] 62 (s' := (.code (sub B [1, 0, 1]) :: S1)) (by kernel_rfl) h
  · replace h := iteF c5 h
    refine KR.setV 12 (by kernel_rfl) (dF c5) ?_
    obtain ⟨t13c0, t13c1, t13c2, t13c3, t13c4a, t13c4n, t13c4k, q6, h⟩ := h
    refine KR.rd (one_ldA (by kernel_rfl) q6) ?_
    obtain ⟨t14, H_4, q7, h⟩ := h
    refine KR.se (one_ca (by kernel_rfl) q7) ?_
    refine KR.run 3 [(1, .int .i64 a1), (2, .pointer (some ⟨H.next, 0, none⟩)), (17, .bool (!t14))] 62 (s' := (.reg (opsAt (sub B [1, 0, 0])) [10, 11, 12] :: S2)) (by kernel_rfl) fun J => ?_
    by_cases c8 : t14 = true
    · replace h := iteT c8 h
      refine KR.setV 17 (by kernel_rfl) (nB (bT c8)) ?_
      exact KR.run 4 [(1, .int .i64 a1), (2, .pointer (some ⟨H.next, 0, none⟩)), (20, .bool (a1 == 0))] 62 (s' := (.code (sub B [1, 0, 1]) :: S1)) (by kernel_rfl) h
    · replace h := iteF c8 h
      refine KR.setV 17 (by kernel_rfl) (nB (bF c8)) ?_
      exact KR.run 4 [(1, .int .i64 a1), (2, .pointer (some ⟨H.next, 0, none⟩)), (20, .bool true)] 62 (s' := (.code (sub B [1, 0, 1]) :: S1)) (by kernel_rfl) h
end F3
end Go.X
