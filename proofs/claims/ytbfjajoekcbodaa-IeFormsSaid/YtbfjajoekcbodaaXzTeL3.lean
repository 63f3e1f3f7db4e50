/- The walks of the functions: printed. -/
import Derived.Test.YtbfjajoekcbodaaXzGe
set_option linter.unusedVariables false
set_option maxRecDepth 100000
namespace Go.X
open Go Go.RowKit Go.Proofs
/-! #### 5 campanile/campanilelaw6.IeFinds -/
namespace F5
noncomputable def B : Code := bodyOf Try.f5
noncomputable def S0 : List It := (.code (sub B [1, 1]) :: [])
noncomputable def S3 : List It := (.code (sub B [1, 1, 1]) :: [])
noncomputable def S4 : List It := (.code (sub B [1, 1, 1, 1]) :: [])
noncomputable def S15 : List It := (.code (sub B [1, 1, 1, 1, 1]) :: [])
noncomputable def S1 : List It := (.code (sub B [1, 0, 1]) :: S0)
noncomputable def S2 : List It := (.code (sub B [1, 0, 1, 0, 1]) :: S0)
noncomputable def S5 : List It := (.blk 0 :: S4)
noncomputable def S6 : List It := (.lp (sub B [1, 1, 1, 0, 1, 0, 0]) :: S5)
noncomputable def S7 : List It := (.code (sub B [1, 1, 1, 0, 1, 0, 0, 1, 1]) :: S6)
noncomputable def S8 : List It := (.code (sub B [1, 1, 1, 0, 1, 0, 0, 1, 1, 1]) :: S6)
noncomputable def S9 : List It := (.blk 1 :: S8)
noncomputable def S10 : List It := (.code (sub B [1, 1, 1, 0, 1, 0, 0, 1, 1, 0, 0, 1]) :: S9)
noncomputable def S11 : List It := (.code (sub B [1, 1, 1, 0, 1, 0, 0, 1, 1, 0, 0, 1, 1]) :: S9)
noncomputable def S12 : List It := (.code (sub B [1, 1, 1, 0, 1, 0, 0, 1, 1, 0, 0, 1, 1, 0, 1]) :: S9)
noncomputable def S13 : List It := (.code (sub B [1, 1, 1, 0, 1, 0, 0, 1, 1, 0, 0, 1, 1, 0, 1, 1]) :: S9)
noncomputable def S14 : List It := (.code (sub B [1, 1, 1, 0, 1, 0, 0, 1, 1, 0, 0, 1, 1, 0, 1, 1, 1]) :: S9)
def L0 (t0a : Option Addr) (t0n : Nat) (t0k : Nat) (t1 : Int) (t5b : Nat) (t5o : Nat) (t6 : Bool) (t23a : Option Addr) (t23n : Nat) (t23k : Nat) (t24 : Int) (t25 : Int) (H : Heap) (r : Value × Heap) : Prop := ∀ J, KR Try.prog good Try.f5 S6 (mat J 89 [(0, .slice t0a t0n t0k), (1, .int .i64 t1), (5, .pointer (some ⟨t5b, t5o, none⟩)), (6, .bool t6), (23, .slice t23a t23n t23k), (24, .int .i64 t24), (25, .int .i64 t25)]) H r
theorem L0_step {t0a : Option Addr} {t0n : Nat} {t0k : Nat} {t1 : Int} {t5b : Nat} {t5o : Nat} {t6 : Bool} {t23a : Option Addr} {t23n : Nat} {t23k : Nat} {t24 : Int} {t25 : Int} {H : Heap} {r : Value × Heap} (h :
    if t25 < t24 then
    (∃ (t23ab t23ao : Nat), t23a = some ⟨t23ab, t23ao, none⟩ ∧
    ((0 : Int) ≤ t25 ∧ t25 < ((t23n : Nat) : Int) ∧
    (∃ (t29c0 : Int) (t29c1 : Int) (t29c2 : Int) (t29c3 : Int) (t29c4a : Option Addr) (t29c4n : Nat) (t29c4k : Nat), ldAll H t23ab (t23ao + Int.toNat t25 * 5) [.int .i64 t29c0, .int .i64 t29c1, .int .i64 t29c2, .int .i64 t29c3, .slice t29c4a t29c4n t29c4k] ∧
    (∃ (H_1 : Heap), H_1 = H.push (.row [.int .i64 0, .int .i64 0, .int .i64 0, .int .i64 0, .slice none 0 0] true) ∧
    (∃ (H_2 : Heap), stc H_1 H.next 0 [.int .i64 t29c0, .int .i64 t29c1, .int .i64 t29c2, .int .i64 t29c3, .slice t29c4a t29c4n t29c4k] = some H_2 ∧
    (∃ (t31 : Int), ldc H_2 H.next 0 = some (.int .i64 t31) ∧
    (if t31 = t1 then
    (∃ (t37a : Option Addr) (t37n : Nat) (t37k : Nat), psl 5 t0a t0n t0k none (some t25) none = some (t37a, t37n, t37k) ∧
    (∃ (t39r0c0 : Int) (t39r0c1 : Int) (t39r0c2 : Int) (t39r0c3 : Int) (t39r0c4a : Option Addr) (t39r0c4n : Nat) (t39r0c4k : Nat) (t39r1 : Bool) (H_3 : Heap), xC Try.prog good 21 [.slice t37a t37n t37k, .int .i64 t1] H_2 = some (.tuple #[.agg #[.int .i64 t39r0c0, .int .i64 t39r0c1, .int .i64 t39r0c2, .int .i64 t39r0c3, .slice t39r0c4a t39r0c4n t39r0c4k], .bool t39r1], H_3) ∧
    (∃ (H_4 : Heap), H_4 = H_3.push (.row [.int .i64 0, .int .i64 0, .int .i64 0, .int .i64 0, .slice none 0 0] true) ∧
    (∃ (H_5 : Heap), stc H_4 H_3.next 0 [.int .i64 t39r0c0, .int .i64 t39r0c1, .int .i64 t39r0c2, .int .i64 t39r0c3, .slice t39r0c4a t39r0c4n t39r0c4k] = some H_5 ∧
    (∃ (H_6 : Heap), H_6 = H_5.push (.row [] true) ∧
    (∃ (t45a : Option Addr) (t45n : Nat) (t45k : Nat) (H_7 : Heap), papp H_6 5 56 (some ⟨H_5.next, 0, none⟩) 0 (UNK 5) t0a t0n t0k = some ((t45a, t45n, t45k), H_7) ∧
    (∃ (t47a : Option Addr) (t47n : Nat) (t47k : Nat) (H_8 : Heap), papp H_7 5 56 t45a t45n t45k t0a t0n t0k = some ((t47a, t47n, t47k), H_8) ∧
    (∃ (t49r0c0 : Int) (t49r0c1 : Int) (t49r0c2 : Int) (t49r0c3 : Int) (t49r0c4a : Option Addr) (t49r0c4n : Nat) (t49r0c4k : Nat) (t49r1 : Bool) (H_9 : Heap), xC Try.prog good 21 [.slice t47a t47n t47k, .int .i64 t1] H_8 = some (.tuple #[.agg #[.int .i64 t49r0c0, .int .i64 t49r0c1, .int .i64 t49r0c2, .int .i64 t49r0c3, .slice t49r0c4a t49r0c4n t49r0c4k], .bool t49r1], H_9) ∧
    (∃ (H_10 : Heap), H_10 = H_9.push (.row [.int .i64 0, .int .i64 0, .int .i64 0, .int .i64 0, .slice none 0 0] true) ∧
    (∃ (H_11 : Heap), stc H_10 H_9.next 0 [.int .i64 t49r0c0, .int .i64 t49r0c1, .int .i64 t49r0c2, .int .i64 t49r0c3, .slice t49r0c4a t49r0c4n t49r0c4k] = some H_11 ∧
    (if t6 = true then
    (∃ (t54c0 : Int) (t54c1 : Int) (t54c2 : Int) (t54c3 : Int) (t54c4a : Option Addr) (t54c4n : Nat) (t54c4k : Nat), ldAll H_11 t5b t5o [.int .i64 t54c0, .int .i64 t54c1, .int .i64 t54c2, .int .i64 t54c3, .slice t54c4a t54c4n t54c4k] ∧
    (∃ (t55c0 : Int) (t55c1 : Int) (t55c2 : Int) (t55c3 : Int) (t55c4a : Option Addr) (t55c4n : Nat) (t55c4k : Nat), ldAll H_11 H.next 0 [.int .i64 t55c0, .int .i64 t55c1, .int .i64 t55c2, .int .i64 t55c3, .slice t55c4a t55c4n t55c4k] ∧
    (∃ (t56 : Bool) (H_12 : Heap), xC Try.prog good 19 [.agg #[.int .i64 t54c0, .int .i64 t54c1, .int .i64 t54c2, .int .i64 t54c3, .slice t54c4a t54c4n t54c4k], .agg #[.int .i64 t55c0, .int .i64 t55c1, .int .i64 t55c2, .int .i64 t55c3, .slice t55c4a t55c4n t55c4k]] H_11 = some (.bool t56, H_12) ∧
    (if t56 = true then
    (if t39r1 = true then
    (r = (.bool false, H_12))
    else
    (∃ (t63c0 : Int) (t63c1 : Int) (t63c2 : Int) (t63c3 : Int) (t63c4a : Option Addr) (t63c4n : Nat) (t63c4k : Nat), ldAll H_12 H_3.next 0 [.int .i64 t63c0, .int .i64 t63c1, .int .i64 t63c2, .int .i64 t63c3, .slice t63c4a t63c4n t63c4k] ∧
    (∃ (t65 : Bool) (H_13 : Heap), xC Try.prog good 19 [.agg #[.int .i64 t63c0, .int .i64 t63c1, .int .i64 t63c2, .int .i64 t63c3, .slice t63c4a t63c4n t63c4k], .agg #[.int .i64 0, .int .i64 0, .int .i64 0, .int .i64 0, .slice none 0 0]] H_12 = some (.bool t65, H_13) ∧
    (if t65 = true then
    (if t49r1 = true then
    (∃ (t71c0 : Int) (t71c1 : Int) (t71c2 : Int) (t71c3 : Int) (t71c4a : Option Addr) (t71c4n : Nat) (t71c4k : Nat), ldAll H_13 H_9.next 0 [.int .i64 t71c0, .int .i64 t71c1, .int .i64 t71c2, .int .i64 t71c3, .slice t71c4a t71c4n t71c4k] ∧
    (∃ (t72c0 : Int) (t72c1 : Int) (t72c2 : Int) (t72c3 : Int) (t72c4a : Option Addr) (t72c4n : Nat) (t72c4k : Nat), ldAll H_13 H.next 0 [.int .i64 t72c0, .int .i64 t72c1, .int .i64 t72c2, .int .i64 t72c3, .slice t72c4a t72c4n t72c4k] ∧
    (∃ (t73 : Bool) (H_14 : Heap), xC Try.prog good 19 [.agg #[.int .i64 t71c0, .int .i64 t71c1, .int .i64 t71c2, .int .i64 t71c3, .slice t71c4a t71c4n t71c4k], .agg #[.int .i64 t72c0, .int .i64 t72c1, .int .i64 t72c2, .int .i64 t72c3, .slice t72c4a t72c4n t72c4k]] H_13 = some (.bool t73, H_14) ∧
    (if t73 = true then
    (∃ (t76 : Bool) (H_15 : Heap), xC Try.prog good 15 [] H_14 = some (.bool t76, H_15) ∧
    (r = (.bool t76, H_15)))
    else
    (r = (.bool false, H_14))))))
    else
    (r = (.bool false, H_13)))
    else
    (r = (.bool false, H_13))))))
    else
    (r = (.bool false, H_12))))))
    else
    (r = (.bool false, H_11)))))))))))))
    else
    (L0 (t0a) (t0n) (t0k) (t1) (t5b) (t5o) (t6) ((some ⟨t23ab, t23ao, none⟩)) (t23n) (t23k) (t24) ((IntKind.wrap .i64 (t25 + 1))) H_2 r))))))))
    else
    (if t6 = true then
    (r = (.bool false, H))
    else
    (∃ (t82c0 : Int) (t82c1 : Int) (t82c2 : Int) (t82c3 : Int) (t82c4a : Option Addr) (t82c4n : Nat) (t82c4k : Nat), ldAll H t5b t5o [.int .i64 t82c0, .int .i64 t82c1, .int .i64 t82c2, .int .i64 t82c3, .slice t82c4a t82c4n t82c4k] ∧
    (∃ (t84 : Bool) (H_16 : Heap), xC Try.prog good 19 [.agg #[.int .i64 t82c0, .int .i64 t82c1, .int .i64 t82c2, .int .i64 t82c3, .slice t82c4a t82c4n t82c4k], .agg #[.int .i64 0, .int .i64 0, .int .i64 0, .int .i64 0, .slice none 0 0]] H = some (.bool t84, H_16) ∧
    (if t84 = true then
    (∃ (t87 : Bool) (H_17 : Heap), xC Try.prog good 15 [] H_16 = some (.bool t87, H_17) ∧
    (r = (.bool t87, H_17)))
    else
    (r = (.bool false, H_16))))))) :
    L0 t0a t0n t0k t1 t5b t5o t6 t23a t23n t23k t24 t25 H r := by
  intro J
  show KR _ _ _ (.lp (sub B [1, 1, 1, 0, 1, 0, 0]) :: S5) _ _ _
  refine KR.run 6 [(0, .slice t0a t0n t0k), (1, .int .i64 t1), (5, .pointer (some ⟨t5b, t5o, none⟩)), (6, .bool t6), (23, .slice t23a t23n t23k), (24, .int .i64 t24), (25, .int .i64 t25), (26, .bool (decide (t25 < t24)))] 89 (s' := (.code (sub B [1, 1, 1, 0, 1, 0, 0, 1, 0]) :: S7)) (by kernel_rfl) fun J => ?_
  by_cases c7 : t25 < t24
  · replace h := iteT c7 h
    refine KR.br true (by kernel_rfl) (vB (dT c7)) ?_
    obtain ⟨t23ab, t23ao, rfl, h⟩ := h
    refine KR.run 6 [(0, .slice t0a t0n t0k), (1, .int .i64 t1), (5, .pointer (some ⟨t5b, t5o, none⟩)), (6, .bool t6), (23, .slice (some ⟨t23ab, t23ao, none⟩) t23n t23k), (24, .int .i64 t24), (25, .int .i64 t25), (27, .int .i64 t25)] 89 (s' := (.reg (opsAt (sub B [1, 1, 1, 0, 1, 0, 0, 1, 1, 0, 0, 0])) [1, 2, 3, 4, 5] :: S10)) (by kernel_rfl) fun J => ?_
    obtain ⟨q8, q8x, h⟩ := h
    refine KR.p (one_ix 5 t23ab t23ao (by kernel_rfl) q8 q8x) ?_
    obtain ⟨t29c0, t29c1, t29c2, t29c3, t29c4a, t29c4n, t29c4k, q9, h⟩ := h
    refine KR.rd (one_ldA (by kernel_rfl) q9) ?_
    obtain ⟨H_1, q10, h⟩ := h
    refine KR.mk (w := pRow [.int .i64 0, .int .i64 0, .int .i64 0, .int .i64 0, .slice none 0 0]) (one_al (by kernel_rfl)) q10 ?_
    refine KR.run 1 [(0, .slice t0a t0n t0k), (1, .int .i64 t1), (5, .pointer (some ⟨t5b, t5o, none⟩)), (6, .bool t6), (7, .int .i64 t25), (8, .pointer (some ⟨H.next, 0, none⟩)), (23, .slice (some ⟨t23ab, t23ao, none⟩) t23n t23k), (24, .int .i64 t24), (25, .int .i64 t25), (29, .agg #[.int .i64 t29c0, .int .i64 t29c1, .int .i64 t29c2, .int .i64 t29c3, .slice t29c4a t29c4n t29c4k])] 89 (s' := (.reg (opsAt (sub B [1, 1, 1, 0, 1, 0, 0, 1, 1, 0, 0, 0])) [5] :: S10)) (by kernel_rfl) fun J => ?_
    obtain ⟨H_2, q11, h⟩ := h
    refine KR.se (one_st (by kernel_rfl) q11) ?_
    refine KR.run 4 [(0, .slice t0a t0n t0k), (1, .int .i64 t1), (5, .pointer (some ⟨t5b, t5o, none⟩)), (6, .bool t6), (7, .int .i64 t25), (8, .pointer (some ⟨H.next, 0, none⟩)), (23, .slice (some ⟨t23ab, t23ao, none⟩) t23n t23k), (24, .int .i64 t24), (25, .int .i64 t25), (30, .pointer (some ⟨H.next, 0, none⟩))] 89 (s' := (.reg (opsAt (sub B [1, 1, 1, 0, 1, 0, 0, 1, 1, 0, 0, 1, 0])) [1, 2, 3] :: S11)) (by kernel_rfl) fun J => ?_
    obtain ⟨t31, q12, h⟩ := h
    refine KR.rd (one_ld (by kernel_rfl) q12) ?_
    refine KR.run 3 [(0, .slice t0a t0n t0k), (1, .int .i64 t1), (5, .pointer (some ⟨t5b, t5o, none⟩)), (6, .bool t6), (7, .int .i64 t25), (8, .pointer (some ⟨H.next, 0, none⟩)), (23, .slice (some ⟨t23ab, t23ao, none⟩) t23n t23k), (24, .int .i64 t24), (25, .int .i64 t25), (33, .bool (t31 == t1))] 89 (s' := (.code (sub B [1, 1, 1, 0, 1, 0, 0, 1, 1, 0, 0, 1, 1]) :: S9)) (by kernel_rfl) fun J => ?_
    by_cases c13 : t31 = t1
    · replace h := iteT c13 h
      refine KR.br true (by kernel_rfl) (vB (eT c13)) ?_
      refine KR.run 4 [(0, .slice t0a t0n t0k), (1, .int .i64 t1), (5, .pointer (some ⟨t5b, t5o, none⟩)), (6, .bool t6), (8, .pointer (some ⟨H.next, 0, none⟩)), (35, .slice t0a t0n t0k), (36, .int .i64 t25)] 89 (s' := (.reg (opsAt (sub B [1, 1, 1, 0, 1, 0, 0, 1, 1, 0, 0, 1, 1, 0, 0])) [2, 3, 4, 5, 6, 7, 8, 9, 10] :: S12)) (by kernel_rfl) fun J => ?_
      obtain ⟨t37a, t37n, t37k, q14, h⟩ := h
      refine KR.p (one_sl (by kernel_rfl) q14) ?_
      refine KR.run 1 [(0, .slice t0a t0n t0k), (1, .int .i64 t1), (5, .pointer (some ⟨t5b, t5o, none⟩)), (6, .bool t6), (8, .pointer (some ⟨H.next, 0, none⟩)), (37, .slice t37a t37n t37k), (38, .int .i64 t1)] 89 (s' := (.reg (opsAt (sub B [1, 1, 1, 0, 1, 0, 0, 1, 1, 0, 0, 1, 1, 0, 0])) [4, 5, 6, 7, 8, 9, 10] :: S12)) (by kernel_rfl) fun J => ?_
      obtain ⟨t39r0c0, t39r0c1, t39r0c2, t39r0c3, t39r0c4a, t39r0c4n, t39r0c4k, t39r1, H_3, q15, h⟩ := h
      refine KR.se (one_ca (by kernel_rfl) q15) ?_
      refine KR.run 3 [(0, .slice t0a t0n t0k), (1, .int .i64 t1), (5, .pointer (some ⟨t5b, t5o, none⟩)), (6, .bool t6), (8, .pointer (some ⟨H.next, 0, none⟩)), (40, .agg #[.int .i64 t39r0c0, .int .i64 t39r0c1, .int .i64 t39r0c2, .int .i64 t39r0c3, .slice t39r0c4a t39r0c4n t39r0c4k]), (41, .bool t39r1)] 89 (s' := (.reg (opsAt (sub B [1, 1, 1, 0, 1, 0, 0, 1, 1, 0, 0, 1, 1, 0, 0])) [8, 9, 10] :: S12)) (by kernel_rfl) fun J => ?_
      obtain ⟨H_4, q16, h⟩ := h
      refine KR.mk (w := pRow [.int .i64 0, .int .i64 0, .int .i64 0, .int .i64 0, .slice none 0 0]) (one_al (by kernel_rfl)) q16 ?_
      obtain ⟨H_5, q17, h⟩ := h
      refine KR.se (one_st (by kernel_rfl) q17) ?_
      refine KR.run 4 [(0, .slice t0a t0n t0k), (1, .int .i64 t1), (5, .pointer (some ⟨t5b, t5o, none⟩)), (6, .bool t6), (8, .pointer (some ⟨H.next, 0, none⟩)), (9, .pointer (some ⟨H_3.next, 0, none⟩)), (10, .bool t39r1)] 89 (s' := (.reg (opsAt (sub B [1, 1, 1, 0, 1, 0, 0, 1, 1, 0, 0, 1, 1, 0, 1, 0])) [0, 1, 2, 3, 4, 5, 6, 7, 8, 9, 10, 11, 12] :: S13)) (by kernel_rfl) fun J => ?_
      obtain ⟨H_6, q18, h⟩ := h
      refine KR.mk (w := sRow 0 5 []) (one_al (by kernel_rfl)) q18 ?_
      refine KR.run 1 [(0, .slice t0a t0n t0k), (1, .int .i64 t1), (5, .pointer (some ⟨t5b, t5o, none⟩)), (6, .bool t6), (8, .pointer (some ⟨H.next, 0, none⟩)), (9, .pointer (some ⟨H_3.next, 0, none⟩)), (10, .bool t39r1), (43, .slice (some ⟨H_5.next, 0, none⟩) 0 (UNK 5)), (44, .slice t0a t0n t0k)] 89 (s' := (.reg (opsAt (sub B [1, 1, 1, 0, 1, 0, 0, 1, 1, 0, 0, 1, 1, 0, 1, 0])) [2, 3, 4, 5, 6, 7, 8, 9, 10, 11, 12] :: S13)) (by kernel_rfl) fun J => ?_
      obtain ⟨t45a, t45n, t45k, H_7, q19, h⟩ := h
      refine KR.se (one_ap 5 56 (by kernel_rfl) q19) ?_
      refine KR.run 1 [(1, .int .i64 t1), (5, .pointer (some ⟨t5b, t5o, none⟩)), (6, .bool t6), (8, .pointer (some ⟨H.next, 0, none⟩)), (9, .pointer (some ⟨H_3.next, 0, none⟩)), (10, .bool t39r1), (45, .slice t45a t45n t45k), (46, .slice t0a t0n t0k)] 89 (s' := (.reg (opsAt (sub B [1, 1, 1, 0, 1, 0, 0, 1, 1, 0, 0, 1, 1, 0, 1, 0])) [4, 5, 6, 7, 8, 9, 10, 11, 12] :: S13)) (by kernel_rfl) fun J => ?_
      obtain ⟨t47a, t47n, t47k, H_8, q20, h⟩ := h
      refine KR.se (one_ap 5 56 (by kernel_rfl) q20) ?_
      refine KR.run 1 [(5, .pointer (some ⟨t5b, t5o, none⟩)), (6, .bool t6), (8, .pointer (some ⟨H.next, 0, none⟩)), (9, .pointer (some ⟨H_3.next, 0, none⟩)), (10, .bool t39r1), (47, .slice t47a t47n t47k), (48, .int .i64 t1)] 89 (s' := (.reg (opsAt (sub B [1, 1, 1, 0, 1, 0, 0, 1, 1, 0, 0, 1, 1, 0, 1, 0])) [6, 7, 8, 9, 10, 11, 12] :: S13)) (by kernel_rfl) fun J => ?_
      obtain ⟨t49r0c0, t49r0c1, t49r0c2, t49r0c3, t49r0c4a, t49r0c4n, t49r0c4k, t49r1, H_9, q21, h⟩ := h
      refine KR.se (one_ca (by kernel_rfl) q21) ?_
      refine KR.run 3 [(5, .pointer (some ⟨t5b, t5o, none⟩)), (6, .bool t6), (8, .pointer (some ⟨H.next, 0, none⟩)), (9, .pointer (some ⟨H_3.next, 0, none⟩)), (10, .bool t39r1), (50, .agg #[.int .i64 t49r0c0, .int .i64 t49r0c1, .int .i64 t49r0c2, .int .i64 t49r0c3, .slice t49r0c4a t49r0c4n t49r0c4k]), (51, .bool t49r1)] 89 (s' := (.reg (opsAt (sub B [1, 1, 1, 0, 1, 0, 0, 1, 1, 0, 0, 1, 1, 0, 1, 0])) [10, 11, 12] :: S13)) (by kernel_rfl) fun J => ?_
      obtain ⟨H_10, q22, h⟩ := h
      refine KR.mk (w := pRow [.int .i64 0, .int .i64 0, .int .i64 0, .int .i64 0, .slice none 0 0]) (one_al (by kernel_rfl)) q22 ?_
      obtain ⟨H_11, q23, h⟩ := h
      refine KR.se (one_st (by kernel_rfl) q23) ?_
      refine KR.run 6 [(5, .pointer (some ⟨t5b, t5o, none⟩)), (8, .pointer (some ⟨H.next, 0, none⟩)), (9, .pointer (some ⟨H_3.next, 0, none⟩)), (10, .bool t39r1), (11, .pointer (some ⟨H_9.next, 0, none⟩)), (12, .bool t49r1), (53, .bool t6)] 89 (s' := (.reg (opsAt (sub B [1, 1, 1, 0, 1, 0, 0, 1, 1, 0, 0, 1, 1, 0, 1, 1, 0])) [2, 3, 4, 5, 6, 7, 8, 9, 10, 11, 12, 13, 14, 15, 16, 17, 18, 19, 20, 21, 22, 23, 24, 25, 26] :: S14)) (by kernel_rfl) fun J => ?_
      by_cases c24 : t6 = true
      · replace h := iteT c24 h
        refine KR.setV 53 (by kernel_rfl) (bT c24) ?_
        obtain ⟨t54c0, t54c1, t54c2, t54c3, t54c4a, t54c4n, t54c4k, q25, h⟩ := h
        refine KR.rd (one_ldA (by kernel_rfl) q25) ?_
        obtain ⟨t55c0, t55c1, t55c2, t55c3, t55c4a, t55c4n, t55c4k, q26, h⟩ := h
        refine KR.rd (one_ldA (by kernel_rfl) q26) ?_
        obtain ⟨t56, H_12, q27, h⟩ := h
        refine KR.se (one_ca (by kernel_rfl) q27) ?_
        refine KR.run 2 [(8, .pointer (some ⟨H.next, 0, none⟩)), (9, .pointer (some ⟨H_3.next, 0, none⟩)), (10, .bool t39r1), (11, .pointer (some ⟨H_9.next, 0, none⟩)), (12, .bool t49r1), (58, .bool t56)] 89 (s' := (.reg (opsAt (sub B [1, 1, 1, 0, 1, 0, 0, 1, 1, 0, 0, 1, 1, 0, 1, 1, 0])) [7, 8, 9, 10, 11, 12, 13, 14, 15, 16, 17, 18, 19, 20, 21, 22, 23, 24, 25, 26] :: S14)) (by kernel_rfl) fun J => ?_
        by_cases c28 : t56 = true
        · replace h := iteT c28 h
          refine KR.setV 58 (by kernel_rfl) (bT c28) ?_
          refine KR.run 4 [(8, .pointer (some ⟨H.next, 0, none⟩)), (9, .pointer (some ⟨H_3.next, 0, none⟩)), (11, .pointer (some ⟨H_9.next, 0, none⟩)), (12, .bool t49r1), (62, .bool (!t39r1))] 89 (s' := (.reg (opsAt (sub B [1, 1, 1, 0, 1, 0, 0, 1, 1, 0, 0, 1, 1, 0, 1, 1, 0])) [11, 12, 13, 14, 15, 16, 17, 18, 19, 20, 21, 22, 23, 24, 25, 26] :: S14)) (by kernel_rfl) fun J => ?_
          by_cases c29 : t39r1 = true
          · replace h := iteT c29 h
            refine KR.setV 62 (by kernel_rfl) (nB (bT c29)) ?_
            refine KR.run 17 [(4, .bool false)] 89 (s' := (.code (sub B [1, 1, 1, 0, 1, 0, 0, 1, 1, 0, 0, 1, 1, 0, 1, 1, 1]) :: S9)) (by kernel_rfl) fun J => ?_
            exact KR.fin (by kernel_rfl) h
          · replace h := iteF c29 h
            refine KR.setV 62 (by kernel_rfl) (nB (bF c29)) ?_
            obtain ⟨t63c0, t63c1, t63c2, t63c3, t63c4a, t63c4n, t63c4k, q30, h⟩ := h
            refine KR.rd (one_ldA (by kernel_rfl) q30) ?_
            refine KR.run 1 [(8, .pointer (some ⟨H.next, 0, none⟩)), (11, .pointer (some ⟨H_9.next, 0, none⟩)), (12, .bool t49r1), (62, .bool true), (63, .agg #[.int .i64 t63c0, .int .i64 t63c1, .int .i64 t63c2, .int .i64 t63c3, .slice t63c4a t63c4n t63c4k]), (64, .agg #[.int .i64 0, .int .i64 0, .int .i64 0, .int .i64 0, .slice none 0 0])] 89 (s' := (.reg (opsAt (sub B [1, 1, 1, 0, 1, 0, 0, 1, 1, 0, 0, 1, 1, 0, 1, 1, 0])) [13, 14, 15, 16, 17, 18, 19, 20, 21, 22, 23, 24, 25, 26] :: S14)) (by kernel_rfl) fun J => ?_
            obtain ⟨t65, H_13, q31, h⟩ := h
            refine KR.se (one_ca (by kernel_rfl) q31) ?_
            refine KR.run 2 [(8, .pointer (some ⟨H.next, 0, none⟩)), (11, .pointer (some ⟨H_9.next, 0, none⟩)), (12, .bool t49r1), (67, .bool t65)] 89 (s' := (.reg (opsAt (sub B [1, 1, 1, 0, 1, 0, 0, 1, 1, 0, 0, 1, 1, 0, 1, 1, 0])) [16, 17, 18, 19, 20, 21, 22, 23, 24, 25, 26] :: S14)) (by kernel_rfl) fun J => ?_
            by_cases c32 : t65 = true
            · replace h := iteT c32 h
              refine KR.setV 67 (by kernel_rfl) (bT c32) ?_
              refine KR.run 3 [(8, .pointer (some ⟨H.next, 0, none⟩)), (11, .pointer (some ⟨H_9.next, 0, none⟩)), (70, .bool t49r1)] 89 (s' := (.reg (opsAt (sub B [1, 1, 1, 0, 1, 0, 0, 1, 1, 0, 0, 1, 1, 0, 1, 1, 0])) [19, 20, 21, 22, 23, 24, 25, 26] :: S14)) (by kernel_rfl) fun J => ?_
              by_cases c33 : t49r1 = true
              · replace h := iteT c33 h
                refine KR.setV 70 (by kernel_rfl) (bT c33) ?_
                obtain ⟨t71c0, t71c1, t71c2, t71c3, t71c4a, t71c4n, t71c4k, q34, h⟩ := h
                refine KR.rd (one_ldA (by kernel_rfl) q34) ?_
                obtain ⟨t72c0, t72c1, t72c2, t72c3, t72c4a, t72c4n, t72c4k, q35, h⟩ := h
                refine KR.rd (one_ldA (by kernel_rfl) q35) ?_
                obtain ⟨t73, H_14, q36, h⟩ := h
                refine KR.se (one_ca (by kernel_rfl) q36) ?_
                refine KR.run 2 [(75, .bool t73)] 89 (s' := (.reg (opsAt (sub B [1, 1, 1, 0, 1, 0, 0, 1, 1, 0, 0, 1, 1, 0, 1, 1, 0])) [24, 25, 26] :: S14)) (by kernel_rfl) fun J => ?_
                by_cases c37 : t73 = true
                · replace h := iteT c37 h
                  refine KR.setV 75 (by kernel_rfl) (bT c37) ?_
                  obtain ⟨t76, H_15, q38, h⟩ := h
                  refine KR.se (one_ca (by kernel_rfl) q38) ?_
                  refine KR.run 3 [(4, .bool t76)] 89 (s' := (.code (sub B [1, 1, 1, 0, 1, 0, 0, 1, 1, 0, 0, 1, 1, 0, 1, 1, 1]) :: S9)) (by kernel_rfl) fun J => ?_
                  exact KR.fin (by kernel_rfl) h
                · replace h := iteF c37 h
                  refine KR.setV 75 (by kernel_rfl) (bF c37) ?_
                  refine KR.run 4 [(4, .bool false)] 89 (s' := (.code (sub B [1, 1, 1, 0, 1, 0, 0, 1, 1, 0, 0, 1, 1, 0, 1, 1, 1]) :: S9)) (by kernel_rfl) fun J => ?_
                  exact KR.fin (by kernel_rfl) h
              · replace h := iteF c33 h
                refine KR.setV 70 (by kernel_rfl) (bF c33) ?_
                refine KR.run 9 [(4, .bool false)] 89 (s' := (.code (sub B [1, 1, 1, 0, 1, 0, 0, 1, 1, 0, 0, 1, 1, 0, 1, 1, 1]) :: S9)) (by kernel_rfl) fun J => ?_
                exact KR.fin (by kernel_rfl) h
            · replace h := iteF c32 h
              refine KR.setV 67 (by kernel_rfl) (bF c32) ?_
              refine KR.run 12 [(4, .bool false)] 89 (s' := (.code (sub B [1, 1, 1, 0, 1, 0, 0, 1, 1, 0, 0, 1, 1, 0, 1, 1, 1]) :: S9)) (by kernel_rfl) fun J => ?_
              exact KR.fin (by kernel_rfl) h
        · replace h := iteF c28 h
          refine KR.setV 58 (by kernel_rfl) (bF c28) ?_
          refine KR.run 21 [(4, .bool false)] 89 (s' := (.code (sub B [1, 1, 1, 0, 1, 0, 0, 1, 1, 0, 0, 1, 1, 0, 1, 1, 1]) :: S9)) (by kernel_rfl) fun J => ?_
          exact KR.fin (by kernel_rfl) h
      · replace h := iteF c24 h
        refine KR.setV 53 (by kernel_rfl) (bF c24) ?_
        refine KR.run 26 [(4, .bool false)] 89 (s' := (.code (sub B [1, 1, 1, 0, 1, 0, 0, 1, 1, 0, 0, 1, 1, 0, 1, 1, 1]) :: S9)) (by kernel_rfl) fun J => ?_
        exact KR.fin (by kernel_rfl) h
    · replace h := iteF c13 h
      refine KR.br false (by kernel_rfl) (vB (eF c13)) ?_
      exact KR.run 6 [(0, .slice t0a t0n t0k), (1, .int .i64 t1), (5, .pointer (some ⟨t5b, t5o, none⟩)), (6, .bool t6), (23, .slice (some ⟨t23ab, t23ao, none⟩) t23n t23k), (24, .int .i64 t24), (25, .int .i64 (IntKind.wrap .i64 (t25 + 1)))] 89 (s' := (.lp (sub B [1, 1, 1, 0, 1, 0, 0]) :: S5)) (by kernel_rfl) h
  · replace h := iteF c7 h
    refine KR.br false (by kernel_rfl) (vB (dF c7)) ?_
    refine KR.run 6 [(5, .pointer (some ⟨t5b, t5o, none⟩)), (81, .bool (!t6))] 89 (s' := (.reg (opsAt (sub B [1, 1, 1, 1, 0])) [3, 4, 5, 6, 7, 8, 9, 10] :: S15)) (by kernel_rfl) fun J => ?_
    by_cases c39 : t6 = true
    · replace h := iteT c39 h
      refine KR.setV 81 (by kernel_rfl) (nB (bT c39)) ?_
      refine KR.run 9 [(4, .bool false)] 89 (s' := (.code (sub B [1, 1, 1, 1, 1]) :: [])) (by kernel_rfl) fun J => ?_
      exact KR.fin (by kernel_rfl) h
    · replace h := iteF c39 h
      refine KR.setV 81 (by kernel_rfl) (nB (bF c39)) ?_
      obtain ⟨t82c0, t82c1, t82c2, t82c3, t82c4a, t82c4n, t82c4k, q40, h⟩ := h
      refine KR.rd (one_ldA (by kernel_rfl) q40) ?_
      refine KR.run 1 [(81, .bool true), (82, .agg #[.int .i64 t82c0, .int .i64 t82c1, .int .i64 t82c2, .int .i64 t82c3, .slice t82c4a t82c4n t82c4k]), (83, .agg #[.int .i64 0, .int .i64 0, .int .i64 0, .int .i64 0, .slice none 0 0])] 89 (s' := (.reg (opsAt (sub B [1, 1, 1, 1, 0])) [5, 6, 7, 8, 9, 10] :: S15)) (by kernel_rfl) fun J => ?_
      obtain ⟨t84, H_16, q41, h⟩ := h
      refine KR.se (one_ca (by kernel_rfl) q41) ?_
      refine KR.run 2 [(86, .bool t84)] 89 (s' := (.reg (opsAt (sub B [1, 1, 1, 1, 0])) [8, 9, 10] :: S15)) (by kernel_rfl) fun J => ?_
      by_cases c42 : t84 = true
      · replace h := iteT c42 h
        refine KR.setV 86 (by kernel_rfl) (bT c42) ?_
        obtain ⟨t87, H_17, q43, h⟩ := h
        refine KR.se (one_ca (by kernel_rfl) q43) ?_
        refine KR.run 3 [(4, .bool t87)] 89 (s' := (.code (sub B [1, 1, 1, 1, 1]) :: [])) (by kernel_rfl) fun J => ?_
        exact KR.fin (by kernel_rfl) h
      · replace h := iteF c42 h
        refine KR.setV 86 (by kernel_rfl) (bF c42) ?_
        refine KR.run 4 [(4, .bool false)] 89 (s' := (.code (sub B [1, 1, 1, 1, 1]) :: [])) (by kernel_rfl) fun J => ?_
        exact KR.fin (by kernel_rfl) h
theorem call {a0a : Option Addr} {a0n : Nat} {a0k : Nat} {a1 : Int} {H : Heap} {r : Value × Heap} (h :
    ∃ (t14 : Int) (H_1 : Heap), xC Try.prog good 13 [.slice a0a a0n a0k] H = some (.int .i64 t14, H_1) ∧
    (if t14 > 0 then
    (∃ (t16 : Bool) (H_2 : Heap), xC Try.prog good 15 [] H_1 = some (.bool t16, H_2) ∧
    (r = (.bool t16, H_2)))
    else
    (∃ (t20r0c0 : Int) (t20r0c1 : Int) (t20r0c2 : Int) (t20r0c3 : Int) (t20r0c4a : Option Addr) (t20r0c4n : Nat) (t20r0c4k : Nat) (t20r1 : Bool) (H_3 : Heap), xC Try.prog good 21 [.slice a0a a0n a0k, .int .i64 a1] H_1 = some (.tuple #[.agg #[.int .i64 t20r0c0, .int .i64 t20r0c1, .int .i64 t20r0c2, .int .i64 t20r0c3, .slice t20r0c4a t20r0c4n t20r0c4k], .bool t20r1], H_3) ∧
    (∃ (H_4 : Heap), H_4 = H_3.push (.row [.int .i64 0, .int .i64 0, .int .i64 0, .int .i64 0, .slice none 0 0] true) ∧
    (∃ (H_5 : Heap), stc H_4 H_3.next 0 [.int .i64 t20r0c0, .int .i64 t20r0c1, .int .i64 t20r0c2, .int .i64 t20r0c3, .slice t20r0c4a t20r0c4n t20r0c4k] = some H_5 ∧
    (L0 (a0a) (a0n) (a0k) (a1) (H_3.next) (0) (t20r1) (a0a) (a0n) (a0k) (((a0n : Nat) : Int)) 0 H_5 r)))))) :
    xC Try.prog good 5 [.slice a0a a0n a0k, .int .i64 a1] H = some r := by
  refine KR.enter (fn := Try.f5) (c := B) (by kernel_rfl) (by kernel_rfl) ?_
  refine KR.run 8 [(0, .slice a0a a0n a0k), (1, .int .i64 a1), (13, .slice a0a a0n a0k)] 89 (s' := (.reg (opsAt (sub B [1, 0, 0])) [1, 2] :: S1)) (by kernel_rfl) fun J => ?_
  obtain ⟨t14, H_1, q1, h⟩ := h
  refine KR.se (one_ca (by kernel_rfl) q1) ?_
  refine KR.run 2 [(0, .slice a0a a0n a0k), (1, .int .i64 a1), (15, .bool (decide (t14 > 0)))] 89 (s' := (.code (sub B [1, 0, 1]) :: S0)) (by kernel_rfl) fun J => ?_
  by_cases c2 : t14 > 0
  · replace h := iteT c2 h
    refine KR.br true (by kernel_rfl) (vB (dT c2)) ?_
    refine KR.run 2 [] 89 (s' := (.reg (opsAt (sub B [1, 0, 1, 0, 0])) [0, 1] :: S2)) (by kernel_rfl) fun J => ?_
    obtain ⟨t16, H_2, q3, h⟩ := h
    refine KR.se (one_ca (by kernel_rfl) q3) ?_
    refine KR.run 2 [(4, .bool t16)] 89 (s' := (.code (sub B [1, 0, 1, 0, 1]) :: S0)) (by kernel_rfl) fun J => ?_
    exact KR.fin (by kernel_rfl) h
  · replace h := iteF c2 h
    refine KR.br false (by kernel_rfl) (vB (dF c2)) ?_
    refine KR.run 5 [(0, .slice a0a a0n a0k), (1, .int .i64 a1), (18, .slice a0a a0n a0k), (19, .int .i64 a1)] 89 (s' := (.reg (opsAt (sub B [1, 1, 0])) [2, 3, 4, 5, 6, 7, 8] :: S3)) (by kernel_rfl) fun J => ?_
    obtain ⟨t20r0c0, t20r0c1, t20r0c2, t20r0c3, t20r0c4a, t20r0c4n, t20r0c4k, t20r1, H_3, q4, h⟩ := h
    refine KR.se (one_ca (by kernel_rfl) q4) ?_
    refine KR.run 3 [(0, .slice a0a a0n a0k), (1, .int .i64 a1), (21, .agg #[.int .i64 t20r0c0, .int .i64 t20r0c1, .int .i64 t20r0c2, .int .i64 t20r0c3, .slice t20r0c4a t20r0c4n t20r0c4k]), (22, .bool t20r1)] 89 (s' := (.reg (opsAt (sub B [1, 1, 0])) [6, 7, 8] :: S3)) (by kernel_rfl) fun J => ?_
    obtain ⟨H_4, q5, h⟩ := h
    refine KR.mk (w := pRow [.int .i64 0, .int .i64 0, .int .i64 0, .int .i64 0, .slice none 0 0]) (one_al (by kernel_rfl)) q5 ?_
    obtain ⟨H_5, q6, h⟩ := h
    refine KR.se (one_st (by kernel_rfl) q6) ?_
    exact KR.run 11 [(0, .slice a0a a0n a0k), (1, .int .i64 a1), (5, .pointer (some ⟨H_3.next, 0, none⟩)), (6, .bool t20r1), (23, .slice a0a a0n a0k), (24, .int .i64 ((a0n : Nat) : Int)), (25, .int .i64 0)] 89 (s' := (.lp (sub B [1, 1, 1, 0, 1, 0, 0]) :: S5)) (by kernel_rfl) h
end F5
end Go.X
