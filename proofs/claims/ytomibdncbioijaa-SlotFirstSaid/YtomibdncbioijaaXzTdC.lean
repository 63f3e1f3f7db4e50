/- The walks of the functions: printed. -/
import Derived.Test.YtomibdncbioijaaXzGd
set_option linter.unusedVariables false
set_option maxRecDepth 100000
namespace Go.X
open Go Go.RowKit Go.Proofs
/-! #### 5 campanile/campanilelaw9.SlotWaits -/
namespace F5
noncomputable def B : Code := bodyOf Try.f5
noncomputable def S0 : List It := (.code (sub B [1, 1]) :: [])
noncomputable def S3 : List It := (.code (sub B [1, 1, 1]) :: [])
noncomputable def S4 : List It := (.code (sub B [1, 1, 1, 1]) :: [])
noncomputable def S5 : List It := (.code (sub B [1, 1, 1, 1, 1]) :: [])
noncomputable def S6 : List It := (.code (sub B [1, 1, 1, 1, 1, 1]) :: [])
noncomputable def S8 : List It := (.code (sub B [1, 1, 1, 1, 1, 1, 1]) :: [])
noncomputable def S11 : List It := (.code (sub B [1, 1, 1, 1, 1, 1, 1, 1]) :: [])
noncomputable def S1 : List It := (.code (sub B [1, 0, 1]) :: S0)
noncomputable def S2 : List It := (.code (sub B [1, 0, 1, 0, 1]) :: S0)
noncomputable def S7 : List It := (.code (sub B [1, 1, 1, 1, 1, 0, 1]) :: S6)
noncomputable def S9 : List It := (.code (sub B [1, 1, 1, 1, 1, 1, 0, 1]) :: S8)
noncomputable def S10 : List It := (.code (sub B [1, 1, 1, 1, 1, 1, 0, 1, 0, 1]) :: S8)
def L0 (t0a : Option Addr) (t0n : Nat) (t0k : Nat) (t1a : Option Addr) (t1n : Nat) (t1k : Nat) (t2 : Int) (t17 : Bool) (H : Heap) (r : Value × Heap) : Prop := ∀ J, KR Try.prog good Try.f5 S1 (mat J 103 [(0, .slice t0a t0n t0k), (1, .slice t1a t1n t1k), (2, .int .i64 t2), (17, .bool t17)]) H r
def L1 (t1a : Option Addr) (t1n : Nat) (t1k : Nat) (t7b : Nat) (t7o : Nat) (t8b : Nat) (t8o : Nat) (t9b : Nat) (t9o : Nat) (t44 : Bool) (H : Heap) (r : Value × Heap) : Prop := ∀ J, KR Try.prog good Try.f5 S7 (mat J 103 [(1, .slice t1a t1n t1k), (7, .pointer (some ⟨t7b, t7o, none⟩)), (8, .pointer (some ⟨t8b, t8o, none⟩)), (9, .pointer (some ⟨t9b, t9o, none⟩)), (44, .bool t44)]) H r
theorem L0_step {t0a : Option Addr} {t0n : Nat} {t0k : Nat} {t1a : Option Addr} {t1n : Nat} {t1k : Nat} {t2 : Int} {t17 : Bool} {H : Heap} {r : Value × Heap} (h :
    if t17 = true then
    (∃ (t18 : Bool) (H_1 : Heap), xC Try.prog good 12 [] H = some (.bool t18, H_1) ∧
    (r = (.bool t18, H_1)))
    else
    (∃ (t20c0 : Int) (t20c1 : Int) (t20c2 : Int) (t20c3 : Int) (t20c4 : Int) (t20c5 : Int) (t20c6 : Int) (H_2 : Heap), xC Try.prog good 13 [.slice t0a t0n t0k, .slice none 0 0, .bool true] H = some (.agg #[.int .i64 t20c0, .int .i64 t20c1, .int .i64 t20c2, .int .i64 t20c3, .int .i64 t20c4, .int .i64 t20c5, .int .i64 t20c6], H_2) ∧
    (∃ (H_3 : Heap), H_3 = H_2.push (.row [.int .i64 0, .int .i64 0, .int .i64 0, .int .i64 0, .int .i64 0, .int .i64 0, .int .i64 0] true) ∧
    (∃ (H_4 : Heap), stc H_3 H_2.next 0 [.int .i64 t20c0, .int .i64 t20c1, .int .i64 t20c2, .int .i64 t20c3, .int .i64 t20c4, .int .i64 t20c5, .int .i64 t20c6] = some H_4 ∧
    (∃ (t23c0 : Int) (t23c1 : Int) (t23c2 : Int) (t23c3 : Int) (t23c4 : Int) (t23c5 : Int) (t23c6 : Int) (H_5 : Heap), xC Try.prog good 13 [.slice t0a t0n t0k, .slice t1a t1n t1k, .bool true] H_4 = some (.agg #[.int .i64 t23c0, .int .i64 t23c1, .int .i64 t23c2, .int .i64 t23c3, .int .i64 t23c4, .int .i64 t23c5, .int .i64 t23c6], H_5) ∧
    (∃ (H_6 : Heap), H_6 = H_5.push (.row [.int .i64 0, .int .i64 0, .int .i64 0, .int .i64 0, .int .i64 0, .int .i64 0, .int .i64 0] true) ∧
    (∃ (H_7 : Heap), stc H_6 H_5.next 0 [.int .i64 t23c0, .int .i64 t23c1, .int .i64 t23c2, .int .i64 t23c3, .int .i64 t23c4, .int .i64 t23c5, .int .i64 t23c6] = some H_7 ∧
    (∃ (H_8 : Heap), H_8 = H_7.push (.row [] true) ∧
    (∃ (t27a : Option Addr) (t27n : Nat) (t27k : Nat) (H_9 : Heap), papp H_8 1 8 (some ⟨H_7.next, 0, none⟩) 0 (UNK 1) t1a t1n t1k = some ((t27a, t27n, t27k), H_9) ∧
    (∃ (H_10 : Heap), H_10 = H_9.push (.row [.int .i64 t2] true) ∧
    (∃ (t30a : Option Addr) (t30n : Nat) (t30k : Nat) (H_11 : Heap), papp H_10 1 8 t27a t27n t27k (some ⟨H_9.next, 0, none⟩) 1 (UNK 1) = some ((t30a, t30n, t30k), H_11) ∧
    (∃ (t31c0 : Int) (t31c1 : Int) (t31c2 : Int) (t31c3 : Int) (t31c4 : Int) (t31c5 : Int) (t31c6 : Int) (H_12 : Heap), xC Try.prog good 13 [.slice t0a t0n t0k, .slice t30a t30n t30k, .bool true] H_11 = some (.agg #[.int .i64 t31c0, .int .i64 t31c1, .int .i64 t31c2, .int .i64 t31c3, .int .i64 t31c4, .int .i64 t31c5, .int .i64 t31c6], H_12) ∧
    (∃ (H_13 : Heap), H_13 = H_12.push (.row [.int .i64 0, .int .i64 0, .int .i64 0, .int .i64 0, .int .i64 0, .int .i64 0, .int .i64 0] true) ∧
    (∃ (H_14 : Heap), stc H_13 H_12.next 0 [.int .i64 t31c0, .int .i64 t31c1, .int .i64 t31c2, .int .i64 t31c3, .int .i64 t31c4, .int .i64 t31c5, .int .i64 t31c6] = some H_14 ∧
    (∃ (t33 : Int), ldc H_14 H_2.next 0 = some (.int .i64 t33) ∧
    (if t33 = 1 then
    (L1 (t1a) (t1n) (t1k) (H_2.next) (0) (H_5.next) (0) (H_12.next) (0) (true) H_14 r)
    else
    (∃ (t37 : Int), ldc H_14 H_5.next 0 = some (.int .i64 t37) ∧
    (if t37 = 0 then
    (∃ (t41 : Int), ldc H_14 H_2.next 0 = some (.int .i64 t41) ∧
    (L1 (t1a) (t1n) (t1k) (H_2.next) (0) (H_5.next) (0) (H_12.next) (0) ((!(t41 == 0))) H_14 r))
    else
    (L1 (t1a) (t1n) (t1k) (H_2.next) (0) (H_5.next) (0) (H_12.next) (0) (false) H_14 r))))))))))))))))))) :
    L0 t0a t0n t0k t1a t1n t1k t2 t17 H r := by
  intro J
  show KR _ _ _ (.code (sub B [1, 0, 1]) :: S0) _ _ _
  by_cases c2 : t17 = true
  · replace h := iteT c2 h
    refine KR.br true (by kernel_rfl) (vB (bT c2)) ?_
    refine KR.run 2 [] 103 (s' := (.reg (opsAt (sub B [1, 0, 1, 0, 0])) [0, 1] :: S2)) (by kernel_rfl) fun J => ?_
    obtain ⟨t18, H_1, q3, h⟩ := h
    refine KR.se (one_ca (by kernel_rfl) q3) ?_
    refine KR.run 2 [(6, .bool t18)] 103 (s' := (.code (sub B [1, 0, 1, 0, 1]) :: S0)) (by kernel_rfl) fun J => ?_
    exact KR.fin (by kernel_rfl) h
  · replace h := iteF c2 h
    refine KR.br false (by kernel_rfl) (vB (bF c2)) ?_
    refine KR.run 4 [(0, .slice t0a t0n t0k), (1, .slice t1a t1n t1k), (2, .int .i64 t2), (19, .slice t0a t0n t0k)] 103 (s' := (.reg (opsAt (sub B [1, 1, 0])) [1, 2, 3] :: S3)) (by kernel_rfl) fun J => ?_
    obtain ⟨t20c0, t20c1, t20c2, t20c3, t20c4, t20c5, t20c6, H_2, q4, h⟩ := h
    refine KR.se (one_ca (by kernel_rfl) q4) ?_
    obtain ⟨H_3, q5, h⟩ := h
    refine KR.mk (w := pRow [.int .i64 0, .int .i64 0, .int .i64 0, .int .i64 0, .int .i64 0, .int .i64 0, .int .i64 0]) (one_al (by kernel_rfl)) q5 ?_
    obtain ⟨H_4, q6, h⟩ := h
    refine KR.se (one_st (by kernel_rfl) q6) ?_
    refine KR.run 5 [(0, .slice t0a t0n t0k), (1, .slice t1a t1n t1k), (2, .int .i64 t2), (7, .pointer (some ⟨H_2.next, 0, none⟩)), (21, .slice t0a t0n t0k), (22, .slice t1a t1n t1k)] 103 (s' := (.reg (opsAt (sub B [1, 1, 1, 0])) [2, 3, 4] :: S4)) (by kernel_rfl) fun J => ?_
    obtain ⟨t23c0, t23c1, t23c2, t23c3, t23c4, t23c5, t23c6, H_5, q7, h⟩ := h
    refine KR.se (one_ca (by kernel_rfl) q7) ?_
    obtain ⟨H_6, q8, h⟩ := h
    refine KR.mk (w := pRow [.int .i64 0, .int .i64 0, .int .i64 0, .int .i64 0, .int .i64 0, .int .i64 0, .int .i64 0]) (one_al (by kernel_rfl)) q8 ?_
    obtain ⟨H_7, q9, h⟩ := h
    refine KR.se (one_st (by kernel_rfl) q9) ?_
    refine KR.run 4 [(1, .slice t1a t1n t1k), (2, .int .i64 t2), (7, .pointer (some ⟨H_2.next, 0, none⟩)), (8, .pointer (some ⟨H_5.next, 0, none⟩)), (24, .slice t0a t0n t0k)] 103 (s' := (.reg (opsAt (sub B [1, 1, 1, 1, 0])) [1, 2, 3, 4, 5, 6, 7, 8, 9] :: S5)) (by kernel_rfl) fun J => ?_
    obtain ⟨H_8, q10, h⟩ := h
    refine KR.mk (w := sRow 0 1 []) (one_al (by kernel_rfl)) q10 ?_
    refine KR.run 1 [(1, .slice t1a t1n t1k), (2, .int .i64 t2), (7, .pointer (some ⟨H_2.next, 0, none⟩)), (8, .pointer (some ⟨H_5.next, 0, none⟩)), (24, .slice t0a t0n t0k), (25, .slice (some ⟨H_7.next, 0, none⟩) 0 (UNK 1)), (26, .slice t1a t1n t1k)] 103 (s' := (.reg (opsAt (sub B [1, 1, 1, 1, 0])) [3, 4, 5, 6, 7, 8, 9] :: S5)) (by kernel_rfl) fun J => ?_
    obtain ⟨t27a, t27n, t27k, H_9, q11, h⟩ := h
    refine KR.se (one_ap 1 8 (by kernel_rfl) q11) ?_
    refine KR.run 1 [(1, .slice t1a t1n t1k), (7, .pointer (some ⟨H_2.next, 0, none⟩)), (8, .pointer (some ⟨H_5.next, 0, none⟩)), (24, .slice t0a t0n t0k), (27, .slice t27a t27n t27k), (28, .int .i64 t2)] 103 (s' := (.reg (opsAt (sub B [1, 1, 1, 1, 0])) [5, 6, 7, 8, 9] :: S5)) (by kernel_rfl) fun J => ?_
    obtain ⟨H_10, q12, h⟩ := h
    refine KR.mk (w := sRow 1 1 [.int .i64 t2]) (one_al (by kernel_rfl)) q12 ?_
    obtain ⟨t30a, t30n, t30k, H_11, q13, h⟩ := h
    refine KR.se (one_ap 1 8 (by kernel_rfl) q13) ?_
    obtain ⟨t31c0, t31c1, t31c2, t31c3, t31c4, t31c5, t31c6, H_12, q14, h⟩ := h
    refine KR.se (one_ca (by kernel_rfl) q14) ?_
    obtain ⟨H_13, q15, h⟩ := h
    refine KR.mk (w := pRow [.int .i64 0, .int .i64 0, .int .i64 0, .int .i64 0, .int .i64 0, .int .i64 0, .int .i64 0]) (one_al (by kernel_rfl)) q15 ?_
    obtain ⟨H_14, q16, h⟩ := h
    refine KR.se (one_st (by kernel_rfl) q16) ?_
    refine KR.run 5 [(1, .slice t1a t1n t1k), (7, .pointer (some ⟨H_2.next, 0, none⟩)), (8, .pointer (some ⟨H_5.next, 0, none⟩)), (9, .pointer (some ⟨H_12.next, 0, none⟩)), (32, .pointer (some ⟨H_2.next, 0, none⟩))] 103 (s' := (.reg (opsAt (sub B [1, 1, 1, 1, 1, 0, 0])) [1, 2, 3, 4, 5, 6, 7, 8, 9, 10, 11, 12] :: S7)) (by kernel_rfl) fun J => ?_
    obtain ⟨t33, q17, h⟩ := h
    refine KR.rd (one_ld (by kernel_rfl) q17) ?_
    refine KR.run 2 [(1, .slice t1a t1n t1k), (7, .pointer (some ⟨H_2.next, 0, none⟩)), (8, .pointer (some ⟨H_5.next, 0, none⟩)), (9, .pointer (some ⟨H_12.next, 0, none⟩)), (35, .bool (t33 == 1))] 103 (s' := (.reg (opsAt (sub B [1, 1, 1, 1, 1, 0, 0])) [4, 5, 6, 7, 8, 9, 10, 11, 12] :: S7)) (by kernel_rfl) fun J => ?_
    by_cases c18 : t33 = 1
    · replace h := iteT c18 h
      refine KR.setV 35 (by kernel_rfl) (eT c18) ?_
      exact KR.run 10 [(1, .slice t1a t1n t1k), (7, .pointer (some ⟨H_2.next, 0, none⟩)), (8, .pointer (some ⟨H_5.next, 0, none⟩)), (9, .pointer (some ⟨H_12.next, 0, none⟩)), (44, .bool true)] 103 (s' := (.code (sub B [1, 1, 1, 1, 1, 0, 1]) :: S6)) (by kernel_rfl) h
    · replace h := iteF c18 h
      refine KR.setV 35 (by kernel_rfl) (eF c18) ?_
      refine KR.run 1 [(1, .slice t1a t1n t1k), (7, .pointer (some ⟨H_2.next, 0, none⟩)), (8, .pointer (some ⟨H_5.next, 0, none⟩)), (9, .pointer (some ⟨H_12.next, 0, none⟩)), (35, .bool false), (36, .pointer (some ⟨H_5.next, 0, none⟩))] 103 (s' := (.reg (opsAt (sub B [1, 1, 1, 1, 1, 0, 0])) [5, 6, 7, 8, 9, 10, 11, 12] :: S7)) (by kernel_rfl) fun J => ?_
      obtain ⟨t37, q19, h⟩ := h
      refine KR.rd (one_ld (by kernel_rfl) q19) ?_
      refine KR.run 2 [(1, .slice t1a t1n t1k), (7, .pointer (some ⟨H_2.next, 0, none⟩)), (8, .pointer (some ⟨H_5.next, 0, none⟩)), (9, .pointer (some ⟨H_12.next, 0, none⟩)), (35, .bool false), (39, .bool (t37 == 0))] 103 (s' := (.reg (opsAt (sub B [1, 1, 1, 1, 1, 0, 0])) [8, 9, 10, 11, 12] :: S7)) (by kernel_rfl) fun J => ?_
      by_cases c20 : t37 = 0
      · replace h := iteT c20 h
        refine KR.setV 39 (by kernel_rfl) (eT c20) ?_
        refine KR.run 1 [(1, .slice t1a t1n t1k), (7, .pointer (some ⟨H_2.next, 0, none⟩)), (8, .pointer (some ⟨H_5.next, 0, none⟩)), (9, .pointer (some ⟨H_12.next, 0, none⟩)), (35, .bool false), (39, .bool true), (40, .pointer (some ⟨H_2.next, 0, none⟩))] 103 (s' := (.reg (opsAt (sub B [1, 1, 1, 1, 1, 0, 0])) [9, 10, 11, 12] :: S7)) (by kernel_rfl) fun J => ?_
        obtain ⟨t41, q21, h⟩ := h
        refine KR.rd (one_ld (by kernel_rfl) q21) ?_
        exact KR.run 4 [(1, .slice t1a t1n t1k), (7, .pointer (some ⟨H_2.next, 0, none⟩)), (8, .pointer (some ⟨H_5.next, 0, none⟩)), (9, .pointer (some ⟨H_12.next, 0, none⟩)), (44, .bool (!(t41 == 0)))] 103 (s' := (.code (sub B [1, 1, 1, 1, 1, 0, 1]) :: S6)) (by kernel_rfl) h
      · replace h := iteF c20 h
        refine KR.setV 39 (by kernel_rfl) (eF c20) ?_
        exact KR.run 6 [(1, .slice t1a t1n t1k), (7, .pointer (some ⟨H_2.next, 0, none⟩)), (8, .pointer (some ⟨H_5.next, 0, none⟩)), (9, .pointer (some ⟨H_12.next, 0, none⟩)), (44, .bool false)] 103 (s' := (.code (sub B [1, 1, 1, 1, 1, 0, 1]) :: S6)) (by kernel_rfl) h
theorem L1_step {t1a : Option Addr} {t1n : Nat} {t1k : Nat} {t7b : Nat} {t7o : Nat} {t8b : Nat} {t8o : Nat} {t9b : Nat} {t9o : Nat} {t44 : Bool} {H : Heap} {r : Value × Heap} (h :
    if t44 = true then
    (r = (.bool false, H))
    else
    (∃ (t46 : Int), ldc H t8b t8o = some (.int .i64 t46) ∧
    (if t46 = 1 then
    (∃ (t49 : Int), ldc H t9b t9o = some (.int .i64 t49) ∧
    (if t49 = 1 then
    (∃ (t53 : Int), ldc H t9b (t9o + 6) = some (.int .i64 t53) ∧
    (∃ (t55 : Int), ldc H t8b (t8o + 6) = some (.int .i64 t55) ∧
    (if t53 = t55 then
    (∃ (t59c0 : Int) (t59c1 : Int) (t59c2 : Int) (t59c3 : Int) (t59c4 : Int), ldAll H t9b (t9o + 1) [.int .i64 t59c0, .int .i64 t59c1, .int .i64 t59c2, .int .i64 t59c3, .int .i64 t59c4] ∧
    (∃ (t61c0 : Int) (t61c1 : Int) (t61c2 : Int) (t61c3 : Int) (t61c4 : Int), ldAll H t8b (t8o + 1) [.int .i64 t61c0, .int .i64 t61c1, .int .i64 t61c2, .int .i64 t61c3, .int .i64 t61c4] ∧
    (if ((t59c0 == t61c0) && ((t59c1 == t61c1) && ((t59c2 == t61c2) && ((t59c3 == t61c3) && ((t59c4 == t61c4) && true))))) = true then
    (∃ (t73 : Bool) (H_1 : Heap), xC Try.prog good 12 [] H = some (.bool t73, H_1) ∧
    (r = (.bool t73, H_1)))
    else
    (∃ (t66 : Int), ldc H t9b (t9o + 6) = some (.int .i64 t66) ∧
    (if t66 = ((t1n : Nat) : Int) then
    (∃ (t73_1 : Bool) (H_2 : Heap), xC Try.prog good 12 [] H = some (.bool t73_1, H_2) ∧
    (r = (.bool t73_1, H_2)))
    else
    (r = (.bool false, H)))))))
    else
    (∃ (t66_1 : Int), ldc H t9b (t9o + 6) = some (.int .i64 t66_1) ∧
    (if t66_1 = ((t1n : Nat) : Int) then
    (∃ (t73_2 : Bool) (H_3 : Heap), xC Try.prog good 12 [] H = some (.bool t73_2, H_3) ∧
    (r = (.bool t73_2, H_3)))
    else
    (r = (.bool false, H)))))))
    else
    (r = (.bool false, H))))
    else
    (∃ (t75c0 : Int) (t75c1 : Int) (t75c2 : Int) (t75c3 : Int) (t75c4 : Int) (t75c5 : Int) (t75c6 : Int), ldAll H t8b t8o [.int .i64 t75c0, .int .i64 t75c1, .int .i64 t75c2, .int .i64 t75c3, .int .i64 t75c4, .int .i64 t75c5, .int .i64 t75c6] ∧
    (∃ (t76c0 : Int) (t76c1 : Int) (t76c2 : Int) (t76c3 : Int) (t76c4 : Int) (t76c5 : Int) (t76c6 : Int), ldAll H t7b t7o [.int .i64 t76c0, .int .i64 t76c1, .int .i64 t76c2, .int .i64 t76c3, .int .i64 t76c4, .int .i64 t76c5, .int .i64 t76c6] ∧
    (if ((t75c0 == t76c0) && (((t75c1 == t76c1) && ((t75c2 == t76c2) && ((t75c3 == t76c3) && ((t75c4 == t76c4) && ((t75c5 == t76c5) && true))))) && ((t75c6 == t76c6) && true))) = true then
    (∃ (t79c0 : Int) (t79c1 : Int) (t79c2 : Int) (t79c3 : Int) (t79c4 : Int) (t79c5 : Int) (t79c6 : Int), ldAll H t9b t9o [.int .i64 t79c0, .int .i64 t79c1, .int .i64 t79c2, .int .i64 t79c3, .int .i64 t79c4, .int .i64 t79c5, .int .i64 t79c6] ∧
    (∃ (t80c0 : Int) (t80c1 : Int) (t80c2 : Int) (t80c3 : Int) (t80c4 : Int) (t80c5 : Int) (t80c6 : Int), ldAll H t7b t7o [.int .i64 t80c0, .int .i64 t80c1, .int .i64 t80c2, .int .i64 t80c3, .int .i64 t80c4, .int .i64 t80c5, .int .i64 t80c6] ∧
    (if ((t79c0 == t80c0) && (((t79c1 == t80c1) && ((t79c2 == t80c2) && ((t79c3 == t80c3) && ((t79c4 == t80c4) && ((t79c5 == t80c5) && true))))) && ((t79c6 == t80c6) && true))) = true then
    (∃ (t101 : Bool) (H_4 : Heap), xC Try.prog good 12 [] H = some (.bool t101, H_4) ∧
    (r = (.bool t101, H_4)))
    else
    (∃ (t84 : Int), ldc H t9b t9o = some (.int .i64 t84) ∧
    (if t84 = 1 then
    (∃ (t88 : Int), ldc H t9b (t9o + 6) = some (.int .i64 t88) ∧
    (if t88 = ((t1n : Nat) : Int) then
    (∃ (t95c0 : Int) (t95c1 : Int) (t95c2 : Int) (t95c3 : Int) (t95c4 : Int), ldAll H t9b (t9o + 1) [.int .i64 t95c0, .int .i64 t95c1, .int .i64 t95c2, .int .i64 t95c3, .int .i64 t95c4] ∧
    (∃ (t96 : Bool) (H_5 : Heap), xC Try.prog good 15 [.agg #[.int .i64 t95c0, .int .i64 t95c1, .int .i64 t95c2, .int .i64 t95c3, .int .i64 t95c4]] H = some (.bool t96, H_5) ∧
    (if t96 = true then
    (∃ (t101_1 : Bool) (H_6 : Heap), xC Try.prog good 12 [] H_5 = some (.bool t101_1, H_6) ∧
    (r = (.bool t101_1, H_6)))
    else
    (r = (.bool false, H_5)))))
    else
    (r = (.bool false, H))))
    else
    (r = (.bool false, H)))))))
    else
    (r = (.bool false, H)))))))) :
    L1 t1a t1n t1k t7b t7o t8b t8o t9b t9o t44 H r := by
  intro J
  show KR _ _ _ (.code (sub B [1, 1, 1, 1, 1, 0, 1]) :: S6) _ _ _
  by_cases c22 : t44 = true
  · replace h := iteT c22 h
    refine KR.br true (by kernel_rfl) (vB (bT c22)) ?_
    refine KR.run 4 [(6, .bool false)] 103 (s' := (.code (sub B [1, 1, 1, 1, 1, 0, 1, 0, 1]) :: S6)) (by kernel_rfl) fun J => ?_
    exact KR.fin (by kernel_rfl) h
  · replace h := iteF c22 h
    refine KR.br false (by kernel_rfl) (vB (bF c22)) ?_
    refine KR.run 5 [(1, .slice t1a t1n t1k), (7, .pointer (some ⟨t7b, t7o, none⟩)), (8, .pointer (some ⟨t8b, t8o, none⟩)), (9, .pointer (some ⟨t9b, t9o, none⟩)), (45, .pointer (some ⟨t8b, t8o, none⟩))] 103 (s' := (.reg (opsAt (sub B [1, 1, 1, 1, 1, 1, 0, 0])) [1, 2] :: S9)) (by kernel_rfl) fun J => ?_
    obtain ⟨t46, q23, h⟩ := h
    refine KR.rd (one_ld (by kernel_rfl) q23) ?_
    refine KR.run 2 [(1, .slice t1a t1n t1k), (7, .pointer (some ⟨t7b, t7o, none⟩)), (8, .pointer (some ⟨t8b, t8o, none⟩)), (9, .pointer (some ⟨t9b, t9o, none⟩)), (47, .bool (t46 == 1))] 103 (s' := (.code (sub B [1, 1, 1, 1, 1, 1, 0, 1]) :: S8)) (by kernel_rfl) fun J => ?_
    by_cases c24 : t46 = 1
    · replace h := iteT c24 h
      refine KR.br true (by kernel_rfl) (vB (eT c24)) ?_
      refine KR.run 3 [(1, .slice t1a t1n t1k), (8, .pointer (some ⟨t8b, t8o, none⟩)), (9, .pointer (some ⟨t9b, t9o, none⟩)), (48, .pointer (some ⟨t9b, t9o, none⟩))] 103 (s' := (.reg (opsAt (sub B [1, 1, 1, 1, 1, 1, 0, 1, 0, 0])) [1, 2, 3, 4, 5, 6, 7, 8, 9, 10, 11, 12, 13, 14, 15, 16, 17, 18, 19, 20, 21, 22, 23, 24, 25, 26, 27] :: S10)) (by kernel_rfl) fun J => ?_
      obtain ⟨t49, q25, h⟩ := h
      refine KR.rd (one_ld (by kernel_rfl) q25) ?_
      refine KR.run 2 [(1, .slice t1a t1n t1k), (8, .pointer (some ⟨t8b, t8o, none⟩)), (9, .pointer (some ⟨t9b, t9o, none⟩)), (51, .bool (t49 == 1))] 103 (s' := (.reg (opsAt (sub B [1, 1, 1, 1, 1, 1, 0, 1, 0, 0])) [4, 5, 6, 7, 8, 9, 10, 11, 12, 13, 14, 15, 16, 17, 18, 19, 20, 21, 22, 23, 24, 25, 26, 27] :: S10)) (by kernel_rfl) fun J => ?_
      by_cases c26 : t49 = 1
      · replace h := iteT c26 h
        refine KR.setV 51 (by kernel_rfl) (eT c26) ?_
        refine KR.run 1 [(1, .slice t1a t1n t1k), (8, .pointer (some ⟨t8b, t8o, none⟩)), (9, .pointer (some ⟨t9b, t9o, none⟩)), (51, .bool true), (52, .pointer (some ⟨t9b, (t9o + 6), none⟩))] 103 (s' := (.reg (opsAt (sub B [1, 1, 1, 1, 1, 1, 0, 1, 0, 0])) [5, 6, 7, 8, 9, 10, 11, 12, 13, 14, 15, 16, 17, 18, 19, 20, 21, 22, 23, 24, 25, 26, 27] :: S10)) (by kernel_rfl) fun J => ?_
        obtain ⟨t53, q27, h⟩ := h
        refine KR.rd (one_ld (by kernel_rfl) q27) ?_
        refine KR.run 1 [(1, .slice t1a t1n t1k), (8, .pointer (some ⟨t8b, t8o, none⟩)), (9, .pointer (some ⟨t9b, t9o, none⟩)), (51, .bool true), (53, .int .i64 t53), (54, .pointer (some ⟨t8b, (t8o + 6), none⟩))] 103 (s' := (.reg (opsAt (sub B [1, 1, 1, 1, 1, 1, 0, 1, 0, 0])) [7, 8, 9, 10, 11, 12, 13, 14, 15, 16, 17, 18, 19, 20, 21, 22, 23, 24, 25, 26, 27] :: S10)) (by kernel_rfl) fun J => ?_
        obtain ⟨t55, q28, h⟩ := h
        refine KR.rd (one_ld (by kernel_rfl) q28) ?_
        refine KR.run 2 [(1, .slice t1a t1n t1k), (8, .pointer (some ⟨t8b, t8o, none⟩)), (9, .pointer (some ⟨t9b, t9o, none⟩)), (51, .bool true), (57, .bool (t53 == t55))] 103 (s' := (.reg (opsAt (sub B [1, 1, 1, 1, 1, 1, 0, 1, 0, 0])) [10, 11, 12, 13, 14, 15, 16, 17, 18, 19, 20, 21, 22, 23, 24, 25, 26, 27] :: S10)) (by kernel_rfl) fun J => ?_
        by_cases c29 : t53 = t55
        · replace h := iteT c29 h
          refine KR.setV 57 (by kernel_rfl) (eT c29) ?_
          refine KR.run 1 [(1, .slice t1a t1n t1k), (8, .pointer (some ⟨t8b, t8o, none⟩)), (9, .pointer (some ⟨t9b, t9o, none⟩)), (51, .bool true), (57, .bool true), (58, .pointer (some ⟨t9b, (t9o + 1), none⟩))] 103 (s' := (.reg (opsAt (sub B [1, 1, 1, 1, 1, 1, 0, 1, 0, 0])) [11, 12, 13, 14, 15, 16, 17, 18, 19, 20, 21, 22, 23, 24, 25, 26, 27] :: S10)) (by kernel_rfl) fun J => ?_
          obtain ⟨t59c0, t59c1, t59c2, t59c3, t59c4, q30, h⟩ := h
          refine KR.rd (one_ldA (by kernel_rfl) q30) ?_
          refine KR.run 1 [(1, .slice t1a t1n t1k), (9, .pointer (some ⟨t9b, t9o, none⟩)), (51, .bool true), (57, .bool true), (59, .agg #[.int .i64 t59c0, .int .i64 t59c1, .int .i64 t59c2, .int .i64 t59c3, .int .i64 t59c4]), (60, .pointer (some ⟨t8b, (t8o + 1), none⟩))] 103 (s' := (.reg (opsAt (sub B [1, 1, 1, 1, 1, 1, 0, 1, 0, 0])) [13, 14, 15, 16, 17, 18, 19, 20, 21, 22, 23, 24, 25, 26, 27] :: S10)) (by kernel_rfl) fun J => ?_
          obtain ⟨t61c0, t61c1, t61c2, t61c3, t61c4, q31, h⟩ := h
          refine KR.rd (one_ldA (by kernel_rfl) q31) ?_
          refine KR.run 3 [(1, .slice t1a t1n t1k), (9, .pointer (some ⟨t9b, t9o, none⟩)), (51, .bool true), (64, .bool ((t59c0 == t61c0) && ((t59c1 == t61c1) && ((t59c2 == t61c2) && ((t59c3 == t61c3) && ((t59c4 == t61c4) && true))))))] 103 (s' := (.reg (opsAt (sub B [1, 1, 1, 1, 1, 1, 0, 1, 0, 0])) [17, 18, 19, 20, 21, 22, 23, 24, 25, 26, 27] :: S10)) (by kernel_rfl) fun J => ?_
          by_cases c32 : ((t59c0 == t61c0) && ((t59c1 == t61c1) && ((t59c2 == t61c2) && ((t59c3 == t61c3) && ((t59c4 == t61c4) && true))))) = true
          · replace h := iteT c32 h
            refine KR.setV 64 (by kernel_rfl) (bT c32) ?_
            refine KR.run 8 [(72, .bool true)] 103 (s' := (.reg (opsAt (sub B [1, 1, 1, 1, 1, 1, 0, 1, 0, 0])) [25, 26, 27] :: S10)) (by kernel_rfl) fun J => ?_
            obtain ⟨t73, H_1, q33, h⟩ := h
            refine KR.se (one_ca (by kernel_rfl) q33) ?_
            refine KR.run 3 [(6, .bool t73)] 103 (s' := (.code (sub B [1, 1, 1, 1, 1, 1, 0, 1, 0, 1]) :: S8)) (by kernel_rfl) fun J => ?_
            exact KR.fin (by kernel_rfl) h
          · replace h := iteF c32 h
            refine KR.setV 64 (by kernel_rfl) (bF c32) ?_
            refine KR.run 1 [(1, .slice t1a t1n t1k), (51, .bool true), (64, .bool false), (65, .pointer (some ⟨t9b, (t9o + 6), none⟩))] 103 (s' := (.reg (opsAt (sub B [1, 1, 1, 1, 1, 1, 0, 1, 0, 0])) [18, 19, 20, 21, 22, 23, 24, 25, 26, 27] :: S10)) (by kernel_rfl) fun J => ?_
            obtain ⟨t66, q34, h⟩ := h
            refine KR.rd (one_ld (by kernel_rfl) q34) ?_
            refine KR.run 6 [(72, .bool (t66 == ((t1n : Nat) : Int)))] 103 (s' := (.reg (opsAt (sub B [1, 1, 1, 1, 1, 1, 0, 1, 0, 0])) [25, 26, 27] :: S10)) (by kernel_rfl) fun J => ?_
            by_cases c35 : t66 = ((t1n : Nat) : Int)
            · replace h := iteT c35 h
              refine KR.setV 72 (by kernel_rfl) (eT c35) ?_
              obtain ⟨t73_1, H_2, q36, h⟩ := h
              refine KR.se (one_ca (by kernel_rfl) q36) ?_
              refine KR.run 3 [(6, .bool t73_1)] 103 (s' := (.code (sub B [1, 1, 1, 1, 1, 1, 0, 1, 0, 1]) :: S8)) (by kernel_rfl) fun J => ?_
              exact KR.fin (by kernel_rfl) h
            · replace h := iteF c35 h
              refine KR.setV 72 (by kernel_rfl) (eF c35) ?_
              refine KR.run 4 [(6, .bool false)] 103 (s' := (.code (sub B [1, 1, 1, 1, 1, 1, 0, 1, 0, 1]) :: S8)) (by kernel_rfl) fun J => ?_
              exact KR.fin (by kernel_rfl) h
        · replace h := iteF c29 h
          refine KR.setV 57 (by kernel_rfl) (eF c29) ?_
          refine KR.run 8 [(1, .slice t1a t1n t1k), (51, .bool true), (64, .bool false), (65, .pointer (some ⟨t9b, (t9o + 6), none⟩))] 103 (s' := (.reg (opsAt (sub B [1, 1, 1, 1, 1, 1, 0, 1, 0, 0])) [18, 19, 20, 21, 22, 23, 24, 25, 26, 27] :: S10)) (by kernel_rfl) fun J => ?_
          obtain ⟨t66_1, q37, h⟩ := h
          refine KR.rd (one_ld (by kernel_rfl) q37) ?_
          refine KR.run 6 [(72, .bool (t66_1 == ((t1n : Nat) : Int)))] 103 (s' := (.reg (opsAt (sub B [1, 1, 1, 1, 1, 1, 0, 1, 0, 0])) [25, 26, 27] :: S10)) (by kernel_rfl) fun J => ?_
          by_cases c38 : t66_1 = ((t1n : Nat) : Int)
          · replace h := iteT c38 h
            refine KR.setV 72 (by kernel_rfl) (eT c38) ?_
            obtain ⟨t73_2, H_3, q39, h⟩ := h
            refine KR.se (one_ca (by kernel_rfl) q39) ?_
            refine KR.run 3 [(6, .bool t73_2)] 103 (s' := (.code (sub B [1, 1, 1, 1, 1, 1, 0, 1, 0, 1]) :: S8)) (by kernel_rfl) fun J => ?_
            exact KR.fin (by kernel_rfl) h
          · replace h := iteF c38 h
            refine KR.setV 72 (by kernel_rfl) (eF c38) ?_
            refine KR.run 4 [(6, .bool false)] 103 (s' := (.code (sub B [1, 1, 1, 1, 1, 1, 0, 1, 0, 1]) :: S8)) (by kernel_rfl) fun J => ?_
            exact KR.fin (by kernel_rfl) h
      · replace h := iteF c26 h
        refine KR.setV 51 (by kernel_rfl) (eF c26) ?_
        refine KR.run 25 [(6, .bool false)] 103 (s' := (.code (sub B [1, 1, 1, 1, 1, 1, 0, 1, 0, 1]) :: S8)) (by kernel_rfl) fun J => ?_
        exact KR.fin (by kernel_rfl) h
    · replace h := iteF c24 h
      refine KR.br false (by kernel_rfl) (vB (eF c24)) ?_
      refine KR.run 3 [(1, .slice t1a t1n t1k), (7, .pointer (some ⟨t7b, t7o, none⟩)), (8, .pointer (some ⟨t8b, t8o, none⟩)), (9, .pointer (some ⟨t9b, t9o, none⟩))] 103 (s' := (.reg (opsAt (sub B [1, 1, 1, 1, 1, 1, 1, 0])) [0, 1, 2, 3, 4, 5, 6, 7, 8, 9, 10, 11, 12, 13, 14, 15, 16, 17, 18, 19, 20, 21, 22, 23, 24, 25, 26, 27, 28] :: S11)) (by kernel_rfl) fun J => ?_
      obtain ⟨t75c0, t75c1, t75c2, t75c3, t75c4, t75c5, t75c6, q40, h⟩ := h
      refine KR.rd (one_ldA (by kernel_rfl) q40) ?_
      obtain ⟨t76c0, t76c1, t76c2, t76c3, t76c4, t76c5, t76c6, q41, h⟩ := h
      refine KR.rd (one_ldA (by kernel_rfl) q41) ?_
      refine KR.run 2 [(1, .slice t1a t1n t1k), (7, .pointer (some ⟨t7b, t7o, none⟩)), (9, .pointer (some ⟨t9b, t9o, none⟩)), (78, .bool ((t75c0 == t76c0) && (((t75c1 == t76c1) && ((t75c2 == t76c2) && ((t75c3 == t76c3) && ((t75c4 == t76c4) && ((t75c5 == t76c5) && true))))) && ((t75c6 == t76c6) && true))))] 103 (s' := (.reg (opsAt (sub B [1, 1, 1, 1, 1, 1, 1, 0])) [4, 5, 6, 7, 8, 9, 10, 11, 12, 13, 14, 15, 16, 17, 18, 19, 20, 21, 22, 23, 24, 25, 26, 27, 28] :: S11)) (by kernel_rfl) fun J => ?_
      by_cases c42 : ((t75c0 == t76c0) && (((t75c1 == t76c1) && ((t75c2 == t76c2) && ((t75c3 == t76c3) && ((t75c4 == t76c4) && ((t75c5 == t76c5) && true))))) && ((t75c6 == t76c6) && true))) = true
      · replace h := iteT c42 h
        refine KR.setV 78 (by kernel_rfl) (bT c42) ?_
        obtain ⟨t79c0, t79c1, t79c2, t79c3, t79c4, t79c5, t79c6, q43, h⟩ := h
        refine KR.rd (one_ldA (by kernel_rfl) q43) ?_
        obtain ⟨t80c0, t80c1, t80c2, t80c3, t80c4, t80c5, t80c6, q44, h⟩ := h
        refine KR.rd (one_ldA (by kernel_rfl) q44) ?_
        refine KR.run 2 [(1, .slice t1a t1n t1k), (9, .pointer (some ⟨t9b, t9o, none⟩)), (78, .bool true), (82, .bool ((t79c0 == t80c0) && (((t79c1 == t80c1) && ((t79c2 == t80c2) && ((t79c3 == t80c3) && ((t79c4 == t80c4) && ((t79c5 == t80c5) && true))))) && ((t79c6 == t80c6) && true))))] 103 (s' := (.reg (opsAt (sub B [1, 1, 1, 1, 1, 1, 1, 0])) [8, 9, 10, 11, 12, 13, 14, 15, 16, 17, 18, 19, 20, 21, 22, 23, 24, 25, 26, 27, 28] :: S11)) (by kernel_rfl) fun J => ?_
        by_cases c45 : ((t79c0 == t80c0) && (((t79c1 == t80c1) && ((t79c2 == t80c2) && ((t79c3 == t80c3) && ((t79c4 == t80c4) && ((t79c5 == t80c5) && true))))) && ((t79c6 == t80c6) && true))) = true
        · replace h := iteT c45 h
          refine KR.setV 82 (by kernel_rfl) (bT c45) ?_
          refine KR.run 18 [(100, .bool true)] 103 (s' := (.reg (opsAt (sub B [1, 1, 1, 1, 1, 1, 1, 0])) [26, 27, 28] :: S11)) (by kernel_rfl) fun J => ?_
          obtain ⟨t101, H_4, q46, h⟩ := h
          refine KR.se (one_ca (by kernel_rfl) q46) ?_
          refine KR.run 3 [(6, .bool t101)] 103 (s' := (.code (sub B [1, 1, 1, 1, 1, 1, 1, 1]) :: [])) (by kernel_rfl) fun J => ?_
          exact KR.fin (by kernel_rfl) h
        · replace h := iteF c45 h
          refine KR.setV 82 (by kernel_rfl) (bF c45) ?_
          refine KR.run 1 [(1, .slice t1a t1n t1k), (9, .pointer (some ⟨t9b, t9o, none⟩)), (78, .bool true), (82, .bool false), (83, .pointer (some ⟨t9b, t9o, none⟩))] 103 (s' := (.reg (opsAt (sub B [1, 1, 1, 1, 1, 1, 1, 0])) [9, 10, 11, 12, 13, 14, 15, 16, 17, 18, 19, 20, 21, 22, 23, 24, 25, 26, 27, 28] :: S11)) (by kernel_rfl) fun J => ?_
          obtain ⟨t84, q47, h⟩ := h
          refine KR.rd (one_ld (by kernel_rfl) q47) ?_
          refine KR.run 2 [(1, .slice t1a t1n t1k), (9, .pointer (some ⟨t9b, t9o, none⟩)), (78, .bool true), (82, .bool false), (86, .bool (t84 == 1))] 103 (s' := (.reg (opsAt (sub B [1, 1, 1, 1, 1, 1, 1, 0])) [12, 13, 14, 15, 16, 17, 18, 19, 20, 21, 22, 23, 24, 25, 26, 27, 28] :: S11)) (by kernel_rfl) fun J => ?_
          by_cases c48 : t84 = 1
          · replace h := iteT c48 h
            refine KR.setV 86 (by kernel_rfl) (eT c48) ?_
            refine KR.run 1 [(1, .slice t1a t1n t1k), (9, .pointer (some ⟨t9b, t9o, none⟩)), (78, .bool true), (82, .bool false), (86, .bool true), (87, .pointer (some ⟨t9b, (t9o + 6), none⟩))] 103 (s' := (.reg (opsAt (sub B [1, 1, 1, 1, 1, 1, 1, 0])) [13, 14, 15, 16, 17, 18, 19, 20, 21, 22, 23, 24, 25, 26, 27, 28] :: S11)) (by kernel_rfl) fun J => ?_
            obtain ⟨t88, q49, h⟩ := h
            refine KR.rd (one_ld (by kernel_rfl) q49) ?_
            refine KR.run 5 [(9, .pointer (some ⟨t9b, t9o, none⟩)), (78, .bool true), (82, .bool false), (93, .bool (t88 == ((t1n : Nat) : Int)))] 103 (s' := (.reg (opsAt (sub B [1, 1, 1, 1, 1, 1, 1, 0])) [19, 20, 21, 22, 23, 24, 25, 26, 27, 28] :: S11)) (by kernel_rfl) fun J => ?_
            by_cases c50 : t88 = ((t1n : Nat) : Int)
            · replace h := iteT c50 h
              refine KR.setV 93 (by kernel_rfl) (eT c50) ?_
              refine KR.run 1 [(78, .bool true), (82, .bool false), (93, .bool true), (94, .pointer (some ⟨t9b, (t9o + 1), none⟩))] 103 (s' := (.reg (opsAt (sub B [1, 1, 1, 1, 1, 1, 1, 0])) [20, 21, 22, 23, 24, 25, 26, 27, 28] :: S11)) (by kernel_rfl) fun J => ?_
              obtain ⟨t95c0, t95c1, t95c2, t95c3, t95c4, q51, h⟩ := h
              refine KR.rd (one_ldA (by kernel_rfl) q51) ?_
              obtain ⟨t96, H_5, q52, h⟩ := h
              refine KR.se (one_ca (by kernel_rfl) q52) ?_
              refine KR.run 4 [(100, .bool t96)] 103 (s' := (.reg (opsAt (sub B [1, 1, 1, 1, 1, 1, 1, 0])) [26, 27, 28] :: S11)) (by kernel_rfl) fun J => ?_
              by_cases c53 : t96 = true
              · replace h := iteT c53 h
                refine KR.setV 100 (by kernel_rfl) (bT c53) ?_
                obtain ⟨t101_1, H_6, q54, h⟩ := h
                refine KR.se (one_ca (by kernel_rfl) q54) ?_
                refine KR.run 3 [(6, .bool t101_1)] 103 (s' := (.code (sub B [1, 1, 1, 1, 1, 1, 1, 1]) :: [])) (by kernel_rfl) fun J => ?_
                exact KR.fin (by kernel_rfl) h
              · replace h := iteF c53 h
                refine KR.setV 100 (by kernel_rfl) (bF c53) ?_
                refine KR.run 4 [(6, .bool false)] 103 (s' := (.code (sub B [1, 1, 1, 1, 1, 1, 1, 1]) :: [])) (by kernel_rfl) fun J => ?_
                exact KR.fin (by kernel_rfl) h
            · replace h := iteF c50 h
              refine KR.setV 93 (by kernel_rfl) (eF c50) ?_
              refine KR.run 11 [(6, .bool false)] 103 (s' := (.code (sub B [1, 1, 1, 1, 1, 1, 1, 1]) :: [])) (by kernel_rfl) fun J => ?_
              exact KR.fin (by kernel_rfl) h
          · replace h := iteF c48 h
            refine KR.setV 86 (by kernel_rfl) (eF c48) ?_
            refine KR.run 18 [(6, .bool false)] 103 (s' := (.code (sub B [1, 1, 1, 1, 1, 1, 1, 1]) :: [])) (by kernel_rfl) fun J => ?_
            exact KR.fin (by kernel_rfl) h
      · replace h := iteF c42 h
        refine KR.setV 78 (by kernel_rfl) (bF c42) ?_
        refine KR.run 26 [(6, .bool false)] 103 (s' := (.code (sub B [1, 1, 1, 1, 1, 1, 1, 1]) :: [])) (by kernel_rfl) fun J => ?_
        exact KR.fin (by kernel_rfl) h
theorem call {a0a : Option Addr} {a0n : Nat} {a0k : Nat} {a1a : Option Addr} {a1n : Nat} {a1k : Nat} {a2 : Int} {H : Heap} {r : Value × Heap} (h :
    if ((a0n : Nat) : Int) > 60 then
    (L0 (a0a) (a0n) (a0k) (a1a) (a1n) (a1k) (a2) (true) H r)
    else
    (L0 (a0a) (a0n) (a0k) (a1a) (a1n) (a1k) (a2) ((decide (((a1n : Nat) : Int) > 60))) H r)) :
    xC Try.prog good 5 [.slice a0a a0n a0k, .slice a1a a1n a1k, .int .i64 a2] H = some r := by
  refine KR.enter (fn := Try.f5) (c := B) (by kernel_rfl) (by kernel_rfl) ?_
  refine KR.run 11 [(0, .slice a0a a0n a0k), (1, .slice a1a a1n a1k), (2, .int .i64 a2), (13, .bool (decide (((a0n : Nat) : Int) > 60)))] 103 (s' := (.reg (opsAt (sub B [1, 0, 0])) [4, 5, 6, 7] :: S1)) (by kernel_rfl) fun J => ?_
  by_cases c1 : ((a0n : Nat) : Int) > 60
  · replace h := iteT c1 h
    refine KR.setV 13 (by kernel_rfl) (dT c1) ?_
    exact KR.run 5 [(0, .slice a0a a0n a0k), (1, .slice a1a a1n a1k), (2, .int .i64 a2), (17, .bool true)] 103 (s' := (.code (sub B [1, 0, 1]) :: S0)) (by kernel_rfl) h
  · replace h := iteF c1 h
    refine KR.setV 13 (by kernel_rfl) (dF c1) ?_
    exact KR.run 5 [(0, .slice a0a a0n a0k), (1, .slice a1a a1n a1k), (2, .int .i64 a2), (17, .bool (decide (((a1n : Nat) : Int) > 60)))] 103 (s' := (.code (sub B [1, 0, 1]) :: S0)) (by kernel_rfl) h
end F5
end Go.X
