/- The walks of the functions: printed. -/
import Derived.Test.YtomibdncbioijaaXzGd
set_option linter.unusedVariables false
set_option maxRecDepth 100000
namespace Go.X
open Go Go.RowKit Go.Proofs
/-! #### 6 campanile/campanilelaw8.CellRound -/
namespace F6
noncomputable def B : Code := bodyOf Try.f6
noncomputable def S0 : List It := (.code (sub B [1]) :: [])
noncomputable def S1 : List It := (.code (sub B [1, 1, 1, 1]) :: [])
noncomputable def S2 : List It := (.code (sub B [1, 1, 1, 1, 1]) :: [])
noncomputable def S4 : List It := (.code (sub B [1, 1, 1, 1, 1, 1]) :: [])
noncomputable def S6 : List It := (.code (sub B [1, 1, 1, 1, 1, 1, 1]) :: [])
noncomputable def S7 : List It := (.code (sub B [1, 1, 1, 1, 1, 1, 1, 1]) :: [])
noncomputable def S10 : List It := (.code (sub B [1, 1, 1, 1, 1, 1, 1, 1, 1, 1]) :: [])
noncomputable def S19 : List It := (.code (sub B [1, 1, 1, 1, 1, 1, 1, 1, 1, 1, 1]) :: [])
noncomputable def S3 : List It := (.code (sub B [1, 1, 1, 1, 0, 1]) :: S2)
noncomputable def S5 : List It := (.code (sub B [1, 1, 1, 1, 1, 0, 1]) :: S4)
noncomputable def S8 : List It := (.code (sub B [1, 1, 1, 1, 1, 1, 1, 0, 1]) :: S7)
noncomputable def S9 : List It := (.code (sub B [1, 1, 1, 1, 0, 1, 0, 1]) :: S2)
noncomputable def S11 : List It := (.blk 0 :: S10)
noncomputable def S12 : List It := (.lp (sub B [1, 1, 1, 1, 1, 1, 1, 1, 1, 0, 1, 0, 0]) :: S11)
noncomputable def S13 : List It := (.code (sub B [1, 1, 1, 1, 1, 1, 1, 1, 1, 0, 1, 0, 0, 1, 1]) :: S12)
noncomputable def S14 : List It := (.code (sub B [1, 1, 1, 1, 1, 1, 1, 1, 1, 0, 1, 0, 0, 1, 1, 1]) :: S12)
noncomputable def S15 : List It := (.blk 1 :: S14)
noncomputable def S16 : List It := (.code (sub B [1, 1, 1, 1, 1, 1, 1, 1, 1, 0, 1, 0, 0, 1, 1, 0, 0, 1, 1]) :: S15)
noncomputable def S17 : List It := (.code (sub B [1, 1, 1, 1, 1, 1, 1, 1, 1, 0, 1, 0, 0, 1, 1, 0, 0, 1, 1, 1]) :: S15)
noncomputable def S18 : List It := (.code (sub B [1, 1, 1, 1, 1, 1, 1, 1, 1, 0, 1, 0, 0, 1, 1, 0, 0, 1, 1, 0, 1]) :: S17)
def L0 (t1 : Int) (t2 : Int) (t3b : Nat) (t3o : Nat) (t7 : Option Addr) (t8 : Int) (t55 : Bool) (H : Heap) (r : Value × Heap) : Prop := ∀ J, KR Try.prog good Try.f6 S8 (mat J 116 [(1, .int .i64 t1), (2, .int .i64 t2), (3, .pointer (some ⟨t3b, t3o, none⟩)), (7, .pointer t7), (8, .int .i64 t8), (55, .bool t55)]) H r
def L1 (t1 : Int) (t2 : Int) (t3b : Nat) (t3o : Nat) (t7 : Option Addr) (t8 : Int) (t9 : Int) (t56 : Int) (t57 : Int) (H : Heap) (r : Value × Heap) : Prop := ∀ J, KR Try.prog good Try.f6 S12 (mat J 116 [(1, .int .i64 t1), (2, .int .i64 t2), (3, .pointer (some ⟨t3b, t3o, none⟩)), (7, .pointer t7), (8, .int .i64 t8), (9, .int .i64 t9), (56, .int .i64 t56), (57, .int .i64 t57)]) H r
def L2 (t1 : Int) (t2 : Int) (t3b : Nat) (t3o : Nat) (t7 : Option Addr) (t8 : Int) (t9 : Int) (t11a : Option Addr) (t11n : Nat) (t11k : Nat) (t56 : Int) (t57 : Int) (t102 : Bool) (H : Heap) (r : Value × Heap) : Prop := ∀ J, KR Try.prog good Try.f6 S18 (mat J 116 [(1, .int .i64 t1), (2, .int .i64 t2), (3, .pointer (some ⟨t3b, t3o, none⟩)), (7, .pointer t7), (8, .int .i64 t8), (9, .int .i64 t9), (11, .slice t11a t11n t11k), (56, .int .i64 t56), (57, .int .i64 t57), (102, .bool t102)]) H r
theorem L0_step {t1 : Int} {t2 : Int} {t3b : Nat} {t3o : Nat} {t7 : Option Addr} {t8 : Int} {t55 : Bool} {H : Heap} {r : Value × Heap} (h :
    if t55 = true then
    (r = (.bool false, H))
    else
    (L1 (t1) (t2) (t3b) (t3o) (t7) (t8) 0 (t1) 0 H r)) :
    L0 t1 t2 t3b t3o t7 t8 t55 H r := by
  intro J
  show KR _ _ _ (.code (sub B [1, 1, 1, 1, 1, 1, 1, 0, 1]) :: S7) _ _ _
  by_cases c18 : t55 = true
  · replace h := iteT c18 h
    refine KR.br true (by kernel_rfl) (vB (bT c18)) ?_
    refine KR.run 4 [(6, .bool false)] 116 (s' := (.code (sub B [1, 1, 1, 1, 1, 1, 1, 0, 1, 0, 1]) :: S7)) (by kernel_rfl) fun J => ?_
    exact KR.fin (by kernel_rfl) h
  · replace h := iteF c18 h
    refine KR.br false (by kernel_rfl) (vB (bF c18)) ?_
    exact KR.run 13 [(1, .int .i64 t1), (2, .int .i64 t2), (3, .pointer (some ⟨t3b, t3o, none⟩)), (7, .pointer t7), (8, .int .i64 t8), (9, .int .i64 0), (56, .int .i64 t1), (57, .int .i64 0)] 116 (s' := (.lp (sub B [1, 1, 1, 1, 1, 1, 1, 1, 1, 0, 1, 0, 0]) :: S11)) (by kernel_rfl) h
theorem L1_step {t1 : Int} {t2 : Int} {t3b : Nat} {t3o : Nat} {t7 : Option Addr} {t8 : Int} {t9 : Int} {t56 : Int} {t57 : Int} {H : Heap} {r : Value × Heap} (h :
    if t57 < t56 then
    (∃ (t64a : Option Addr) (t64n : Nat) (t64k : Nat) (H_1 : Heap), xC Try.prog good 21 [.pointer t7, .int .i64 (IntKind.wrap .i64 (t2 + t57))] H = some (.slice t64a t64n t64k, H_1) ∧
    (if ((t64n : Nat) : Int) > 1 then
    (L2 (t1) (t2) (t3b) (t3o) (t7) (t8) (t9) (t64a) (t64n) (t64k) (t56) (t57) (true) H_1 r)
    else
    (if ((t64n : Nat) : Int) = 1 then
    (t1 ≠ 0 ∧
    (∃ (t79 : Int), ldc H_1 t3b (t3o + 1) = some (.int .i64 t79) ∧
    (if (Int.tmod (IntKind.wrap .i64 (t2 + t57)) t1) = t79 then
    (∃ (t64ab t64ao : Nat), t64a = some ⟨t64ab, t64ao, none⟩ ∧
    ((0 : Int) ≤ 0 ∧ 0 < ((t64n : Nat) : Int) ∧
    (∃ (t84c0 : Int) (t84c1 : Int) (t84c2 : Int) (t84c3 : Int) (t84c4 : Int), ldAll H_1 t64ab t64ao [.int .i64 t84c0, .int .i64 t84c1, .int .i64 t84c2, .int .i64 t84c3, .int .i64 t84c4] ∧
    (∃ (t85c0 : Int) (t85c1 : Int) (t85c2 : Int) (t85c3 : Int) (t85c4 : Int), ldAll H_1 t3b t3o [.int .i64 t85c0, .int .i64 t85c1, .int .i64 t85c2, .int .i64 t85c3, .int .i64 t85c4] ∧
    (if ((t84c0 == t85c0) && ((t84c1 == t85c1) && ((t84c2 == t85c2) && ((t84c3 == t85c3) && ((t84c4 == t85c4) && true))))) = true then
    (∃ (t97a : Option Addr) (t97n : Nat) (t97k : Nat) (H_2 : Heap), xC Try.prog good 21 [.pointer t7, .int .i64 (IntKind.wrap .i64 (t2 + (IntKind.wrap .i64 (t57 + t1))))] H_1 = some (.slice t97a t97n t97k, H_2) ∧
    (L2 (t1) (t2) (t3b) (t3o) (t7) (t8) (t9) ((some ⟨t64ab, t64ao, none⟩)) (t64n) (t64k) (t56) (t57) ((!(((t97n : Nat) : Int) == ((t64n : Nat) : Int)))) H_2 r))
    else
    (L2 (t1) (t2) (t3b) (t3o) (t7) (t8) (t9) ((some ⟨t64ab, t64ao, none⟩)) (t64n) (t64k) (t56) (t57) (true) H_1 r))))))
    else
    (L2 (t1) (t2) (t3b) (t3o) (t7) (t8) (t9) (t64a) (t64n) (t64k) (t56) (t57) (true) H_1 r))))
    else
    (∃ (t97a_1 : Option Addr) (t97n_1 : Nat) (t97k_1 : Nat) (H_3 : Heap), xC Try.prog good 21 [.pointer t7, .int .i64 (IntKind.wrap .i64 (t2 + (IntKind.wrap .i64 (t57 + t1))))] H_1 = some (.slice t97a_1 t97n_1 t97k_1, H_3) ∧
    (L2 (t1) (t2) (t3b) (t3o) (t7) (t8) (t9) (t64a) (t64n) (t64k) (t56) (t57) ((!(((t97n_1 : Nat) : Int) == ((t64n : Nat) : Int)))) H_3 r)))))
    else
    (if ((t9 == 1) == (t8 == 0)) = true then
    (∃ (t114 : Bool) (H_4 : Heap), xC Try.prog good 19 [] H = some (.bool t114, H_4) ∧
    (r = (.bool t114, H_4)))
    else
    (r = (.bool false, H)))) :
    L1 t1 t2 t3b t3o t7 t8 t9 t56 t57 H r := by
  intro J
  show KR _ _ _ (.lp (sub B [1, 1, 1, 1, 1, 1, 1, 1, 1, 0, 1, 0, 0]) :: S11) _ _ _
  refine KR.run 6 [(1, .int .i64 t1), (2, .int .i64 t2), (3, .pointer (some ⟨t3b, t3o, none⟩)), (7, .pointer t7), (8, .int .i64 t8), (9, .int .i64 t9), (56, .int .i64 t56), (57, .int .i64 t57), (58, .bool (decide (t57 < t56)))] 116 (s' := (.code (sub B [1, 1, 1, 1, 1, 1, 1, 1, 1, 0, 1, 0, 0, 1, 0]) :: S13)) (by kernel_rfl) fun J => ?_
  by_cases c19 : t57 < t56
  · replace h := iteT c19 h
    refine KR.br true (by kernel_rfl) (vB (dT c19)) ?_
    refine KR.run 14 [(1, .int .i64 t1), (2, .int .i64 t2), (3, .pointer (some ⟨t3b, t3o, none⟩)), (7, .pointer t7), (8, .int .i64 t8), (9, .int .i64 t9), (10, .int .i64 t57), (56, .int .i64 t56), (57, .int .i64 t57), (60, .pointer t7), (63, .int .i64 (IntKind.wrap .i64 (t2 + t57)))] 116 (s' := (.reg (opsAt (sub B [1, 1, 1, 1, 1, 1, 1, 1, 1, 0, 1, 0, 0, 1, 1, 0, 0, 1, 0])) [4, 5] :: S16)) (by kernel_rfl) fun J => ?_
    obtain ⟨t64a, t64n, t64k, H_1, q20, h⟩ := h
    refine KR.se (one_ca (by kernel_rfl) q20) ?_
    refine KR.run 4 [(1, .int .i64 t1), (2, .int .i64 t2), (3, .pointer (some ⟨t3b, t3o, none⟩)), (7, .pointer t7), (8, .int .i64 t8), (9, .int .i64 t9), (10, .int .i64 t57), (11, .slice t64a t64n t64k), (56, .int .i64 t56), (57, .int .i64 t57)] 116 (s' := (.code (sub B [1, 1, 1, 1, 1, 1, 1, 1, 1, 0, 1, 0, 0, 1, 1, 0, 0, 1, 1, 0, 0]) :: S18)) (by kernel_rfl) fun J => ?_
    refine KR.sd (by kernel_rfl) ?_
    refine KR.run 4 [(1, .int .i64 t1), (2, .int .i64 t2), (3, .pointer (some ⟨t3b, t3o, none⟩)), (7, .pointer t7), (8, .int .i64 t8), (9, .int .i64 t9), (10, .int .i64 t57), (11, .slice t64a t64n t64k), (56, .int .i64 t56), (57, .int .i64 t57), (68, .bool (decide (((t64n : Nat) : Int) > 1)))] 116 (s' := (.reg (opsAt (sub B [1, 1, 1, 1, 1, 1, 1, 1, 1, 0, 1, 0, 0, 1, 1, 0, 0, 1, 1, 0, 0])) [4, 5, 6, 7, 8, 9, 10, 11, 12, 13, 14, 15, 16, 17, 18, 19, 20, 21, 22, 23, 24, 25, 26, 27, 28, 29, 30, 31, 32, 33, 34, 35, 36, 37] :: S18)) (by kernel_rfl) fun J => ?_
    by_cases c21 : ((t64n : Nat) : Int) > 1
    · replace h := iteT c21 h
      refine KR.setV 68 (by kernel_rfl) (dT c21) ?_
      exact KR.run 35 [(1, .int .i64 t1), (2, .int .i64 t2), (3, .pointer (some ⟨t3b, t3o, none⟩)), (7, .pointer t7), (8, .int .i64 t8), (9, .int .i64 t9), (11, .slice t64a t64n t64k), (56, .int .i64 t56), (57, .int .i64 t57), (102, .bool true)] 116 (s' := (.code (sub B [1, 1, 1, 1, 1, 1, 1, 1, 1, 0, 1, 0, 0, 1, 1, 0, 0, 1, 1, 0, 1]) :: S17)) (by kernel_rfl) h
    · replace h := iteF c21 h
      refine KR.setV 68 (by kernel_rfl) (dF c21) ?_
      refine KR.run 4 [(1, .int .i64 t1), (2, .int .i64 t2), (3, .pointer (some ⟨t3b, t3o, none⟩)), (7, .pointer t7), (8, .int .i64 t8), (9, .int .i64 t9), (10, .int .i64 t57), (11, .slice t64a t64n t64k), (56, .int .i64 t56), (57, .int .i64 t57), (68, .bool false), (72, .bool (((t64n : Nat) : Int) == 1))] 116 (s' := (.reg (opsAt (sub B [1, 1, 1, 1, 1, 1, 1, 1, 1, 0, 1, 0, 0, 1, 1, 0, 0, 1, 1, 0, 0])) [8, 9, 10, 11, 12, 13, 14, 15, 16, 17, 18, 19, 20, 21, 22, 23, 24, 25, 26, 27, 28, 29, 30, 31, 32, 33, 34, 35, 36, 37] :: S18)) (by kernel_rfl) fun J => ?_
      by_cases c22 : ((t64n : Nat) : Int) = 1
      · replace h := iteT c22 h
        refine KR.setV 72 (by kernel_rfl) (eT c22) ?_
        refine KR.run 4 [(1, .int .i64 t1), (2, .int .i64 t2), (3, .pointer (some ⟨t3b, t3o, none⟩)), (7, .pointer t7), (8, .int .i64 t8), (9, .int .i64 t9), (10, .int .i64 t57), (11, .slice t64a t64n t64k), (56, .int .i64 t56), (57, .int .i64 t57), (68, .bool false), (72, .bool true), (75, .int .i64 (IntKind.wrap .i64 (t2 + t57))), (76, .int .i64 t1)] 116 (s' := (.reg (opsAt (sub B [1, 1, 1, 1, 1, 1, 1, 1, 1, 0, 1, 0, 0, 1, 1, 0, 0, 1, 1, 0, 0])) [12, 13, 14, 15, 16, 17, 18, 19, 20, 21, 22, 23, 24, 25, 26, 27, 28, 29, 30, 31, 32, 33, 34, 35, 36, 37] :: S18)) (by kernel_rfl) fun J => ?_
        obtain ⟨q23, h⟩ := h
        refine KR.p (one_rem .i64 (IntKind.wrap .i64 (t2 + t57)) (by kernel_rfl) q23) ?_
        refine KR.run 1 [(1, .int .i64 t1), (2, .int .i64 t2), (3, .pointer (some ⟨t3b, t3o, none⟩)), (7, .pointer t7), (8, .int .i64 t8), (9, .int .i64 t9), (10, .int .i64 t57), (11, .slice t64a t64n t64k), (56, .int .i64 t56), (57, .int .i64 t57), (68, .bool false), (72, .bool true), (77, .int .i64 (Int.tmod (IntKind.wrap .i64 (t2 + t57)) t1)), (78, .pointer (some ⟨t3b, (t3o + 1), none⟩))] 116 (s' := (.reg (opsAt (sub B [1, 1, 1, 1, 1, 1, 1, 1, 1, 0, 1, 0, 0, 1, 1, 0, 0, 1, 1, 0, 0])) [14, 15, 16, 17, 18, 19, 20, 21, 22, 23, 24, 25, 26, 27, 28, 29, 30, 31, 32, 33, 34, 35, 36, 37] :: S18)) (by kernel_rfl) fun J => ?_
        obtain ⟨t79, q24, h⟩ := h
        refine KR.rd (one_ld (by kernel_rfl) q24) ?_
        refine KR.run 2 [(1, .int .i64 t1), (2, .int .i64 t2), (3, .pointer (some ⟨t3b, t3o, none⟩)), (7, .pointer t7), (8, .int .i64 t8), (9, .int .i64 t9), (10, .int .i64 t57), (11, .slice t64a t64n t64k), (56, .int .i64 t56), (57, .int .i64 t57), (68, .bool false), (72, .bool true), (81, .bool (!((Int.tmod (IntKind.wrap .i64 (t2 + t57)) t1) == t79)))] 116 (s' := (.reg (opsAt (sub B [1, 1, 1, 1, 1, 1, 1, 1, 1, 0, 1, 0, 0, 1, 1, 0, 0, 1, 1, 0, 0])) [17, 18, 19, 20, 21, 22, 23, 24, 25, 26, 27, 28, 29, 30, 31, 32, 33, 34, 35, 36, 37] :: S18)) (by kernel_rfl) fun J => ?_
        by_cases c25 : (Int.tmod (IntKind.wrap .i64 (t2 + t57)) t1) = t79
        · replace h := iteT c25 h
          refine KR.setV 81 (by kernel_rfl) (nB (eT c25)) ?_
          obtain ⟨t64ab, t64ao, rfl, h⟩ := h
          refine KR.run 1 [(1, .int .i64 t1), (2, .int .i64 t2), (3, .pointer (some ⟨t3b, t3o, none⟩)), (7, .pointer t7), (8, .int .i64 t8), (9, .int .i64 t9), (10, .int .i64 t57), (11, .slice (some ⟨t64ab, t64ao, none⟩) t64n t64k), (56, .int .i64 t56), (57, .int .i64 t57), (68, .bool false), (72, .bool true), (81, .bool false), (82, .slice (some ⟨t64ab, t64ao, none⟩) t64n t64k)] 116 (s' := (.reg (opsAt (sub B [1, 1, 1, 1, 1, 1, 1, 1, 1, 0, 1, 0, 0, 1, 1, 0, 0, 1, 1, 0, 0])) [18, 19, 20, 21, 22, 23, 24, 25, 26, 27, 28, 29, 30, 31, 32, 33, 34, 35, 36, 37] :: S18)) (by kernel_rfl) fun J => ?_
          obtain ⟨q26, q26x, h⟩ := h
          refine KR.p (one_ix 5 t64ab t64ao (by kernel_rfl) q26 q26x) ?_
          obtain ⟨t84c0, t84c1, t84c2, t84c3, t84c4, q27, h⟩ := h
          refine KR.rd (one_ldA (by kernel_rfl) q27) ?_
          obtain ⟨t85c0, t85c1, t85c2, t85c3, t85c4, q28, h⟩ := h
          refine KR.rd (one_ldA (by kernel_rfl) q28) ?_
          refine KR.run 5 [(1, .int .i64 t1), (2, .int .i64 t2), (3, .pointer (some ⟨t3b, t3o, none⟩)), (7, .pointer t7), (8, .int .i64 t8), (9, .int .i64 t9), (10, .int .i64 t57), (11, .slice (some ⟨t64ab, t64ao, none⟩) t64n t64k), (56, .int .i64 t56), (57, .int .i64 t57), (90, .bool (!((t84c0 == t85c0) && ((t84c1 == t85c1) && ((t84c2 == t85c2) && ((t84c3 == t85c3) && ((t84c4 == t85c4) && true)))))))] 116 (s' := (.reg (opsAt (sub B [1, 1, 1, 1, 1, 1, 1, 1, 1, 0, 1, 0, 0, 1, 1, 0, 0, 1, 1, 0, 0])) [26, 27, 28, 29, 30, 31, 32, 33, 34, 35, 36, 37] :: S18)) (by kernel_rfl) fun J => ?_
          by_cases c29 : ((t84c0 == t85c0) && ((t84c1 == t85c1) && ((t84c2 == t85c2) && ((t84c3 == t85c3) && ((t84c4 == t85c4) && true))))) = true
          · replace h := iteT c29 h
            refine KR.setV 90 (by kernel_rfl) (nB (bT c29)) ?_
            refine KR.run 6 [(1, .int .i64 t1), (2, .int .i64 t2), (3, .pointer (some ⟨t3b, t3o, none⟩)), (7, .pointer t7), (8, .int .i64 t8), (9, .int .i64 t9), (11, .slice (some ⟨t64ab, t64ao, none⟩) t64n t64k), (56, .int .i64 t56), (57, .int .i64 t57), (90, .bool false), (91, .pointer t7), (96, .int .i64 (IntKind.wrap .i64 (t2 + (IntKind.wrap .i64 (t57 + t1)))))] 116 (s' := (.reg (opsAt (sub B [1, 1, 1, 1, 1, 1, 1, 1, 1, 0, 1, 0, 0, 1, 1, 0, 0, 1, 1, 0, 0])) [32, 33, 34, 35, 36, 37] :: S18)) (by kernel_rfl) fun J => ?_
            obtain ⟨t97a, t97n, t97k, H_2, q30, h⟩ := h
            refine KR.se (one_ca (by kernel_rfl) q30) ?_
            exact KR.run 6 [(1, .int .i64 t1), (2, .int .i64 t2), (3, .pointer (some ⟨t3b, t3o, none⟩)), (7, .pointer t7), (8, .int .i64 t8), (9, .int .i64 t9), (11, .slice (some ⟨t64ab, t64ao, none⟩) t64n t64k), (56, .int .i64 t56), (57, .int .i64 t57), (102, .bool (!(((t97n : Nat) : Int) == ((t64n : Nat) : Int))))] 116 (s' := (.code (sub B [1, 1, 1, 1, 1, 1, 1, 1, 1, 0, 1, 0, 0, 1, 1, 0, 0, 1, 1, 0, 1]) :: S17)) (by kernel_rfl) h
          · replace h := iteF c29 h
            refine KR.setV 90 (by kernel_rfl) (nB (bF c29)) ?_
            exact KR.run 13 [(1, .int .i64 t1), (2, .int .i64 t2), (3, .pointer (some ⟨t3b, t3o, none⟩)), (7, .pointer t7), (8, .int .i64 t8), (9, .int .i64 t9), (11, .slice (some ⟨t64ab, t64ao, none⟩) t64n t64k), (56, .int .i64 t56), (57, .int .i64 t57), (102, .bool true)] 116 (s' := (.code (sub B [1, 1, 1, 1, 1, 1, 1, 1, 1, 0, 1, 0, 0, 1, 1, 0, 0, 1, 1, 0, 1]) :: S17)) (by kernel_rfl) h
        · replace h := iteF c25 h
          refine KR.setV 81 (by kernel_rfl) (nB (eF c25)) ?_
          exact KR.run 22 [(1, .int .i64 t1), (2, .int .i64 t2), (3, .pointer (some ⟨t3b, t3o, none⟩)), (7, .pointer t7), (8, .int .i64 t8), (9, .int .i64 t9), (11, .slice t64a t64n t64k), (56, .int .i64 t56), (57, .int .i64 t57), (102, .bool true)] 116 (s' := (.code (sub B [1, 1, 1, 1, 1, 1, 1, 1, 1, 0, 1, 0, 0, 1, 1, 0, 0, 1, 1, 0, 1]) :: S17)) (by kernel_rfl) h
      · replace h := iteF c22 h
        refine KR.setV 72 (by kernel_rfl) (eF c22) ?_
        refine KR.run 24 [(1, .int .i64 t1), (2, .int .i64 t2), (3, .pointer (some ⟨t3b, t3o, none⟩)), (7, .pointer t7), (8, .int .i64 t8), (9, .int .i64 t9), (11, .slice t64a t64n t64k), (56, .int .i64 t56), (57, .int .i64 t57), (90, .bool false), (91, .pointer t7), (96, .int .i64 (IntKind.wrap .i64 (t2 + (IntKind.wrap .i64 (t57 + t1)))))] 116 (s' := (.reg (opsAt (sub B [1, 1, 1, 1, 1, 1, 1, 1, 1, 0, 1, 0, 0, 1, 1, 0, 0, 1, 1, 0, 0])) [32, 33, 34, 35, 36, 37] :: S18)) (by kernel_rfl) fun J => ?_
        obtain ⟨t97a_1, t97n_1, t97k_1, H_3, q31, h⟩ := h
        refine KR.se (one_ca (by kernel_rfl) q31) ?_
        exact KR.run 6 [(1, .int .i64 t1), (2, .int .i64 t2), (3, .pointer (some ⟨t3b, t3o, none⟩)), (7, .pointer t7), (8, .int .i64 t8), (9, .int .i64 t9), (11, .slice t64a t64n t64k), (56, .int .i64 t56), (57, .int .i64 t57), (102, .bool (!(((t97n_1 : Nat) : Int) == ((t64n : Nat) : Int))))] 116 (s' := (.code (sub B [1, 1, 1, 1, 1, 1, 1, 1, 1, 0, 1, 0, 0, 1, 1, 0, 0, 1, 1, 0, 1]) :: S17)) (by kernel_rfl) h
  · replace h := iteF c19 h
    refine KR.br false (by kernel_rfl) (vB (dF c19)) ?_
    refine KR.run 9 [(113, .bool ((t9 == 1) == (t8 == 0)))] 116 (s' := (.reg (opsAt (sub B [1, 1, 1, 1, 1, 1, 1, 1, 1, 1, 0])) [6, 7, 8] :: S19)) (by kernel_rfl) fun J => ?_
    by_cases c32 : ((t9 == 1) == (t8 == 0)) = true
    · replace h := iteT c32 h
      refine KR.setV 113 (by kernel_rfl) (bT c32) ?_
      obtain ⟨t114, H_4, q33, h⟩ := h
      refine KR.se (one_ca (by kernel_rfl) q33) ?_
      refine KR.run 3 [(6, .bool t114)] 116 (s' := (.code (sub B [1, 1, 1, 1, 1, 1, 1, 1, 1, 1, 1]) :: [])) (by kernel_rfl) fun J => ?_
      exact KR.fin (by kernel_rfl) h
    · replace h := iteF c32 h
      refine KR.setV 113 (by kernel_rfl) (bF c32) ?_
      refine KR.run 4 [(6, .bool false)] 116 (s' := (.code (sub B [1, 1, 1, 1, 1, 1, 1, 1, 1, 1, 1]) :: [])) (by kernel_rfl) fun J => ?_
      exact KR.fin (by kernel_rfl) h
theorem L2_step {t1 : Int} {t2 : Int} {t3b : Nat} {t3o : Nat} {t7 : Option Addr} {t8 : Int} {t9 : Int} {t11a : Option Addr} {t11n : Nat} {t11k : Nat} {t56 : Int} {t57 : Int} {t102 : Bool} {H : Heap} {r : Value × Heap} (h :
    if t102 = true then
    (r = (.bool false, H))
    else
    (L1 (t1) (t2) (t3b) (t3o) (t7) (t8) ((IntKind.wrap .i64 (t9 + ((t11n : Nat) : Int)))) (t56) ((IntKind.wrap .i64 (t57 + 1))) H r)) :
    L2 t1 t2 t3b t3o t7 t8 t9 t11a t11n t11k t56 t57 t102 H r := by
  intro J
  show KR _ _ _ (.code (sub B [1, 1, 1, 1, 1, 1, 1, 1, 1, 0, 1, 0, 0, 1, 1, 0, 0, 1, 1, 0, 1]) :: S17) _ _ _
  by_cases c34 : t102 = true
  · replace h := iteT c34 h
    refine KR.br true (by kernel_rfl) (vB (bT c34)) ?_
    refine KR.run 4 [(6, .bool false)] 116 (s' := (.code (sub B [1, 1, 1, 1, 1, 1, 1, 1, 1, 0, 1, 0, 0, 1, 1, 0, 0, 1, 1, 0, 1, 0, 1]) :: S17)) (by kernel_rfl) fun J => ?_
    exact KR.fin (by kernel_rfl) h
  · replace h := iteF c34 h
    refine KR.br false (by kernel_rfl) (vB (bF c34)) ?_
    exact KR.run 13 [(1, .int .i64 t1), (2, .int .i64 t2), (3, .pointer (some ⟨t3b, t3o, none⟩)), (7, .pointer t7), (8, .int .i64 t8), (9, .int .i64 (IntKind.wrap .i64 (t9 + ((t11n : Nat) : Int)))), (56, .int .i64 t56), (57, .int .i64 (IntKind.wrap .i64 (t57 + 1)))] 116 (s' := (.lp (sub B [1, 1, 1, 1, 1, 1, 1, 1, 1, 0, 1, 0, 0]) :: S11)) (by kernel_rfl) h
theorem call {a0c0 : Int} {a0c1 : Int} {a0c2 : Int} {a0c3 : Int} {a0c4 : Int} {a1 : Int} {a2 : Int} {H : Heap} {r : Value × Heap} (h :
    ∃ (H_1 : Heap), H_1 = H.push (.row [.int .i64 a0c0, .int .i64 a0c1, .int .i64 a0c2, .int .i64 a0c3, .int .i64 a0c4] true) ∧
    (∃ (t21 : Option Addr) (H_2 : Heap), xC Try.prog good 16 [] H_1 = some (.pointer t21, H_2) ∧
    (∃ (t22c0 : Int) (t22c1 : Int) (t22c2 : Int) (t22c3 : Int) (t22c4 : Int), ldAll H_2 H.next 0 [.int .i64 t22c0, .int .i64 t22c1, .int .i64 t22c2, .int .i64 t22c3, .int .i64 t22c4] ∧
    (∃ (t23 : Bool) (H_3 : Heap), xC Try.prog good 17 [.agg #[.int .i64 t22c0, .int .i64 t22c1, .int .i64 t22c2, .int .i64 t22c3, .int .i64 t22c4]] H_2 = some (.bool t23, H_3) ∧
    (if t23 = true then
    (∃ (t34 : Int), ldc H_3 H.next 0 = some (.int .i64 t34) ∧
    (∃ (t36 : Int) (H_4 : Heap), xC Try.prog good 20 [.pointer t21, .int .i64 t34, .int .i64 (IntKind.wrap .i64 (1 + (IntKind.wrap .i64 (Int.tmod (IntKind.wrap .u64 a1) 200))))] H_3 = some (.int .i64 t36, H_4) ∧
    (if t36 = 0 then
    (∃ (t39c0 : Int) (t39c1 : Int) (t39c2 : Int) (t39c3 : Int) (t39c4 : Int), ldAll H_4 H.next 0 [.int .i64 t39c0, .int .i64 t39c1, .int .i64 t39c2, .int .i64 t39c3, .int .i64 t39c4] ∧
    (∃ (t40 : Int) (H_5 : Heap), xC Try.prog good 18 [.pointer t21, .agg #[.int .i64 t39c0, .int .i64 t39c1, .int .i64 t39c2, .int .i64 t39c3, .int .i64 t39c4]] H_4 = some (.int .i64 t40, H_5) ∧
    (∃ (t44 : Int), ldc H_5 H.next 1 = some (.int .i64 t44) ∧
    (if ((t40 == 0) == (decide (t44 < (IntKind.wrap .i64 (1 + (IntKind.wrap .i64 (Int.tmod (IntKind.wrap .u64 a1) 200))))))) = true then
    (if t40 = 0 then
    (L0 ((IntKind.wrap .i64 (1 + (IntKind.wrap .i64 (Int.tmod (IntKind.wrap .u64 a1) 200))))) ((IntKind.wrap .i64 (Int.tmod (IntKind.wrap .u64 a2) 549755813888))) (H.next) (0) (t21) (t40) (false) H_5 r)
    else
    (L0 ((IntKind.wrap .i64 (1 + (IntKind.wrap .i64 (Int.tmod (IntKind.wrap .u64 a1) 200))))) ((IntKind.wrap .i64 (Int.tmod (IntKind.wrap .u64 a2) 549755813888))) (H.next) (0) (t21) (t40) ((!(t40 == 6))) H_5 r))
    else
    (L0 ((IntKind.wrap .i64 (1 + (IntKind.wrap .i64 (Int.tmod (IntKind.wrap .u64 a1) 200))))) ((IntKind.wrap .i64 (Int.tmod (IntKind.wrap .u64 a2) 549755813888))) (H.next) (0) (t21) (t40) (true) H_5 r)))))
    else
    (r = (.bool false, H_4)))))
    else
    (∃ (t26c0 : Int) (t26c1 : Int) (t26c2 : Int) (t26c3 : Int) (t26c4 : Int), ldAll H_3 H.next 0 [.int .i64 t26c0, .int .i64 t26c1, .int .i64 t26c2, .int .i64 t26c3, .int .i64 t26c4] ∧
    (∃ (t27 : Int) (H_6 : Heap), xC Try.prog good 18 [.pointer t21, .agg #[.int .i64 t26c0, .int .i64 t26c1, .int .i64 t26c2, .int .i64 t26c3, .int .i64 t26c4]] H_3 = some (.int .i64 t27, H_6) ∧
    (if t27 = 1 then
    (∃ (t30 : Bool) (H_7 : Heap), xC Try.prog good 19 [] H_6 = some (.bool t30, H_7) ∧
    (r = (.bool t30, H_7)))
    else
    (r = (.bool false, H_6)))))))))) :
    xC Try.prog good 6 [.agg #[.int .i64 a0c0, .int .i64 a0c1, .int .i64 a0c2, .int .i64 a0c3, .int .i64 a0c4], .int .i64 a1, .int .i64 a2] H = some r := by
  refine KR.enter (fn := Try.f6) (c := B) (by kernel_rfl) (by kernel_rfl) ?_
  refine KR.run 2 [(0, .agg #[.int .i64 a0c0, .int .i64 a0c1, .int .i64 a0c2, .int .i64 a0c3, .int .i64 a0c4]), (1, .int .i64 a1), (2, .int .i64 a2)] 116 (s' := (.reg (opsAt (sub B [0])) [0, 1] :: S0)) (by kernel_rfl) fun J => ?_
  obtain ⟨H_1, q1, h⟩ := h
  refine KR.mk (w := pRow [.int .i64 a0c0, .int .i64 a0c1, .int .i64 a0c2, .int .i64 a0c3, .int .i64 a0c4]) (one_al (by kernel_rfl)) q1 ?_
  refine KR.run 21 [(1, .int .i64 (IntKind.wrap .i64 (1 + (IntKind.wrap .i64 (Int.tmod (IntKind.wrap .u64 a1) 200))))), (2, .int .i64 (IntKind.wrap .i64 (Int.tmod (IntKind.wrap .u64 a2) 549755813888))), (3, .pointer (some ⟨H.next, 0, none⟩))] 116 (s' := (.reg (opsAt (sub B [1, 1, 1, 0])) [0, 1] :: S1)) (by kernel_rfl) fun J => ?_
  obtain ⟨t21, H_2, q2, h⟩ := h
  refine KR.se (one_ca (by kernel_rfl) q2) ?_
  refine KR.run 5 [(1, .int .i64 (IntKind.wrap .i64 (1 + (IntKind.wrap .i64 (Int.tmod (IntKind.wrap .u64 a1) 200))))), (2, .int .i64 (IntKind.wrap .i64 (Int.tmod (IntKind.wrap .u64 a2) 549755813888))), (3, .pointer (some ⟨H.next, 0, none⟩)), (7, .pointer t21)] 116 (s' := (.reg (opsAt (sub B [1, 1, 1, 1, 0, 0])) [0, 1, 2] :: S3)) (by kernel_rfl) fun J => ?_
  obtain ⟨t22c0, t22c1, t22c2, t22c3, t22c4, q3, h⟩ := h
  refine KR.rd (one_ldA (by kernel_rfl) q3) ?_
  obtain ⟨t23, H_3, q4, h⟩ := h
  refine KR.se (one_ca (by kernel_rfl) q4) ?_
  refine KR.run 2 [(1, .int .i64 (IntKind.wrap .i64 (1 + (IntKind.wrap .i64 (Int.tmod (IntKind.wrap .u64 a1) 200))))), (2, .int .i64 (IntKind.wrap .i64 (Int.tmod (IntKind.wrap .u64 a2) 549755813888))), (3, .pointer (some ⟨H.next, 0, none⟩)), (7, .pointer t21), (24, .bool (!t23))] 116 (s' := (.code (sub B [1, 1, 1, 1, 0, 1]) :: S2)) (by kernel_rfl) fun J => ?_
  by_cases c5 : t23 = true
  · replace h := iteT c5 h
    refine KR.br false (by kernel_rfl) (vB (nB (bT c5))) ?_
    refine KR.run 6 [(1, .int .i64 (IntKind.wrap .i64 (1 + (IntKind.wrap .i64 (Int.tmod (IntKind.wrap .u64 a1) 200))))), (2, .int .i64 (IntKind.wrap .i64 (Int.tmod (IntKind.wrap .u64 a2) 549755813888))), (3, .pointer (some ⟨H.next, 0, none⟩)), (7, .pointer t21), (32, .pointer t21), (33, .pointer (some ⟨H.next, 0, none⟩))] 116 (s' := (.reg (opsAt (sub B [1, 1, 1, 1, 1, 0, 0])) [2, 3, 4, 5] :: S5)) (by kernel_rfl) fun J => ?_
    obtain ⟨t34, q6, h⟩ := h
    refine KR.rd (one_ld (by kernel_rfl) q6) ?_
    refine KR.run 1 [(1, .int .i64 (IntKind.wrap .i64 (1 + (IntKind.wrap .i64 (Int.tmod (IntKind.wrap .u64 a1) 200))))), (2, .int .i64 (IntKind.wrap .i64 (Int.tmod (IntKind.wrap .u64 a2) 549755813888))), (3, .pointer (some ⟨H.next, 0, none⟩)), (7, .pointer t21), (32, .pointer t21), (34, .int .i64 t34), (35, .int .i64 (IntKind.wrap .i64 (1 + (IntKind.wrap .i64 (Int.tmod (IntKind.wrap .u64 a1) 200)))))] 116 (s' := (.reg (opsAt (sub B [1, 1, 1, 1, 1, 0, 0])) [4, 5] :: S5)) (by kernel_rfl) fun J => ?_
    obtain ⟨t36, H_4, q7, h⟩ := h
    refine KR.se (one_ca (by kernel_rfl) q7) ?_
    refine KR.run 2 [(1, .int .i64 (IntKind.wrap .i64 (1 + (IntKind.wrap .i64 (Int.tmod (IntKind.wrap .u64 a1) 200))))), (2, .int .i64 (IntKind.wrap .i64 (Int.tmod (IntKind.wrap .u64 a2) 549755813888))), (3, .pointer (some ⟨H.next, 0, none⟩)), (7, .pointer t21), (37, .bool (!(t36 == 0)))] 116 (s' := (.code (sub B [1, 1, 1, 1, 1, 0, 1]) :: S4)) (by kernel_rfl) fun J => ?_
    by_cases c8 : t36 = 0
    · replace h := iteT c8 h
      refine KR.br false (by kernel_rfl) (vB (nB (eT c8))) ?_
      refine KR.run 4 [(1, .int .i64 (IntKind.wrap .i64 (1 + (IntKind.wrap .i64 (Int.tmod (IntKind.wrap .u64 a1) 200))))), (2, .int .i64 (IntKind.wrap .i64 (Int.tmod (IntKind.wrap .u64 a2) 549755813888))), (3, .pointer (some ⟨H.next, 0, none⟩)), (7, .pointer t21), (38, .pointer t21)] 116 (s' := (.reg (opsAt (sub B [1, 1, 1, 1, 1, 1, 0])) [1, 2, 3] :: S6)) (by kernel_rfl) fun J => ?_
      obtain ⟨t39c0, t39c1, t39c2, t39c3, t39c4, q9, h⟩ := h
      refine KR.rd (one_ldA (by kernel_rfl) q9) ?_
      obtain ⟨t40, H_5, q10, h⟩ := h
      refine KR.se (one_ca (by kernel_rfl) q10) ?_
      refine KR.run 8 [(1, .int .i64 (IntKind.wrap .i64 (1 + (IntKind.wrap .i64 (Int.tmod (IntKind.wrap .u64 a1) 200))))), (2, .int .i64 (IntKind.wrap .i64 (Int.tmod (IntKind.wrap .u64 a2) 549755813888))), (3, .pointer (some ⟨H.next, 0, none⟩)), (7, .pointer t21), (8, .int .i64 t40), (42, .bool (t40 == 0)), (43, .pointer (some ⟨H.next, 1, none⟩))] 116 (s' := (.reg (opsAt (sub B [1, 1, 1, 1, 1, 1, 1, 0, 0])) [3, 4, 5, 6, 7, 8, 9, 10, 11, 12, 13, 14] :: S8)) (by kernel_rfl) fun J => ?_
      obtain ⟨t44, q11, h⟩ := h
      refine KR.rd (one_ld (by kernel_rfl) q11) ?_
      refine KR.run 4 [(1, .int .i64 (IntKind.wrap .i64 (1 + (IntKind.wrap .i64 (Int.tmod (IntKind.wrap .u64 a1) 200))))), (2, .int .i64 (IntKind.wrap .i64 (Int.tmod (IntKind.wrap .u64 a2) 549755813888))), (3, .pointer (some ⟨H.next, 0, none⟩)), (7, .pointer t21), (8, .int .i64 t40), (48, .bool (!((t40 == 0) == (decide (t44 < (IntKind.wrap .i64 (1 + (IntKind.wrap .i64 (Int.tmod (IntKind.wrap .u64 a1) 200)))))))))] 116 (s' := (.reg (opsAt (sub B [1, 1, 1, 1, 1, 1, 1, 0, 0])) [8, 9, 10, 11, 12, 13, 14] :: S8)) (by kernel_rfl) fun J => ?_
      by_cases c12 : ((t40 == 0) == (decide (t44 < (IntKind.wrap .i64 (1 + (IntKind.wrap .i64 (Int.tmod (IntKind.wrap .u64 a1) 200))))))) = true
      · replace h := iteT c12 h
        refine KR.setV 48 (by kernel_rfl) (nB (bT c12)) ?_
        refine KR.run 3 [(1, .int .i64 (IntKind.wrap .i64 (1 + (IntKind.wrap .i64 (Int.tmod (IntKind.wrap .u64 a1) 200))))), (2, .int .i64 (IntKind.wrap .i64 (Int.tmod (IntKind.wrap .u64 a2) 549755813888))), (3, .pointer (some ⟨H.next, 0, none⟩)), (7, .pointer t21), (8, .int .i64 t40), (48, .bool false), (51, .bool (!(t40 == 0)))] 116 (s' := (.reg (opsAt (sub B [1, 1, 1, 1, 1, 1, 1, 0, 0])) [11, 12, 13, 14] :: S8)) (by kernel_rfl) fun J => ?_
        by_cases c13 : t40 = 0
        · replace h := iteT c13 h
          refine KR.setV 51 (by kernel_rfl) (nB (eT c13)) ?_
          exact KR.run 5 [(1, .int .i64 (IntKind.wrap .i64 (1 + (IntKind.wrap .i64 (Int.tmod (IntKind.wrap .u64 a1) 200))))), (2, .int .i64 (IntKind.wrap .i64 (Int.tmod (IntKind.wrap .u64 a2) 549755813888))), (3, .pointer (some ⟨H.next, 0, none⟩)), (7, .pointer t21), (8, .int .i64 t40), (55, .bool false)] 116 (s' := (.code (sub B [1, 1, 1, 1, 1, 1, 1, 0, 1]) :: S7)) (by kernel_rfl) h
        · replace h := iteF c13 h
          refine KR.setV 51 (by kernel_rfl) (nB (eF c13)) ?_
          exact KR.run 5 [(1, .int .i64 (IntKind.wrap .i64 (1 + (IntKind.wrap .i64 (Int.tmod (IntKind.wrap .u64 a1) 200))))), (2, .int .i64 (IntKind.wrap .i64 (Int.tmod (IntKind.wrap .u64 a2) 549755813888))), (3, .pointer (some ⟨H.next, 0, none⟩)), (7, .pointer t21), (8, .int .i64 t40), (55, .bool (!(t40 == 6)))] 116 (s' := (.code (sub B [1, 1, 1, 1, 1, 1, 1, 0, 1]) :: S7)) (by kernel_rfl) h
      · replace h := iteF c12 h
        refine KR.setV 48 (by kernel_rfl) (nB (bF c12)) ?_
        exact KR.run 8 [(1, .int .i64 (IntKind.wrap .i64 (1 + (IntKind.wrap .i64 (Int.tmod (IntKind.wrap .u64 a1) 200))))), (2, .int .i64 (IntKind.wrap .i64 (Int.tmod (IntKind.wrap .u64 a2) 549755813888))), (3, .pointer (some ⟨H.next, 0, none⟩)), (7, .pointer t21), (8, .int .i64 t40), (55, .bool true)] 116 (s' := (.code (sub B [1, 1, 1, 1, 1, 1, 1, 0, 1]) :: S7)) (by kernel_rfl) h
    · replace h := iteF c8 h
      refine KR.br true (by kernel_rfl) (vB (nB (eF c8))) ?_
      refine KR.run 4 [(6, .bool false)] 116 (s' := (.code (sub B [1, 1, 1, 1, 1, 0, 1, 0, 1]) :: S4)) (by kernel_rfl) fun J => ?_
      exact KR.fin (by kernel_rfl) h
  · replace h := iteF c5 h
    refine KR.br true (by kernel_rfl) (vB (nB (bF c5))) ?_
    refine KR.run 3 [(3, .pointer (some ⟨H.next, 0, none⟩)), (25, .pointer t21)] 116 (s' := (.reg (opsAt (sub B [1, 1, 1, 1, 0, 1, 0, 0])) [1, 2, 3, 4, 5, 6, 7] :: S9)) (by kernel_rfl) fun J => ?_
    obtain ⟨t26c0, t26c1, t26c2, t26c3, t26c4, q14, h⟩ := h
    refine KR.rd (one_ldA (by kernel_rfl) q14) ?_
    obtain ⟨t27, H_6, q15, h⟩ := h
    refine KR.se (one_ca (by kernel_rfl) q15) ?_
    refine KR.run 2 [(29, .bool (t27 == 1))] 116 (s' := (.reg (opsAt (sub B [1, 1, 1, 1, 0, 1, 0, 0])) [5, 6, 7] :: S9)) (by kernel_rfl) fun J => ?_
    by_cases c16 : t27 = 1
    · replace h := iteT c16 h
      refine KR.setV 29 (by kernel_rfl) (eT c16) ?_
      obtain ⟨t30, H_7, q17, h⟩ := h
      refine KR.se (one_ca (by kernel_rfl) q17) ?_
      refine KR.run 3 [(6, .bool t30)] 116 (s' := (.code (sub B [1, 1, 1, 1, 0, 1, 0, 1]) :: S2)) (by kernel_rfl) fun J => ?_
      exact KR.fin (by kernel_rfl) h
    · replace h := iteF c16 h
      refine KR.setV 29 (by kernel_rfl) (eF c16) ?_
      refine KR.run 4 [(6, .bool false)] 116 (s' := (.code (sub B [1, 1, 1, 1, 0, 1, 0, 1]) :: S2)) (by kernel_rfl) fun J => ?_
      exact KR.fin (by kernel_rfl) h
end F6
end Go.X
