/- The walks of the functions: printed. -/
import Derived.Test.YtnkfkcodmnnopaaXzOps
import Derived.Test.YtnkfkcodmnnopaaProg
import Derived.KernelRfl
set_option linter.unusedVariables false
set_option maxRecDepth 100000
namespace Go.X
open Go Go.RowKit Go.Proofs
abbrev goods : List Nat := [3, 4, 5, 6, 7, 8, 9, 10, 11, 12, 13, 14, 15, 16, 17, 18, 19, 20, 21, 22, 23, 24, 25, 26]
abbrev good (f : Nat) : Bool := goods.contains f
/-! #### 3 campanile/campanilelaw2.CrcLines -/
namespace F3
noncomputable def B : Code := bodyOf Try.f3
noncomputable def S0 : List It := (.code (sub B [1, 1, 1]) :: [])
noncomputable def S1 : List It := (.code (sub B [1, 1, 1, 1]) :: [])
noncomputable def S7 : List It := (.code (sub B [1, 1, 1, 1, 1]) :: [])
noncomputable def S8 : List It := (.code (sub B [1, 1, 1, 1, 1, 1]) :: [])
noncomputable def S2 : List It := (.blk 0 :: S1)
noncomputable def S3 : List It := (.lp (sub B [1, 1, 1, 0, 1, 0, 0]) :: S2)
noncomputable def S4 : List It := (.code (sub B [1, 1, 1, 0, 1, 0, 0, 1, 1]) :: S3)
noncomputable def S5 : List It := (.code (sub B [1, 1, 1, 0, 1, 0, 0, 1, 1, 1]) :: S3)
noncomputable def S6 : List It := (.blk 1 :: S5)
def L0 (t0a : Option Addr) (t0n : Nat) (t0k : Nat) (t1a : Option Addr) (t1n : Nat) (t1k : Nat) (t2a : Option Addr) (t2n : Nat) (t2k : Nat) (t3 : Int) (t9 : Int) (t10b : Nat) (t10o : Nat) (t10n : Nat) (t10k : Nat) (t22 : Int) (t23 : Int) (H : Heap) (r : Value × Heap) : Prop := ∀ J, KR Try.prog good Try.f3 S3 (mat J 78 [(0, .slice t0a t0n t0k), (1, .slice t1a t1n t1k), (2, .slice t2a t2n t2k), (3, .int .i64 t3), (9, .int .i64 t9), (10, .slice (some ⟨t10b, t10o, none⟩) t10n t10k), (22, .int .i64 t22), (23, .int .i64 t23)]) H r
theorem L0_step {t0a : Option Addr} {t0n : Nat} {t0k : Nat} {t1a : Option Addr} {t1n : Nat} {t1k : Nat} {t2a : Option Addr} {t2n : Nat} {t2k : Nat} {t3 : Int} {t9 : Int} {t10b : Nat} {t10o : Nat} {t10n : Nat} {t10k : Nat} {t22 : Int} {t23 : Int} {H : Heap} {r : Value × Heap} (h :
    if t23 < t22 then
    (∃ (t0ab t0ao : Nat), t0a = some ⟨t0ab, t0ao, none⟩ ∧
    (0 ≤ t23 ∧ t23 < ((t0n : Nat) : Int) ∧
    (∃ (t31 : Int), ldc H t0ab (t0ao + Int.toNat t23 * 1) = some (.int .u8 t31) ∧
    (∃ (t1ab t1ao : Nat), t1a = some ⟨t1ab, t1ao, none⟩ ∧
    (0 ≤ t23 ∧ t23 < ((t1n : Nat) : Int) ∧
    (∃ (t35 : Int), ldc H t1ab (t1ao + Int.toNat t23 * 1) = some (.int .u8 t35) ∧
    (∃ (t2ab t2ao : Nat), t2a = some ⟨t2ab, t2ao, none⟩ ∧
    (0 ≤ t23 ∧ t23 < ((t2n : Nat) : Int) ∧
    (∃ (t40 : Int), ldc H t2ab (t2ao + Int.toNat t23 * 1) = some (.int .u8 t40) ∧
    (0 ≤ t23 ∧ t23 < ((t10n : Nat) : Int) ∧
    (∃ (H_1 : Heap), stc H t10b (t10o + Int.toNat t23 * 1) [.int .u8 (ixor .u8 (ixor .u8 t31 t35) t40)] = some H_1 ∧
    (L0 ((some ⟨t0ab, t0ao, none⟩)) (t0n) (t0k) ((some ⟨t1ab, t1ao, none⟩)) (t1n) (t1k) ((some ⟨t2ab, t2ao, none⟩)) (t2n) (t2k) (t3) (t9) (t10b) (t10o) (t10n) (t10k) (t22) ((IntKind.wrap .i64 (t23 + 1))) H_1 r))))))))))))
    else
    (∃ (t48n : Nat) (H_2 : Heap), pmk 1 (IntKind.wrap .i64 (Int.tmod (IntKind.wrap .u64 t3) 50)) (IntKind.wrap .i64 (Int.tmod (IntKind.wrap .u64 t3) 50)) = some t48n ∧ H_2 = H.push (.row (zerosL [.int .u8 0] t48n) true) ∧
    (∃ (t50a : Option Addr) (t50n : Nat) (t50k : Nat) (H_3 : Heap), papp H_2 1 1 (some ⟨H.next, 0, none⟩) t48n (UNK 1) (some ⟨t10b, t10o, none⟩) t10n t10k = some ((t50a, t50n, t50k), H_3) ∧
    (∃ (t52 : Int) (H_4 : Heap), xC Try.prog good 11 [.slice (some ⟨t10b, t10o, none⟩) t10n t10k] H_3 = some (.int .u16 t52, H_4) ∧
    (∃ (t55a : Option Addr) (t55n : Nat) (t55k : Nat), psl 1 t0a t0n t0k none (some t9) none = some (t55a, t55n, t55k) ∧
    (∃ (t56 : Int) (H_5 : Heap), xC Try.prog good 11 [.slice t55a t55n t55k] H_4 = some (.int .u16 t56, H_5) ∧
    (∃ (t59a : Option Addr) (t59n : Nat) (t59k : Nat), psl 1 t1a t1n t1k none (some t9) none = some (t59a, t59n, t59k) ∧
    (∃ (t60 : Int) (H_6 : Heap), xC Try.prog good 11 [.slice t59a t59n t59k] H_5 = some (.int .u16 t60, H_6) ∧
    (∃ (t64a : Option Addr) (t64n : Nat) (t64k : Nat), psl 1 t2a t2n t2k none (some t9) none = some (t64a, t64n, t64k) ∧
    (∃ (t65 : Int) (H_7 : Heap), xC Try.prog good 11 [.slice t64a t64n t64k] H_6 = some (.int .u16 t65, H_7) ∧
    (if t52 = (ixor .u16 (ixor .u16 t56 t60) t65) then
    (∃ (t70 : Int) (H_8 : Heap), xC Try.prog good 11 [.slice t50a t50n t50k] H_7 = some (.int .u16 t70, H_8) ∧
    (∃ (t72 : Int) (H_9 : Heap), xC Try.prog good 11 [.slice (some ⟨t10b, t10o, none⟩) t10n t10k] H_8 = some (.int .u16 t72, H_9) ∧
    (if t70 = t72 then
    (∃ (t76 : Bool) (H_10 : Heap), xC Try.prog good 12 [] H_9 = some (.bool t76, H_10) ∧
    (r = (.bool t76, H_10)))
    else
    (r = (.bool false, H_9)))))
    else
    (r = (.bool false, H_7))))))))))))) :
    L0 t0a t0n t0k t1a t1n t1k t2a t2n t2k t3 t9 t10b t10o t10n t10k t22 t23 H r := by
  intro J
  show KR _ _ _ (.lp (sub B [1, 1, 1, 0, 1, 0, 0]) :: S2) _ _ _
  refine KR.run 6 [(0, .slice t0a t0n t0k), (1, .slice t1a t1n t1k), (2, .slice t2a t2n t2k), (3, .int .i64 t3), (9, .int .i64 t9), (10, .slice (some ⟨t10b, t10o, none⟩) t10n t10k), (22, .int .i64 t22), (23, .int .i64 t23), (24, .bool (decide (t23 < t22)))] 78 (s' := (.code (sub B [1, 1, 1, 0, 1, 0, 0, 1, 0]) :: S4)) (by kernel_rfl) fun J => ?_
  by_cases c2 : t23 < t22
  · replace h := iteT c2 h
    refine KR.br true (by kernel_rfl) (vB (dT c2)) ?_
    refine KR.run 8 [(0, .slice t0a t0n t0k), (1, .slice t1a t1n t1k), (2, .slice t2a t2n t2k), (3, .int .i64 t3), (9, .int .i64 t9), (10, .slice (some ⟨t10b, t10o, none⟩) t10n t10k), (11, .int .i64 t23), (22, .int .i64 t22), (23, .int .i64 t23)] 78 (s' := (.code (sub B [1, 1, 1, 0, 1, 0, 0, 1, 1, 0, 0, 1]) :: S6)) (by kernel_rfl) fun J => ?_
    refine KR.sd (by kernel_rfl) ?_
    obtain ⟨t0ab, t0ao, rfl, h⟩ := h
    refine KR.run 4 [(0, .slice (some ⟨t0ab, t0ao, none⟩) t0n t0k), (1, .slice t1a t1n t1k), (2, .slice t2a t2n t2k), (3, .int .i64 t3), (9, .int .i64 t9), (10, .slice (some ⟨t10b, t10o, none⟩) t10n t10k), (11, .int .i64 t23), (22, .int .i64 t22), (23, .int .i64 t23), (26, .slice (some ⟨t10b, t10o, none⟩) t10n t10k), (27, .int .i64 t23), (28, .slice (some ⟨t0ab, t0ao, none⟩) t0n t0k), (29, .int .i64 t23)] 78 (s' := (.reg (opsAt (sub B [1, 1, 1, 0, 1, 0, 0, 1, 1, 0, 0, 1])) [4, 5, 6, 7, 8, 9, 10, 11, 12, 13, 14, 15, 16, 17] :: S6)) (by kernel_rfl) fun J => ?_
    obtain ⟨q3, q3x, h⟩ := h
    refine KR.p (one_ix 1 t0ab t0ao (by kernel_rfl) q3 q3x) ?_
    obtain ⟨t31, q4, h⟩ := h
    refine KR.rd (one_ld (by kernel_rfl) q4) ?_
    obtain ⟨t1ab, t1ao, rfl, h⟩ := h
    refine KR.run 2 [(0, .slice (some ⟨t0ab, t0ao, none⟩) t0n t0k), (1, .slice (some ⟨t1ab, t1ao, none⟩) t1n t1k), (2, .slice t2a t2n t2k), (3, .int .i64 t3), (9, .int .i64 t9), (10, .slice (some ⟨t10b, t10o, none⟩) t10n t10k), (11, .int .i64 t23), (22, .int .i64 t22), (23, .int .i64 t23), (26, .slice (some ⟨t10b, t10o, none⟩) t10n t10k), (27, .int .i64 t23), (31, .int .u8 t31), (32, .slice (some ⟨t1ab, t1ao, none⟩) t1n t1k), (33, .int .i64 t23)] 78 (s' := (.reg (opsAt (sub B [1, 1, 1, 0, 1, 0, 0, 1, 1, 0, 0, 1])) [8, 9, 10, 11, 12, 13, 14, 15, 16, 17] :: S6)) (by kernel_rfl) fun J => ?_
    obtain ⟨q5, q5x, h⟩ := h
    refine KR.p (one_ix 1 t1ab t1ao (by kernel_rfl) q5 q5x) ?_
    obtain ⟨t35, q6, h⟩ := h
    refine KR.rd (one_ld (by kernel_rfl) q6) ?_
    obtain ⟨t2ab, t2ao, rfl, h⟩ := h
    refine KR.run 3 [(0, .slice (some ⟨t0ab, t0ao, none⟩) t0n t0k), (1, .slice (some ⟨t1ab, t1ao, none⟩) t1n t1k), (2, .slice (some ⟨t2ab, t2ao, none⟩) t2n t2k), (3, .int .i64 t3), (9, .int .i64 t9), (10, .slice (some ⟨t10b, t10o, none⟩) t10n t10k), (22, .int .i64 t22), (23, .int .i64 t23), (26, .slice (some ⟨t10b, t10o, none⟩) t10n t10k), (27, .int .i64 t23), (36, .int .u8 (ixor .u8 t31 t35)), (37, .slice (some ⟨t2ab, t2ao, none⟩) t2n t2k), (38, .int .i64 t23)] 78 (s' := (.reg (opsAt (sub B [1, 1, 1, 0, 1, 0, 0, 1, 1, 0, 0, 1])) [13, 14, 15, 16, 17] :: S6)) (by kernel_rfl) fun J => ?_
    obtain ⟨q7, q7x, h⟩ := h
    refine KR.p (one_ix 1 t2ab t2ao (by kernel_rfl) q7 q7x) ?_
    obtain ⟨t40, q8, h⟩ := h
    refine KR.rd (one_ld (by kernel_rfl) q8) ?_
    refine KR.run 1 [(0, .slice (some ⟨t0ab, t0ao, none⟩) t0n t0k), (1, .slice (some ⟨t1ab, t1ao, none⟩) t1n t1k), (2, .slice (some ⟨t2ab, t2ao, none⟩) t2n t2k), (3, .int .i64 t3), (9, .int .i64 t9), (10, .slice (some ⟨t10b, t10o, none⟩) t10n t10k), (22, .int .i64 t22), (23, .int .i64 t23), (26, .slice (some ⟨t10b, t10o, none⟩) t10n t10k), (27, .int .i64 t23), (41, .int .u8 (ixor .u8 (ixor .u8 t31 t35) t40))] 78 (s' := (.reg (opsAt (sub B [1, 1, 1, 0, 1, 0, 0, 1, 1, 0, 0, 1])) [16, 17] :: S6)) (by kernel_rfl) fun J => ?_
    obtain ⟨q9, q9x, h⟩ := h
    refine KR.p (one_ix 1 t10b t10o (by kernel_rfl) q9 q9x) ?_
    obtain ⟨H_1, q10, h⟩ := h
    refine KR.se (one_st (by kernel_rfl) q10) ?_
    exact KR.run 6 [(0, .slice (some ⟨t0ab, t0ao, none⟩) t0n t0k), (1, .slice (some ⟨t1ab, t1ao, none⟩) t1n t1k), (2, .slice (some ⟨t2ab, t2ao, none⟩) t2n t2k), (3, .int .i64 t3), (9, .int .i64 t9), (10, .slice (some ⟨t10b, t10o, none⟩) t10n t10k), (22, .int .i64 t22), (23, .int .i64 (IntKind.wrap .i64 (t23 + 1)))] 78 (s' := (.lp (sub B [1, 1, 1, 0, 1, 0, 0]) :: S2)) (by kernel_rfl) h
  · replace h := iteF c2 h
    refine KR.br false (by kernel_rfl) (vB (dF c2)) ?_
    refine KR.run 7 [(0, .slice t0a t0n t0k), (1, .slice t1a t1n t1k), (2, .slice t2a t2n t2k), (9, .int .i64 t9), (10, .slice (some ⟨t10b, t10o, none⟩) t10n t10k), (47, .int .i64 (IntKind.wrap .i64 (Int.tmod (IntKind.wrap .u64 t3) 50)))] 78 (s' := (.reg (opsAt (sub B [1, 1, 1, 1, 0])) [4, 5, 6, 7] :: S7)) (by kernel_rfl) fun J => ?_
    obtain ⟨t48n, H_2, q11, q11x, h⟩ := h
    refine KR.mk (w := sRow t48n 1 (zerosL [.int .u8 0] t48n)) (one_mk 1 1 (by kernel_rfl) q11) q11x ?_
    refine KR.run 1 [(0, .slice t0a t0n t0k), (1, .slice t1a t1n t1k), (2, .slice t2a t2n t2k), (9, .int .i64 t9), (10, .slice (some ⟨t10b, t10o, none⟩) t10n t10k), (48, .slice (some ⟨H.next, 0, none⟩) t48n (UNK 1)), (49, .slice (some ⟨t10b, t10o, none⟩) t10n t10k)] 78 (s' := (.reg (opsAt (sub B [1, 1, 1, 1, 0])) [6, 7] :: S7)) (by kernel_rfl) fun J => ?_
    obtain ⟨t50a, t50n, t50k, H_3, q12, h⟩ := h
    refine KR.se (one_ap 1 1 (by kernel_rfl) q12) ?_
    refine KR.run 3 [(0, .slice t0a t0n t0k), (1, .slice t1a t1n t1k), (2, .slice t2a t2n t2k), (9, .int .i64 t9), (10, .slice (some ⟨t10b, t10o, none⟩) t10n t10k), (12, .slice t50a t50n t50k)] 78 (s' := (.code (sub B [1, 1, 1, 1, 1, 0]) :: S8)) (by kernel_rfl) fun J => ?_
    refine KR.sd (by kernel_rfl) ?_
    refine KR.run 1 [(0, .slice t0a t0n t0k), (1, .slice t1a t1n t1k), (2, .slice t2a t2n t2k), (9, .int .i64 t9), (10, .slice (some ⟨t10b, t10o, none⟩) t10n t10k), (12, .slice t50a t50n t50k), (51, .slice (some ⟨t10b, t10o, none⟩) t10n t10k)] 78 (s' := (.reg (opsAt (sub B [1, 1, 1, 1, 1, 0])) [1, 2, 3, 4, 5, 6, 7, 8, 9, 10, 11, 12, 13, 14, 15, 16, 17, 18, 19, 20, 21, 22, 23, 24, 25, 26, 27] :: S8)) (by kernel_rfl) fun J => ?_
    obtain ⟨t52, H_4, q13, h⟩ := h
    refine KR.se (one_ca (by kernel_rfl) q13) ?_
    refine KR.run 2 [(1, .slice t1a t1n t1k), (2, .slice t2a t2n t2k), (9, .int .i64 t9), (10, .slice (some ⟨t10b, t10o, none⟩) t10n t10k), (12, .slice t50a t50n t50k), (52, .int .u16 t52), (53, .slice t0a t0n t0k), (54, .int .i64 t9)] 78 (s' := (.reg (opsAt (sub B [1, 1, 1, 1, 1, 0])) [4, 5, 6, 7, 8, 9, 10, 11, 12, 13, 14, 15, 16, 17, 18, 19, 20, 21, 22, 23, 24, 25, 26, 27] :: S8)) (by kernel_rfl) fun J => ?_
    obtain ⟨t55a, t55n, t55k, q14, h⟩ := h
    refine KR.p (one_sl (by kernel_rfl) q14) ?_
    obtain ⟨t56, H_5, q15, h⟩ := h
    refine KR.se (one_ca (by kernel_rfl) q15) ?_
    refine KR.run 2 [(2, .slice t2a t2n t2k), (9, .int .i64 t9), (10, .slice (some ⟨t10b, t10o, none⟩) t10n t10k), (12, .slice t50a t50n t50k), (52, .int .u16 t52), (56, .int .u16 t56), (57, .slice t1a t1n t1k), (58, .int .i64 t9)] 78 (s' := (.reg (opsAt (sub B [1, 1, 1, 1, 1, 0])) [8, 9, 10, 11, 12, 13, 14, 15, 16, 17, 18, 19, 20, 21, 22, 23, 24, 25, 26, 27] :: S8)) (by kernel_rfl) fun J => ?_
    obtain ⟨t59a, t59n, t59k, q16, h⟩ := h
    refine KR.p (one_sl (by kernel_rfl) q16) ?_
    obtain ⟨t60, H_6, q17, h⟩ := h
    refine KR.se (one_ca (by kernel_rfl) q17) ?_
    refine KR.run 3 [(10, .slice (some ⟨t10b, t10o, none⟩) t10n t10k), (12, .slice t50a t50n t50k), (52, .int .u16 t52), (61, .int .u16 (ixor .u16 t56 t60)), (62, .slice t2a t2n t2k), (63, .int .i64 t9)] 78 (s' := (.reg (opsAt (sub B [1, 1, 1, 1, 1, 0])) [13, 14, 15, 16, 17, 18, 19, 20, 21, 22, 23, 24, 25, 26, 27] :: S8)) (by kernel_rfl) fun J => ?_
    obtain ⟨t64a, t64n, t64k, q18, h⟩ := h
    refine KR.p (one_sl (by kernel_rfl) q18) ?_
    obtain ⟨t65, H_7, q19, h⟩ := h
    refine KR.se (one_ca (by kernel_rfl) q19) ?_
    refine KR.run 3 [(10, .slice (some ⟨t10b, t10o, none⟩) t10n t10k), (12, .slice t50a t50n t50k), (68, .bool (t52 == (ixor .u16 (ixor .u16 t56 t60) t65)))] 78 (s' := (.reg (opsAt (sub B [1, 1, 1, 1, 1, 0])) [18, 19, 20, 21, 22, 23, 24, 25, 26, 27] :: S8)) (by kernel_rfl) fun J => ?_
    by_cases c20 : t52 = (ixor .u16 (ixor .u16 t56 t60) t65)
    · replace h := iteT c20 h
      refine KR.setV 68 (by kernel_rfl) (eT c20) ?_
      refine KR.run 1 [(10, .slice (some ⟨t10b, t10o, none⟩) t10n t10k), (68, .bool true), (69, .slice t50a t50n t50k)] 78 (s' := (.reg (opsAt (sub B [1, 1, 1, 1, 1, 0])) [19, 20, 21, 22, 23, 24, 25, 26, 27] :: S8)) (by kernel_rfl) fun J => ?_
      obtain ⟨t70, H_8, q21, h⟩ := h
      refine KR.se (one_ca (by kernel_rfl) q21) ?_
      refine KR.run 1 [(68, .bool true), (70, .int .u16 t70), (71, .slice (some ⟨t10b, t10o, none⟩) t10n t10k)] 78 (s' := (.reg (opsAt (sub B [1, 1, 1, 1, 1, 0])) [21, 22, 23, 24, 25, 26, 27] :: S8)) (by kernel_rfl) fun J => ?_
      obtain ⟨t72, H_9, q22, h⟩ := h
      refine KR.se (one_ca (by kernel_rfl) q22) ?_
      refine KR.run 3 [(75, .bool (t70 == t72))] 78 (s' := (.reg (opsAt (sub B [1, 1, 1, 1, 1, 0])) [25, 26, 27] :: S8)) (by kernel_rfl) fun J => ?_
      by_cases c23 : t70 = t72
      · replace h := iteT c23 h
        refine KR.setV 75 (by kernel_rfl) (eT c23) ?_
        obtain ⟨t76, H_10, q24, h⟩ := h
        refine KR.se (one_ca (by kernel_rfl) q24) ?_
        refine KR.run 3 [(8, .bool t76)] 78 (s' := (.code (sub B [1, 1, 1, 1, 1, 1]) :: [])) (by kernel_rfl) fun J => ?_
        exact KR.fin (by kernel_rfl) h
      · replace h := iteF c23 h
        refine KR.setV 75 (by kernel_rfl) (eF c23) ?_
        refine KR.run 4 [(8, .bool false)] 78 (s' := (.code (sub B [1, 1, 1, 1, 1, 1]) :: [])) (by kernel_rfl) fun J => ?_
        exact KR.fin (by kernel_rfl) h
    · replace h := iteF c20 h
      refine KR.setV 68 (by kernel_rfl) (eF c20) ?_
      refine KR.run 11 [(8, .bool false)] 78 (s' := (.code (sub B [1, 1, 1, 1, 1, 1]) :: [])) (by kernel_rfl) fun J => ?_
      exact KR.fin (by kernel_rfl) h
theorem call {a0a : Option Addr} {a0n : Nat} {a0k : Nat} {a1a : Option Addr} {a1n : Nat} {a1k : Nat} {a2a : Option Addr} {a2n : Nat} {a2k : Nat} {a3 : Int} {H : Heap} {r : Value × Heap} (h :
    ∃ (t21n : Nat) (H_1 : Heap), pmk 1 (imin (imin (imin ((a0n : Nat) : Int) ((a1n : Nat) : Int)) ((a2n : Nat) : Int)) 500) (imin (imin (imin ((a0n : Nat) : Int) ((a1n : Nat) : Int)) ((a2n : Nat) : Int)) 500) = some t21n ∧ H_1 = H.push (.row (zerosL [.int .u8 0] t21n) true) ∧
    (L0 (a0a) (a0n) (a0k) (a1a) (a1n) (a1k) (a2a) (a2n) (a2k) (a3) ((imin (imin (imin ((a0n : Nat) : Int) ((a1n : Nat) : Int)) ((a2n : Nat) : Int)) 500)) (H.next) (0) (t21n) ((UNK 1)) ((imin (imin (imin ((a0n : Nat) : Int) ((a1n : Nat) : Int)) ((a2n : Nat) : Int)) 500)) 0 H_1 r)) :
    xC Try.prog good 3 [.slice a0a a0n a0k, .slice a1a a1n a1k, .slice a2a a2n a2k, .int .i64 a3] H = some r := by
  refine KR.enter (fn := Try.f3) (c := B) (by kernel_rfl) (by kernel_rfl) ?_
  refine KR.run 18 [(0, .slice a0a a0n a0k), (1, .slice a1a a1n a1k), (2, .slice a2a a2n a2k), (3, .int .i64 a3), (9, .int .i64 (imin (imin (imin ((a0n : Nat) : Int) ((a1n : Nat) : Int)) ((a2n : Nat) : Int)) 500)), (20, .int .i64 (imin (imin (imin ((a0n : Nat) : Int) ((a1n : Nat) : Int)) ((a2n : Nat) : Int)) 500))] 78 (s' := (.reg (opsAt (sub B [1, 1, 0])) [1, 2] :: S0)) (by kernel_rfl) fun J => ?_
  obtain ⟨t21n, H_1, q1, q1x, h⟩ := h
  refine KR.mk (w := sRow t21n 1 (zerosL [.int .u8 0] t21n)) (one_mk 1 1 (by kernel_rfl) q1) q1x ?_
  exact KR.run 10 [(0, .slice a0a a0n a0k), (1, .slice a1a a1n a1k), (2, .slice a2a a2n a2k), (3, .int .i64 a3), (9, .int .i64 (imin (imin (imin ((a0n : Nat) : Int) ((a1n : Nat) : Int)) ((a2n : Nat) : Int)) 500)), (10, .slice (some ⟨H.next, 0, none⟩) t21n (UNK 1)), (22, .int .i64 (imin (imin (imin ((a0n : Nat) : Int) ((a1n : Nat) : Int)) ((a2n : Nat) : Int)) 500)), (23, .int .i64 0)] 78 (s' := (.lp (sub B [1, 1, 1, 0, 1, 0, 0]) :: S2)) (by kernel_rfl) h
end F3
/-! #### 4 campanile/campanilelaw17.SealForms -/
namespace F4
noncomputable def B : Code := bodyOf Try.f4
noncomputable def S0 : List It := (.code (sub B [1, 1]) :: [])
noncomputable def S2 : List It := (.code (sub B [1, 1, 1]) :: [])
noncomputable def S1 : List It := (.code (sub B [1, 0, 1, 0, 1]) :: S0)
theorem call {a0 : Int} {a1a : Option Addr} {a1n : Nat} {a1k : Nat} {a2 : Int} {H : Heap} {r : Value × Heap} (h :
    if ((a1n : Nat) : Int) > 2000 then
    (∃ (t10 : Bool) (H_1 : Heap), xC Try.prog good 13 [] H = some (.bool t10, H_1) ∧
    (r = (.bool t10, H_1)))
    else
    (∃ (t13 : Int) (H_2 : Heap), xC Try.prog good 14 [.int .u64 a0, .slice a1a a1n a1k] H = some (.int .u32 t13, H_2) ∧
    (∃ (t16 : Int) (H_3 : Heap), xC Try.prog good 15 [.int .u64 a0, .slice a1a a1n a1k] H_2 = some (.int .u32 t16, H_3) ∧
    (if t13 = t16 then
    (∃ (t22 : Bool) (H_4 : Heap), xC Try.prog good 16 [.int .u64 a0, .slice a1a a1n a1k, .int .u32 a2] H_3 = some (.bool t22, H_4) ∧
    (∃ (t26 : Int) (H_5 : Heap), xC Try.prog good 15 [.int .u64 a0, .slice a1a a1n a1k] H_4 = some (.int .u32 t26, H_5) ∧
    (if (t22 == (a2 == t26)) = true then
    (∃ (t31 : Bool) (H_6 : Heap), xC Try.prog good 13 [] H_5 = some (.bool t31, H_6) ∧
    (r = (.bool t31, H_6)))
    else
    (r = (.bool false, H_5)))))
    else
    (r = (.bool false, H_3)))))) :
    xC Try.prog good 4 [.int .u64 a0, .slice a1a a1n a1k, .int .u32 a2] H = some r := by
  refine KR.enter (fn := Try.f4) (c := B) (by kernel_rfl) (by kernel_rfl) ?_
  refine KR.run 11 [(0, .int .u64 a0), (1, .slice a1a a1n a1k), (2, .int .u32 a2), (9, .bool (decide (((a1n : Nat) : Int) > 2000)))] 33 (s' := (.code (sub B [1, 0, 1]) :: S0)) (by kernel_rfl) fun J => ?_
  by_cases c1 : ((a1n : Nat) : Int) > 2000
  · replace h := iteT c1 h
    refine KR.br true (by kernel_rfl) (vB (dT c1)) ?_
    refine KR.run 2 [] 33 (s' := (.reg (opsAt (sub B [1, 0, 1, 0, 0])) [0, 1] :: S1)) (by kernel_rfl) fun J => ?_
    obtain ⟨t10, H_1, q2, h⟩ := h
    refine KR.se (one_ca (by kernel_rfl) q2) ?_
    refine KR.run 2 [(6, .bool t10)] 33 (s' := (.code (sub B [1, 0, 1, 0, 1]) :: S0)) (by kernel_rfl) fun J => ?_
    exact KR.fin (by kernel_rfl) h
  · replace h := iteF c1 h
    refine KR.br false (by kernel_rfl) (vB (dF c1)) ?_
    refine KR.run 5 [(0, .int .u64 a0), (1, .slice a1a a1n a1k), (2, .int .u32 a2), (11, .int .u64 a0), (12, .slice a1a a1n a1k)] 33 (s' := (.reg (opsAt (sub B [1, 1, 0])) [2, 3, 4, 5, 6, 7, 8, 9, 10, 11, 12, 13, 14, 15, 16, 17, 18, 19, 20, 21, 22] :: S2)) (by kernel_rfl) fun J => ?_
    obtain ⟨t13, H_2, q3, h⟩ := h
    refine KR.se (one_ca (by kernel_rfl) q3) ?_
    refine KR.run 2 [(0, .int .u64 a0), (1, .slice a1a a1n a1k), (2, .int .u32 a2), (13, .int .u32 t13), (14, .int .u64 a0), (15, .slice a1a a1n a1k)] 33 (s' := (.reg (opsAt (sub B [1, 1, 0])) [5, 6, 7, 8, 9, 10, 11, 12, 13, 14, 15, 16, 17, 18, 19, 20, 21, 22] :: S2)) (by kernel_rfl) fun J => ?_
    obtain ⟨t16, H_3, q4, h⟩ := h
    refine KR.se (one_ca (by kernel_rfl) q4) ?_
    refine KR.run 2 [(0, .int .u64 a0), (1, .slice a1a a1n a1k), (2, .int .u32 a2), (18, .bool (t13 == t16))] 33 (s' := (.reg (opsAt (sub B [1, 1, 0])) [8, 9, 10, 11, 12, 13, 14, 15, 16, 17, 18, 19, 20, 21, 22] :: S2)) (by kernel_rfl) fun J => ?_
    by_cases c5 : t13 = t16
    · replace h := iteT c5 h
      refine KR.setV 18 (by kernel_rfl) (eT c5) ?_
      refine KR.run 3 [(0, .int .u64 a0), (1, .slice a1a a1n a1k), (2, .int .u32 a2), (18, .bool true), (19, .int .u64 a0), (20, .slice a1a a1n a1k), (21, .int .u32 a2)] 33 (s' := (.reg (opsAt (sub B [1, 1, 0])) [11, 12, 13, 14, 15, 16, 17, 18, 19, 20, 21, 22] :: S2)) (by kernel_rfl) fun J => ?_
      obtain ⟨t22, H_4, q6, h⟩ := h
      refine KR.se (one_ca (by kernel_rfl) q6) ?_
      refine KR.run 3 [(18, .bool true), (22, .bool t22), (23, .int .u32 a2), (24, .int .u64 a0), (25, .slice a1a a1n a1k)] 33 (s' := (.reg (opsAt (sub B [1, 1, 0])) [15, 16, 17, 18, 19, 20, 21, 22] :: S2)) (by kernel_rfl) fun J => ?_
      obtain ⟨t26, H_5, q7, h⟩ := h
      refine KR.se (one_ca (by kernel_rfl) q7) ?_
      refine KR.run 4 [(30, .bool (t22 == (a2 == t26)))] 33 (s' := (.reg (opsAt (sub B [1, 1, 0])) [20, 21, 22] :: S2)) (by kernel_rfl) fun J => ?_
      by_cases c8 : (t22 == (a2 == t26)) = true
      · replace h := iteT c8 h
        refine KR.setV 30 (by kernel_rfl) (bT c8) ?_
        obtain ⟨t31, H_6, q9, h⟩ := h
        refine KR.se (one_ca (by kernel_rfl) q9) ?_
        refine KR.run 3 [(6, .bool t31)] 33 (s' := (.code (sub B [1, 1, 1]) :: [])) (by kernel_rfl) fun J => ?_
        exact KR.fin (by kernel_rfl) h
      · replace h := iteF c8 h
        refine KR.setV 30 (by kernel_rfl) (bF c8) ?_
        refine KR.run 4 [(6, .bool false)] 33 (s' := (.code (sub B [1, 1, 1]) :: [])) (by kernel_rfl) fun J => ?_
        exact KR.fin (by kernel_rfl) h
    · replace h := iteF c5 h
      refine KR.setV 18 (by kernel_rfl) (eF c5) ?_
      refine KR.run 16 [(6, .bool false)] 33 (s' := (.code (sub B [1, 1, 1]) :: [])) (by kernel_rfl) fun J => ?_
      exact KR.fin (by kernel_rfl) h
end F4
/-! #### 5 campanile/campanilelaw17.SealTells -/
namespace F5
noncomputable def B : Code := bodyOf Try.f5
noncomputable def S0 : List It := (.code (sub B [1, 1]) :: [])
noncomputable def S3 : List It := (.code (sub B [1, 1, 1]) :: [])
noncomputable def S4 : List It := (.code (sub B [1, 1, 1, 1]) :: [])
noncomputable def S5 : List It := (.code (sub B [1, 1, 1, 1, 1]) :: [])
noncomputable def S6 : List It := (.code (sub B [1, 1, 1, 1, 1, 1]) :: [])
noncomputable def S1 : List It := (.code (sub B [1, 0, 1]) :: S0)
noncomputable def S2 : List It := (.code (sub B [1, 0, 1, 0, 1]) :: S0)
def L0 (t0 : Int) (t1a : Option Addr) (t1n : Nat) (t1k : Nat) (t2 : Int) (t3 : Int) (t18 : Bool) (H : Heap) (r : Value × Heap) : Prop := ∀ J, KR Try.prog good Try.f5 S1 (mat J 56 [(0, .int .u64 t0), (1, .slice t1a t1n t1k), (2, .int .i64 t2), (3, .int .u8 t3), (18, .bool t18)]) H r
theorem L0_step {t0 : Int} {t1a : Option Addr} {t1n : Nat} {t1k : Nat} {t2 : Int} {t3 : Int} {t18 : Bool} {H : Heap} {r : Value × Heap} (h :
    if t18 = true then
    (∃ (t19 : Bool) (H_1 : Heap), xC Try.prog good 13 [] H = some (.bool t19, H_1) ∧
    (r = (.bool t19, H_1)))
    else
    (∃ (H_2 : Heap), H_2 = H.push (.row [] true) ∧
    (∃ (t22a : Option Addr) (t22n : Nat) (t22k : Nat) (H_3 : Heap), papp H_2 1 1 (some ⟨H.next, 0, none⟩) 0 (UNK 1) t1a t1n t1k = some ((t22a, t22n, t22k), H_3) ∧
    ((IntKind.wrap .u64 ((t22n : Nat) : Int)) ≠ 0 ∧
    (∃ (t22ab t22ao : Nat), t22a = some ⟨t22ab, t22ao, none⟩ ∧
    (0 ≤ (IntKind.wrap .i64 (Int.tmod (IntKind.wrap .u64 t2) (IntKind.wrap .u64 ((t22n : Nat) : Int)))) ∧ (IntKind.wrap .i64 (Int.tmod (IntKind.wrap .u64 t2) (IntKind.wrap .u64 ((t22n : Nat) : Int)))) < ((t22n : Nat) : Int) ∧
    (∃ (t32 : Int), ldc H_3 t22ab (t22ao + Int.toNat (IntKind.wrap .i64 (Int.tmod (IntKind.wrap .u64 t2) (IntKind.wrap .u64 ((t22n : Nat) : Int)))) * 1) = some (.int .u8 t32) ∧
    (0 ≤ (IntKind.wrap .i64 (Int.tmod (IntKind.wrap .u64 t2) (IntKind.wrap .u64 ((t22n : Nat) : Int)))) ∧ (IntKind.wrap .i64 (Int.tmod (IntKind.wrap .u64 t2) (IntKind.wrap .u64 ((t22n : Nat) : Int)))) < ((t22n : Nat) : Int) ∧
    (∃ (H_4 : Heap), stc H_3 t22ab (t22ao + Int.toNat (IntKind.wrap .i64 (Int.tmod (IntKind.wrap .u64 t2) (IntKind.wrap .u64 ((t22n : Nat) : Int)))) * 1) [.int .u8 (ixor .u8 t32 t3)] = some H_4 ∧
    (∃ (t38 : Int) (H_5 : Heap), xC Try.prog good 14 [.int .u64 t0, .slice t1a t1n t1k] H_4 = some (.int .u32 t38, H_5) ∧
    (∃ (t41 : Int) (H_6 : Heap), xC Try.prog good 14 [.int .u64 t0, .slice (some ⟨t22ab, t22ao, none⟩) t22n t22k] H_5 = some (.int .u32 t41, H_6) ∧
    (if ((t41 == t38) == (t3 == 0)) = true then
    (∃ (t51 : Bool) (H_7 : Heap), xC Try.prog good 16 [.int .u64 t0, .slice t1a t1n t1k, .int .u32 t38] H_6 = some (.bool t51, H_7) ∧
    (if t51 = true then
    (∃ (t54 : Bool) (H_8 : Heap), xC Try.prog good 13 [] H_7 = some (.bool t54, H_8) ∧
    (r = (.bool t54, H_8)))
    else
    (r = (.bool false, H_7))))
    else
    (r = (.bool false, H_6)))))))))))))) :
    L0 t0 t1a t1n t1k t2 t3 t18 H r := by
  intro J
  show KR _ _ _ (.code (sub B [1, 0, 1]) :: S0) _ _ _
  by_cases c2 : t18 = true
  · replace h := iteT c2 h
    refine KR.br true (by kernel_rfl) (vB (bT c2)) ?_
    refine KR.run 2 [] 56 (s' := (.reg (opsAt (sub B [1, 0, 1, 0, 0])) [0, 1] :: S2)) (by kernel_rfl) fun J => ?_
    obtain ⟨t19, H_1, q3, h⟩ := h
    refine KR.se (one_ca (by kernel_rfl) q3) ?_
    refine KR.run 2 [(8, .bool t19)] 56 (s' := (.code (sub B [1, 0, 1, 0, 1]) :: S0)) (by kernel_rfl) fun J => ?_
    exact KR.fin (by kernel_rfl) h
  · replace h := iteF c2 h
    refine KR.br false (by kernel_rfl) (vB (bF c2)) ?_
    refine KR.run 3 [(0, .int .u64 t0), (1, .slice t1a t1n t1k), (2, .int .i64 t2), (3, .int .u8 t3)] 56 (s' := (.reg (opsAt (sub B [1, 1, 0])) [0, 1, 2, 3] :: S3)) (by kernel_rfl) fun J => ?_
    obtain ⟨H_2, q4, h⟩ := h
    refine KR.mk (w := sRow 0 1 []) (one_al (by kernel_rfl)) q4 ?_
    refine KR.run 1 [(0, .int .u64 t0), (1, .slice t1a t1n t1k), (2, .int .i64 t2), (3, .int .u8 t3), (20, .slice (some ⟨H.next, 0, none⟩) 0 (UNK 1)), (21, .slice t1a t1n t1k)] 56 (s' := (.reg (opsAt (sub B [1, 1, 0])) [2, 3] :: S3)) (by kernel_rfl) fun J => ?_
    obtain ⟨t22a, t22n, t22k, H_3, q5, h⟩ := h
    refine KR.se (one_ap 1 1 (by kernel_rfl) q5) ?_
    refine KR.run 10 [(0, .int .u64 t0), (1, .slice t1a t1n t1k), (3, .int .u8 t3), (9, .slice t22a t22n t22k), (23, .slice t22a t22n t22k), (25, .int .u64 (IntKind.wrap .u64 t2)), (28, .int .u64 (IntKind.wrap .u64 ((t22n : Nat) : Int)))] 56 (s' := (.reg (opsAt (sub B [1, 1, 1, 0])) [6, 7, 8, 9, 10, 11, 12, 13] :: S4)) (by kernel_rfl) fun J => ?_
    obtain ⟨q6, h⟩ := h
    refine KR.p (one_rem .u64 (IntKind.wrap .u64 t2) (by kernel_rfl) q6) ?_
    obtain ⟨t22ab, t22ao, rfl, h⟩ := h
    refine KR.run 1 [(0, .int .u64 t0), (1, .slice t1a t1n t1k), (3, .int .u8 t3), (9, .slice (some ⟨t22ab, t22ao, none⟩) t22n t22k), (23, .slice (some ⟨t22ab, t22ao, none⟩) t22n t22k), (30, .int .i64 (IntKind.wrap .i64 (Int.tmod (IntKind.wrap .u64 t2) (IntKind.wrap .u64 ((t22n : Nat) : Int)))))] 56 (s' := (.reg (opsAt (sub B [1, 1, 1, 0])) [8, 9, 10, 11, 12, 13] :: S4)) (by kernel_rfl) fun J => ?_
    obtain ⟨q7, q7x, h⟩ := h
    refine KR.p (one_ix 1 t22ab t22ao (by kernel_rfl) q7 q7x) ?_
    obtain ⟨t32, q8, h⟩ := h
    refine KR.rd (one_ld (by kernel_rfl) q8) ?_
    refine KR.run 2 [(0, .int .u64 t0), (1, .slice t1a t1n t1k), (3, .int .u8 t3), (9, .slice (some ⟨t22ab, t22ao, none⟩) t22n t22k), (23, .slice (some ⟨t22ab, t22ao, none⟩) t22n t22k), (30, .int .i64 (IntKind.wrap .i64 (Int.tmod (IntKind.wrap .u64 t2) (IntKind.wrap .u64 ((t22n : Nat) : Int))))), (34, .int .u8 (ixor .u8 t32 t3))] 56 (s' := (.reg (opsAt (sub B [1, 1, 1, 0])) [12, 13] :: S4)) (by kernel_rfl) fun J => ?_
    obtain ⟨q9, q9x, h⟩ := h
    refine KR.p (one_ix 1 t22ab t22ao (by kernel_rfl) q9 q9x) ?_
    obtain ⟨H_4, q10, h⟩ := h
    refine KR.se (one_st (by kernel_rfl) q10) ?_
    refine KR.run 5 [(0, .int .u64 t0), (1, .slice t1a t1n t1k), (3, .int .u8 t3), (9, .slice (some ⟨t22ab, t22ao, none⟩) t22n t22k), (36, .int .u64 t0), (37, .slice t1a t1n t1k)] 56 (s' := (.reg (opsAt (sub B [1, 1, 1, 1, 0])) [2, 3] :: S5)) (by kernel_rfl) fun J => ?_
    obtain ⟨t38, H_5, q11, h⟩ := h
    refine KR.se (one_ca (by kernel_rfl) q11) ?_
    refine KR.run 6 [(0, .int .u64 t0), (1, .slice t1a t1n t1k), (3, .int .u8 t3), (10, .int .u32 t38), (39, .int .u64 t0), (40, .slice (some ⟨t22ab, t22ao, none⟩) t22n t22k)] 56 (s' := (.reg (opsAt (sub B [1, 1, 1, 1, 1, 0])) [2, 3, 4, 5, 6, 7, 8, 9, 10, 11, 12, 13, 14, 15, 16, 17] :: S6)) (by kernel_rfl) fun J => ?_
    obtain ⟨t41, H_6, q12, h⟩ := h
    refine KR.se (one_ca (by kernel_rfl) q12) ?_
    refine KR.run 6 [(0, .int .u64 t0), (1, .slice t1a t1n t1k), (10, .int .u32 t38), (47, .bool ((t41 == t38) == (t3 == 0)))] 56 (s' := (.reg (opsAt (sub B [1, 1, 1, 1, 1, 0])) [9, 10, 11, 12, 13, 14, 15, 16, 17] :: S6)) (by kernel_rfl) fun J => ?_
    by_cases c13 : ((t41 == t38) == (t3 == 0)) = true
    · replace h := iteT c13 h
      refine KR.setV 47 (by kernel_rfl) (bT c13) ?_
      refine KR.run 3 [(47, .bool true), (48, .int .u64 t0), (49, .slice t1a t1n t1k), (50, .int .u32 t38)] 56 (s' := (.reg (opsAt (sub B [1, 1, 1, 1, 1, 0])) [12, 13, 14, 15, 16, 17] :: S6)) (by kernel_rfl) fun J => ?_
      obtain ⟨t51, H_7, q14, h⟩ := h
      refine KR.se (one_ca (by kernel_rfl) q14) ?_
      refine KR.run 2 [(53, .bool t51)] 56 (s' := (.reg (opsAt (sub B [1, 1, 1, 1, 1, 0])) [15, 16, 17] :: S6)) (by kernel_rfl) fun J => ?_
      by_cases c15 : t51 = true
      · replace h := iteT c15 h
        refine KR.setV 53 (by kernel_rfl) (bT c15) ?_
        obtain ⟨t54, H_8, q16, h⟩ := h
        refine KR.se (one_ca (by kernel_rfl) q16) ?_
        refine KR.run 3 [(8, .bool t54)] 56 (s' := (.code (sub B [1, 1, 1, 1, 1, 1]) :: [])) (by kernel_rfl) fun J => ?_
        exact KR.fin (by kernel_rfl) h
      · replace h := iteF c15 h
        refine KR.setV 53 (by kernel_rfl) (bF c15) ?_
        refine KR.run 4 [(8, .bool false)] 56 (s' := (.code (sub B [1, 1, 1, 1, 1, 1]) :: [])) (by kernel_rfl) fun J => ?_
        exact KR.fin (by kernel_rfl) h
    · replace h := iteF c13 h
      refine KR.setV 47 (by kernel_rfl) (bF c13) ?_
      refine KR.run 10 [(8, .bool false)] 56 (s' := (.code (sub B [1, 1, 1, 1, 1, 1]) :: [])) (by kernel_rfl) fun J => ?_
      exact KR.fin (by kernel_rfl) h
theorem call {a0 : Int} {a1a : Option Addr} {a1n : Nat} {a1k : Nat} {a2 : Int} {a3 : Int} {H : Heap} {r : Value × Heap} (h :
    if ((a1n : Nat) : Int) = 0 then
    (L0 (a0) (a1a) (a1n) (a1k) (a2) (a3) (true) H r)
    else
    (L0 (a0) (a1a) (a1n) (a1k) (a2) (a3) ((decide (((a1n : Nat) : Int) > 2000))) H r)) :
    xC Try.prog good 5 [.int .u64 a0, .slice a1a a1n a1k, .int .i64 a2, .int .u8 a3] H = some r := by
  refine KR.enter (fn := Try.f5) (c := B) (by kernel_rfl) (by kernel_rfl) ?_
  refine KR.run 11 [(0, .int .u64 a0), (1, .slice a1a a1n a1k), (2, .int .i64 a2), (3, .int .u8 a3), (14, .bool (((a1n : Nat) : Int) == 0))] 56 (s' := (.reg (opsAt (sub B [1, 0, 0])) [4, 5, 6, 7] :: S1)) (by kernel_rfl) fun J => ?_
  by_cases c1 : ((a1n : Nat) : Int) = 0
  · replace h := iteT c1 h
    refine KR.setV 14 (by kernel_rfl) (eT c1) ?_
    exact KR.run 5 [(0, .int .u64 a0), (1, .slice a1a a1n a1k), (2, .int .i64 a2), (3, .int .u8 a3), (18, .bool true)] 56 (s' := (.code (sub B [1, 0, 1]) :: S0)) (by kernel_rfl) h
  · replace h := iteF c1 h
    refine KR.setV 14 (by kernel_rfl) (eF c1) ?_
    exact KR.run 5 [(0, .int .u64 a0), (1, .slice a1a a1n a1k), (2, .int .i64 a2), (3, .int .u8 a3), (18, .bool (decide (((a1n : Nat) : Int) > 2000)))] 56 (s' := (.code (sub B [1, 0, 1]) :: S0)) (by kernel_rfl) h
end F5
/-! #### 6 campanile/campanilelaw17.SealKeys -/
namespace F6
noncomputable def B : Code := bodyOf Try.f6
noncomputable def S0 : List It := (.code (sub B [1, 1]) :: [])
noncomputable def S3 : List It := (.code (sub B [1, 1, 1]) :: [])
noncomputable def S4 : List It := (.code (sub B [1, 1, 1, 1]) :: [])
noncomputable def S1 : List It := (.code (sub B [1, 0, 1]) :: S0)
noncomputable def S2 : List It := (.code (sub B [1, 0, 1, 0, 1]) :: S0)
def L0 (t0 : Int) (t1a : Option Addr) (t1n : Nat) (t1k : Nat) (t2a : Option Addr) (t2n : Nat) (t2k : Nat) (t16 : Bool) (H : Heap) (r : Value × Heap) : Prop := ∀ J, KR Try.prog good Try.f6 S1 (mat J 61 [(0, .int .u64 t0), (1, .slice t1a t1n t1k), (2, .slice t2a t2n t2k), (16, .bool t16)]) H r
theorem L0_step {t0 : Int} {t1a : Option Addr} {t1n : Nat} {t1k : Nat} {t2a : Option Addr} {t2n : Nat} {t2k : Nat} {t16 : Bool} {H : Heap} {r : Value × Heap} (h :
    if t16 = true then
    (∃ (t17 : Bool) (H_1 : Heap), xC Try.prog good 13 [] H = some (.bool t17, H_1) ∧
    (r = (.bool t17, H_1)))
    else
    (∃ (t20 : Int) (H_2 : Heap), xC Try.prog good 14 [.int .u64 t0, .slice t1a t1n t1k] H = some (.int .u32 t20, H_2) ∧
    (∃ (t23 : Int) (H_3 : Heap), xC Try.prog good 14 [.int .u64 t0, .slice t2a t2n t2k] H_2 = some (.int .u32 t23, H_3) ∧
    (if t20 = t23 then
    (∃ (t38 : Bool) (H_4 : Heap), xC Try.prog good 16 [.int .u64 t0, .slice t1a t1n t1k, .int .u32 t20] H_3 = some (.bool t38, H_4) ∧
    (if t38 = true then
    (∃ (t44 : Bool) (H_5 : Heap), xC Try.prog good 16 [.int .u64 t0, .slice t1a t1n t1k, .int .u32 t23] H_4 = some (.bool t44, H_5) ∧
    (if (t44 == (t20 == t23)) = true then
    (∃ (t52 : Int) (H_6 : Heap), xC Try.prog good 14 [.int .u64 t0, .slice none 0 0] H_5 = some (.int .u32 t52, H_6) ∧
    (∃ (H_7 : Heap), H_7 = H_6.push (.row [] true) ∧
    (∃ (t55 : Int) (H_8 : Heap), xC Try.prog good 14 [.int .u64 t0, .slice (some ⟨H_6.next, 0, none⟩) 0 (UNK 1)] H_7 = some (.int .u32 t55, H_8) ∧
    (if t52 = t55 then
    (∃ (t59 : Bool) (H_9 : Heap), xC Try.prog good 13 [] H_8 = some (.bool t59, H_9) ∧
    (r = (.bool t59, H_9)))
    else
    (r = (.bool false, H_8))))))
    else
    (r = (.bool false, H_5))))
    else
    (r = (.bool false, H_4))))
    else
    (∃ (t29 : ByteArray), pstrb H_3 t1a t1n = some t29 ∧
    (∃ (t31 : ByteArray), pstrb H_3 t2a t2n = some t31 ∧
    (if t29.toList = t31.toList then
    (r = (.bool false, H_3))
    else
    (∃ (t38_1 : Bool) (H_10 : Heap), xC Try.prog good 16 [.int .u64 t0, .slice t1a t1n t1k, .int .u32 t20] H_3 = some (.bool t38_1, H_10) ∧
    (if t38_1 = true then
    (∃ (t44_1 : Bool) (H_11 : Heap), xC Try.prog good 16 [.int .u64 t0, .slice t1a t1n t1k, .int .u32 t23] H_10 = some (.bool t44_1, H_11) ∧
    (if (t44_1 == (t20 == t23)) = true then
    (∃ (t52_1 : Int) (H_12 : Heap), xC Try.prog good 14 [.int .u64 t0, .slice none 0 0] H_11 = some (.int .u32 t52_1, H_12) ∧
    (∃ (H_13 : Heap), H_13 = H_12.push (.row [] true) ∧
    (∃ (t55_1 : Int) (H_14 : Heap), xC Try.prog good 14 [.int .u64 t0, .slice (some ⟨H_12.next, 0, none⟩) 0 (UNK 1)] H_13 = some (.int .u32 t55_1, H_14) ∧
    (if t52_1 = t55_1 then
    (∃ (t59_1 : Bool) (H_15 : Heap), xC Try.prog good 13 [] H_14 = some (.bool t59_1, H_15) ∧
    (r = (.bool t59_1, H_15)))
    else
    (r = (.bool false, H_14))))))
    else
    (r = (.bool false, H_11))))
    else
    (r = (.bool false, H_10))))))))))) :
    L0 t0 t1a t1n t1k t2a t2n t2k t16 H r := by
  intro J
  show KR _ _ _ (.code (sub B [1, 0, 1]) :: S0) _ _ _
  by_cases c2 : t16 = true
  · replace h := iteT c2 h
    refine KR.br true (by kernel_rfl) (vB (bT c2)) ?_
    refine KR.run 2 [] 61 (s' := (.reg (opsAt (sub B [1, 0, 1, 0, 0])) [0, 1] :: S2)) (by kernel_rfl) fun J => ?_
    obtain ⟨t17, H_1, q3, h⟩ := h
    refine KR.se (one_ca (by kernel_rfl) q3) ?_
    refine KR.run 2 [(6, .bool t17)] 61 (s' := (.code (sub B [1, 0, 1, 0, 1]) :: S0)) (by kernel_rfl) fun J => ?_
    exact KR.fin (by kernel_rfl) h
  · replace h := iteF c2 h
    refine KR.br false (by kernel_rfl) (vB (bF c2)) ?_
    refine KR.run 5 [(0, .int .u64 t0), (1, .slice t1a t1n t1k), (2, .slice t2a t2n t2k), (18, .int .u64 t0), (19, .slice t1a t1n t1k)] 61 (s' := (.reg (opsAt (sub B [1, 1, 0])) [2, 3, 4, 5, 6, 7] :: S3)) (by kernel_rfl) fun J => ?_
    obtain ⟨t20, H_2, q4, h⟩ := h
    refine KR.se (one_ca (by kernel_rfl) q4) ?_
    refine KR.run 2 [(0, .int .u64 t0), (1, .slice t1a t1n t1k), (2, .slice t2a t2n t2k), (20, .int .u32 t20), (21, .int .u64 t0), (22, .slice t2a t2n t2k)] 61 (s' := (.reg (opsAt (sub B [1, 1, 0])) [5, 6, 7] :: S3)) (by kernel_rfl) fun J => ?_
    obtain ⟨t23, H_3, q5, h⟩ := h
    refine KR.se (one_ca (by kernel_rfl) q5) ?_
    refine KR.run 9 [(0, .int .u64 t0), (1, .slice t1a t1n t1k), (2, .slice t2a t2n t2k), (7, .int .u32 t20), (8, .int .u32 t23), (27, .bool (t20 == t23))] 61 (s' := (.reg (opsAt (sub B [1, 1, 1, 0])) [4, 5, 6, 7, 8, 9, 10, 11, 12, 13, 14, 15, 16, 17, 18, 19, 20, 21, 22, 23, 24, 25, 26, 27, 28, 29, 30, 31, 32, 33, 34, 35, 36, 37] :: S4)) (by kernel_rfl) fun J => ?_
    by_cases c6 : t20 = t23
    · replace h := iteT c6 h
      refine KR.setV 27 (by kernel_rfl) (eT c6) ?_
      refine KR.run 10 [(0, .int .u64 t0), (1, .slice t1a t1n t1k), (7, .int .u32 t20), (8, .int .u32 t23), (34, .bool true), (35, .int .u64 t0), (36, .slice t1a t1n t1k), (37, .int .u32 t20)] 61 (s' := (.reg (opsAt (sub B [1, 1, 1, 0])) [14, 15, 16, 17, 18, 19, 20, 21, 22, 23, 24, 25, 26, 27, 28, 29, 30, 31, 32, 33, 34, 35, 36, 37] :: S4)) (by kernel_rfl) fun J => ?_
      obtain ⟨t38, H_4, q7, h⟩ := h
      refine KR.se (one_ca (by kernel_rfl) q7) ?_
      refine KR.run 2 [(0, .int .u64 t0), (1, .slice t1a t1n t1k), (7, .int .u32 t20), (8, .int .u32 t23), (40, .bool t38)] 61 (s' := (.reg (opsAt (sub B [1, 1, 1, 0])) [17, 18, 19, 20, 21, 22, 23, 24, 25, 26, 27, 28, 29, 30, 31, 32, 33, 34, 35, 36, 37] :: S4)) (by kernel_rfl) fun J => ?_
      by_cases c8 : t38 = true
      · replace h := iteT c8 h
        refine KR.setV 40 (by kernel_rfl) (bT c8) ?_
        refine KR.run 3 [(0, .int .u64 t0), (7, .int .u32 t20), (8, .int .u32 t23), (40, .bool true), (41, .int .u64 t0), (42, .slice t1a t1n t1k), (43, .int .u32 t23)] 61 (s' := (.reg (opsAt (sub B [1, 1, 1, 0])) [20, 21, 22, 23, 24, 25, 26, 27, 28, 29, 30, 31, 32, 33, 34, 35, 36, 37] :: S4)) (by kernel_rfl) fun J => ?_
        obtain ⟨t44, H_5, q9, h⟩ := h
        refine KR.se (one_ca (by kernel_rfl) q9) ?_
        refine KR.run 6 [(0, .int .u64 t0), (50, .bool (t44 == (t20 == t23)))] 61 (s' := (.reg (opsAt (sub B [1, 1, 1, 0])) [27, 28, 29, 30, 31, 32, 33, 34, 35, 36, 37] :: S4)) (by kernel_rfl) fun J => ?_
        by_cases c10 : (t44 == (t20 == t23)) = true
        · replace h := iteT c10 h
          refine KR.setV 50 (by kernel_rfl) (bT c10) ?_
          refine KR.run 1 [(0, .int .u64 t0), (50, .bool true), (51, .int .u64 t0)] 61 (s' := (.reg (opsAt (sub B [1, 1, 1, 0])) [28, 29, 30, 31, 32, 33, 34, 35, 36, 37] :: S4)) (by kernel_rfl) fun J => ?_
          obtain ⟨t52, H_6, q11, h⟩ := h
          refine KR.se (one_ca (by kernel_rfl) q11) ?_
          refine KR.run 1 [(50, .bool true), (52, .int .u32 t52), (53, .int .u64 t0)] 61 (s' := (.reg (opsAt (sub B [1, 1, 1, 0])) [30, 31, 32, 33, 34, 35, 36, 37] :: S4)) (by kernel_rfl) fun J => ?_
          obtain ⟨H_7, q12, h⟩ := h
          refine KR.mk (w := sRow 0 1 []) (one_al (by kernel_rfl)) q12 ?_
          obtain ⟨t55, H_8, q13, h⟩ := h
          refine KR.se (one_ca (by kernel_rfl) q13) ?_
          refine KR.run 3 [(58, .bool (t52 == t55))] 61 (s' := (.reg (opsAt (sub B [1, 1, 1, 0])) [35, 36, 37] :: S4)) (by kernel_rfl) fun J => ?_
          by_cases c14 : t52 = t55
          · replace h := iteT c14 h
            refine KR.setV 58 (by kernel_rfl) (eT c14) ?_
            obtain ⟨t59, H_9, q15, h⟩ := h
            refine KR.se (one_ca (by kernel_rfl) q15) ?_
            refine KR.run 3 [(6, .bool t59)] 61 (s' := (.code (sub B [1, 1, 1, 1]) :: [])) (by kernel_rfl) fun J => ?_
            exact KR.fin (by kernel_rfl) h
          · replace h := iteF c14 h
            refine KR.setV 58 (by kernel_rfl) (eF c14) ?_
            refine KR.run 4 [(6, .bool false)] 61 (s' := (.code (sub B [1, 1, 1, 1]) :: [])) (by kernel_rfl) fun J => ?_
            exact KR.fin (by kernel_rfl) h
        · replace h := iteF c10 h
          refine KR.setV 50 (by kernel_rfl) (bF c10) ?_
          refine KR.run 12 [(6, .bool false)] 61 (s' := (.code (sub B [1, 1, 1, 1]) :: [])) (by kernel_rfl) fun J => ?_
          exact KR.fin (by kernel_rfl) h
      · replace h := iteF c8 h
        refine KR.setV 40 (by kernel_rfl) (bF c8) ?_
        refine KR.run 22 [(6, .bool false)] 61 (s' := (.code (sub B [1, 1, 1, 1]) :: [])) (by kernel_rfl) fun J => ?_
        exact KR.fin (by kernel_rfl) h
    · replace h := iteF c6 h
      refine KR.setV 27 (by kernel_rfl) (eF c6) ?_
      refine KR.run 1 [(0, .int .u64 t0), (1, .slice t1a t1n t1k), (2, .slice t2a t2n t2k), (7, .int .u32 t20), (8, .int .u32 t23), (27, .bool false), (28, .slice t1a t1n t1k)] 61 (s' := (.reg (opsAt (sub B [1, 1, 1, 0])) [5, 6, 7, 8, 9, 10, 11, 12, 13, 14, 15, 16, 17, 18, 19, 20, 21, 22, 23, 24, 25, 26, 27, 28, 29, 30, 31, 32, 33, 34, 35, 36, 37] :: S4)) (by kernel_rfl) fun J => ?_
      obtain ⟨t29, q16, h⟩ := h
      refine KR.rd (one_str (by kernel_rfl) q16) ?_
      refine KR.run 1 [(0, .int .u64 t0), (1, .slice t1a t1n t1k), (7, .int .u32 t20), (8, .int .u32 t23), (27, .bool false), (29, .string t29), (30, .slice t2a t2n t2k)] 61 (s' := (.reg (opsAt (sub B [1, 1, 1, 0])) [7, 8, 9, 10, 11, 12, 13, 14, 15, 16, 17, 18, 19, 20, 21, 22, 23, 24, 25, 26, 27, 28, 29, 30, 31, 32, 33, 34, 35, 36, 37] :: S4)) (by kernel_rfl) fun J => ?_
      obtain ⟨t31, q17, h⟩ := h
      refine KR.rd (one_str (by kernel_rfl) q17) ?_
      refine KR.run 3 [(0, .int .u64 t0), (1, .slice t1a t1n t1k), (7, .int .u32 t20), (8, .int .u32 t23), (34, .bool (!(t29.toList == t31.toList)))] 61 (s' := (.reg (opsAt (sub B [1, 1, 1, 0])) [11, 12, 13, 14, 15, 16, 17, 18, 19, 20, 21, 22, 23, 24, 25, 26, 27, 28, 29, 30, 31, 32, 33, 34, 35, 36, 37] :: S4)) (by kernel_rfl) fun J => ?_
      by_cases c18 : t29.toList = t31.toList
      · replace h := iteT c18 h
        refine KR.setV 34 (by kernel_rfl) (nB (eT c18)) ?_
        refine KR.run 28 [(6, .bool false)] 61 (s' := (.code (sub B [1, 1, 1, 1]) :: [])) (by kernel_rfl) fun J => ?_
        exact KR.fin (by kernel_rfl) h
      · replace h := iteF c18 h
        refine KR.setV 34 (by kernel_rfl) (nB (eF c18)) ?_
        refine KR.run 3 [(0, .int .u64 t0), (1, .slice t1a t1n t1k), (7, .int .u32 t20), (8, .int .u32 t23), (34, .bool true), (35, .int .u64 t0), (36, .slice t1a t1n t1k), (37, .int .u32 t20)] 61 (s' := (.reg (opsAt (sub B [1, 1, 1, 0])) [14, 15, 16, 17, 18, 19, 20, 21, 22, 23, 24, 25, 26, 27, 28, 29, 30, 31, 32, 33, 34, 35, 36, 37] :: S4)) (by kernel_rfl) fun J => ?_
        obtain ⟨t38_1, H_10, q19, h⟩ := h
        refine KR.se (one_ca (by kernel_rfl) q19) ?_
        refine KR.run 2 [(0, .int .u64 t0), (1, .slice t1a t1n t1k), (7, .int .u32 t20), (8, .int .u32 t23), (40, .bool t38_1)] 61 (s' := (.reg (opsAt (sub B [1, 1, 1, 0])) [17, 18, 19, 20, 21, 22, 23, 24, 25, 26, 27, 28, 29, 30, 31, 32, 33, 34, 35, 36, 37] :: S4)) (by kernel_rfl) fun J => ?_
        by_cases c20 : t38_1 = true
        · replace h := iteT c20 h
          refine KR.setV 40 (by kernel_rfl) (bT c20) ?_
          refine KR.run 3 [(0, .int .u64 t0), (7, .int .u32 t20), (8, .int .u32 t23), (40, .bool true), (41, .int .u64 t0), (42, .slice t1a t1n t1k), (43, .int .u32 t23)] 61 (s' := (.reg (opsAt (sub B [1, 1, 1, 0])) [20, 21, 22, 23, 24, 25, 26, 27, 28, 29, 30, 31, 32, 33, 34, 35, 36, 37] :: S4)) (by kernel_rfl) fun J => ?_
          obtain ⟨t44_1, H_11, q21, h⟩ := h
          refine KR.se (one_ca (by kernel_rfl) q21) ?_
          refine KR.run 6 [(0, .int .u64 t0), (50, .bool (t44_1 == (t20 == t23)))] 61 (s' := (.reg (opsAt (sub B [1, 1, 1, 0])) [27, 28, 29, 30, 31, 32, 33, 34, 35, 36, 37] :: S4)) (by kernel_rfl) fun J => ?_
          by_cases c22 : (t44_1 == (t20 == t23)) = true
          · replace h := iteT c22 h
            refine KR.setV 50 (by kernel_rfl) (bT c22) ?_
            refine KR.run 1 [(0, .int .u64 t0), (50, .bool true), (51, .int .u64 t0)] 61 (s' := (.reg (opsAt (sub B [1, 1, 1, 0])) [28, 29, 30, 31, 32, 33, 34, 35, 36, 37] :: S4)) (by kernel_rfl) fun J => ?_
            obtain ⟨t52_1, H_12, q23, h⟩ := h
            refine KR.se (one_ca (by kernel_rfl) q23) ?_
            refine KR.run 1 [(50, .bool true), (52, .int .u32 t52_1), (53, .int .u64 t0)] 61 (s' := (.reg (opsAt (sub B [1, 1, 1, 0])) [30, 31, 32, 33, 34, 35, 36, 37] :: S4)) (by kernel_rfl) fun J => ?_
            obtain ⟨H_13, q24, h⟩ := h
            refine KR.mk (w := sRow 0 1 []) (one_al (by kernel_rfl)) q24 ?_
            obtain ⟨t55_1, H_14, q25, h⟩ := h
            refine KR.se (one_ca (by kernel_rfl) q25) ?_
            refine KR.run 3 [(58, .bool (t52_1 == t55_1))] 61 (s' := (.reg (opsAt (sub B [1, 1, 1, 0])) [35, 36, 37] :: S4)) (by kernel_rfl) fun J => ?_
            by_cases c26 : t52_1 = t55_1
            · replace h := iteT c26 h
              refine KR.setV 58 (by kernel_rfl) (eT c26) ?_
              obtain ⟨t59_1, H_15, q27, h⟩ := h
              refine KR.se (one_ca (by kernel_rfl) q27) ?_
              refine KR.run 3 [(6, .bool t59_1)] 61 (s' := (.code (sub B [1, 1, 1, 1]) :: [])) (by kernel_rfl) fun J => ?_
              exact KR.fin (by kernel_rfl) h
            · replace h := iteF c26 h
              refine KR.setV 58 (by kernel_rfl) (eF c26) ?_
              refine KR.run 4 [(6, .bool false)] 61 (s' := (.code (sub B [1, 1, 1, 1]) :: [])) (by kernel_rfl) fun J => ?_
              exact KR.fin (by kernel_rfl) h
          · replace h := iteF c22 h
            refine KR.setV 50 (by kernel_rfl) (bF c22) ?_
            refine KR.run 12 [(6, .bool false)] 61 (s' := (.code (sub B [1, 1, 1, 1]) :: [])) (by kernel_rfl) fun J => ?_
            exact KR.fin (by kernel_rfl) h
        · replace h := iteF c20 h
          refine KR.setV 40 (by kernel_rfl) (bF c20) ?_
          refine KR.run 22 [(6, .bool false)] 61 (s' := (.code (sub B [1, 1, 1, 1]) :: [])) (by kernel_rfl) fun J => ?_
          exact KR.fin (by kernel_rfl) h
theorem call {a0 : Int} {a1a : Option Addr} {a1n : Nat} {a1k : Nat} {a2a : Option Addr} {a2n : Nat} {a2k : Nat} {H : Heap} {r : Value × Heap} (h :
    if ((a1n : Nat) : Int) > 500 then
    (L0 (a0) (a1a) (a1n) (a1k) (a2a) (a2n) (a2k) (true) H r)
    else
    (L0 (a0) (a1a) (a1n) (a1k) (a2a) (a2n) (a2k) ((decide (((a2n : Nat) : Int) > 500))) H r)) :
    xC Try.prog good 6 [.int .u64 a0, .slice a1a a1n a1k, .slice a2a a2n a2k] H = some r := by
  refine KR.enter (fn := Try.f6) (c := B) (by kernel_rfl) (by kernel_rfl) ?_
  refine KR.run 11 [(0, .int .u64 a0), (1, .slice a1a a1n a1k), (2, .slice a2a a2n a2k), (12, .bool (decide (((a1n : Nat) : Int) > 500)))] 61 (s' := (.reg (opsAt (sub B [1, 0, 0])) [4, 5, 6, 7] :: S1)) (by kernel_rfl) fun J => ?_
  by_cases c1 : ((a1n : Nat) : Int) > 500
  · replace h := iteT c1 h
    refine KR.setV 12 (by kernel_rfl) (dT c1) ?_
    exact KR.run 5 [(0, .int .u64 a0), (1, .slice a1a a1n a1k), (2, .slice a2a a2n a2k), (16, .bool true)] 61 (s' := (.code (sub B [1, 0, 1]) :: S0)) (by kernel_rfl) h
  · replace h := iteF c1 h
    refine KR.setV 12 (by kernel_rfl) (dF c1) ?_
    exact KR.run 5 [(0, .int .u64 a0), (1, .slice a1a a1n a1k), (2, .slice a2a a2n a2k), (16, .bool (decide (((a2n : Nat) : Int) > 500)))] 61 (s' := (.code (sub B [1, 0, 1]) :: S0)) (by kernel_rfl) h
end F6
/-! #### 7 campanile/campanilelaw2.CrcBehind -/
namespace F7
noncomputable def B : Code := bodyOf Try.f7
noncomputable def S0 : List It := (.code (sub B [1, 1]) :: [])
noncomputable def S2 : List It := (.code (sub B [1, 1, 1]) :: [])
noncomputable def S3 : List It := (.code (sub B [1, 1, 1, 1]) :: [])
noncomputable def S4 : List It := (.code (sub B [1, 1, 1, 1, 1]) :: [])
noncomputable def S5 : List It := (.code (sub B [1, 1, 1, 1, 1, 1]) :: [])
noncomputable def S1 : List It := (.code (sub B [1, 0, 1, 0, 1]) :: S0)
theorem call {a0a : Option Addr} {a0n : Nat} {a0k : Nat} {a1a : Option Addr} {a1n : Nat} {a1k : Nat} {a2a : Option Addr} {a2n : Nat} {a2k : Nat} {H : Heap} {r : Value × Heap} (h :
    if (IntKind.wrap .i64 ((IntKind.wrap .i64 (((a0n : Nat) : Int) + ((a1n : Nat) : Int))) + ((a2n : Nat) : Int))) > 2000 then
    (∃ (t20 : Bool) (H_1 : Heap), xC Try.prog good 12 [] H = some (.bool t20, H_1) ∧
    (r = (.bool t20, H_1)))
    else
    (∃ (t22 : Int) (H_2 : Heap), xC Try.prog good 11 [.slice a0a a0n a0k] H = some (.int .u16 t22, H_2) ∧
    (∃ (t24 : Int) (H_3 : Heap), xC Try.prog good 11 [.slice a1a a1n a1k] H_2 = some (.int .u16 t24, H_3) ∧
    (∃ (H_4 : Heap), H_4 = H_3.push (.row [] true) ∧
    (∃ (t27a : Option Addr) (t27n : Nat) (t27k : Nat) (H_5 : Heap), papp H_4 1 1 (some ⟨H_3.next, 0, none⟩) 0 (UNK 1) a0a a0n a0k = some ((t27a, t27n, t27k), H_5) ∧
    (∃ (t29a : Option Addr) (t29n : Nat) (t29k : Nat) (H_6 : Heap), papp H_5 1 1 t27a t27n t27k a2a a2n a2k = some ((t29a, t29n, t29k), H_6) ∧
    (∃ (H_7 : Heap), H_7 = H_6.push (.row [] true) ∧
    (∃ (t32a : Option Addr) (t32n : Nat) (t32k : Nat) (H_8 : Heap), papp H_7 1 1 (some ⟨H_6.next, 0, none⟩) 0 (UNK 1) a1a a1n a1k = some ((t32a, t32n, t32k), H_8) ∧
    (∃ (t34a : Option Addr) (t34n : Nat) (t34k : Nat) (H_9 : Heap), papp H_8 1 1 t32a t32n t32k a2a a2n a2k = some ((t34a, t34n, t34k), H_9) ∧
    (∃ (t36 : Int) (H_10 : Heap), xC Try.prog good 11 [.slice t29a t29n t29k] H_9 = some (.int .u16 t36, H_10) ∧
    (∃ (t38 : Int) (H_11 : Heap), xC Try.prog good 11 [.slice t34a t34n t34k] H_10 = some (.int .u16 t38, H_11) ∧
    (if t36 = t38 then
    (if t22 = t24 then
    (∃ (t58 : Int) (H_12 : Heap), xC Try.prog good 11 [.slice t29a t29n t29k] H_11 = some (.int .u16 t58, H_12) ∧
    (∃ (t60 : Int) (H_13 : Heap), xC Try.prog good 11 [.slice t34a t34n t34k] H_12 = some (.int .u16 t60, H_13) ∧
    (if t58 = t60 then
    (∃ (t66a : Option Addr) (t66n : Nat) (t66k : Nat) (H_14 : Heap), xC Try.prog good 17 [.slice t29a t29n t29k] H_13 = some (.slice t66a t66n t66k, H_14) ∧
    (if ((t66n : Nat) : Int) = (IntKind.wrap .i64 (((t29n : Nat) : Int) + 2)) then
    (∃ (t74 : Bool) (H_15 : Heap), xC Try.prog good 12 [] H_14 = some (.bool t74, H_15) ∧
    (r = (.bool t74, H_15)))
    else
    (r = (.bool false, H_14))))
    else
    (r = (.bool false, H_13)))))
    else
    (∃ (t66a_1 : Option Addr) (t66n_1 : Nat) (t66k_1 : Nat) (H_16 : Heap), xC Try.prog good 17 [.slice t29a t29n t29k] H_11 = some (.slice t66a_1 t66n_1 t66k_1, H_16) ∧
    (if ((t66n_1 : Nat) : Int) = (IntKind.wrap .i64 (((t29n : Nat) : Int) + 2)) then
    (∃ (t74_1 : Bool) (H_17 : Heap), xC Try.prog good 12 [] H_16 = some (.bool t74_1, H_17) ∧
    (r = (.bool t74_1, H_17)))
    else
    (r = (.bool false, H_16)))))
    else
    (if ((a0n : Nat) : Int) = ((a1n : Nat) : Int) then
    (if t22 = t24 then
    (r = (.bool false, H_11))
    else
    (∃ (t66a_2 : Option Addr) (t66n_2 : Nat) (t66k_2 : Nat) (H_18 : Heap), xC Try.prog good 17 [.slice t29a t29n t29k] H_11 = some (.slice t66a_2 t66n_2 t66k_2, H_18) ∧
    (if ((t66n_2 : Nat) : Int) = (IntKind.wrap .i64 (((t29n : Nat) : Int) + 2)) then
    (∃ (t74_2 : Bool) (H_19 : Heap), xC Try.prog good 12 [] H_18 = some (.bool t74_2, H_19) ∧
    (r = (.bool t74_2, H_19)))
    else
    (r = (.bool false, H_18)))))
    else
    (if t22 = t24 then
    (∃ (t58_1 : Int) (H_20 : Heap), xC Try.prog good 11 [.slice t29a t29n t29k] H_11 = some (.int .u16 t58_1, H_20) ∧
    (∃ (t60_1 : Int) (H_21 : Heap), xC Try.prog good 11 [.slice t34a t34n t34k] H_20 = some (.int .u16 t60_1, H_21) ∧
    (if t58_1 = t60_1 then
    (∃ (t66a_3 : Option Addr) (t66n_3 : Nat) (t66k_3 : Nat) (H_22 : Heap), xC Try.prog good 17 [.slice t29a t29n t29k] H_21 = some (.slice t66a_3 t66n_3 t66k_3, H_22) ∧
    (if ((t66n_3 : Nat) : Int) = (IntKind.wrap .i64 (((t29n : Nat) : Int) + 2)) then
    (∃ (t74_3 : Bool) (H_23 : Heap), xC Try.prog good 12 [] H_22 = some (.bool t74_3, H_23) ∧
    (r = (.bool t74_3, H_23)))
    else
    (r = (.bool false, H_22))))
    else
    (r = (.bool false, H_21)))))
    else
    (∃ (t66a_4 : Option Addr) (t66n_4 : Nat) (t66k_4 : Nat) (H_24 : Heap), xC Try.prog good 17 [.slice t29a t29n t29k] H_11 = some (.slice t66a_4 t66n_4 t66k_4, H_24) ∧
    (if ((t66n_4 : Nat) : Int) = (IntKind.wrap .i64 (((t29n : Nat) : Int) + 2)) then
    (∃ (t74_4 : Bool) (H_25 : Heap), xC Try.prog good 12 [] H_24 = some (.bool t74_4, H_25) ∧
    (r = (.bool t74_4, H_25)))
    else
    (r = (.bool false, H_24)))))))))))))))))) :
    xC Try.prog good 7 [.slice a0a a0n a0k, .slice a1a a1n a1k, .slice a2a a2n a2k] H = some r := by
  refine KR.enter (fn := Try.f7) (c := B) (by kernel_rfl) (by kernel_rfl) ?_
  refine KR.run 17 [(0, .slice a0a a0n a0k), (1, .slice a1a a1n a1k), (2, .slice a2a a2n a2k), (19, .bool (decide ((IntKind.wrap .i64 ((IntKind.wrap .i64 (((a0n : Nat) : Int) + ((a1n : Nat) : Int))) + ((a2n : Nat) : Int))) > 2000)))] 76 (s' := (.code (sub B [1, 0, 1]) :: S0)) (by kernel_rfl) fun J => ?_
  by_cases c1 : (IntKind.wrap .i64 ((IntKind.wrap .i64 (((a0n : Nat) : Int) + ((a1n : Nat) : Int))) + ((a2n : Nat) : Int))) > 2000
  · replace h := iteT c1 h
    refine KR.br true (by kernel_rfl) (vB (dT c1)) ?_
    refine KR.run 2 [] 76 (s' := (.reg (opsAt (sub B [1, 0, 1, 0, 0])) [0, 1] :: S1)) (by kernel_rfl) fun J => ?_
    obtain ⟨t20, H_1, q2, h⟩ := h
    refine KR.se (one_ca (by kernel_rfl) q2) ?_
    refine KR.run 2 [(6, .bool t20)] 76 (s' := (.code (sub B [1, 0, 1, 0, 1]) :: S0)) (by kernel_rfl) fun J => ?_
    exact KR.fin (by kernel_rfl) h
  · replace h := iteF c1 h
    refine KR.br false (by kernel_rfl) (vB (dF c1)) ?_
    refine KR.run 4 [(0, .slice a0a a0n a0k), (1, .slice a1a a1n a1k), (2, .slice a2a a2n a2k), (21, .slice a0a a0n a0k)] 76 (s' := (.reg (opsAt (sub B [1, 1, 0])) [1, 2, 3, 4, 5] :: S2)) (by kernel_rfl) fun J => ?_
    obtain ⟨t22, H_2, q3, h⟩ := h
    refine KR.se (one_ca (by kernel_rfl) q3) ?_
    refine KR.run 1 [(0, .slice a0a a0n a0k), (1, .slice a1a a1n a1k), (2, .slice a2a a2n a2k), (22, .int .u16 t22), (23, .slice a1a a1n a1k)] 76 (s' := (.reg (opsAt (sub B [1, 1, 0])) [3, 4, 5] :: S2)) (by kernel_rfl) fun J => ?_
    obtain ⟨t24, H_3, q4, h⟩ := h
    refine KR.se (one_ca (by kernel_rfl) q4) ?_
    refine KR.run 5 [(0, .slice a0a a0n a0k), (1, .slice a1a a1n a1k), (2, .slice a2a a2n a2k), (7, .int .u16 t22), (8, .int .u16 t24)] 76 (s' := (.reg (opsAt (sub B [1, 1, 1, 0])) [0, 1, 2, 3, 4, 5] :: S3)) (by kernel_rfl) fun J => ?_
    obtain ⟨H_4, q5, h⟩ := h
    refine KR.mk (w := sRow 0 1 []) (one_al (by kernel_rfl)) q5 ?_
    refine KR.run 1 [(0, .slice a0a a0n a0k), (1, .slice a1a a1n a1k), (2, .slice a2a a2n a2k), (7, .int .u16 t22), (8, .int .u16 t24), (25, .slice (some ⟨H_3.next, 0, none⟩) 0 (UNK 1)), (26, .slice a0a a0n a0k)] 76 (s' := (.reg (opsAt (sub B [1, 1, 1, 0])) [2, 3, 4, 5] :: S3)) (by kernel_rfl) fun J => ?_
    obtain ⟨t27a, t27n, t27k, H_5, q6, h⟩ := h
    refine KR.se (one_ap 1 1 (by kernel_rfl) q6) ?_
    refine KR.run 1 [(0, .slice a0a a0n a0k), (1, .slice a1a a1n a1k), (2, .slice a2a a2n a2k), (7, .int .u16 t22), (8, .int .u16 t24), (27, .slice t27a t27n t27k), (28, .slice a2a a2n a2k)] 76 (s' := (.reg (opsAt (sub B [1, 1, 1, 0])) [4, 5] :: S3)) (by kernel_rfl) fun J => ?_
    obtain ⟨t29a, t29n, t29k, H_6, q7, h⟩ := h
    refine KR.se (one_ap 1 1 (by kernel_rfl) q7) ?_
    refine KR.run 4 [(0, .slice a0a a0n a0k), (1, .slice a1a a1n a1k), (2, .slice a2a a2n a2k), (7, .int .u16 t22), (8, .int .u16 t24), (9, .slice t29a t29n t29k)] 76 (s' := (.reg (opsAt (sub B [1, 1, 1, 1, 0])) [0, 1, 2, 3, 4, 5] :: S4)) (by kernel_rfl) fun J => ?_
    obtain ⟨H_7, q8, h⟩ := h
    refine KR.mk (w := sRow 0 1 []) (one_al (by kernel_rfl)) q8 ?_
    refine KR.run 1 [(0, .slice a0a a0n a0k), (1, .slice a1a a1n a1k), (2, .slice a2a a2n a2k), (7, .int .u16 t22), (8, .int .u16 t24), (9, .slice t29a t29n t29k), (30, .slice (some ⟨H_6.next, 0, none⟩) 0 (UNK 1)), (31, .slice a1a a1n a1k)] 76 (s' := (.reg (opsAt (sub B [1, 1, 1, 1, 0])) [2, 3, 4, 5] :: S4)) (by kernel_rfl) fun J => ?_
    obtain ⟨t32a, t32n, t32k, H_8, q9, h⟩ := h
    refine KR.se (one_ap 1 1 (by kernel_rfl) q9) ?_
    refine KR.run 1 [(0, .slice a0a a0n a0k), (1, .slice a1a a1n a1k), (7, .int .u16 t22), (8, .int .u16 t24), (9, .slice t29a t29n t29k), (32, .slice t32a t32n t32k), (33, .slice a2a a2n a2k)] 76 (s' := (.reg (opsAt (sub B [1, 1, 1, 1, 0])) [4, 5] :: S4)) (by kernel_rfl) fun J => ?_
    obtain ⟨t34a, t34n, t34k, H_9, q10, h⟩ := h
    refine KR.se (one_ap 1 1 (by kernel_rfl) q10) ?_
    refine KR.run 5 [(0, .slice a0a a0n a0k), (1, .slice a1a a1n a1k), (7, .int .u16 t22), (8, .int .u16 t24), (9, .slice t29a t29n t29k), (10, .slice t34a t34n t34k), (35, .slice t29a t29n t29k)] 76 (s' := (.reg (opsAt (sub B [1, 1, 1, 1, 1, 0])) [1, 2, 3, 4, 5, 6, 7, 8, 9, 10, 11, 12, 13, 14, 15, 16, 17, 18, 19, 20, 21, 22, 23, 24, 25, 26, 27, 28, 29, 30, 31, 32, 33, 34, 35, 36, 37, 38, 39, 40, 41] :: S5)) (by kernel_rfl) fun J => ?_
    obtain ⟨t36, H_10, q11, h⟩ := h
    refine KR.se (one_ca (by kernel_rfl) q11) ?_
    refine KR.run 1 [(0, .slice a0a a0n a0k), (1, .slice a1a a1n a1k), (7, .int .u16 t22), (8, .int .u16 t24), (9, .slice t29a t29n t29k), (10, .slice t34a t34n t34k), (36, .int .u16 t36), (37, .slice t34a t34n t34k)] 76 (s' := (.reg (opsAt (sub B [1, 1, 1, 1, 1, 0])) [3, 4, 5, 6, 7, 8, 9, 10, 11, 12, 13, 14, 15, 16, 17, 18, 19, 20, 21, 22, 23, 24, 25, 26, 27, 28, 29, 30, 31, 32, 33, 34, 35, 36, 37, 38, 39, 40, 41] :: S5)) (by kernel_rfl) fun J => ?_
    obtain ⟨t38, H_11, q12, h⟩ := h
    refine KR.se (one_ca (by kernel_rfl) q12) ?_
    refine KR.run 2 [(0, .slice a0a a0n a0k), (1, .slice a1a a1n a1k), (7, .int .u16 t22), (8, .int .u16 t24), (9, .slice t29a t29n t29k), (10, .slice t34a t34n t34k), (40, .bool (t36 == t38))] 76 (s' := (.reg (opsAt (sub B [1, 1, 1, 1, 1, 0])) [6, 7, 8, 9, 10, 11, 12, 13, 14, 15, 16, 17, 18, 19, 20, 21, 22, 23, 24, 25, 26, 27, 28, 29, 30, 31, 32, 33, 34, 35, 36, 37, 38, 39, 40, 41] :: S5)) (by kernel_rfl) fun J => ?_
    by_cases c13 : t36 = t38
    · replace h := iteT c13 h
      refine KR.setV 40 (by kernel_rfl) (eT c13) ?_
      refine KR.run 16 [(9, .slice t29a t29n t29k), (10, .slice t34a t34n t34k), (52, .bool true), (56, .bool (!(t22 == t24)))] 76 (s' := (.reg (opsAt (sub B [1, 1, 1, 1, 1, 0])) [22, 23, 24, 25, 26, 27, 28, 29, 30, 31, 32, 33, 34, 35, 36, 37, 38, 39, 40, 41] :: S5)) (by kernel_rfl) fun J => ?_
      by_cases c14 : t22 = t24
      · replace h := iteT c14 h
        refine KR.setV 56 (by kernel_rfl) (nB (eT c14)) ?_
        refine KR.run 1 [(9, .slice t29a t29n t29k), (10, .slice t34a t34n t34k), (52, .bool true), (56, .bool false), (57, .slice t29a t29n t29k)] 76 (s' := (.reg (opsAt (sub B [1, 1, 1, 1, 1, 0])) [23, 24, 25, 26, 27, 28, 29, 30, 31, 32, 33, 34, 35, 36, 37, 38, 39, 40, 41] :: S5)) (by kernel_rfl) fun J => ?_
        obtain ⟨t58, H_12, q15, h⟩ := h
        refine KR.se (one_ca (by kernel_rfl) q15) ?_
        refine KR.run 1 [(9, .slice t29a t29n t29k), (52, .bool true), (56, .bool false), (58, .int .u16 t58), (59, .slice t34a t34n t34k)] 76 (s' := (.reg (opsAt (sub B [1, 1, 1, 1, 1, 0])) [25, 26, 27, 28, 29, 30, 31, 32, 33, 34, 35, 36, 37, 38, 39, 40, 41] :: S5)) (by kernel_rfl) fun J => ?_
        obtain ⟨t60, H_13, q16, h⟩ := h
        refine KR.se (one_ca (by kernel_rfl) q16) ?_
        refine KR.run 4 [(9, .slice t29a t29n t29k), (64, .bool (t58 == t60))] 76 (s' := (.reg (opsAt (sub B [1, 1, 1, 1, 1, 0])) [30, 31, 32, 33, 34, 35, 36, 37, 38, 39, 40, 41] :: S5)) (by kernel_rfl) fun J => ?_
        by_cases c17 : t58 = t60
        · replace h := iteT c17 h
          refine KR.setV 64 (by kernel_rfl) (eT c17) ?_
          refine KR.run 1 [(9, .slice t29a t29n t29k), (64, .bool true), (65, .slice t29a t29n t29k)] 76 (s' := (.reg (opsAt (sub B [1, 1, 1, 1, 1, 0])) [31, 32, 33, 34, 35, 36, 37, 38, 39, 40, 41] :: S5)) (by kernel_rfl) fun J => ?_
          obtain ⟨t66a, t66n, t66k, H_14, q18, h⟩ := h
          refine KR.se (one_ca (by kernel_rfl) q18) ?_
          refine KR.run 7 [(73, .bool (((t66n : Nat) : Int) == (IntKind.wrap .i64 (((t29n : Nat) : Int) + 2))))] 76 (s' := (.reg (opsAt (sub B [1, 1, 1, 1, 1, 0])) [39, 40, 41] :: S5)) (by kernel_rfl) fun J => ?_
          by_cases c19 : ((t66n : Nat) : Int) = (IntKind.wrap .i64 (((t29n : Nat) : Int) + 2))
          · replace h := iteT c19 h
            refine KR.setV 73 (by kernel_rfl) (eT c19) ?_
            obtain ⟨t74, H_15, q20, h⟩ := h
            refine KR.se (one_ca (by kernel_rfl) q20) ?_
            refine KR.run 3 [(6, .bool t74)] 76 (s' := (.code (sub B [1, 1, 1, 1, 1, 1]) :: [])) (by kernel_rfl) fun J => ?_
            exact KR.fin (by kernel_rfl) h
          · replace h := iteF c19 h
            refine KR.setV 73 (by kernel_rfl) (eF c19) ?_
            refine KR.run 4 [(6, .bool false)] 76 (s' := (.code (sub B [1, 1, 1, 1, 1, 1]) :: [])) (by kernel_rfl) fun J => ?_
            exact KR.fin (by kernel_rfl) h
        · replace h := iteF c17 h
          refine KR.setV 64 (by kernel_rfl) (eF c17) ?_
          refine KR.run 13 [(6, .bool false)] 76 (s' := (.code (sub B [1, 1, 1, 1, 1, 1]) :: [])) (by kernel_rfl) fun J => ?_
          exact KR.fin (by kernel_rfl) h
      · replace h := iteF c14 h
        refine KR.setV 56 (by kernel_rfl) (nB (eF c14)) ?_
        refine KR.run 9 [(9, .slice t29a t29n t29k), (64, .bool true), (65, .slice t29a t29n t29k)] 76 (s' := (.reg (opsAt (sub B [1, 1, 1, 1, 1, 0])) [31, 32, 33, 34, 35, 36, 37, 38, 39, 40, 41] :: S5)) (by kernel_rfl) fun J => ?_
        obtain ⟨t66a_1, t66n_1, t66k_1, H_16, q21, h⟩ := h
        refine KR.se (one_ca (by kernel_rfl) q21) ?_
        refine KR.run 7 [(73, .bool (((t66n_1 : Nat) : Int) == (IntKind.wrap .i64 (((t29n : Nat) : Int) + 2))))] 76 (s' := (.reg (opsAt (sub B [1, 1, 1, 1, 1, 0])) [39, 40, 41] :: S5)) (by kernel_rfl) fun J => ?_
        by_cases c22 : ((t66n_1 : Nat) : Int) = (IntKind.wrap .i64 (((t29n : Nat) : Int) + 2))
        · replace h := iteT c22 h
          refine KR.setV 73 (by kernel_rfl) (eT c22) ?_
          obtain ⟨t74_1, H_17, q23, h⟩ := h
          refine KR.se (one_ca (by kernel_rfl) q23) ?_
          refine KR.run 3 [(6, .bool t74_1)] 76 (s' := (.code (sub B [1, 1, 1, 1, 1, 1]) :: [])) (by kernel_rfl) fun J => ?_
          exact KR.fin (by kernel_rfl) h
        · replace h := iteF c22 h
          refine KR.setV 73 (by kernel_rfl) (eF c22) ?_
          refine KR.run 4 [(6, .bool false)] 76 (s' := (.code (sub B [1, 1, 1, 1, 1, 1]) :: [])) (by kernel_rfl) fun J => ?_
          exact KR.fin (by kernel_rfl) h
    · replace h := iteF c13 h
      refine KR.setV 40 (by kernel_rfl) (eF c13) ?_
      refine KR.run 7 [(7, .int .u16 t22), (8, .int .u16 t24), (9, .slice t29a t29n t29k), (10, .slice t34a t34n t34k), (47, .bool (!(((a0n : Nat) : Int) == ((a1n : Nat) : Int))))] 76 (s' := (.reg (opsAt (sub B [1, 1, 1, 1, 1, 0])) [13, 14, 15, 16, 17, 18, 19, 20, 21, 22, 23, 24, 25, 26, 27, 28, 29, 30, 31, 32, 33, 34, 35, 36, 37, 38, 39, 40, 41] :: S5)) (by kernel_rfl) fun J => ?_
      by_cases c24 : ((a0n : Nat) : Int) = ((a1n : Nat) : Int)
      · replace h := iteT c24 h
        refine KR.setV 47 (by kernel_rfl) (nB (eT c24)) ?_
        refine KR.run 5 [(7, .int .u16 t22), (8, .int .u16 t24), (9, .slice t29a t29n t29k), (10, .slice t34a t34n t34k), (52, .bool (!(t22 == t24)))] 76 (s' := (.reg (opsAt (sub B [1, 1, 1, 1, 1, 0])) [18, 19, 20, 21, 22, 23, 24, 25, 26, 27, 28, 29, 30, 31, 32, 33, 34, 35, 36, 37, 38, 39, 40, 41] :: S5)) (by kernel_rfl) fun J => ?_
        by_cases c25 : t22 = t24
        · replace h := iteT c25 h
          refine KR.setV 52 (by kernel_rfl) (nB (eT c25)) ?_
          refine KR.run 25 [(6, .bool false)] 76 (s' := (.code (sub B [1, 1, 1, 1, 1, 1]) :: [])) (by kernel_rfl) fun J => ?_
          exact KR.fin (by kernel_rfl) h
        · replace h := iteF c25 h
          refine KR.setV 52 (by kernel_rfl) (nB (eF c25)) ?_
          refine KR.run 4 [(9, .slice t29a t29n t29k), (10, .slice t34a t34n t34k), (52, .bool true), (56, .bool (!(t22 == t24)))] 76 (s' := (.reg (opsAt (sub B [1, 1, 1, 1, 1, 0])) [22, 23, 24, 25, 26, 27, 28, 29, 30, 31, 32, 33, 34, 35, 36, 37, 38, 39, 40, 41] :: S5)) (by kernel_rfl) fun J => ?_
          refine KR.setV 56 (by kernel_rfl) (nB (eF c25)) ?_
          refine KR.run 9 [(9, .slice t29a t29n t29k), (64, .bool true), (65, .slice t29a t29n t29k)] 76 (s' := (.reg (opsAt (sub B [1, 1, 1, 1, 1, 0])) [31, 32, 33, 34, 35, 36, 37, 38, 39, 40, 41] :: S5)) (by kernel_rfl) fun J => ?_
          obtain ⟨t66a_2, t66n_2, t66k_2, H_18, q26, h⟩ := h
          refine KR.se (one_ca (by kernel_rfl) q26) ?_
          refine KR.run 7 [(73, .bool (((t66n_2 : Nat) : Int) == (IntKind.wrap .i64 (((t29n : Nat) : Int) + 2))))] 76 (s' := (.reg (opsAt (sub B [1, 1, 1, 1, 1, 0])) [39, 40, 41] :: S5)) (by kernel_rfl) fun J => ?_
          by_cases c27 : ((t66n_2 : Nat) : Int) = (IntKind.wrap .i64 (((t29n : Nat) : Int) + 2))
          · replace h := iteT c27 h
            refine KR.setV 73 (by kernel_rfl) (eT c27) ?_
            obtain ⟨t74_2, H_19, q28, h⟩ := h
            refine KR.se (one_ca (by kernel_rfl) q28) ?_
            refine KR.run 3 [(6, .bool t74_2)] 76 (s' := (.code (sub B [1, 1, 1, 1, 1, 1]) :: [])) (by kernel_rfl) fun J => ?_
            exact KR.fin (by kernel_rfl) h
          · replace h := iteF c27 h
            refine KR.setV 73 (by kernel_rfl) (eF c27) ?_
            refine KR.run 4 [(6, .bool false)] 76 (s' := (.code (sub B [1, 1, 1, 1, 1, 1]) :: [])) (by kernel_rfl) fun J => ?_
            exact KR.fin (by kernel_rfl) h
      · replace h := iteF c24 h
        refine KR.setV 47 (by kernel_rfl) (nB (eF c24)) ?_
        refine KR.run 9 [(9, .slice t29a t29n t29k), (10, .slice t34a t34n t34k), (52, .bool true), (56, .bool (!(t22 == t24)))] 76 (s' := (.reg (opsAt (sub B [1, 1, 1, 1, 1, 0])) [22, 23, 24, 25, 26, 27, 28, 29, 30, 31, 32, 33, 34, 35, 36, 37, 38, 39, 40, 41] :: S5)) (by kernel_rfl) fun J => ?_
        by_cases c29 : t22 = t24
        · replace h := iteT c29 h
          refine KR.setV 56 (by kernel_rfl) (nB (eT c29)) ?_
          refine KR.run 1 [(9, .slice t29a t29n t29k), (10, .slice t34a t34n t34k), (52, .bool true), (56, .bool false), (57, .slice t29a t29n t29k)] 76 (s' := (.reg (opsAt (sub B [1, 1, 1, 1, 1, 0])) [23, 24, 25, 26, 27, 28, 29, 30, 31, 32, 33, 34, 35, 36, 37, 38, 39, 40, 41] :: S5)) (by kernel_rfl) fun J => ?_
          obtain ⟨t58_1, H_20, q30, h⟩ := h
          refine KR.se (one_ca (by kernel_rfl) q30) ?_
          refine KR.run 1 [(9, .slice t29a t29n t29k), (52, .bool true), (56, .bool false), (58, .int .u16 t58_1), (59, .slice t34a t34n t34k)] 76 (s' := (.reg (opsAt (sub B [1, 1, 1, 1, 1, 0])) [25, 26, 27, 28, 29, 30, 31, 32, 33, 34, 35, 36, 37, 38, 39, 40, 41] :: S5)) (by kernel_rfl) fun J => ?_
          obtain ⟨t60_1, H_21, q31, h⟩ := h
          refine KR.se (one_ca (by kernel_rfl) q31) ?_
          refine KR.run 4 [(9, .slice t29a t29n t29k), (64, .bool (t58_1 == t60_1))] 76 (s' := (.reg (opsAt (sub B [1, 1, 1, 1, 1, 0])) [30, 31, 32, 33, 34, 35, 36, 37, 38, 39, 40, 41] :: S5)) (by kernel_rfl) fun J => ?_
          by_cases c32 : t58_1 = t60_1
          · replace h := iteT c32 h
            refine KR.setV 64 (by kernel_rfl) (eT c32) ?_
            refine KR.run 1 [(9, .slice t29a t29n t29k), (64, .bool true), (65, .slice t29a t29n t29k)] 76 (s' := (.reg (opsAt (sub B [1, 1, 1, 1, 1, 0])) [31, 32, 33, 34, 35, 36, 37, 38, 39, 40, 41] :: S5)) (by kernel_rfl) fun J => ?_
            obtain ⟨t66a_3, t66n_3, t66k_3, H_22, q33, h⟩ := h
            refine KR.se (one_ca (by kernel_rfl) q33) ?_
            refine KR.run 7 [(73, .bool (((t66n_3 : Nat) : Int) == (IntKind.wrap .i64 (((t29n : Nat) : Int) + 2))))] 76 (s' := (.reg (opsAt (sub B [1, 1, 1, 1, 1, 0])) [39, 40, 41] :: S5)) (by kernel_rfl) fun J => ?_
            by_cases c34 : ((t66n_3 : Nat) : Int) = (IntKind.wrap .i64 (((t29n : Nat) : Int) + 2))
            · replace h := iteT c34 h
              refine KR.setV 73 (by kernel_rfl) (eT c34) ?_
              obtain ⟨t74_3, H_23, q35, h⟩ := h
              refine KR.se (one_ca (by kernel_rfl) q35) ?_
              refine KR.run 3 [(6, .bool t74_3)] 76 (s' := (.code (sub B [1, 1, 1, 1, 1, 1]) :: [])) (by kernel_rfl) fun J => ?_
              exact KR.fin (by kernel_rfl) h
            · replace h := iteF c34 h
              refine KR.setV 73 (by kernel_rfl) (eF c34) ?_
              refine KR.run 4 [(6, .bool false)] 76 (s' := (.code (sub B [1, 1, 1, 1, 1, 1]) :: [])) (by kernel_rfl) fun J => ?_
              exact KR.fin (by kernel_rfl) h
          · replace h := iteF c32 h
            refine KR.setV 64 (by kernel_rfl) (eF c32) ?_
            refine KR.run 13 [(6, .bool false)] 76 (s' := (.code (sub B [1, 1, 1, 1, 1, 1]) :: [])) (by kernel_rfl) fun J => ?_
            exact KR.fin (by kernel_rfl) h
        · replace h := iteF c29 h
          refine KR.setV 56 (by kernel_rfl) (nB (eF c29)) ?_
          refine KR.run 9 [(9, .slice t29a t29n t29k), (64, .bool true), (65, .slice t29a t29n t29k)] 76 (s' := (.reg (opsAt (sub B [1, 1, 1, 1, 1, 0])) [31, 32, 33, 34, 35, 36, 37, 38, 39, 40, 41] :: S5)) (by kernel_rfl) fun J => ?_
          obtain ⟨t66a_4, t66n_4, t66k_4, H_24, q36, h⟩ := h
          refine KR.se (one_ca (by kernel_rfl) q36) ?_
          refine KR.run 7 [(73, .bool (((t66n_4 : Nat) : Int) == (IntKind.wrap .i64 (((t29n : Nat) : Int) + 2))))] 76 (s' := (.reg (opsAt (sub B [1, 1, 1, 1, 1, 0])) [39, 40, 41] :: S5)) (by kernel_rfl) fun J => ?_
          by_cases c37 : ((t66n_4 : Nat) : Int) = (IntKind.wrap .i64 (((t29n : Nat) : Int) + 2))
          · replace h := iteT c37 h
            refine KR.setV 73 (by kernel_rfl) (eT c37) ?_
            obtain ⟨t74_4, H_25, q38, h⟩ := h
            refine KR.se (one_ca (by kernel_rfl) q38) ?_
            refine KR.run 3 [(6, .bool t74_4)] 76 (s' := (.code (sub B [1, 1, 1, 1, 1, 1]) :: [])) (by kernel_rfl) fun J => ?_
            exact KR.fin (by kernel_rfl) h
          · replace h := iteF c37 h
            refine KR.setV 73 (by kernel_rfl) (eF c37) ?_
            refine KR.run 4 [(6, .bool false)] 76 (s' := (.code (sub B [1, 1, 1, 1, 1, 1]) :: [])) (by kernel_rfl) fun J => ?_
            exact KR.fin (by kernel_rfl) h
end F7
/-! #### 9 campanile/campanilelaw2.CrcTells -/
namespace F9
noncomputable def B : Code := bodyOf Try.f9
noncomputable def S0 : List It := (.code (sub B [1, 1]) :: [])
noncomputable def S3 : List It := (.code (sub B [1, 1, 1]) :: [])
noncomputable def S4 : List It := (.code (sub B [1, 1, 1, 1]) :: [])
noncomputable def S6 : List It := (.code (sub B [1, 1, 1, 1, 1]) :: [])
noncomputable def S7 : List It := (.code (sub B [1, 1, 1, 1, 1, 1]) :: [])
noncomputable def S8 : List It := (.code (sub B [1, 1, 1, 1, 1, 1, 1]) :: [])
noncomputable def S9 : List It := (.code (sub B [1, 1, 1, 1, 1, 1, 1, 1]) :: [])
noncomputable def S1 : List It := (.code (sub B [1, 0, 1]) :: S0)
noncomputable def S2 : List It := (.code (sub B [1, 0, 1, 0, 1]) :: S0)
noncomputable def S5 : List It := (.code (sub B [1, 1, 1, 0, 1]) :: S4)
def L0 (t0a : Option Addr) (t0n : Nat) (t0k : Nat) (t1 : Int) (t2 : Int) (t3 : Int) (t20 : Bool) (H : Heap) (r : Value × Heap) : Prop := ∀ J, KR Try.prog good Try.f9 S1 (mat J 74 [(0, .slice t0a t0n t0k), (1, .int .i64 t1), (2, .int .u8 t2), (3, .int .u8 t3), (20, .bool t20)]) H r
def L1 (t1 : Int) (t2 : Int) (t3 : Int) (t9a : Option Addr) (t9n : Nat) (t9k : Nat) (t44 : Bool) (H : Heap) (r : Value × Heap) : Prop := ∀ J, KR Try.prog good Try.f9 S5 (mat J 74 [(1, .int .i64 t1), (2, .int .u8 t2), (3, .int .u8 t3), (9, .slice t9a t9n t9k), (44, .bool t44)]) H r
theorem L0_step {t0a : Option Addr} {t0n : Nat} {t0k : Nat} {t1 : Int} {t2 : Int} {t3 : Int} {t20 : Bool} {H : Heap} {r : Value × Heap} (h :
    if t20 = true then
    (∃ (t22a : Option Addr) (t22n : Nat) (t22k : Nat) (H_1 : Heap), xC Try.prog good 17 [.slice t0a t0n t0k] H = some (.slice t22a t22n t22k, H_1) ∧
    (∃ (t23 : Bool) (H_2 : Heap), xC Try.prog good 19 [.slice t22a t22n t22k] H_1 = some (.bool t23, H_2) ∧
    (if t23 = true then
    (∃ (t25 : Bool) (H_3 : Heap), xC Try.prog good 12 [] H_2 = some (.bool t25, H_3) ∧
    (r = (.bool t25, H_3)))
    else
    (r = (.bool false, H_2)))))
    else
    (∃ (t28a : Option Addr) (t28n : Nat) (t28k : Nat) (H_4 : Heap), xC Try.prog good 17 [.slice t0a t0n t0k] H = some (.slice t28a t28n t28k, H_4) ∧
    (if ((t28n : Nat) : Int) = (IntKind.wrap .i64 (((t0n : Nat) : Int) + 2)) then
    (∃ (t37 : Bool) (H_5 : Heap), xC Try.prog good 19 [.slice t28a t28n t28k] H_4 = some (.bool t37, H_5) ∧
    (if t37 = true then
    (∃ (t42 : Int) (H_6 : Heap), xC Try.prog good 11 [.slice t28a t28n t28k] H_5 = some (.int .u16 t42, H_6) ∧
    (L1 (t1) (t2) (t3) (t28a) (t28n) (t28k) ((!(t42 == 0))) H_6 r))
    else
    (L1 (t1) (t2) (t3) (t28a) (t28n) (t28k) (true) H_5 r)))
    else
    (L1 (t1) (t2) (t3) (t28a) (t28n) (t28k) (true) H_4 r)))) :
    L0 t0a t0n t0k t1 t2 t3 t20 H r := by
  intro J
  show KR _ _ _ (.code (sub B [1, 0, 1]) :: S0) _ _ _
  by_cases c3 : t20 = true
  · replace h := iteT c3 h
    refine KR.br true (by kernel_rfl) (vB (bT c3)) ?_
    refine KR.run 3 [(21, .slice t0a t0n t0k)] 74 (s' := (.reg (opsAt (sub B [1, 0, 1, 0, 0])) [1, 2, 3, 4, 5, 6] :: S2)) (by kernel_rfl) fun J => ?_
    obtain ⟨t22a, t22n, t22k, H_1, q4, h⟩ := h
    refine KR.se (one_ca (by kernel_rfl) q4) ?_
    obtain ⟨t23, H_2, q5, h⟩ := h
    refine KR.se (one_ca (by kernel_rfl) q5) ?_
    refine KR.run 1 [(24, .bool t23)] 74 (s' := (.reg (opsAt (sub B [1, 0, 1, 0, 0])) [4, 5, 6] :: S2)) (by kernel_rfl) fun J => ?_
    by_cases c6 : t23 = true
    · replace h := iteT c6 h
      refine KR.setV 24 (by kernel_rfl) (bT c6) ?_
      obtain ⟨t25, H_3, q7, h⟩ := h
      refine KR.se (one_ca (by kernel_rfl) q7) ?_
      refine KR.run 3 [(8, .bool t25)] 74 (s' := (.code (sub B [1, 0, 1, 0, 1]) :: S0)) (by kernel_rfl) fun J => ?_
      exact KR.fin (by kernel_rfl) h
    · replace h := iteF c6 h
      refine KR.setV 24 (by kernel_rfl) (bF c6) ?_
      refine KR.run 4 [(8, .bool false)] 74 (s' := (.code (sub B [1, 0, 1, 0, 1]) :: S0)) (by kernel_rfl) fun J => ?_
      exact KR.fin (by kernel_rfl) h
  · replace h := iteF c3 h
    refine KR.br false (by kernel_rfl) (vB (bF c3)) ?_
    refine KR.run 4 [(0, .slice t0a t0n t0k), (1, .int .i64 t1), (2, .int .u8 t2), (3, .int .u8 t3), (27, .slice t0a t0n t0k)] 74 (s' := (.reg (opsAt (sub B [1, 1, 0])) [1, 2] :: S3)) (by kernel_rfl) fun J => ?_
    obtain ⟨t28a, t28n, t28k, H_4, q8, h⟩ := h
    refine KR.se (one_ca (by kernel_rfl) q8) ?_
    refine KR.run 12 [(1, .int .i64 t1), (2, .int .u8 t2), (3, .int .u8 t3), (9, .slice t28a t28n t28k), (35, .bool (!(((t28n : Nat) : Int) == (IntKind.wrap .i64 (((t0n : Nat) : Int) + 2)))))] 74 (s' := (.reg (opsAt (sub B [1, 1, 1, 0, 0])) [7, 8, 9, 10, 11, 12, 13, 14, 15] :: S5)) (by kernel_rfl) fun J => ?_
    by_cases c9 : ((t28n : Nat) : Int) = (IntKind.wrap .i64 (((t0n : Nat) : Int) + 2))
    · replace h := iteT c9 h
      refine KR.setV 35 (by kernel_rfl) (nB (eT c9)) ?_
      refine KR.run 1 [(1, .int .i64 t1), (2, .int .u8 t2), (3, .int .u8 t3), (9, .slice t28a t28n t28k), (35, .bool false), (36, .slice t28a t28n t28k)] 74 (s' := (.reg (opsAt (sub B [1, 1, 1, 0, 0])) [8, 9, 10, 11, 12, 13, 14, 15] :: S5)) (by kernel_rfl) fun J => ?_
      obtain ⟨t37, H_5, q10, h⟩ := h
      refine KR.se (one_ca (by kernel_rfl) q10) ?_
      refine KR.run 3 [(1, .int .i64 t1), (2, .int .u8 t2), (3, .int .u8 t3), (9, .slice t28a t28n t28k), (40, .bool (!t37))] 74 (s' := (.reg (opsAt (sub B [1, 1, 1, 0, 0])) [12, 13, 14, 15] :: S5)) (by kernel_rfl) fun J => ?_
      by_cases c11 : t37 = true
      · replace h := iteT c11 h
        refine KR.setV 40 (by kernel_rfl) (nB (bT c11)) ?_
        refine KR.run 1 [(1, .int .i64 t1), (2, .int .u8 t2), (3, .int .u8 t3), (9, .slice t28a t28n t28k), (40, .bool false), (41, .slice t28a t28n t28k)] 74 (s' := (.reg (opsAt (sub B [1, 1, 1, 0, 0])) [13, 14, 15] :: S5)) (by kernel_rfl) fun J => ?_
        obtain ⟨t42, H_6, q12, h⟩ := h
        refine KR.se (one_ca (by kernel_rfl) q12) ?_
        exact KR.run 3 [(1, .int .i64 t1), (2, .int .u8 t2), (3, .int .u8 t3), (9, .slice t28a t28n t28k), (44, .bool (!(t42 == 0)))] 74 (s' := (.code (sub B [1, 1, 1, 0, 1]) :: S4)) (by kernel_rfl) h
      · replace h := iteF c11 h
        refine KR.setV 40 (by kernel_rfl) (nB (bF c11)) ?_
        exact KR.run 5 [(1, .int .i64 t1), (2, .int .u8 t2), (3, .int .u8 t3), (9, .slice t28a t28n t28k), (44, .bool true)] 74 (s' := (.code (sub B [1, 1, 1, 0, 1]) :: S4)) (by kernel_rfl) h
    · replace h := iteF c9 h
      refine KR.setV 35 (by kernel_rfl) (nB (eF c9)) ?_
      exact KR.run 10 [(1, .int .i64 t1), (2, .int .u8 t2), (3, .int .u8 t3), (9, .slice t28a t28n t28k), (44, .bool true)] 74 (s' := (.code (sub B [1, 1, 1, 0, 1]) :: S4)) (by kernel_rfl) h
theorem L1_step {t1 : Int} {t2 : Int} {t3 : Int} {t9a : Option Addr} {t9n : Nat} {t9k : Nat} {t44 : Bool} {H : Heap} {r : Value × Heap} (h :
    if t44 = true then
    (r = (.bool false, H))
    else
    ((IntKind.wrap .u64 (IntKind.wrap .i64 (((t9n : Nat) : Int) - 1))) ≠ 0 ∧
    (∃ (t9ab t9ao : Nat), t9a = some ⟨t9ab, t9ao, none⟩ ∧
    (0 ≤ (IntKind.wrap .i64 (Int.tmod (IntKind.wrap .u64 t1) (IntKind.wrap .u64 (IntKind.wrap .i64 (((t9n : Nat) : Int) - 1))))) ∧ (IntKind.wrap .i64 (Int.tmod (IntKind.wrap .u64 t1) (IntKind.wrap .u64 (IntKind.wrap .i64 (((t9n : Nat) : Int) - 1))))) < ((t9n : Nat) : Int) ∧
    (∃ (t56 : Int), ldc H t9ab (t9ao + Int.toNat (IntKind.wrap .i64 (Int.tmod (IntKind.wrap .u64 t1) (IntKind.wrap .u64 (IntKind.wrap .i64 (((t9n : Nat) : Int) - 1))))) * 1) = some (.int .u8 t56) ∧
    (0 ≤ (IntKind.wrap .i64 (Int.tmod (IntKind.wrap .u64 t1) (IntKind.wrap .u64 (IntKind.wrap .i64 (((t9n : Nat) : Int) - 1))))) ∧ (IntKind.wrap .i64 (Int.tmod (IntKind.wrap .u64 t1) (IntKind.wrap .u64 (IntKind.wrap .i64 (((t9n : Nat) : Int) - 1))))) < ((t9n : Nat) : Int) ∧
    (∃ (H_1 : Heap), stc H t9ab (t9ao + Int.toNat (IntKind.wrap .i64 (Int.tmod (IntKind.wrap .u64 t1) (IntKind.wrap .u64 (IntKind.wrap .i64 (((t9n : Nat) : Int) - 1))))) * 1) [.int .u8 (ixor .u8 t56 t2)] = some H_1 ∧
    (0 ≤ (IntKind.wrap .i64 ((IntKind.wrap .i64 (Int.tmod (IntKind.wrap .u64 t1) (IntKind.wrap .u64 (IntKind.wrap .i64 (((t9n : Nat) : Int) - 1))))) + 1)) ∧ (IntKind.wrap .i64 ((IntKind.wrap .i64 (Int.tmod (IntKind.wrap .u64 t1) (IntKind.wrap .u64 (IntKind.wrap .i64 (((t9n : Nat) : Int) - 1))))) + 1)) < ((t9n : Nat) : Int) ∧
    (∃ (t64 : Int), ldc H_1 t9ab (t9ao + Int.toNat (IntKind.wrap .i64 ((IntKind.wrap .i64 (Int.tmod (IntKind.wrap .u64 t1) (IntKind.wrap .u64 (IntKind.wrap .i64 (((t9n : Nat) : Int) - 1))))) + 1)) * 1) = some (.int .u8 t64) ∧
    (0 ≤ (IntKind.wrap .i64 ((IntKind.wrap .i64 (Int.tmod (IntKind.wrap .u64 t1) (IntKind.wrap .u64 (IntKind.wrap .i64 (((t9n : Nat) : Int) - 1))))) + 1)) ∧ (IntKind.wrap .i64 ((IntKind.wrap .i64 (Int.tmod (IntKind.wrap .u64 t1) (IntKind.wrap .u64 (IntKind.wrap .i64 (((t9n : Nat) : Int) - 1))))) + 1)) < ((t9n : Nat) : Int) ∧
    (∃ (H_2 : Heap), stc H_1 t9ab (t9ao + Int.toNat (IntKind.wrap .i64 ((IntKind.wrap .i64 (Int.tmod (IntKind.wrap .u64 t1) (IntKind.wrap .u64 (IntKind.wrap .i64 (((t9n : Nat) : Int) - 1))))) + 1)) * 1) [.int .u8 (ixor .u8 t64 t3)] = some H_2 ∧
    (∃ (t69 : Bool) (H_3 : Heap), xC Try.prog good 19 [.slice (some ⟨t9ab, t9ao, none⟩) t9n t9k] H_2 = some (.bool t69, H_3) ∧
    (if t69 = true then
    (r = (.bool false, H_3))
    else
    (∃ (t72 : Bool) (H_4 : Heap), xC Try.prog good 12 [] H_3 = some (.bool t72, H_4) ∧
    (r = (.bool t72, H_4)))))))))))))))) :
    L1 t1 t2 t3 t9a t9n t9k t44 H r := by
  intro J
  show KR _ _ _ (.code (sub B [1, 1, 1, 0, 1]) :: S4) _ _ _
  by_cases c13 : t44 = true
  · replace h := iteT c13 h
    refine KR.br true (by kernel_rfl) (vB (bT c13)) ?_
    refine KR.run 4 [(8, .bool false)] 74 (s' := (.code (sub B [1, 1, 1, 0, 1, 0, 1]) :: S4)) (by kernel_rfl) fun J => ?_
    exact KR.fin (by kernel_rfl) h
  · replace h := iteF c13 h
    refine KR.br false (by kernel_rfl) (vB (bF c13)) ?_
    refine KR.run 9 [(2, .int .u8 t2), (3, .int .u8 t3), (9, .slice t9a t9n t9k), (46, .int .u64 (IntKind.wrap .u64 t1)), (50, .int .u64 (IntKind.wrap .u64 (IntKind.wrap .i64 (((t9n : Nat) : Int) - 1))))] 74 (s' := (.reg (opsAt (sub B [1, 1, 1, 1, 0])) [6, 7, 8] :: S6)) (by kernel_rfl) fun J => ?_
    obtain ⟨q14, h⟩ := h
    refine KR.p (one_rem .u64 (IntKind.wrap .u64 t1) (by kernel_rfl) q14) ?_
    obtain ⟨t9ab, t9ao, rfl, h⟩ := h
    refine KR.run 7 [(1, .int .i64 (IntKind.wrap .i64 (Int.tmod (IntKind.wrap .u64 t1) (IntKind.wrap .u64 (IntKind.wrap .i64 (((t9n : Nat) : Int) - 1)))))), (2, .int .u8 t2), (3, .int .u8 t3), (9, .slice (some ⟨t9ab, t9ao, none⟩) t9n t9k), (53, .slice (some ⟨t9ab, t9ao, none⟩) t9n t9k), (54, .int .i64 (IntKind.wrap .i64 (Int.tmod (IntKind.wrap .u64 t1) (IntKind.wrap .u64 (IntKind.wrap .i64 (((t9n : Nat) : Int) - 1))))))] 74 (s' := (.reg (opsAt (sub B [1, 1, 1, 1, 1, 0])) [2, 3, 4, 5, 6, 7] :: S7)) (by kernel_rfl) fun J => ?_
    obtain ⟨q15, q15x, h⟩ := h
    refine KR.p (one_ix 1 t9ab t9ao (by kernel_rfl) q15 q15x) ?_
    obtain ⟨t56, q16, h⟩ := h
    refine KR.rd (one_ld (by kernel_rfl) q16) ?_
    refine KR.run 2 [(1, .int .i64 (IntKind.wrap .i64 (Int.tmod (IntKind.wrap .u64 t1) (IntKind.wrap .u64 (IntKind.wrap .i64 (((t9n : Nat) : Int) - 1)))))), (3, .int .u8 t3), (9, .slice (some ⟨t9ab, t9ao, none⟩) t9n t9k), (53, .slice (some ⟨t9ab, t9ao, none⟩) t9n t9k), (54, .int .i64 (IntKind.wrap .i64 (Int.tmod (IntKind.wrap .u64 t1) (IntKind.wrap .u64 (IntKind.wrap .i64 (((t9n : Nat) : Int) - 1)))))), (58, .int .u8 (ixor .u8 t56 t2))] 74 (s' := (.reg (opsAt (sub B [1, 1, 1, 1, 1, 0])) [6, 7] :: S7)) (by kernel_rfl) fun J => ?_
    obtain ⟨q17, q17x, h⟩ := h
    refine KR.p (one_ix 1 t9ab t9ao (by kernel_rfl) q17 q17x) ?_
    obtain ⟨H_1, q18, h⟩ := h
    refine KR.se (one_st (by kernel_rfl) q18) ?_
    refine KR.run 6 [(3, .int .u8 t3), (9, .slice (some ⟨t9ab, t9ao, none⟩) t9n t9k), (60, .slice (some ⟨t9ab, t9ao, none⟩) t9n t9k), (62, .int .i64 (IntKind.wrap .i64 ((IntKind.wrap .i64 (Int.tmod (IntKind.wrap .u64 t1) (IntKind.wrap .u64 (IntKind.wrap .i64 (((t9n : Nat) : Int) - 1))))) + 1)))] 74 (s' := (.reg (opsAt (sub B [1, 1, 1, 1, 1, 1, 0])) [3, 4, 5, 6, 7, 8] :: S8)) (by kernel_rfl) fun J => ?_
    obtain ⟨q19, q19x, h⟩ := h
    refine KR.p (one_ix 1 t9ab t9ao (by kernel_rfl) q19 q19x) ?_
    obtain ⟨t64, q20, h⟩ := h
    refine KR.rd (one_ld (by kernel_rfl) q20) ?_
    refine KR.run 2 [(9, .slice (some ⟨t9ab, t9ao, none⟩) t9n t9k), (60, .slice (some ⟨t9ab, t9ao, none⟩) t9n t9k), (62, .int .i64 (IntKind.wrap .i64 ((IntKind.wrap .i64 (Int.tmod (IntKind.wrap .u64 t1) (IntKind.wrap .u64 (IntKind.wrap .i64 (((t9n : Nat) : Int) - 1))))) + 1))), (66, .int .u8 (ixor .u8 t64 t3))] 74 (s' := (.reg (opsAt (sub B [1, 1, 1, 1, 1, 1, 0])) [7, 8] :: S8)) (by kernel_rfl) fun J => ?_
    obtain ⟨q21, q21x, h⟩ := h
    refine KR.p (one_ix 1 t9ab t9ao (by kernel_rfl) q21 q21x) ?_
    obtain ⟨H_2, q22, h⟩ := h
    refine KR.se (one_st (by kernel_rfl) q22) ?_
    refine KR.run 4 [(68, .slice (some ⟨t9ab, t9ao, none⟩) t9n t9k)] 74 (s' := (.reg (opsAt (sub B [1, 1, 1, 1, 1, 1, 1, 0])) [1, 2, 3, 4, 5, 6] :: S9)) (by kernel_rfl) fun J => ?_
    obtain ⟨t69, H_3, q23, h⟩ := h
    refine KR.se (one_ca (by kernel_rfl) q23) ?_
    refine KR.run 2 [(71, .bool (!t69))] 74 (s' := (.reg (opsAt (sub B [1, 1, 1, 1, 1, 1, 1, 0])) [4, 5, 6] :: S9)) (by kernel_rfl) fun J => ?_
    by_cases c24 : t69 = true
    · replace h := iteT c24 h
      refine KR.setV 71 (by kernel_rfl) (nB (bT c24)) ?_
      refine KR.run 4 [(8, .bool false)] 74 (s' := (.code (sub B [1, 1, 1, 1, 1, 1, 1, 1]) :: [])) (by kernel_rfl) fun J => ?_
      exact KR.fin (by kernel_rfl) h
    · replace h := iteF c24 h
      refine KR.setV 71 (by kernel_rfl) (nB (bF c24)) ?_
      obtain ⟨t72, H_4, q25, h⟩ := h
      refine KR.se (one_ca (by kernel_rfl) q25) ?_
      refine KR.run 3 [(8, .bool t72)] 74 (s' := (.code (sub B [1, 1, 1, 1, 1, 1, 1, 1]) :: [])) (by kernel_rfl) fun J => ?_
      exact KR.fin (by kernel_rfl) h
theorem call {a0a : Option Addr} {a0n : Nat} {a0k : Nat} {a1 : Int} {a2 : Int} {a3 : Int} {H : Heap} {r : Value × Heap} (h :
    if ((a0n : Nat) : Int) > 2000 then
    (L0 (a0a) (a0n) (a0k) (a1) (a2) (a3) (true) H r)
    else
    (if a2 = 0 then
    (L0 (a0a) (a0n) (a0k) (a1) (a2) (a3) ((a3 == 0)) H r)
    else
    (L0 (a0a) (a0n) (a0k) (a1) (a2) (a3) (false) H r))) :
    xC Try.prog good 9 [.slice a0a a0n a0k, .int .i64 a1, .int .u8 a2, .int .u8 a3] H = some r := by
  refine KR.enter (fn := Try.f9) (c := B) (by kernel_rfl) (by kernel_rfl) ?_
  refine KR.run 11 [(0, .slice a0a a0n a0k), (1, .int .i64 a1), (2, .int .u8 a2), (3, .int .u8 a3), (13, .bool (decide (((a0n : Nat) : Int) > 2000)))] 74 (s' := (.reg (opsAt (sub B [1, 0, 0])) [4, 5, 6, 7, 8, 9, 10] :: S1)) (by kernel_rfl) fun J => ?_
  by_cases c1 : ((a0n : Nat) : Int) > 2000
  · replace h := iteT c1 h
    refine KR.setV 13 (by kernel_rfl) (dT c1) ?_
    exact KR.run 8 [(0, .slice a0a a0n a0k), (1, .int .i64 a1), (2, .int .u8 a2), (3, .int .u8 a3), (20, .bool true)] 74 (s' := (.code (sub B [1, 0, 1]) :: S0)) (by kernel_rfl) h
  · replace h := iteF c1 h
    refine KR.setV 13 (by kernel_rfl) (dF c1) ?_
    refine KR.run 3 [(0, .slice a0a a0n a0k), (1, .int .i64 a1), (2, .int .u8 a2), (3, .int .u8 a3), (13, .bool false), (16, .bool (a2 == 0))] 74 (s' := (.reg (opsAt (sub B [1, 0, 0])) [7, 8, 9, 10] :: S1)) (by kernel_rfl) fun J => ?_
    by_cases c2 : a2 = 0
    · replace h := iteT c2 h
      refine KR.setV 16 (by kernel_rfl) (eT c2) ?_
      exact KR.run 5 [(0, .slice a0a a0n a0k), (1, .int .i64 a1), (2, .int .u8 a2), (3, .int .u8 a3), (20, .bool (a3 == 0))] 74 (s' := (.code (sub B [1, 0, 1]) :: S0)) (by kernel_rfl) h
    · replace h := iteF c2 h
      refine KR.setV 16 (by kernel_rfl) (eF c2) ?_
      exact KR.run 5 [(0, .slice a0a a0n a0k), (1, .int .i64 a1), (2, .int .u8 a2), (3, .int .u8 a3), (20, .bool false)] 74 (s' := (.code (sub B [1, 0, 1]) :: S0)) (by kernel_rfl) h
end F9
/-! #### 10 campanile/campanilelaw2.CrcShort -/
namespace F10
noncomputable def B : Code := bodyOf Try.f10
noncomputable def S0 : List It := (.code (sub B [1, 1]) :: [])
noncomputable def S1 : List It := (.code (sub B [1, 1, 1]) :: [])
theorem call {a0 : Int} {a1 : Int} {H : Heap} {r : Value × Heap} (h :
    ∃ (t11n : Nat) (H_1 : Heap), pmk 1 (IntKind.wrap .i64 (2 + (IntKind.wrap .i64 (Int.tmod (IntKind.wrap .u64 a1) 50)))) (IntKind.wrap .i64 (2 + (IntKind.wrap .i64 (Int.tmod (IntKind.wrap .u64 a1) 50)))) = some t11n ∧ H_1 = H.push (.row (zerosL [.int .u8 0] t11n) true) ∧
    (∃ (t12 : Bool) (H_2 : Heap), xC Try.prog good 19 [.slice none 0 0] H_1 = some (.bool t12, H_2) ∧
    (if t12 = true then
    (r = (.bool false, H_2))
    else
    (∃ (H_3 : Heap), H_3 = H_2.push (.row [.int .u8 a0] true) ∧
    (∃ (t17 : Bool) (H_4 : Heap), xC Try.prog good 19 [.slice (some ⟨H_2.next, 0, none⟩) 1 (UNK 1)] H_3 = some (.bool t17, H_4) ∧
    (if t17 = true then
    (r = (.bool false, H_4))
    else
    (∃ (t22 : Bool) (H_5 : Heap), xC Try.prog good 19 [.slice (some ⟨H.next, 0, none⟩) t11n (UNK 1)] H_4 = some (.bool t22, H_5) ∧
    (if t22 = true then
    (∃ (t26 : Int) (H_6 : Heap), xC Try.prog good 11 [.slice (some ⟨H.next, 0, none⟩) t11n (UNK 1)] H_5 = some (.int .u16 t26, H_6) ∧
    (if t26 = 0 then
    (∃ (t30 : Bool) (H_7 : Heap), xC Try.prog good 12 [] H_6 = some (.bool t30, H_7) ∧
    (r = (.bool t30, H_7)))
    else
    (r = (.bool false, H_6))))
    else
    (r = (.bool false, H_5)))))))))) :
    xC Try.prog good 10 [.int .u8 a0, .int .i64 a1] H = some r := by
  refine KR.enter (fn := Try.f10) (c := B) (by kernel_rfl) (by kernel_rfl) ?_
  refine KR.run 11 [(0, .int .u8 a0), (10, .int .i64 (IntKind.wrap .i64 (2 + (IntKind.wrap .i64 (Int.tmod (IntKind.wrap .u64 a1) 50)))))] 32 (s' := (.reg (opsAt (sub B [1, 0])) [5, 6] :: S0)) (by kernel_rfl) fun J => ?_
  obtain ⟨t11n, H_1, q1, q1x, h⟩ := h
  refine KR.mk (w := sRow t11n 1 (zerosL [.int .u8 0] t11n)) (one_mk 1 1 (by kernel_rfl) q1) q1x ?_
  refine KR.run 4 [(0, .int .u8 a0), (5, .slice (some ⟨H.next, 0, none⟩) t11n (UNK 1))] 32 (s' := (.reg (opsAt (sub B [1, 1, 0])) [0, 1, 2, 3, 4, 5, 6, 7, 8, 9, 10, 11, 12, 13, 14, 15, 16, 17, 18, 19, 20] :: S1)) (by kernel_rfl) fun J => ?_
  obtain ⟨t12, H_2, q2, h⟩ := h
  refine KR.se (one_ca (by kernel_rfl) q2) ?_
  refine KR.run 2 [(0, .int .u8 a0), (5, .slice (some ⟨H.next, 0, none⟩) t11n (UNK 1)), (14, .bool (!t12))] 32 (s' := (.reg (opsAt (sub B [1, 1, 0])) [3, 4, 5, 6, 7, 8, 9, 10, 11, 12, 13, 14, 15, 16, 17, 18, 19, 20] :: S1)) (by kernel_rfl) fun J => ?_
  by_cases c3 : t12 = true
  · replace h := iteT c3 h
    refine KR.setV 14 (by kernel_rfl) (nB (bT c3)) ?_
    refine KR.run 19 [(4, .bool false)] 32 (s' := (.code (sub B [1, 1, 1]) :: [])) (by kernel_rfl) fun J => ?_
    exact KR.fin (by kernel_rfl) h
  · replace h := iteF c3 h
    refine KR.setV 14 (by kernel_rfl) (nB (bF c3)) ?_
    refine KR.run 1 [(5, .slice (some ⟨H.next, 0, none⟩) t11n (UNK 1)), (14, .bool true), (15, .int .u8 a0)] 32 (s' := (.reg (opsAt (sub B [1, 1, 0])) [4, 5, 6, 7, 8, 9, 10, 11, 12, 13, 14, 15, 16, 17, 18, 19, 20] :: S1)) (by kernel_rfl) fun J => ?_
    obtain ⟨H_3, q4, h⟩ := h
    refine KR.mk (w := sRow 1 1 [.int .u8 a0]) (one_al (by kernel_rfl)) q4 ?_
    obtain ⟨t17, H_4, q5, h⟩ := h
    refine KR.se (one_ca (by kernel_rfl) q5) ?_
    refine KR.run 3 [(5, .slice (some ⟨H.next, 0, none⟩) t11n (UNK 1)), (20, .bool (!t17))] 32 (s' := (.reg (opsAt (sub B [1, 1, 0])) [9, 10, 11, 12, 13, 14, 15, 16, 17, 18, 19, 20] :: S1)) (by kernel_rfl) fun J => ?_
    by_cases c6 : t17 = true
    · replace h := iteT c6 h
      refine KR.setV 20 (by kernel_rfl) (nB (bT c6)) ?_
      refine KR.run 13 [(4, .bool false)] 32 (s' := (.code (sub B [1, 1, 1]) :: [])) (by kernel_rfl) fun J => ?_
      exact KR.fin (by kernel_rfl) h
    · replace h := iteF c6 h
      refine KR.setV 20 (by kernel_rfl) (nB (bF c6)) ?_
      refine KR.run 1 [(5, .slice (some ⟨H.next, 0, none⟩) t11n (UNK 1)), (20, .bool true), (21, .slice (some ⟨H.next, 0, none⟩) t11n (UNK 1))] 32 (s' := (.reg (opsAt (sub B [1, 1, 0])) [10, 11, 12, 13, 14, 15, 16, 17, 18, 19, 20] :: S1)) (by kernel_rfl) fun J => ?_
      obtain ⟨t22, H_5, q7, h⟩ := h
      refine KR.se (one_ca (by kernel_rfl) q7) ?_
      refine KR.run 2 [(5, .slice (some ⟨H.next, 0, none⟩) t11n (UNK 1)), (24, .bool t22)] 32 (s' := (.reg (opsAt (sub B [1, 1, 0])) [13, 14, 15, 16, 17, 18, 19, 20] :: S1)) (by kernel_rfl) fun J => ?_
      by_cases c8 : t22 = true
      · replace h := iteT c8 h
        refine KR.setV 24 (by kernel_rfl) (bT c8) ?_
        refine KR.run 1 [(24, .bool true), (25, .slice (some ⟨H.next, 0, none⟩) t11n (UNK 1))] 32 (s' := (.reg (opsAt (sub B [1, 1, 0])) [14, 15, 16, 17, 18, 19, 20] :: S1)) (by kernel_rfl) fun J => ?_
        obtain ⟨t26, H_6, q9, h⟩ := h
        refine KR.se (one_ca (by kernel_rfl) q9) ?_
        refine KR.run 3 [(29, .bool (t26 == 0))] 32 (s' := (.reg (opsAt (sub B [1, 1, 0])) [18, 19, 20] :: S1)) (by kernel_rfl) fun J => ?_
        by_cases c10 : t26 = 0
        · replace h := iteT c10 h
          refine KR.setV 29 (by kernel_rfl) (eT c10) ?_
          obtain ⟨t30, H_7, q11, h⟩ := h
          refine KR.se (one_ca (by kernel_rfl) q11) ?_
          refine KR.run 3 [(4, .bool t30)] 32 (s' := (.code (sub B [1, 1, 1]) :: [])) (by kernel_rfl) fun J => ?_
          exact KR.fin (by kernel_rfl) h
        · replace h := iteF c10 h
          refine KR.setV 29 (by kernel_rfl) (eF c10) ?_
          refine KR.run 4 [(4, .bool false)] 32 (s' := (.code (sub B [1, 1, 1]) :: [])) (by kernel_rfl) fun J => ?_
          exact KR.fin (by kernel_rfl) h
      · replace h := iteF c8 h
        refine KR.setV 24 (by kernel_rfl) (bF c8) ?_
        refine KR.run 9 [(4, .bool false)] 32 (s' := (.code (sub B [1, 1, 1]) :: [])) (by kernel_rfl) fun J => ?_
        exact KR.fin (by kernel_rfl) h
end F10
/-! #### 11 campanile/crc.Sum -/
namespace F11
noncomputable def B : Code := bodyOf Try.f11
noncomputable def S0 : List It := (.code (sub B [1, 1, 1]) :: [])
noncomputable def S1 : List It := (.blk 0 :: S0)
noncomputable def S2 : List It := (.lp (sub B [1, 1, 0, 1, 0, 0]) :: S1)
noncomputable def S3 : List It := (.code (sub B [1, 1, 0, 1, 0, 0, 1, 1]) :: S2)
noncomputable def S4 : List It := (.code (sub B [1, 1, 0, 1, 0, 0, 1, 1, 1]) :: S2)
noncomputable def S5 : List It := (.blk 1 :: S4)
noncomputable def S6 : List It := (.code (sub B [1, 1, 0, 1, 0, 0, 1, 1, 0, 0, 1]) :: S5)
noncomputable def S7 : List It := (.blk 2 :: S5)
noncomputable def S8 : List It := (.lp (sub B [1, 1, 0, 1, 0, 0, 1, 1, 0, 0, 1, 1, 1, 0, 0]) :: S7)
noncomputable def S9 : List It := (.code (sub B [1, 1, 0, 1, 0, 0, 1, 1, 0, 0, 1, 1, 1, 0, 0, 1, 1]) :: S8)
def L0 (t3 : Int) (t6a : Option Addr) (t6n : Nat) (t6k : Nat) (t7 : Int) (t8 : Int) (H : Heap) (r : Value × Heap) : Prop := ∀ J, KR Try.prog good Try.f11 S2 (mat J 28 [(3, .int .u16 t3), (6, .slice t6a t6n t6k), (7, .int .i64 t7), (8, .int .i64 t8)]) H r
def L1 (t3 : Int) (t6b : Nat) (t6o : Nat) (t6n : Nat) (t6k : Nat) (t7 : Int) (t8 : Int) (t16 : Int) (H : Heap) (r : Value × Heap) : Prop := ∀ J, KR Try.prog good Try.f11 S8 (mat J 28 [(3, .int .u16 t3), (6, .slice (some ⟨t6b, t6o, none⟩) t6n t6k), (7, .int .i64 t7), (8, .int .i64 t8), (16, .int .i64 t16)]) H r
theorem L0_step {t3 : Int} {t6a : Option Addr} {t6n : Nat} {t6k : Nat} {t7 : Int} {t8 : Int} {H : Heap} {r : Value × Heap} (h :
    if t8 < t7 then
    (∃ (t6ab t6ao : Nat), t6a = some ⟨t6ab, t6ao, none⟩ ∧
    (0 ≤ t8 ∧ t8 < ((t6n : Nat) : Int) ∧
    (∃ (t11 : Int), ldc H t6ab (t6ao + Int.toNat t8 * 1) = some (.int .u8 t11) ∧
    (L1 ((ixor .u16 t3 (IntKind.wrap .u16 t11))) (t6ab) (t6ao) (t6n) (t6k) (t7) (t8) 0 H r))))
    else
    (r = (.int .u16 t3, H))) :
    L0 t3 t6a t6n t6k t7 t8 H r := by
  intro J
  show KR _ _ _ (.lp (sub B [1, 1, 0, 1, 0, 0]) :: S1) _ _ _
  refine KR.run 6 [(3, .int .u16 t3), (6, .slice t6a t6n t6k), (7, .int .i64 t7), (8, .int .i64 t8), (9, .bool (decide (t8 < t7)))] 28 (s' := (.code (sub B [1, 1, 0, 1, 0, 0, 1, 0]) :: S3)) (by kernel_rfl) fun J => ?_
  by_cases c1 : t8 < t7
  · replace h := iteT c1 h
    refine KR.br true (by kernel_rfl) (vB (dT c1)) ?_
    obtain ⟨t6ab, t6ao, rfl, h⟩ := h
    refine KR.run 5 [(3, .int .u16 t3), (6, .slice (some ⟨t6ab, t6ao, none⟩) t6n t6k), (7, .int .i64 t7), (8, .int .i64 t8)] 28 (s' := (.reg (opsAt (sub B [1, 1, 0, 1, 0, 0, 1, 1, 0, 0, 0])) [0, 1, 2] :: S6)) (by kernel_rfl) fun J => ?_
    obtain ⟨q2, q2x, h⟩ := h
    refine KR.p (one_ix 1 t6ab t6ao (by kernel_rfl) q2 q2x) ?_
    obtain ⟨t11, q3, h⟩ := h
    refine KR.rd (one_ld (by kernel_rfl) q3) ?_
    exact KR.run 16 [(3, .int .u16 (ixor .u16 t3 (IntKind.wrap .u16 t11))), (6, .slice (some ⟨t6ab, t6ao, none⟩) t6n t6k), (7, .int .i64 t7), (8, .int .i64 t8), (16, .int .i64 0)] 28 (s' := (.lp (sub B [1, 1, 0, 1, 0, 0, 1, 1, 0, 0, 1, 1, 1, 0, 0]) :: S7)) (by kernel_rfl) h
  · replace h := iteF c1 h
    refine KR.br false (by kernel_rfl) (vB (dF c1)) ?_
    refine KR.run 6 [(2, .int .u16 t3)] 28 (s' := (.code (sub B [1, 1, 1, 1]) :: [])) (by kernel_rfl) fun J => ?_
    exact KR.fin (by kernel_rfl) h
theorem L1_step {t3 : Int} {t6b : Nat} {t6o : Nat} {t6n : Nat} {t6k : Nat} {t7 : Int} {t8 : Int} {t16 : Int} {H : Heap} {r : Value × Heap} (h :
    if t16 < 8 then
    (L1 ((ixor .u16 (ishr .u16 t3 1) (iand .u16 33800 (IntKind.wrap .u16 (0 - (iand .u16 t3 1)))))) (t6b) (t6o) (t6n) (t6k) (t7) (t8) ((IntKind.wrap .i64 (t16 + 1))) H r)
    else
    (L0 (t3) ((some ⟨t6b, t6o, none⟩)) (t6n) (t6k) (t7) ((IntKind.wrap .i64 (t8 + 1))) H r)) :
    L1 t3 t6b t6o t6n t6k t7 t8 t16 H r := by
  intro J
  show KR _ _ _ (.lp (sub B [1, 1, 0, 1, 0, 0, 1, 1, 0, 0, 1, 1, 1, 0, 0]) :: S7) _ _ _
  refine KR.run 6 [(3, .int .u16 t3), (6, .slice (some ⟨t6b, t6o, none⟩) t6n t6k), (7, .int .i64 t7), (8, .int .i64 t8), (16, .int .i64 t16), (17, .bool (decide (t16 < 8)))] 28 (s' := (.code (sub B [1, 1, 0, 1, 0, 0, 1, 1, 0, 0, 1, 1, 1, 0, 0, 1, 0]) :: S9)) (by kernel_rfl) fun J => ?_
  by_cases c4 : t16 < 8
  · replace h := iteT c4 h
    refine KR.br true (by kernel_rfl) (vB (dT c4)) ?_
    exact KR.run 18 [(3, .int .u16 (ixor .u16 (ishr .u16 t3 1) (iand .u16 33800 (IntKind.wrap .u16 (0 - (iand .u16 t3 1)))))), (6, .slice (some ⟨t6b, t6o, none⟩) t6n t6k), (7, .int .i64 t7), (8, .int .i64 t8), (16, .int .i64 (IntKind.wrap .i64 (t16 + 1)))] 28 (s' := (.lp (sub B [1, 1, 0, 1, 0, 0, 1, 1, 0, 0, 1, 1, 1, 0, 0]) :: S7)) (by kernel_rfl) h
  · replace h := iteF c4 h
    refine KR.br false (by kernel_rfl) (vB (dF c4)) ?_
    exact KR.run 6 [(3, .int .u16 t3), (6, .slice (some ⟨t6b, t6o, none⟩) t6n t6k), (7, .int .i64 t7), (8, .int .i64 (IntKind.wrap .i64 (t8 + 1)))] 28 (s' := (.lp (sub B [1, 1, 0, 1, 0, 0]) :: S1)) (by kernel_rfl) h
theorem call {a0a : Option Addr} {a0n : Nat} {a0k : Nat} {H : Heap} {r : Value × Heap} (h :
    L0 0 (a0a) (a0n) (a0k) (((a0n : Nat) : Int)) 0 H r) :
    xC Try.prog good 11 [.slice a0a a0n a0k] H = some r := by
  refine KR.enter (fn := Try.f11) (c := B) (by kernel_rfl) (by kernel_rfl) ?_
  exact KR.run 17 [(3, .int .u16 0), (6, .slice a0a a0n a0k), (7, .int .i64 ((a0n : Nat) : Int)), (8, .int .i64 0)] 28 (s' := (.lp (sub B [1, 1, 0, 1, 0, 0]) :: S1)) (by kernel_rfl) h
end F11
/-! #### 12 campanile/campanilelaw2.awake -/
namespace F12
noncomputable def B : Code := bodyOf Try.f12
noncomputable def S0 : List It := (.code (sub B [1, 1]) :: [])
theorem call  {H : Heap} {r : Value × Heap} (h :
    ∃ (H_1 : Heap), H_1 = H.push (.row [.int .u8 49, .int .u8 50, .int .u8 51, .int .u8 52, .int .u8 53, .int .u8 54, .int .u8 55, .int .u8 56, .int .u8 57] true) ∧
    (pmark H_1 (some ⟨H.next, 0, none⟩) = some () ∧
    (∃ (t3 : Int) (H_2 : Heap), xC Try.prog good 11 [.slice (some ⟨H.next, 0, none⟩) 9 (UNK 1)] H_1 = some (.int .u16 t3, H_2) ∧
    (r = (.bool (t3 == 8585), H_2))))) :
    xC Try.prog good 12 [] H = some r := by
  refine KR.enter (fn := Try.f12) (c := B) (by kernel_rfl) (by kernel_rfl) ?_
  refine KR.run 6 [] 5 (s' := (.reg (opsAt (sub B [1, 0])) [0, 1, 2, 3, 4] :: S0)) (by kernel_rfl) fun J => ?_
  obtain ⟨H_1, q1, h⟩ := h
  refine KR.mk (w := sRow 9 1 [.int .u8 49, .int .u8 50, .int .u8 51, .int .u8 52, .int .u8 53, .int .u8 54, .int .u8 55, .int .u8 56, .int .u8 57]) (one_al (by kernel_rfl)) q1 ?_
  obtain ⟨q2, h⟩ := h
  refine KR.se (one_ma 9 (UNK 1) (by kernel_rfl) q2) ?_
  obtain ⟨t3, H_2, q3, h⟩ := h
  refine KR.se (one_ca (by kernel_rfl) q3) ?_
  refine KR.run 3 [(0, .bool (t3 == 8585))] 5 (s' := (.code (sub B [1, 1]) :: [])) (by kernel_rfl) fun J => ?_
  exact KR.fin (by kernel_rfl) h
end F12
/-! #### 13 campanile/campanilelaw17.awake -/
namespace F13
noncomputable def B : Code := bodyOf Try.f13
noncomputable def S0 : List It := (.code (sub B [1, 1]) :: [])
noncomputable def S1 : List It := (.code (sub B [1, 1, 1]) :: [])
theorem call  {H : Heap} {r : Value × Heap} (h :
    ∃ (H_1 : Heap), H_1 = H.push (.row [.int .u8 97, .int .u8 98] true) ∧
    (pmark H_1 (some ⟨H.next, 0, none⟩) = some () ∧
    (∃ (t5 : Int) (H_2 : Heap), xC Try.prog good 14 [.int .u64 5, .slice (some ⟨H.next, 0, none⟩) 2 (UNK 1)] H_1 = some (.int .u32 t5, H_2) ∧
    (∃ (H_3 : Heap), H_3 = H_2.push (.row [.int .u8 97, .int .u8 99] true) ∧
    (pmark H_3 (some ⟨H_2.next, 0, none⟩) = some () ∧
    (∃ (t8 : Int) (H_4 : Heap), xC Try.prog good 14 [.int .u64 5, .slice (some ⟨H_2.next, 0, none⟩) 2 (UNK 1)] H_3 = some (.int .u32 t8, H_4) ∧
    (if t5 = t8 then
    (r = (.bool false, H_4))
    else
    (∃ (H_5 : Heap), H_5 = H_4.push (.row [.int .u8 97, .int .u8 98] true) ∧
    (pmark H_5 (some ⟨H_4.next, 0, none⟩) = some () ∧
    (∃ (t16 : Bool) (H_6 : Heap), xC Try.prog good 16 [.int .u64 5, .slice (some ⟨H_4.next, 0, none⟩) 2 (UNK 1), .int .u32 t5] H_5 = some (.bool t16, H_6) ∧
    (if t16 = true then
    (∃ (H_7 : Heap), H_7 = H_6.push (.row [.int .u8 97, .int .u8 98] true) ∧
    (pmark H_7 (some ⟨H_6.next, 0, none⟩) = some () ∧
    (∃ (t22 : Bool) (H_8 : Heap), xC Try.prog good 16 [.int .u64 5, .slice (some ⟨H_6.next, 0, none⟩) 2 (UNK 1), .int .u32 t8] H_7 = some (.bool t22, H_8) ∧
    (r = (.bool (!t22), H_8)))))
    else
    (r = (.bool false, H_6))))))))))))) :
    xC Try.prog good 13 [] H = some r := by
  refine KR.enter (fn := Try.f13) (c := B) (by kernel_rfl) (by kernel_rfl) ?_
  refine KR.run 6 [] 25 (s' := (.reg (opsAt (sub B [1, 0])) [0, 1, 2, 3, 4, 5, 6, 7] :: S0)) (by kernel_rfl) fun J => ?_
  obtain ⟨H_1, q1, h⟩ := h
  refine KR.mk (w := sRow 2 1 [.int .u8 97, .int .u8 98]) (one_al (by kernel_rfl)) q1 ?_
  obtain ⟨q2, h⟩ := h
  refine KR.se (one_ma 2 (UNK 1) (by kernel_rfl) q2) ?_
  obtain ⟨t5, H_2, q3, h⟩ := h
  refine KR.se (one_ca (by kernel_rfl) q3) ?_
  obtain ⟨H_3, q4, h⟩ := h
  refine KR.mk (w := sRow 2 1 [.int .u8 97, .int .u8 99]) (one_al (by kernel_rfl)) q4 ?_
  obtain ⟨q5, h⟩ := h
  refine KR.se (one_ma 2 (UNK 1) (by kernel_rfl) q5) ?_
  obtain ⟨t8, H_4, q6, h⟩ := h
  refine KR.se (one_ca (by kernel_rfl) q6) ?_
  refine KR.run 9 [(1, .int .u32 t5), (2, .int .u32 t8), (12, .bool (!(t5 == t8)))] 25 (s' := (.reg (opsAt (sub B [1, 1, 0])) [4, 5, 6, 7, 8, 9, 10, 11, 12, 13, 14, 15, 16] :: S1)) (by kernel_rfl) fun J => ?_
  by_cases c7 : t5 = t8
  · replace h := iteT c7 h
    refine KR.setV 12 (by kernel_rfl) (nB (eT c7)) ?_
    refine KR.run 14 [(0, .bool false)] 25 (s' := (.code (sub B [1, 1, 1]) :: [])) (by kernel_rfl) fun J => ?_
    exact KR.fin (by kernel_rfl) h
  · replace h := iteF c7 h
    refine KR.setV 12 (by kernel_rfl) (nB (eF c7)) ?_
    obtain ⟨H_5, q8, h⟩ := h
    refine KR.mk (w := sRow 2 1 [.int .u8 97, .int .u8 98]) (one_al (by kernel_rfl)) q8 ?_
    obtain ⟨q9, h⟩ := h
    refine KR.se (one_ma 2 (UNK 1) (by kernel_rfl) q9) ?_
    refine KR.run 1 [(2, .int .u32 t8), (12, .bool true), (14, .slice (some ⟨H_4.next, 0, none⟩) 2 (UNK 1)), (15, .int .u32 t5)] 25 (s' := (.reg (opsAt (sub B [1, 1, 0])) [7, 8, 9, 10, 11, 12, 13, 14, 15, 16] :: S1)) (by kernel_rfl) fun J => ?_
    obtain ⟨t16, H_6, q10, h⟩ := h
    refine KR.se (one_ca (by kernel_rfl) q10) ?_
    refine KR.run 2 [(2, .int .u32 t8), (18, .bool t16)] 25 (s' := (.reg (opsAt (sub B [1, 1, 0])) [10, 11, 12, 13, 14, 15, 16] :: S1)) (by kernel_rfl) fun J => ?_
    by_cases c11 : t16 = true
    · replace h := iteT c11 h
      refine KR.setV 18 (by kernel_rfl) (bT c11) ?_
      obtain ⟨H_7, q12, h⟩ := h
      refine KR.mk (w := sRow 2 1 [.int .u8 97, .int .u8 98]) (one_al (by kernel_rfl)) q12 ?_
      obtain ⟨q13, h⟩ := h
      refine KR.se (one_ma 2 (UNK 1) (by kernel_rfl) q13) ?_
      refine KR.run 1 [(18, .bool true), (20, .slice (some ⟨H_6.next, 0, none⟩) 2 (UNK 1)), (21, .int .u32 t8)] 25 (s' := (.reg (opsAt (sub B [1, 1, 0])) [13, 14, 15, 16] :: S1)) (by kernel_rfl) fun J => ?_
      obtain ⟨t22, H_8, q14, h⟩ := h
      refine KR.se (one_ca (by kernel_rfl) q14) ?_
      refine KR.run 4 [(0, .bool (!t22))] 25 (s' := (.code (sub B [1, 1, 1]) :: [])) (by kernel_rfl) fun J => ?_
      exact KR.fin (by kernel_rfl) h
    · replace h := iteF c11 h
      refine KR.setV 18 (by kernel_rfl) (bF c11) ?_
      refine KR.run 8 [(0, .bool false)] 25 (s' := (.code (sub B [1, 1, 1]) :: [])) (by kernel_rfl) fun J => ?_
      exact KR.fin (by kernel_rfl) h
end F13
/-! #### 14 campanile/seal.Tag -/
namespace F14
noncomputable def B : Code := bodyOf Try.f14
noncomputable def S0 : List It := (.code (sub B [1]) :: [])
noncomputable def S1 : List It := (.code (sub B [1, 1]) :: [])
noncomputable def S2 : List It := (.code (sub B [1, 1, 1]) :: [])
noncomputable def S3 : List It := (.code (sub B [1, 1, 1, 1, 1]) :: [])
noncomputable def S4 : List It := (.code (sub B [1, 1, 1, 1, 1, 1]) :: [])
noncomputable def S11 : List It := (.code (sub B [1, 1, 1, 1, 1, 1, 1]) :: [])
noncomputable def S12 : List It := (.code (sub B [1, 1, 1, 1, 1, 1, 1, 1]) :: [])
noncomputable def S5 : List It := (.blk 0 :: S4)
noncomputable def S6 : List It := (.lp (sub B [1, 1, 1, 1, 1, 0, 1, 0, 0]) :: S5)
noncomputable def S7 : List It := (.code (sub B [1, 1, 1, 1, 1, 0, 1, 0, 0, 1, 1]) :: S6)
noncomputable def S8 : List It := (.code (sub B [1, 1, 1, 1, 1, 0, 1, 0, 0, 1, 1, 1]) :: S6)
noncomputable def S9 : List It := (.blk 1 :: S8)
noncomputable def S10 : List It := (.code (sub B [1, 1, 1, 1, 1, 0, 1, 0, 0, 1, 1, 0, 0, 1]) :: S9)
def L0 (t5b : Nat) (t5o : Nat) (t6b : Nat) (t6o : Nat) (t7d0b : Nat) (t7d0o : Nat) (t7d1b : Nat) (t7d1o : Nat) (t14a : Option Addr) (t14n : Nat) (t14k : Nat) (t15 : Int) (t16 : Int) (H : Heap) (r : Value × Heap) : Prop := ∀ J, KR Try.prog good Try.f14 S6 (mat J 27 [(5, .pointer (some ⟨t5b, t5o, none⟩)), (6, .pointer (some ⟨t6b, t6o, none⟩)), (7, .func (.func 23) #[] #[.pointer (some ⟨t7d0b, t7d0o, none⟩), .pointer (some ⟨t7d1b, t7d1o, none⟩)]), (14, .slice t14a t14n t14k), (15, .int .i64 t15), (16, .int .i64 t16)]) H r
theorem L0_step {t5b : Nat} {t5o : Nat} {t6b : Nat} {t6o : Nat} {t7d0b : Nat} {t7d0o : Nat} {t7d1b : Nat} {t7d1o : Nat} {t14a : Option Addr} {t14n : Nat} {t14k : Nat} {t15 : Int} {t16 : Int} {H : Heap} {r : Value × Heap} (h :
    if t16 < t15 then
    (∃ (t14ab t14ao : Nat), t14a = some ⟨t14ab, t14ao, none⟩ ∧
    (0 ≤ t16 ∧ t16 < ((t14n : Nat) : Int) ∧
    (∃ (t19 : Int), ldc H t14ab (t14ao + Int.toNat t16 * 1) = some (.int .u8 t19) ∧
    (∃ (t20 : Value), ldc H t6b t6o = some (t20) ∧
    (∃ (t20g : Nat) (t20x t20y : Array Value), t20 = .func (.func t20g) t20x t20y ∧
    (fnGoes Try.prog t20g = true ∧ ∃ (H_1 : Heap), xC Try.prog good t20g (Array.toList t20x ++ [.int .u8 t19] ++ Array.toList t20y) H = some (.tuple #[], H_1) ∧
    (L0 (t5b) (t5o) (t6b) (t6o) (t7d0b) (t7d0o) (t7d1b) (t7d1o) ((some ⟨t14ab, t14ao, none⟩)) (t14n) (t14k) (t15) ((IntKind.wrap .i64 (t16 + 1))) H_1 r)))))))
    else
    (∃ (H_2 : Heap), xC Try.prog good 23 [.pointer (some ⟨t7d0b, t7d0o, none⟩), .pointer (some ⟨t7d1b, t7d1o, none⟩)] H = some (.tuple #[], H_2) ∧
    (∃ (t26 : Int), ldc H_2 t5b t5o = some (.int .u32 t26) ∧
    (r = (.int .u32 t26, H_2))))) :
    L0 t5b t5o t6b t6o t7d0b t7d0o t7d1b t7d1o t14a t14n t14k t15 t16 H r := by
  intro J
  show KR _ _ _ (.lp (sub B [1, 1, 1, 1, 1, 0, 1, 0, 0]) :: S5) _ _ _
  refine KR.run 6 [(5, .pointer (some ⟨t5b, t5o, none⟩)), (6, .pointer (some ⟨t6b, t6o, none⟩)), (7, .func (.func 23) #[] #[.pointer (some ⟨t7d0b, t7d0o, none⟩), .pointer (some ⟨t7d1b, t7d1o, none⟩)]), (14, .slice t14a t14n t14k), (15, .int .i64 t15), (16, .int .i64 t16), (17, .bool (decide (t16 < t15)))] 27 (s' := (.code (sub B [1, 1, 1, 1, 1, 0, 1, 0, 0, 1, 0]) :: S7)) (by kernel_rfl) fun J => ?_
  by_cases c7 : t16 < t15
  · replace h := iteT c7 h
    refine KR.br true (by kernel_rfl) (vB (dT c7)) ?_
    obtain ⟨t14ab, t14ao, rfl, h⟩ := h
    refine KR.run 5 [(5, .pointer (some ⟨t5b, t5o, none⟩)), (6, .pointer (some ⟨t6b, t6o, none⟩)), (7, .func (.func 23) #[] #[.pointer (some ⟨t7d0b, t7d0o, none⟩), .pointer (some ⟨t7d1b, t7d1o, none⟩)]), (14, .slice (some ⟨t14ab, t14ao, none⟩) t14n t14k), (15, .int .i64 t15), (16, .int .i64 t16)] 27 (s' := (.reg (opsAt (sub B [1, 1, 1, 1, 1, 0, 1, 0, 0, 1, 1, 0, 0, 0])) [0, 1, 2] :: S10)) (by kernel_rfl) fun J => ?_
    obtain ⟨q8, q8x, h⟩ := h
    refine KR.p (one_ix 1 t14ab t14ao (by kernel_rfl) q8 q8x) ?_
    obtain ⟨t19, q9, h⟩ := h
    refine KR.rd (one_ld (by kernel_rfl) q9) ?_
    refine KR.run 3 [(5, .pointer (some ⟨t5b, t5o, none⟩)), (6, .pointer (some ⟨t6b, t6o, none⟩)), (7, .func (.func 23) #[] #[.pointer (some ⟨t7d0b, t7d0o, none⟩), .pointer (some ⟨t7d1b, t7d1o, none⟩)]), (9, .int .u8 t19), (14, .slice (some ⟨t14ab, t14ao, none⟩) t14n t14k), (15, .int .i64 t15), (16, .int .i64 t16)] 27 (s' := (.reg (opsAt (sub B [1, 1, 1, 1, 1, 0, 1, 0, 0, 1, 1, 0, 0, 1])) [0, 1, 2] :: S9)) (by kernel_rfl) fun J => ?_
    obtain ⟨t20, q10, h⟩ := h
    refine KR.rd (one_ld (by kernel_rfl) q10) ?_
    refine KR.run 1 [(5, .pointer (some ⟨t5b, t5o, none⟩)), (6, .pointer (some ⟨t6b, t6o, none⟩)), (7, .func (.func 23) #[] #[.pointer (some ⟨t7d0b, t7d0o, none⟩), .pointer (some ⟨t7d1b, t7d1o, none⟩)]), (14, .slice (some ⟨t14ab, t14ao, none⟩) t14n t14k), (15, .int .i64 t15), (16, .int .i64 t16), (20, t20), (21, .int .u8 t19)] 27 (s' := (.reg (opsAt (sub B [1, 1, 1, 1, 1, 0, 1, 0, 0, 1, 1, 0, 0, 1])) [2] :: S9)) (by kernel_rfl) fun J => ?_
    obtain ⟨t20g, t20x, t20y, rfl, h⟩ := h
    obtain ⟨q12x, H_1, q12, h⟩ := h
    refine KR.se (one_fv (by kernel_rfl) q12x q12) ?_
    exact KR.run 6 [(5, .pointer (some ⟨t5b, t5o, none⟩)), (6, .pointer (some ⟨t6b, t6o, none⟩)), (7, .func (.func 23) #[] #[.pointer (some ⟨t7d0b, t7d0o, none⟩), .pointer (some ⟨t7d1b, t7d1o, none⟩)]), (14, .slice (some ⟨t14ab, t14ao, none⟩) t14n t14k), (15, .int .i64 t15), (16, .int .i64 (IntKind.wrap .i64 (t16 + 1)))] 27 (s' := (.lp (sub B [1, 1, 1, 1, 1, 0, 1, 0, 0]) :: S5)) (by kernel_rfl) h
  · replace h := iteF c7 h
    refine KR.br false (by kernel_rfl) (vB (dF c7)) ?_
    refine KR.run 4 [(5, .pointer (some ⟨t5b, t5o, none⟩)), (24, .func (.func 23) #[] #[.pointer (some ⟨t7d0b, t7d0o, none⟩), .pointer (some ⟨t7d1b, t7d1o, none⟩)])] 27 (s' := (.reg (opsAt (sub B [1, 1, 1, 1, 1, 1, 0])) [1] :: S11)) (by kernel_rfl) fun J => ?_
    obtain ⟨H_2, q13, h⟩ := h
    refine KR.se (one_ca (by kernel_rfl) q13) ?_
    refine KR.run 3 [(5, .pointer (some ⟨t5b, t5o, none⟩))] 27 (s' := (.reg (opsAt (sub B [1, 1, 1, 1, 1, 1, 1, 0])) [0, 1] :: S12)) (by kernel_rfl) fun J => ?_
    obtain ⟨t26, q14, h⟩ := h
    refine KR.rd (one_ld (by kernel_rfl) q14) ?_
    refine KR.run 2 [(4, .int .u32 t26)] 27 (s' := (.code (sub B [1, 1, 1, 1, 1, 1, 1, 1]) :: [])) (by kernel_rfl) fun J => ?_
    exact KR.fin (by kernel_rfl) h
theorem call {a0 : Int} {a1a : Option Addr} {a1n : Nat} {a1k : Nat} {H : Heap} {r : Value × Heap} (h :
    ∃ (H_1 : Heap), H_1 = H.push (.row [.int .u64 a0] true) ∧
    (∃ (H_2 : Heap), H_2 = H_1.push (.row [.int .u32 0] true) ∧
    (∃ (H_3 : Heap), stc H_2 H_1.next 0 [.int .u32 2166136261] = some H_3 ∧
    (∃ (H_4 : Heap), H_4 = H_3.push (.row [.nilFunc] true) ∧
    (∃ (H_5 : Heap), stc H_4 H_3.next 0 [.func (.func 22) #[] #[.pointer (some ⟨H_1.next, 0, none⟩)]] = some H_5 ∧
    (∃ (H_6 : Heap), xC Try.prog good 23 [.pointer (some ⟨H_3.next, 0, none⟩), .pointer (some ⟨H.next, 0, none⟩)] H_5 = some (.tuple #[], H_6) ∧
    (L0 (H_1.next) (0) (H_3.next) (0) (H_3.next) (0) (H.next) (0) (a1a) (a1n) (a1k) (((a1n : Nat) : Int)) 0 H_6 r))))))) :
    xC Try.prog good 14 [.int .u64 a0, .slice a1a a1n a1k] H = some r := by
  refine KR.enter (fn := Try.f14) (c := B) (by kernel_rfl) (by kernel_rfl) ?_
  refine KR.run 2 [(0, .int .u64 a0), (1, .slice a1a a1n a1k)] 27 (s' := (.reg (opsAt (sub B [0])) [0, 1] :: S0)) (by kernel_rfl) fun J => ?_
  obtain ⟨H_1, q1, h⟩ := h
  refine KR.mk (w := pRow [.int .u64 a0]) (one_al (by kernel_rfl)) q1 ?_
  refine KR.run 4 [(1, .slice a1a a1n a1k), (2, .pointer (some ⟨H.next, 0, none⟩))] 27 (s' := (.reg (opsAt (sub B [1, 0])) [0, 1] :: S1)) (by kernel_rfl) fun J => ?_
  obtain ⟨H_2, q2, h⟩ := h
  refine KR.mk (w := pRow [.int .u32 0]) (one_al (by kernel_rfl)) q2 ?_
  obtain ⟨H_3, q3, h⟩ := h
  refine KR.se (one_st (by kernel_rfl) q3) ?_
  refine KR.run 4 [(1, .slice a1a a1n a1k), (2, .pointer (some ⟨H.next, 0, none⟩)), (5, .pointer (some ⟨H_1.next, 0, none⟩)), (10, .func (.func 22) #[] #[.pointer (some ⟨H_1.next, 0, none⟩)])] 27 (s' := (.reg (opsAt (sub B [1, 1, 0])) [1, 2] :: S2)) (by kernel_rfl) fun J => ?_
  obtain ⟨H_4, q4, h⟩ := h
  refine KR.mk (w := pRow [.nilFunc]) (one_al (by kernel_rfl)) q4 ?_
  obtain ⟨H_5, q5, h⟩ := h
  refine KR.se (one_st (by kernel_rfl) q5) ?_
  refine KR.run 9 [(1, .slice a1a a1n a1k), (5, .pointer (some ⟨H_1.next, 0, none⟩)), (6, .pointer (some ⟨H_3.next, 0, none⟩)), (7, .func (.func 23) #[] #[.pointer (some ⟨H_3.next, 0, none⟩), .pointer (some ⟨H.next, 0, none⟩)]), (12, .func (.func 23) #[] #[.pointer (some ⟨H_3.next, 0, none⟩), .pointer (some ⟨H.next, 0, none⟩)])] 27 (s' := (.reg (opsAt (sub B [1, 1, 1, 1, 0])) [1] :: S3)) (by kernel_rfl) fun J => ?_
  obtain ⟨H_6, q6, h⟩ := h
  refine KR.se (one_ca (by kernel_rfl) q6) ?_
  exact KR.run 10 [(5, .pointer (some ⟨H_1.next, 0, none⟩)), (6, .pointer (some ⟨H_3.next, 0, none⟩)), (7, .func (.func 23) #[] #[.pointer (some ⟨H_3.next, 0, none⟩), .pointer (some ⟨H.next, 0, none⟩)]), (14, .slice a1a a1n a1k), (15, .int .i64 ((a1n : Nat) : Int)), (16, .int .i64 0)] 27 (s' := (.lp (sub B [1, 1, 1, 1, 1, 0, 1, 0, 0]) :: S5)) (by kernel_rfl) h
end F14
/-! #### 15 campanile/campanileref8.Tag -/
namespace F15
noncomputable def B : Code := bodyOf Try.f15
noncomputable def S0 : List It := (.code (sub B [1, 1]) :: [])
noncomputable def S1 : List It := (.code (sub B [1, 1, 1, 1]) :: [])
noncomputable def S2 : List It := (.blk 0 :: S1)
noncomputable def S3 : List It := (.lp (sub B [1, 1, 1, 0, 1, 0, 0]) :: S2)
noncomputable def S4 : List It := (.code (sub B [1, 1, 1, 0, 1, 0, 0, 1, 1]) :: S3)
noncomputable def S5 : List It := (.code (sub B [1, 1, 1, 0, 1, 0, 0, 1, 1, 1]) :: S3)
noncomputable def S6 : List It := (.blk 1 :: S5)
noncomputable def S7 : List It := (.code (sub B [1, 1, 1, 0, 1, 0, 0, 1, 1, 0, 0, 1]) :: S6)
noncomputable def S8 : List It := (.blk 2 :: S6)
noncomputable def S9 : List It := (.lp (sub B [1, 1, 1, 0, 1, 0, 0, 1, 1, 0, 0, 1, 1, 0, 0]) :: S8)
noncomputable def S10 : List It := (.code (sub B [1, 1, 1, 0, 1, 0, 0, 1, 1, 0, 0, 1, 1, 0, 0, 1, 1]) :: S9)
noncomputable def S11 : List It := (.code (sub B [1, 1, 1, 0, 1, 0, 0, 1, 1, 0, 0, 1, 1, 0, 0, 1, 1, 1]) :: S9)
noncomputable def S12 : List It := (.blk 3 :: S11)
noncomputable def S13 : List It := (.code (sub B [1, 1, 1, 0, 1, 0, 0, 1, 1, 0, 0, 1, 1, 0, 0, 1, 1, 0, 0, 1]) :: S12)
def L0 (t6 : Int) (t16c0a : Option Addr) (t16c0n : Nat) (t16c0k : Nat) (t16c1a : Option Addr) (t16c1n : Nat) (t16c1k : Nat) (t16c2a : Option Addr) (t16c2n : Nat) (t16c2k : Nat) (t17 : Int) (H : Heap) (r : Value × Heap) : Prop := ∀ J, KR Try.prog good Try.f15 S3 (mat J 34 [(6, .int .u32 t6), (16, .agg #[.slice t16c0a t16c0n t16c0k, .slice t16c1a t16c1n t16c1k, .slice t16c2a t16c2n t16c2k]), (17, .int .i64 t17)]) H r
def L1 (t6 : Int) (t16c0a : Option Addr) (t16c0n : Nat) (t16c0k : Nat) (t16c1a : Option Addr) (t16c1n : Nat) (t16c1k : Nat) (t16c2a : Option Addr) (t16c2n : Nat) (t16c2k : Nat) (t17 : Int) (t20a : Option Addr) (t20n : Nat) (t20k : Nat) (t21 : Int) (t22 : Int) (H : Heap) (r : Value × Heap) : Prop := ∀ J, KR Try.prog good Try.f15 S9 (mat J 34 [(6, .int .u32 t6), (16, .agg #[.slice t16c0a t16c0n t16c0k, .slice t16c1a t16c1n t16c1k, .slice t16c2a t16c2n t16c2k]), (17, .int .i64 t17), (20, .slice t20a t20n t20k), (21, .int .i64 t21), (22, .int .i64 t22)]) H r
theorem L0_step {t6 : Int} {t16c0a : Option Addr} {t16c0n : Nat} {t16c0k : Nat} {t16c1a : Option Addr} {t16c1n : Nat} {t16c1k : Nat} {t16c2a : Option Addr} {t16c2n : Nat} {t16c2k : Nat} {t17 : Int} {H : Heap} {r : Value × Heap} (h :
    if t17 < 3 then
    (∃ (t19a : Option Addr) (t19n : Nat) (t19k : Nat), pag [.slice t16c0a t16c0n t16c0k, .slice t16c1a t16c1n t16c1k, .slice t16c2a t16c2n t16c2k] t17 = some (.slice t19a t19n t19k) ∧
    (L1 (t6) (t16c0a) (t16c0n) (t16c0k) (t16c1a) (t16c1n) (t16c1k) (t16c2a) (t16c2n) (t16c2k) (t17) (t19a) (t19n) (t19k) (((t19n : Nat) : Int)) 0 H r))
    else
    (r = (.int .u32 t6, H))) :
    L0 t6 t16c0a t16c0n t16c0k t16c1a t16c1n t16c1k t16c2a t16c2n t16c2k t17 H r := by
  intro J
  show KR _ _ _ (.lp (sub B [1, 1, 1, 0, 1, 0, 0]) :: S2) _ _ _
  refine KR.run 6 [(6, .int .u32 t6), (16, .agg #[.slice t16c0a t16c0n t16c0k, .slice t16c1a t16c1n t16c1k, .slice t16c2a t16c2n t16c2k]), (17, .int .i64 t17), (18, .bool (decide (t17 < 3)))] 34 (s' := (.code (sub B [1, 1, 1, 0, 1, 0, 0, 1, 0]) :: S4)) (by kernel_rfl) fun J => ?_
  by_cases c2 : t17 < 3
  · replace h := iteT c2 h
    refine KR.br true (by kernel_rfl) (vB (dT c2)) ?_
    refine KR.run 5 [(6, .int .u32 t6), (16, .agg #[.slice t16c0a t16c0n t16c0k, .slice t16c1a t16c1n t16c1k, .slice t16c2a t16c2n t16c2k]), (17, .int .i64 t17)] 34 (s' := (.reg (opsAt (sub B [1, 1, 1, 0, 1, 0, 0, 1, 1, 0, 0, 0])) [0, 1] :: S7)) (by kernel_rfl) fun J => ?_
    obtain ⟨t19a, t19n, t19k, q3, h⟩ := h
    refine KR.p (one_ag (by kernel_rfl) q3) ?_
    exact KR.run 10 [(6, .int .u32 t6), (16, .agg #[.slice t16c0a t16c0n t16c0k, .slice t16c1a t16c1n t16c1k, .slice t16c2a t16c2n t16c2k]), (17, .int .i64 t17), (20, .slice t19a t19n t19k), (21, .int .i64 ((t19n : Nat) : Int)), (22, .int .i64 0)] 34 (s' := (.lp (sub B [1, 1, 1, 0, 1, 0, 0, 1, 1, 0, 0, 1, 1, 0, 0]) :: S8)) (by kernel_rfl) h
  · replace h := iteF c2 h
    refine KR.br false (by kernel_rfl) (vB (dF c2)) ?_
    refine KR.run 6 [(4, .int .u32 t6)] 34 (s' := (.code (sub B [1, 1, 1, 1, 1]) :: [])) (by kernel_rfl) fun J => ?_
    exact KR.fin (by kernel_rfl) h
theorem L1_step {t6 : Int} {t16c0a : Option Addr} {t16c0n : Nat} {t16c0k : Nat} {t16c1a : Option Addr} {t16c1n : Nat} {t16c1k : Nat} {t16c2a : Option Addr} {t16c2n : Nat} {t16c2k : Nat} {t17 : Int} {t20a : Option Addr} {t20n : Nat} {t20k : Nat} {t21 : Int} {t22 : Int} {H : Heap} {r : Value × Heap} (h :
    if t22 < t21 then
    (∃ (t20ab t20ao : Nat), t20a = some ⟨t20ab, t20ao, none⟩ ∧
    (0 ≤ t22 ∧ t22 < ((t20n : Nat) : Int) ∧
    (∃ (t25 : Int), ldc H t20ab (t20ao + Int.toNat t22 * 1) = some (.int .u8 t25) ∧
    (L1 ((IntKind.wrap .u32 ((ixor .u32 t6 (IntKind.wrap .u32 t25)) * 16777619))) (t16c0a) (t16c0n) (t16c0k) (t16c1a) (t16c1n) (t16c1k) (t16c2a) (t16c2n) (t16c2k) (t17) ((some ⟨t20ab, t20ao, none⟩)) (t20n) (t20k) (t21) ((IntKind.wrap .i64 (t22 + 1))) H r))))
    else
    (L0 (t6) (t16c0a) (t16c0n) (t16c0k) (t16c1a) (t16c1n) (t16c1k) (t16c2a) (t16c2n) (t16c2k) ((IntKind.wrap .i64 (t17 + 1))) H r)) :
    L1 t6 t16c0a t16c0n t16c0k t16c1a t16c1n t16c1k t16c2a t16c2n t16c2k t17 t20a t20n t20k t21 t22 H r := by
  intro J
  show KR _ _ _ (.lp (sub B [1, 1, 1, 0, 1, 0, 0, 1, 1, 0, 0, 1, 1, 0, 0]) :: S8) _ _ _
  refine KR.run 6 [(6, .int .u32 t6), (16, .agg #[.slice t16c0a t16c0n t16c0k, .slice t16c1a t16c1n t16c1k, .slice t16c2a t16c2n t16c2k]), (17, .int .i64 t17), (20, .slice t20a t20n t20k), (21, .int .i64 t21), (22, .int .i64 t22), (23, .bool (decide (t22 < t21)))] 34 (s' := (.code (sub B [1, 1, 1, 0, 1, 0, 0, 1, 1, 0, 0, 1, 1, 0, 0, 1, 0]) :: S10)) (by kernel_rfl) fun J => ?_
  by_cases c4 : t22 < t21
  · replace h := iteT c4 h
    refine KR.br true (by kernel_rfl) (vB (dT c4)) ?_
    obtain ⟨t20ab, t20ao, rfl, h⟩ := h
    refine KR.run 5 [(6, .int .u32 t6), (16, .agg #[.slice t16c0a t16c0n t16c0k, .slice t16c1a t16c1n t16c1k, .slice t16c2a t16c2n t16c2k]), (17, .int .i64 t17), (20, .slice (some ⟨t20ab, t20ao, none⟩) t20n t20k), (21, .int .i64 t21), (22, .int .i64 t22)] 34 (s' := (.reg (opsAt (sub B [1, 1, 1, 0, 1, 0, 0, 1, 1, 0, 0, 1, 1, 0, 0, 1, 1, 0, 0, 0])) [0, 1, 2] :: S13)) (by kernel_rfl) fun J => ?_
    obtain ⟨q5, q5x, h⟩ := h
    refine KR.p (one_ix 1 t20ab t20ao (by kernel_rfl) q5 q5x) ?_
    obtain ⟨t25, q6, h⟩ := h
    refine KR.rd (one_ld (by kernel_rfl) q6) ?_
    exact KR.run 15 [(6, .int .u32 (IntKind.wrap .u32 ((ixor .u32 t6 (IntKind.wrap .u32 t25)) * 16777619))), (16, .agg #[.slice t16c0a t16c0n t16c0k, .slice t16c1a t16c1n t16c1k, .slice t16c2a t16c2n t16c2k]), (17, .int .i64 t17), (20, .slice (some ⟨t20ab, t20ao, none⟩) t20n t20k), (21, .int .i64 t21), (22, .int .i64 (IntKind.wrap .i64 (t22 + 1)))] 34 (s' := (.lp (sub B [1, 1, 1, 0, 1, 0, 0, 1, 1, 0, 0, 1, 1, 0, 0]) :: S8)) (by kernel_rfl) h
  · replace h := iteF c4 h
    refine KR.br false (by kernel_rfl) (vB (dF c4)) ?_
    exact KR.run 6 [(6, .int .u32 t6), (16, .agg #[.slice t16c0a t16c0n t16c0k, .slice t16c1a t16c1n t16c1k, .slice t16c2a t16c2n t16c2k]), (17, .int .i64 (IntKind.wrap .i64 (t17 + 1)))] 34 (s' := (.lp (sub B [1, 1, 1, 0, 1, 0, 0]) :: S2)) (by kernel_rfl) h
theorem call {a0 : Int} {a1a : Option Addr} {a1n : Nat} {a1k : Nat} {H : Heap} {r : Value × Heap} (h :
    ∃ (t12a : Option Addr) (t12n : Nat) (t12k : Nat) (H_1 : Heap), xC Try.prog good 24 [.int .u64 a0, .int .i64 8] H = some (.slice t12a t12n t12k, H_1) ∧
    (L0 2166136261 (t12a) (t12n) (t12k) (a1a) (a1n) (a1k) (t12a) (t12n) (t12k) 0 H_1 r)) :
    xC Try.prog good 15 [.int .u64 a0, .slice a1a a1n a1k] H = some r := by
  refine KR.enter (fn := Try.f15) (c := B) (by kernel_rfl) (by kernel_rfl) ?_
  refine KR.run 7 [(1, .slice a1a a1n a1k), (11, .int .u64 a0)] 34 (s' := (.reg (opsAt (sub B [1, 0])) [1, 2] :: S0)) (by kernel_rfl) fun J => ?_
  obtain ⟨t12a, t12n, t12k, H_1, q1, h⟩ := h
  refine KR.se (one_ca (by kernel_rfl) q1) ?_
  exact KR.run 17 [(6, .int .u32 2166136261), (16, .agg #[.slice t12a t12n t12k, .slice a1a a1n a1k, .slice t12a t12n t12k]), (17, .int .i64 0)] 34 (s' := (.lp (sub B [1, 1, 1, 0, 1, 0, 0]) :: S2)) (by kernel_rfl) h
end F15
/-! #### 16 campanile/seal.Good -/
namespace F16
noncomputable def B : Code := bodyOf Try.f16
noncomputable def S0 : List It := (.code (sub B [1, 1]) :: [])
theorem call {a0 : Int} {a1a : Option Addr} {a1n : Nat} {a1k : Nat} {a2 : Int} {H : Heap} {r : Value × Heap} (h :
    ∃ (t9 : Int) (H_1 : Heap), xC Try.prog good 14 [.int .u64 a0, .slice a1a a1n a1k] H = some (.int .u32 t9, H_1) ∧
    (r = (.bool (t9 == a2), H_1))) :
    xC Try.prog good 16 [.int .u64 a0, .slice a1a a1n a1k, .int .u32 a2] H = some r := by
  refine KR.enter (fn := Try.f16) (c := B) (by kernel_rfl) (by kernel_rfl) ?_
  refine KR.run 8 [(2, .int .u32 a2), (7, .int .u64 a0), (8, .slice a1a a1n a1k)] 12 (s' := (.reg (opsAt (sub B [1, 0])) [2, 3, 4, 5] :: S0)) (by kernel_rfl) fun J => ?_
  obtain ⟨t9, H_1, q1, h⟩ := h
  refine KR.se (one_ca (by kernel_rfl) q1) ?_
  refine KR.run 4 [(6, .bool (t9 == a2))] 12 (s' := (.code (sub B [1, 1]) :: [])) (by kernel_rfl) fun J => ?_
  exact KR.fin (by kernel_rfl) h
end F16
/-! #### 17 campanile/crc.Append -/
namespace F17
noncomputable def B : Code := bodyOf Try.f17
noncomputable def S0 : List It := (.code (sub B [1, 1]) :: [])
noncomputable def S1 : List It := (.code (sub B [1, 1, 1]) :: [])
theorem call {a0a : Option Addr} {a0n : Nat} {a0k : Nat} {H : Heap} {r : Value × Heap} (h :
    ∃ (t5 : Int) (H_1 : Heap), xC Try.prog good 11 [.slice a0a a0n a0k] H = some (.int .u16 t5, H_1) ∧
    (∃ (t7a : Option Addr) (t7n : Nat) (t7k : Nat) (H_2 : Heap), xC Try.prog good 25 [.slice a0a a0n a0k] H_1 = some (.slice t7a t7n t7k, H_2) ∧
    (∃ (H_3 : Heap), H_3 = H_2.push (.row [.int .u8 (IntKind.wrap .u8 t5), .int .u8 (IntKind.wrap .u8 (ishr .u16 t5 8))] true) ∧
    (∃ (t14a : Option Addr) (t14n : Nat) (t14k : Nat) (H_4 : Heap), papp H_3 1 1 t7a t7n t7k (some ⟨H_2.next, 0, none⟩) 2 (UNK 1) = some ((t14a, t14n, t14k), H_4) ∧
    (r = (.slice t14a t14n t14k, H_4)))))) :
    xC Try.prog good 17 [.slice a0a a0n a0k] H = some r := by
  refine KR.enter (fn := Try.f17) (c := B) (by kernel_rfl) (by kernel_rfl) ?_
  refine KR.run 7 [(0, .slice a0a a0n a0k), (4, .slice a0a a0n a0k)] 15 (s' := (.reg (opsAt (sub B [1, 0])) [1, 2] :: S0)) (by kernel_rfl) fun J => ?_
  obtain ⟨t5, H_1, q1, h⟩ := h
  refine KR.se (one_ca (by kernel_rfl) q1) ?_
  refine KR.run 5 [(3, .int .u16 t5), (6, .slice a0a a0n a0k)] 15 (s' := (.reg (opsAt (sub B [1, 1, 0])) [1, 2, 3, 4, 5, 6, 7, 8, 9] :: S1)) (by kernel_rfl) fun J => ?_
  obtain ⟨t7a, t7n, t7k, H_2, q2, h⟩ := h
  refine KR.se (one_ca (by kernel_rfl) q2) ?_
  refine KR.run 5 [(7, .slice t7a t7n t7k), (9, .int .u8 (IntKind.wrap .u8 t5)), (12, .int .u8 (IntKind.wrap .u8 (ishr .u16 t5 8)))] 15 (s' := (.reg (opsAt (sub B [1, 1, 0])) [7, 8, 9] :: S1)) (by kernel_rfl) fun J => ?_
  obtain ⟨H_3, q3, h⟩ := h
  refine KR.mk (w := sRow 2 1 [.int .u8 (IntKind.wrap .u8 t5), .int .u8 (IntKind.wrap .u8 (ishr .u16 t5 8))]) (one_al (by kernel_rfl)) q3 ?_
  obtain ⟨t14a, t14n, t14k, H_4, q4, h⟩ := h
  refine KR.se (one_ap 1 1 (by kernel_rfl) q4) ?_
  refine KR.run 2 [(2, .slice t14a t14n t14k)] 15 (s' := (.code (sub B [1, 1, 1]) :: [])) (by kernel_rfl) fun J => ?_
  exact KR.fin (by kernel_rfl) h
end F17
/-! #### 18 campanile/campanileref1.Crc -/
namespace F18
noncomputable def B : Code := bodyOf Try.f18
noncomputable def S0 : List It := (.code (sub B [1, 1, 1]) :: [])
noncomputable def S1 : List It := (.blk 0 :: S0)
noncomputable def S2 : List It := (.lp (sub B [1, 1, 0, 1, 0, 0]) :: S1)
noncomputable def S3 : List It := (.code (sub B [1, 1, 0, 1, 0, 0, 1, 1]) :: S2)
noncomputable def S4 : List It := (.code (sub B [1, 1, 0, 1, 0, 0, 1, 1, 1]) :: S2)
noncomputable def S5 : List It := (.blk 1 :: S4)
noncomputable def S6 : List It := (.code (sub B [1, 1, 0, 1, 0, 0, 1, 1, 0, 0, 1]) :: S5)
noncomputable def S7 : List It := (.blk 2 :: S5)
noncomputable def S8 : List It := (.lp (sub B [1, 1, 0, 1, 0, 0, 1, 1, 0, 0, 1, 1, 1, 0, 0]) :: S7)
noncomputable def S9 : List It := (.code (sub B [1, 1, 0, 1, 0, 0, 1, 1, 0, 0, 1, 1, 1, 0, 0, 1, 1]) :: S8)
noncomputable def S10 : List It := (.code (sub B [1, 1, 0, 1, 0, 0, 1, 1, 0, 0, 1, 1, 1, 0, 0, 1, 1, 1]) :: S8)
noncomputable def S11 : List It := (.blk 3 :: S10)
def L0 (t3 : Int) (t6a : Option Addr) (t6n : Nat) (t6k : Nat) (t7 : Int) (t8 : Int) (H : Heap) (r : Value × Heap) : Prop := ∀ J, KR Try.prog good Try.f18 S2 (mat J 29 [(3, .int .u16 t3), (6, .slice t6a t6n t6k), (7, .int .i64 t7), (8, .int .i64 t8)]) H r
def L1 (t3 : Int) (t6b : Nat) (t6o : Nat) (t6n : Nat) (t6k : Nat) (t7 : Int) (t8 : Int) (t16 : Int) (H : Heap) (r : Value × Heap) : Prop := ∀ J, KR Try.prog good Try.f18 S8 (mat J 29 [(3, .int .u16 t3), (6, .slice (some ⟨t6b, t6o, none⟩) t6n t6k), (7, .int .i64 t7), (8, .int .i64 t8), (16, .int .i64 t16)]) H r
theorem L0_step {t3 : Int} {t6a : Option Addr} {t6n : Nat} {t6k : Nat} {t7 : Int} {t8 : Int} {H : Heap} {r : Value × Heap} (h :
    if t8 < t7 then
    (∃ (t6ab t6ao : Nat), t6a = some ⟨t6ab, t6ao, none⟩ ∧
    (0 ≤ t8 ∧ t8 < ((t6n : Nat) : Int) ∧
    (∃ (t11 : Int), ldc H t6ab (t6ao + Int.toNat t8 * 1) = some (.int .u8 t11) ∧
    (L1 ((ixor .u16 t3 (IntKind.wrap .u16 t11))) (t6ab) (t6ao) (t6n) (t6k) (t7) (t8) 0 H r))))
    else
    (r = (.int .u16 t3, H))) :
    L0 t3 t6a t6n t6k t7 t8 H r := by
  intro J
  show KR _ _ _ (.lp (sub B [1, 1, 0, 1, 0, 0]) :: S1) _ _ _
  refine KR.run 6 [(3, .int .u16 t3), (6, .slice t6a t6n t6k), (7, .int .i64 t7), (8, .int .i64 t8), (9, .bool (decide (t8 < t7)))] 29 (s' := (.code (sub B [1, 1, 0, 1, 0, 0, 1, 0]) :: S3)) (by kernel_rfl) fun J => ?_
  by_cases c1 : t8 < t7
  · replace h := iteT c1 h
    refine KR.br true (by kernel_rfl) (vB (dT c1)) ?_
    obtain ⟨t6ab, t6ao, rfl, h⟩ := h
    refine KR.run 5 [(3, .int .u16 t3), (6, .slice (some ⟨t6ab, t6ao, none⟩) t6n t6k), (7, .int .i64 t7), (8, .int .i64 t8)] 29 (s' := (.reg (opsAt (sub B [1, 1, 0, 1, 0, 0, 1, 1, 0, 0, 0])) [0, 1, 2] :: S6)) (by kernel_rfl) fun J => ?_
    obtain ⟨q2, q2x, h⟩ := h
    refine KR.p (one_ix 1 t6ab t6ao (by kernel_rfl) q2 q2x) ?_
    obtain ⟨t11, q3, h⟩ := h
    refine KR.rd (one_ld (by kernel_rfl) q3) ?_
    exact KR.run 16 [(3, .int .u16 (ixor .u16 t3 (IntKind.wrap .u16 t11))), (6, .slice (some ⟨t6ab, t6ao, none⟩) t6n t6k), (7, .int .i64 t7), (8, .int .i64 t8), (16, .int .i64 0)] 29 (s' := (.lp (sub B [1, 1, 0, 1, 0, 0, 1, 1, 0, 0, 1, 1, 1, 0, 0]) :: S7)) (by kernel_rfl) h
  · replace h := iteF c1 h
    refine KR.br false (by kernel_rfl) (vB (dF c1)) ?_
    refine KR.run 6 [(2, .int .u16 t3)] 29 (s' := (.code (sub B [1, 1, 1, 1]) :: [])) (by kernel_rfl) fun J => ?_
    exact KR.fin (by kernel_rfl) h
theorem L1_step {t3 : Int} {t6b : Nat} {t6o : Nat} {t6n : Nat} {t6k : Nat} {t7 : Int} {t8 : Int} {t16 : Int} {H : Heap} {r : Value × Heap} (h :
    if t16 < 8 then
    (if (iand .u16 t3 1) = 1 then
    (L1 ((ixor .u16 (ishr .u16 t3 1) 33800)) (t6b) (t6o) (t6n) (t6k) (t7) (t8) ((IntKind.wrap .i64 (t16 + 1))) H r)
    else
    (L1 ((ishr .u16 t3 1)) (t6b) (t6o) (t6n) (t6k) (t7) (t8) ((IntKind.wrap .i64 (t16 + 1))) H r))
    else
    (L0 (t3) ((some ⟨t6b, t6o, none⟩)) (t6n) (t6k) (t7) ((IntKind.wrap .i64 (t8 + 1))) H r)) :
    L1 t3 t6b t6o t6n t6k t7 t8 t16 H r := by
  intro J
  show KR _ _ _ (.lp (sub B [1, 1, 0, 1, 0, 0, 1, 1, 0, 0, 1, 1, 1, 0, 0]) :: S7) _ _ _
  refine KR.run 6 [(3, .int .u16 t3), (6, .slice (some ⟨t6b, t6o, none⟩) t6n t6k), (7, .int .i64 t7), (8, .int .i64 t8), (16, .int .i64 t16), (17, .bool (decide (t16 < 8)))] 29 (s' := (.code (sub B [1, 1, 0, 1, 0, 0, 1, 1, 0, 0, 1, 1, 1, 0, 0, 1, 0]) :: S9)) (by kernel_rfl) fun J => ?_
  by_cases c4 : t16 < 8
  · replace h := iteT c4 h
    refine KR.br true (by kernel_rfl) (vB (dT c4)) ?_
    refine KR.run 9 [(3, .int .u16 t3), (6, .slice (some ⟨t6b, t6o, none⟩) t6n t6k), (7, .int .i64 t7), (8, .int .i64 t8), (16, .int .i64 t16), (20, .bool ((iand .u16 t3 1) == 1))] 29 (s' := (.code (sub B [1, 1, 0, 1, 0, 0, 1, 1, 0, 0, 1, 1, 1, 0, 0, 1, 1, 0, 0, 1]) :: S11)) (by kernel_rfl) fun J => ?_
    by_cases c5 : (iand .u16 t3 1) = 1
    · replace h := iteT c5 h
      refine KR.br true (by kernel_rfl) (vB (eT c5)) ?_
      exact KR.run 11 [(3, .int .u16 (ixor .u16 (ishr .u16 t3 1) 33800)), (6, .slice (some ⟨t6b, t6o, none⟩) t6n t6k), (7, .int .i64 t7), (8, .int .i64 t8), (16, .int .i64 (IntKind.wrap .i64 (t16 + 1)))] 29 (s' := (.lp (sub B [1, 1, 0, 1, 0, 0, 1, 1, 0, 0, 1, 1, 1, 0, 0]) :: S7)) (by kernel_rfl) h
    · replace h := iteF c5 h
      refine KR.br false (by kernel_rfl) (vB (eF c5)) ?_
      exact KR.run 10 [(3, .int .u16 (ishr .u16 t3 1)), (6, .slice (some ⟨t6b, t6o, none⟩) t6n t6k), (7, .int .i64 t7), (8, .int .i64 t8), (16, .int .i64 (IntKind.wrap .i64 (t16 + 1)))] 29 (s' := (.lp (sub B [1, 1, 0, 1, 0, 0, 1, 1, 0, 0, 1, 1, 1, 0, 0]) :: S7)) (by kernel_rfl) h
  · replace h := iteF c4 h
    refine KR.br false (by kernel_rfl) (vB (dF c4)) ?_
    exact KR.run 6 [(3, .int .u16 t3), (6, .slice (some ⟨t6b, t6o, none⟩) t6n t6k), (7, .int .i64 t7), (8, .int .i64 (IntKind.wrap .i64 (t8 + 1)))] 29 (s' := (.lp (sub B [1, 1, 0, 1, 0, 0]) :: S1)) (by kernel_rfl) h
theorem call {a0a : Option Addr} {a0n : Nat} {a0k : Nat} {H : Heap} {r : Value × Heap} (h :
    L0 0 (a0a) (a0n) (a0k) (((a0n : Nat) : Int)) 0 H r) :
    xC Try.prog good 18 [.slice a0a a0n a0k] H = some r := by
  refine KR.enter (fn := Try.f18) (c := B) (by kernel_rfl) (by kernel_rfl) ?_
  exact KR.run 17 [(3, .int .u16 0), (6, .slice a0a a0n a0k), (7, .int .i64 ((a0n : Nat) : Int)), (8, .int .i64 0)] 29 (s' := (.lp (sub B [1, 1, 0, 1, 0, 0]) :: S1)) (by kernel_rfl) h
end F18
/-! #### 19 campanile/crc.Good -/
namespace F19
noncomputable def B : Code := bodyOf Try.f19
noncomputable def S0 : List It := (.code (sub B [1, 1, 1]) :: [])
theorem call {a0a : Option Addr} {a0n : Nat} {a0k : Nat} {H : Heap} {r : Value × Heap} (h :
    if (IntKind.wrap .i64 (((a0n : Nat) : Int) - 2)) ≥ 0 then
    (∃ (t12a : Option Addr) (t12n : Nat) (t12k : Nat), psl 1 a0a a0n a0k none (some (IntKind.wrap .i64 (((a0n : Nat) : Int) - 2))) none = some (t12a, t12n, t12k) ∧
    (∃ (t13a : Option Addr) (t13n : Nat) (t13k : Nat) (H_1 : Heap), xC Try.prog good 17 [.slice t12a t12n t12k] H = some (.slice t13a t13n t13k, H_1) ∧
    (∃ (t15 : Bool) (H_2 : Heap), xC Try.prog good 26 [.slice t13a t13n t13k, .slice a0a a0n a0k] H_1 = some (.bool t15, H_2) ∧
    (r = (.bool t15, H_2)))))
    else
    (r = (.bool false, H))) :
    xC Try.prog good 19 [.slice a0a a0n a0k] H = some r := by
  refine KR.enter (fn := Try.f19) (c := B) (by kernel_rfl) (by kernel_rfl) ?_
  refine KR.run 16 [(0, .slice a0a a0n a0k), (3, .int .i64 (IntKind.wrap .i64 (((a0n : Nat) : Int) - 2))), (9, .bool (decide ((IntKind.wrap .i64 (((a0n : Nat) : Int) - 2)) ≥ 0)))] 17 (s' := (.reg (opsAt (sub B [1, 1, 0])) [3, 4, 5, 6, 7, 8, 9, 10] :: S0)) (by kernel_rfl) fun J => ?_
  by_cases c1 : (IntKind.wrap .i64 (((a0n : Nat) : Int) - 2)) ≥ 0
  · replace h := iteT c1 h
    refine KR.setV 9 (by kernel_rfl) (dT c1) ?_
    refine KR.run 2 [(0, .slice a0a a0n a0k), (9, .bool true), (10, .slice a0a a0n a0k), (11, .int .i64 (IntKind.wrap .i64 (((a0n : Nat) : Int) - 2)))] 17 (s' := (.reg (opsAt (sub B [1, 1, 0])) [5, 6, 7, 8, 9, 10] :: S0)) (by kernel_rfl) fun J => ?_
    obtain ⟨t12a, t12n, t12k, q2, h⟩ := h
    refine KR.p (one_sl (by kernel_rfl) q2) ?_
    obtain ⟨t13a, t13n, t13k, H_1, q3, h⟩ := h
    refine KR.se (one_ca (by kernel_rfl) q3) ?_
    refine KR.run 1 [(9, .bool true), (13, .slice t13a t13n t13k), (14, .slice a0a a0n a0k)] 17 (s' := (.reg (opsAt (sub B [1, 1, 0])) [8, 9, 10] :: S0)) (by kernel_rfl) fun J => ?_
    obtain ⟨t15, H_2, q4, h⟩ := h
    refine KR.se (one_ca (by kernel_rfl) q4) ?_
    refine KR.run 3 [(2, .bool t15)] 17 (s' := (.code (sub B [1, 1, 1]) :: [])) (by kernel_rfl) fun J => ?_
    exact KR.fin (by kernel_rfl) h
  · replace h := iteF c1 h
    refine KR.setV 9 (by kernel_rfl) (dF c1) ?_
    refine KR.run 9 [(2, .bool false)] 17 (s' := (.code (sub B [1, 1, 1]) :: [])) (by kernel_rfl) fun J => ?_
    exact KR.fin (by kernel_rfl) h
end F19
/-! #### 21 campanile/campanileref1.Append -/
namespace F21
noncomputable def B : Code := bodyOf Try.f21
noncomputable def S0 : List It := (.code (sub B [1, 1]) :: [])
noncomputable def S1 : List It := (.code (sub B [1, 1, 1]) :: [])
theorem call {a0a : Option Addr} {a0n : Nat} {a0k : Nat} {H : Heap} {r : Value × Heap} (h :
    ∃ (t5 : Int) (H_1 : Heap), xC Try.prog good 18 [.slice a0a a0n a0k] H = some (.int .u16 t5, H_1) ∧
    (∃ (t7a : Option Addr) (t7n : Nat) (t7k : Nat) (H_2 : Heap), papp H_1 1 1 none 0 0 a0a a0n a0k = some ((t7a, t7n, t7k), H_2) ∧
    (∃ (H_3 : Heap), H_3 = H_2.push (.row [.int .u8 (IntKind.wrap .u8 t5), .int .u8 (IntKind.wrap .u8 (ishr .u16 t5 8))] true) ∧
    (∃ (t14a : Option Addr) (t14n : Nat) (t14k : Nat) (H_4 : Heap), papp H_3 1 1 t7a t7n t7k (some ⟨H_2.next, 0, none⟩) 2 (UNK 1) = some ((t14a, t14n, t14k), H_4) ∧
    (r = (.slice t14a t14n t14k, H_4)))))) :
    xC Try.prog good 21 [.slice a0a a0n a0k] H = some r := by
  refine KR.enter (fn := Try.f21) (c := B) (by kernel_rfl) (by kernel_rfl) ?_
  refine KR.run 7 [(0, .slice a0a a0n a0k), (4, .slice a0a a0n a0k)] 15 (s' := (.reg (opsAt (sub B [1, 0])) [1, 2] :: S0)) (by kernel_rfl) fun J => ?_
  obtain ⟨t5, H_1, q1, h⟩ := h
  refine KR.se (one_ca (by kernel_rfl) q1) ?_
  refine KR.run 5 [(3, .int .u16 t5), (6, .slice a0a a0n a0k)] 15 (s' := (.reg (opsAt (sub B [1, 1, 0])) [1, 2, 3, 4, 5, 6, 7, 8, 9] :: S1)) (by kernel_rfl) fun J => ?_
  obtain ⟨t7a, t7n, t7k, H_2, q2, h⟩ := h
  refine KR.se (one_ap 1 1 (by kernel_rfl) q2) ?_
  refine KR.run 5 [(7, .slice t7a t7n t7k), (9, .int .u8 (IntKind.wrap .u8 t5)), (12, .int .u8 (IntKind.wrap .u8 (ishr .u16 t5 8)))] 15 (s' := (.reg (opsAt (sub B [1, 1, 0])) [7, 8, 9] :: S1)) (by kernel_rfl) fun J => ?_
  obtain ⟨H_3, q3, h⟩ := h
  refine KR.mk (w := sRow 2 1 [.int .u8 (IntKind.wrap .u8 t5), .int .u8 (IntKind.wrap .u8 (ishr .u16 t5 8))]) (one_al (by kernel_rfl)) q3 ?_
  obtain ⟨t14a, t14n, t14k, H_4, q4, h⟩ := h
  refine KR.se (one_ap 1 1 (by kernel_rfl) q4) ?_
  refine KR.run 2 [(2, .slice t14a t14n t14k)] 15 (s' := (.code (sub B [1, 1, 1]) :: [])) (by kernel_rfl) fun J => ?_
  exact KR.fin (by kernel_rfl) h
end F21
/-! #### 22 campanile/seal.Tag$1 -/
namespace F22
noncomputable def B : Code := bodyOf Try.f22
theorem call {a0 : Int} {f0 : Option Addr} {H : Heap} {r : Value × Heap} (h :
    ∃ (f0b f0o : Nat), f0 = some ⟨f0b, f0o, none⟩ ∧
    (∃ (t3 : Int), ldc H f0b f0o = some (.int .u32 t3) ∧
    (∃ (H_1 : Heap), stc H f0b f0o [.int .u32 (IntKind.wrap .u32 ((ixor .u32 t3 (IntKind.wrap .u32 a0)) * 16777619))] = some H_1 ∧
    (r = (.tuple #[], H_1))))) :
    xC Try.prog good 22 [.int .u8 a0, .pointer f0] H = some r := by
  refine KR.enter (fn := Try.f22) (c := B) (by kernel_rfl) (by kernel_rfl) ?_
  refine KR.run 1 [(0, .int .u8 a0), (1, .pointer f0)] 8 (s' := (.reg (opsAt (sub B [])) [0, 1, 2, 3, 4, 5] :: [])) (by kernel_rfl) fun J => ?_
  obtain ⟨f0b, f0o, rfl, h⟩ := h
  obtain ⟨t3, q2, h⟩ := h
  refine KR.rd (one_ld (by kernel_rfl) q2) ?_
  refine KR.run 4 [(1, .pointer (some ⟨f0b, f0o, none⟩)), (7, .int .u32 (IntKind.wrap .u32 ((ixor .u32 t3 (IntKind.wrap .u32 a0)) * 16777619)))] 8 (s' := (.reg (opsAt (sub B [])) [5] :: [])) (by kernel_rfl) fun J => ?_
  obtain ⟨H_1, q3, h⟩ := h
  refine KR.se (one_st (by kernel_rfl) q3) ?_
  refine KR.run 1 [] 8 (s' := []) (by kernel_rfl) fun J => ?_
  exact KR.fin0 (by kernel_rfl) h
end F22
/-! #### 23 campanile/seal.Tag$2 -/
namespace F23
noncomputable def B : Code := bodyOf Try.f23
noncomputable def S0 : List It := (.blk 0 :: [])
noncomputable def S1 : List It := (.lp (sub B [1, 0, 0]) :: S0)
noncomputable def S2 : List It := (.code (sub B [1, 0, 0, 1, 1]) :: S1)
noncomputable def S3 : List It := (.code (sub B [1, 0, 0, 1, 1, 1]) :: S1)
noncomputable def S4 : List It := (.blk 1 :: S3)
def L0 (t0 : Option Addr) (t1 : Option Addr) (t3 : Int) (H : Heap) (r : Value × Heap) : Prop := ∀ J, KR Try.prog good Try.f23 S1 (mat J 15 [(0, .pointer t0), (1, .pointer t1), (3, .int .i64 t3)]) H r
theorem L0_step {t0 : Option Addr} {t1 : Option Addr} {t3 : Int} {H : Heap} {r : Value × Heap} (h :
    if t3 < 8 then
    (∃ (t0b t0o : Nat), t0 = some ⟨t0b, t0o, none⟩ ∧
    (∃ (t6 : Value), ldc H t0b t0o = some (t6) ∧
    (∃ (t1b t1o : Nat), t1 = some ⟨t1b, t1o, none⟩ ∧
    (∃ (t7 : Int), ldc H t1b t1o = some (.int .u64 t7) ∧
    (0 ≤ (IntKind.wrap .i64 (8 * (IntKind.wrap .i64 (7 - t3)))) ∧
    (∃ (t6g : Nat) (t6x t6y : Array Value), t6 = .func (.func t6g) t6x t6y ∧
    (fnGoes Try.prog t6g = true ∧ ∃ (H_1 : Heap), xC Try.prog good t6g (Array.toList t6x ++ [.int .u8 (IntKind.wrap .u8 (ishr .u64 t7 (IntKind.wrap .i64 (8 * (IntKind.wrap .i64 (7 - t3))))))] ++ Array.toList t6y) H = some (.tuple #[], H_1) ∧
    (L0 ((some ⟨t0b, t0o, none⟩)) ((some ⟨t1b, t1o, none⟩)) ((IntKind.wrap .i64 (t3 + 1))) H_1 r))))))))
    else
    (r = (.tuple #[], H))) :
    L0 t0 t1 t3 H r := by
  intro J
  show KR _ _ _ (.lp (sub B [1, 0, 0]) :: S0) _ _ _
  refine KR.run 6 [(0, .pointer t0), (1, .pointer t1), (3, .int .i64 t3), (4, .bool (decide (t3 < 8)))] 15 (s' := (.code (sub B [1, 0, 0, 1, 0]) :: S2)) (by kernel_rfl) fun J => ?_
  by_cases c1 : t3 < 8
  · replace h := iteT c1 h
    refine KR.br true (by kernel_rfl) (vB (dT c1)) ?_
    refine KR.run 8 [(0, .pointer t0), (1, .pointer t1), (2, .int .i64 t3), (3, .int .i64 t3)] 15 (s' := (.code (sub B [1, 0, 0, 1, 1, 0, 0, 1]) :: S4)) (by kernel_rfl) fun J => ?_
    refine KR.sd (by kernel_rfl) ?_
    refine KR.run 0 [(0, .pointer t0), (1, .pointer t1), (2, .int .i64 t3), (3, .int .i64 t3)] 15 (s' := (.reg (opsAt (sub B [1, 0, 0, 1, 1, 0, 0, 1])) [0, 1, 2, 3, 4, 5, 6, 7] :: S4)) (by kernel_rfl) fun J => ?_
    obtain ⟨t0b, t0o, rfl, h⟩ := h
    obtain ⟨t6, q3, h⟩ := h
    refine KR.rd (one_ld (by kernel_rfl) q3) ?_
    obtain ⟨t1b, t1o, rfl, h⟩ := h
    obtain ⟨t7, q5, h⟩ := h
    refine KR.rd (one_ld (by kernel_rfl) q5) ?_
    refine KR.run 3 [(0, .pointer (some ⟨t0b, t0o, none⟩)), (1, .pointer (some ⟨t1b, t1o, none⟩)), (3, .int .i64 t3), (6, t6), (7, .int .u64 t7), (10, .int .i64 (IntKind.wrap .i64 (8 * (IntKind.wrap .i64 (7 - t3)))))] 15 (s' := (.reg (opsAt (sub B [1, 0, 0, 1, 1, 0, 0, 1])) [5, 6, 7] :: S4)) (by kernel_rfl) fun J => ?_
    obtain ⟨q6, h⟩ := h
    refine KR.p (one_shr .u64 .i64 t7 (by kernel_rfl) q6) ?_
    refine KR.run 1 [(0, .pointer (some ⟨t0b, t0o, none⟩)), (1, .pointer (some ⟨t1b, t1o, none⟩)), (3, .int .i64 t3), (6, t6), (12, .int .u8 (IntKind.wrap .u8 (ishr .u64 t7 (IntKind.wrap .i64 (8 * (IntKind.wrap .i64 (7 - t3)))))))] 15 (s' := (.reg (opsAt (sub B [1, 0, 0, 1, 1, 0, 0, 1])) [7] :: S4)) (by kernel_rfl) fun J => ?_
    obtain ⟨t6g, t6x, t6y, rfl, h⟩ := h
    obtain ⟨q8x, H_1, q8, h⟩ := h
    refine KR.se (one_fv (by kernel_rfl) q8x q8) ?_
    exact KR.run 6 [(0, .pointer (some ⟨t0b, t0o, none⟩)), (1, .pointer (some ⟨t1b, t1o, none⟩)), (3, .int .i64 (IntKind.wrap .i64 (t3 + 1)))] 15 (s' := (.lp (sub B [1, 0, 0]) :: S0)) (by kernel_rfl) h
  · replace h := iteF c1 h
    refine KR.br false (by kernel_rfl) (vB (dF c1)) ?_
    refine KR.run 1 [] 15 (s' := []) (by kernel_rfl) fun J => ?_
    exact KR.fin0 (by kernel_rfl) h
theorem call {f0 : Option Addr} {f1 : Option Addr} {H : Heap} {r : Value × Heap} (h :
    L0 (f0) (f1) 0 H r) :
    xC Try.prog good 23 [.pointer f0, .pointer f1] H = some r := by
  refine KR.enter (fn := Try.f23) (c := B) (by kernel_rfl) (by kernel_rfl) ?_
  exact KR.run 6 [(0, .pointer f0), (1, .pointer f1), (3, .int .i64 0)] 15 (s' := (.lp (sub B [1, 0, 0]) :: S0)) (by kernel_rfl) h
end F23
/-! #### 24 campanile/campanileref1.Bytes -/
namespace F24
noncomputable def B : Code := bodyOf Try.f24
noncomputable def S0 : List It := (.code (sub B [1, 1, 1]) :: [])
noncomputable def S1 : List It := (.blk 0 :: S0)
noncomputable def S2 : List It := (.lp (sub B [1, 1, 0, 1, 0, 0]) :: S1)
noncomputable def S3 : List It := (.code (sub B [1, 1, 0, 1, 0, 0, 1]) :: S2)
noncomputable def S4 : List It := (.code (sub B [1, 1, 0, 1, 0, 0, 1, 1]) :: S2)
noncomputable def S5 : List It := (.blk 1 :: S4)
def L0 (t0 : Int) (t5a : Option Addr) (t5n : Nat) (t5k : Nat) (t6 : Int) (H : Heap) (r : Value × Heap) : Prop := ∀ J, KR Try.prog good Try.f24 S2 (mat J 23 [(0, .int .u64 t0), (5, .slice t5a t5n t5k), (6, .int .i64 t6)]) H r
theorem L0_step {t0 : Int} {t5a : Option Addr} {t5n : Nat} {t5k : Nat} {t6 : Int} {H : Heap} {r : Value × Heap} (h :
    if t6 ≥ 0 then
    (0 ≤ (IntKind.wrap .u64 (IntKind.wrap .i64 (8 * t6))) ∧
    (∃ (H_1 : Heap), H_1 = H.push (.row [.int .u8 (IntKind.wrap .u8 (ishr .u64 t0 (IntKind.wrap .u64 (IntKind.wrap .i64 (8 * t6)))))] true) ∧
    (∃ (t21a : Option Addr) (t21n : Nat) (t21k : Nat) (H_2 : Heap), papp H_1 1 1 t5a t5n t5k (some ⟨H.next, 0, none⟩) 1 (UNK 1) = some ((t21a, t21n, t21k), H_2) ∧
    (L0 (t0) (t21a) (t21n) (t21k) ((IntKind.wrap .i64 (t6 - 1))) H_2 r))))
    else
    (r = (.slice t5a t5n t5k, H))) :
    L0 t0 t5a t5n t5k t6 H r := by
  intro J
  show KR _ _ _ (.lp (sub B [1, 1, 0, 1, 0, 0]) :: S1) _ _ _
  refine KR.run 7 [(0, .int .u64 t0), (5, .slice t5a t5n t5k), (6, .int .i64 t6), (10, .bool (decide (t6 ≥ 0)))] 23 (s' := (.code (sub B [1, 1, 0, 1, 0, 0, 0, 1]) :: S3)) (by kernel_rfl) fun J => ?_
  by_cases c1 : t6 ≥ 0
  · replace h := iteT c1 h
    refine KR.br true (by kernel_rfl) (vB (dT c1)) ?_
    refine KR.run 9 [(0, .int .u64 t0), (6, .int .i64 t6), (13, .slice t5a t5n t5k), (14, .int .u64 t0), (17, .int .u64 (IntKind.wrap .u64 (IntKind.wrap .i64 (8 * t6))))] 23 (s' := (.reg (opsAt (sub B [1, 1, 0, 1, 0, 0, 1, 0, 0])) [5, 6, 7, 8, 9] :: S5)) (by kernel_rfl) fun J => ?_
    obtain ⟨q2, h⟩ := h
    refine KR.p (one_shr .u64 .u64 t0 (by kernel_rfl) q2) ?_
    refine KR.run 1 [(0, .int .u64 t0), (6, .int .i64 t6), (13, .slice t5a t5n t5k), (19, .int .u8 (IntKind.wrap .u8 (ishr .u64 t0 (IntKind.wrap .u64 (IntKind.wrap .i64 (8 * t6))))))] 23 (s' := (.reg (opsAt (sub B [1, 1, 0, 1, 0, 0, 1, 0, 0])) [7, 8, 9] :: S5)) (by kernel_rfl) fun J => ?_
    obtain ⟨H_1, q3, h⟩ := h
    refine KR.mk (w := sRow 1 1 [.int .u8 (IntKind.wrap .u8 (ishr .u64 t0 (IntKind.wrap .u64 (IntKind.wrap .i64 (8 * t6)))))]) (one_al (by kernel_rfl)) q3 ?_
    obtain ⟨t21a, t21n, t21k, H_2, q4, h⟩ := h
    refine KR.se (one_ap 1 1 (by kernel_rfl) q4) ?_
    exact KR.run 8 [(0, .int .u64 t0), (5, .slice t21a t21n t21k), (6, .int .i64 (IntKind.wrap .i64 (t6 - 1)))] 23 (s' := (.lp (sub B [1, 1, 0, 1, 0, 0]) :: S1)) (by kernel_rfl) h
  · replace h := iteF c1 h
    refine KR.br false (by kernel_rfl) (vB (dF c1)) ?_
    refine KR.run 6 [(4, .slice t5a t5n t5k)] 23 (s' := (.code (sub B [1, 1, 1, 1]) :: [])) (by kernel_rfl) fun J => ?_
    exact KR.fin (by kernel_rfl) h
theorem call {a0 : Int} {a1 : Int} {H : Heap} {r : Value × Heap} (h :
    L0 (a0) (none) (0) (0) ((IntKind.wrap .i64 (a1 - 1))) H r) :
    xC Try.prog good 24 [.int .u64 a0, .int .i64 a1] H = some r := by
  refine KR.enter (fn := Try.f24) (c := B) (by kernel_rfl) (by kernel_rfl) ?_
  exact KR.run 17 [(0, .int .u64 a0), (5, .slice none 0 0), (6, .int .i64 (IntKind.wrap .i64 (a1 - 1)))] 23 (s' := (.lp (sub B [1, 1, 0, 1, 0, 0]) :: S1)) (by kernel_rfl) h
end F24
/-! #### 25 slices.Clone[[]byte,byte] -/
namespace F25
noncomputable def B : Code := bodyOf Try.f25
noncomputable def S0 : List It := (.code (sub B [1, 1]) :: [])
noncomputable def S2 : List It := (.code (sub B [1, 1, 1]) :: [])
noncomputable def S1 : List It := (.code (sub B [1, 0, 1]) :: S0)
theorem call {a0a : Option Addr} {a0n : Nat} {a0k : Nat} {H : Heap} {r : Value × Heap} (h :
    if (Option.isNone a0a) = true then
    (r = (.slice none 0 0, H))
    else
    (∃ (H_1 : Heap), H_1 = H.push (.row [] true) ∧
    (∃ (t7a : Option Addr) (t7n : Nat) (t7k : Nat) (H_2 : Heap), papp H_1 1 1 (some ⟨H.next, 0, none⟩) 0 (UNK 1) a0a a0n a0k = some ((t7a, t7n, t7k), H_2) ∧
    (r = (.slice t7a t7n t7k, H_2))))) :
    xC Try.prog good 25 [.slice a0a a0n a0k] H = some r := by
  refine KR.enter (fn := Try.f25) (c := B) (by kernel_rfl) (by kernel_rfl) ?_
  refine KR.run 8 [(0, .slice a0a a0n a0k), (3, .slice a0a a0n a0k)] 8 (s' := (.reg (opsAt (sub B [1, 0, 0])) [1] :: S1)) (by kernel_rfl) fun J => ?_
  refine KR.p (one_nl false a0a (by kernel_rfl)) ?_
  refine KR.run 1 [(0, .slice a0a a0n a0k), (4, .bool (Option.isNone a0a))] 8 (s' := (.code (sub B [1, 0, 1]) :: S0)) (by kernel_rfl) fun J => ?_
  by_cases c2 : (Option.isNone a0a) = true
  · replace h := iteT c2 h
    refine KR.br true (by kernel_rfl) (vB (bT c2)) ?_
    refine KR.run 4 [(2, .slice none 0 0)] 8 (s' := (.code (sub B [1, 0, 1, 0, 1]) :: S0)) (by kernel_rfl) fun J => ?_
    exact KR.fin (by kernel_rfl) h
  · replace h := iteF c2 h
    refine KR.br false (by kernel_rfl) (vB (bF c2)) ?_
    refine KR.run 3 [(0, .slice a0a a0n a0k)] 8 (s' := (.reg (opsAt (sub B [1, 1, 0])) [0, 1, 2, 3] :: S2)) (by kernel_rfl) fun J => ?_
    obtain ⟨H_1, q3, h⟩ := h
    refine KR.mk (w := sRow 0 1 []) (one_al (by kernel_rfl)) q3 ?_
    refine KR.run 1 [(5, .slice (some ⟨H.next, 0, none⟩) 0 (UNK 1)), (6, .slice a0a a0n a0k)] 8 (s' := (.reg (opsAt (sub B [1, 1, 0])) [2, 3] :: S2)) (by kernel_rfl) fun J => ?_
    obtain ⟨t7a, t7n, t7k, H_2, q4, h⟩ := h
    refine KR.se (one_ap 1 1 (by kernel_rfl) q4) ?_
    refine KR.run 2 [(2, .slice t7a t7n t7k)] 8 (s' := (.code (sub B [1, 1, 1]) :: [])) (by kernel_rfl) fun J => ?_
    exact KR.fin (by kernel_rfl) h
end F25
/-! #### 26 slices.Equal[[]byte,byte] -/
namespace F26
noncomputable def B : Code := bodyOf Try.f26
noncomputable def S0 : List It := (.code (sub B [1, 1]) :: [])
noncomputable def S1 : List It := (.code (sub B [1, 1, 1]) :: [])
noncomputable def S2 : List It := (.blk 0 :: S1)
noncomputable def S3 : List It := (.lp (sub B [1, 1, 0, 1, 0, 0]) :: S2)
noncomputable def S4 : List It := (.code (sub B [1, 1, 0, 1, 0, 0, 1, 1]) :: S3)
noncomputable def S5 : List It := (.code (sub B [1, 1, 0, 1, 0, 0, 1, 1, 1]) :: S3)
noncomputable def S6 : List It := (.blk 1 :: S5)
noncomputable def S7 : List It := (.code (sub B [1, 1, 0, 1, 0, 0, 1, 1, 0, 0, 1, 1]) :: S6)
def L0 (t0a : Option Addr) (t0n : Nat) (t0k : Nat) (t1a : Option Addr) (t1n : Nat) (t1k : Nat) (t12 : Int) (t13 : Int) (H : Heap) (r : Value × Heap) : Prop := ∀ J, KR Try.prog good Try.f26 S3 (mat J 26 [(0, .slice t0a t0n t0k), (1, .slice t1a t1n t1k), (12, .int .i64 t12), (13, .int .i64 t13)]) H r
theorem L0_step {t0a : Option Addr} {t0n : Nat} {t0k : Nat} {t1a : Option Addr} {t1n : Nat} {t1k : Nat} {t12 : Int} {t13 : Int} {H : Heap} {r : Value × Heap} (h :
    if t13 < t12 then
    (∃ (t0ab t0ao : Nat), t0a = some ⟨t0ab, t0ao, none⟩ ∧
    (0 ≤ t13 ∧ t13 < ((t0n : Nat) : Int) ∧
    (∃ (t19 : Int), ldc H t0ab (t0ao + Int.toNat t13 * 1) = some (.int .u8 t19) ∧
    (∃ (t1ab t1ao : Nat), t1a = some ⟨t1ab, t1ao, none⟩ ∧
    (0 ≤ t13 ∧ t13 < ((t1n : Nat) : Int) ∧
    (∃ (t23 : Int), ldc H t1ab (t1ao + Int.toNat t13 * 1) = some (.int .u8 t23) ∧
    (if t19 = t23 then
    (L0 ((some ⟨t0ab, t0ao, none⟩)) (t0n) (t0k) ((some ⟨t1ab, t1ao, none⟩)) (t1n) (t1k) (t12) ((IntKind.wrap .i64 (t13 + 1))) H r)
    else
    (r = (.bool false, H)))))))))
    else
    (r = (.bool true, H))) :
    L0 t0a t0n t0k t1a t1n t1k t12 t13 H r := by
  intro J
  show KR _ _ _ (.lp (sub B [1, 1, 0, 1, 0, 0]) :: S2) _ _ _
  refine KR.run 6 [(0, .slice t0a t0n t0k), (1, .slice t1a t1n t1k), (12, .int .i64 t12), (13, .int .i64 t13), (14, .bool (decide (t13 < t12)))] 26 (s' := (.code (sub B [1, 1, 0, 1, 0, 0, 1, 0]) :: S4)) (by kernel_rfl) fun J => ?_
  by_cases c2 : t13 < t12
  · replace h := iteT c2 h
    refine KR.br true (by kernel_rfl) (vB (dT c2)) ?_
    refine KR.run 9 [(0, .slice t0a t0n t0k), (1, .slice t1a t1n t1k), (5, .int .i64 t13), (12, .int .i64 t12), (13, .int .i64 t13)] 26 (s' := (.code (sub B [1, 1, 0, 1, 0, 0, 1, 1, 0, 0, 1, 0]) :: S7)) (by kernel_rfl) fun J => ?_
    refine KR.sd (by kernel_rfl) ?_
    obtain ⟨t0ab, t0ao, rfl, h⟩ := h
    refine KR.run 2 [(0, .slice (some ⟨t0ab, t0ao, none⟩) t0n t0k), (1, .slice t1a t1n t1k), (5, .int .i64 t13), (12, .int .i64 t12), (13, .int .i64 t13), (16, .slice (some ⟨t0ab, t0ao, none⟩) t0n t0k), (17, .int .i64 t13)] 26 (s' := (.reg (opsAt (sub B [1, 1, 0, 1, 0, 0, 1, 1, 0, 0, 1, 0])) [2, 3, 4, 5, 6, 7, 8] :: S7)) (by kernel_rfl) fun J => ?_
    obtain ⟨q3, q3x, h⟩ := h
    refine KR.p (one_ix 1 t0ab t0ao (by kernel_rfl) q3 q3x) ?_
    obtain ⟨t19, q4, h⟩ := h
    refine KR.rd (one_ld (by kernel_rfl) q4) ?_
    obtain ⟨t1ab, t1ao, rfl, h⟩ := h
    refine KR.run 2 [(0, .slice (some ⟨t0ab, t0ao, none⟩) t0n t0k), (1, .slice (some ⟨t1ab, t1ao, none⟩) t1n t1k), (12, .int .i64 t12), (13, .int .i64 t13), (19, .int .u8 t19), (20, .slice (some ⟨t1ab, t1ao, none⟩) t1n t1k), (21, .int .i64 t13)] 26 (s' := (.reg (opsAt (sub B [1, 1, 0, 1, 0, 0, 1, 1, 0, 0, 1, 0])) [6, 7, 8] :: S7)) (by kernel_rfl) fun J => ?_
    obtain ⟨q5, q5x, h⟩ := h
    refine KR.p (one_ix 1 t1ab t1ao (by kernel_rfl) q5 q5x) ?_
    obtain ⟨t23, q6, h⟩ := h
    refine KR.rd (one_ld (by kernel_rfl) q6) ?_
    refine KR.run 2 [(0, .slice (some ⟨t0ab, t0ao, none⟩) t0n t0k), (1, .slice (some ⟨t1ab, t1ao, none⟩) t1n t1k), (12, .int .i64 t12), (13, .int .i64 t13), (24, .bool (!(t19 == t23)))] 26 (s' := (.code (sub B [1, 1, 0, 1, 0, 0, 1, 1, 0, 0, 1, 1]) :: S6)) (by kernel_rfl) fun J => ?_
    by_cases c7 : t19 = t23
    · replace h := iteT c7 h
      refine KR.br false (by kernel_rfl) (vB (nB (eT c7))) ?_
      exact KR.run 6 [(0, .slice (some ⟨t0ab, t0ao, none⟩) t0n t0k), (1, .slice (some ⟨t1ab, t1ao, none⟩) t1n t1k), (12, .int .i64 t12), (13, .int .i64 (IntKind.wrap .i64 (t13 + 1)))] 26 (s' := (.lp (sub B [1, 1, 0, 1, 0, 0]) :: S2)) (by kernel_rfl) h
    · replace h := iteF c7 h
      refine KR.br true (by kernel_rfl) (vB (nB (eF c7))) ?_
      refine KR.run 4 [(4, .bool false)] 26 (s' := (.code (sub B [1, 1, 0, 1, 0, 0, 1, 1, 0, 0, 1, 1, 0, 1]) :: S6)) (by kernel_rfl) fun J => ?_
      exact KR.fin (by kernel_rfl) h
  · replace h := iteF c2 h
    refine KR.br false (by kernel_rfl) (vB (dF c2)) ?_
    refine KR.run 5 [(4, .bool true)] 26 (s' := (.code (sub B [1, 1, 1, 1]) :: [])) (by kernel_rfl) fun J => ?_
    exact KR.fin (by kernel_rfl) h
theorem call {a0a : Option Addr} {a0n : Nat} {a0k : Nat} {a1a : Option Addr} {a1n : Nat} {a1k : Nat} {H : Heap} {r : Value × Heap} (h :
    if ((a0n : Nat) : Int) = ((a1n : Nat) : Int) then
    (L0 (a0a) (a0n) (a0k) (a1a) (a1n) (a1k) (((a0n : Nat) : Int)) 0 H r)
    else
    (r = (.bool false, H))) :
    xC Try.prog good 26 [.slice a0a a0n a0k, .slice a1a a1n a1k] H = some r := by
  refine KR.enter (fn := Try.f26) (c := B) (by kernel_rfl) (by kernel_rfl) ?_
  refine KR.run 13 [(0, .slice a0a a0n a0k), (1, .slice a1a a1n a1k), (10, .bool (!(((a0n : Nat) : Int) == ((a1n : Nat) : Int))))] 26 (s' := (.code (sub B [1, 0, 1]) :: S0)) (by kernel_rfl) fun J => ?_
  by_cases c1 : ((a0n : Nat) : Int) = ((a1n : Nat) : Int)
  · replace h := iteT c1 h
    refine KR.br false (by kernel_rfl) (vB (nB (eT c1))) ?_
    exact KR.run 10 [(0, .slice a0a a0n a0k), (1, .slice a1a a1n a1k), (12, .int .i64 ((a0n : Nat) : Int)), (13, .int .i64 0)] 26 (s' := (.lp (sub B [1, 1, 0, 1, 0, 0]) :: S2)) (by kernel_rfl) h
  · replace h := iteF c1 h
    refine KR.br true (by kernel_rfl) (vB (nB (eF c1))) ?_
    refine KR.run 4 [(4, .bool false)] 26 (s' := (.code (sub B [1, 0, 1, 0, 1]) :: S0)) (by kernel_rfl) fun J => ?_
    exact KR.fin (by kernel_rfl) h
end F26

end Go.X
