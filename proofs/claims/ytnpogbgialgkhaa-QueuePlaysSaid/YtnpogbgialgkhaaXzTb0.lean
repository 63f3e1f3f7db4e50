/- The walks of the functions: printed. -/
import Derived.Test.YtnpogbgialgkhaaXzGb
set_option linter.unusedVariables false
set_option maxRecDepth 100000
namespace Go.X
open Go Go.RowKit Go.Proofs
/-! #### 3 campanile/campanilelaw10.QueueMoves -/
namespace F3
noncomputable def B : Code := bodyOf Try.f3
noncomputable def S0 : List It := (.code (sub B [1, 1]) :: [])
noncomputable def S2 : List It := (.code (sub B [1, 1, 1]) :: [])
noncomputable def S3 : List It := (.code (sub B [1, 1, 1, 1, 1]) :: [])
noncomputable def S12 : List It := (.code (sub B [1, 1, 1, 1, 1, 1]) :: [])
noncomputable def S14 : List It := (.code (sub B [1, 1, 1, 1, 1, 1, 1]) :: [])
noncomputable def S15 : List It := (.code (sub B [1, 1, 1, 1, 1, 1, 1, 1]) :: [])
noncomputable def S16 : List It := (.code (sub B [1, 1, 1, 1, 1, 1, 1, 1, 1]) :: [])
noncomputable def S26 : List It := (.code (sub B [1, 1, 1, 1, 1, 1, 1, 1, 1, 1]) :: [])
noncomputable def S1 : List It := (.code (sub B [1, 0, 1, 0, 1]) :: S0)
noncomputable def S4 : List It := (.blk 0 :: S3)
noncomputable def S13 : List It := (.code (sub B [1, 1, 1, 1, 1, 0, 1]) :: S12)
noncomputable def S17 : List It := (.blk 2 :: S16)
noncomputable def S5 : List It := (.lp (sub B [1, 1, 1, 1, 0, 1, 0, 0]) :: S4)
noncomputable def S18 : List It := (.lp (sub B [1, 1, 1, 1, 1, 1, 1, 1, 0, 1, 0, 0]) :: S17)
noncomputable def S6 : List It := (.code (sub B [1, 1, 1, 1, 0, 1, 0, 0, 1, 1]) :: S5)
noncomputable def S7 : List It := (.code (sub B [1, 1, 1, 1, 0, 1, 0, 0, 1, 1, 1]) :: S5)
noncomputable def S19 : List It := (.code (sub B [1, 1, 1, 1, 1, 1, 1, 1, 0, 1, 0, 0, 1, 1]) :: S18)
noncomputable def S20 : List It := (.code (sub B [1, 1, 1, 1, 1, 1, 1, 1, 0, 1, 0, 0, 1, 1, 1]) :: S18)
noncomputable def S8 : List It := (.blk 1 :: S7)
noncomputable def S21 : List It := (.blk 3 :: S20)
noncomputable def S9 : List It := (.code (sub B [1, 1, 1, 1, 0, 1, 0, 0, 1, 1, 0, 0, 1]) :: S8)
noncomputable def S10 : List It := (.code (sub B [1, 1, 1, 1, 0, 1, 0, 0, 1, 1, 0, 0, 1, 1]) :: S8)
noncomputable def S22 : List It := (.code (sub B [1, 1, 1, 1, 1, 1, 1, 1, 0, 1, 0, 0, 1, 1, 0, 0, 1]) :: S21)
noncomputable def S23 : List It := (.code (sub B [1, 1, 1, 1, 1, 1, 1, 1, 0, 1, 0, 0, 1, 1, 0, 0, 1, 1]) :: S21)
noncomputable def S24 : List It := (.code (sub B [1, 1, 1, 1, 1, 1, 1, 1, 0, 1, 0, 0, 1, 1, 0, 0, 1, 1, 1]) :: S21)
noncomputable def S25 : List It := (.code (sub B [1, 1, 1, 1, 1, 1, 1, 1, 0, 1, 0, 0, 1, 1, 0, 0, 1, 1, 1, 1]) :: S21)
noncomputable def S11 : List It := (.code (sub B [1, 1, 1, 1, 0, 1, 0, 0, 1, 1, 0, 0, 1, 0, 1]) :: S10)
noncomputable def S27 : List It := (.reg (opsAt (sub B [1, 1, 1, 1, 1, 1, 1, 1, 0, 1, 0, 0, 1, 1, 0, 0, 1, 1, 1, 0])) [0, 1, 2, 3, 4, 5, 6, 7, 8, 9, 10, 11, 12, 13, 14, 15, 16, 17, 18, 19, 20, 21, 22] :: S25)
def L0 (t0a : Option Addr) (t0n : Nat) (t0k : Nat) (t1 : Int) (t2 : Int) (t7 : Option Addr) (t8 : Int) (t21a : Option Addr) (t21n : Nat) (t21k : Nat) (t22 : Int) (t23 : Int) (H : Heap) (r : Value × Heap) : Prop := ∀ J, KR Try.prog good Try.f3 S5 (mat J 96 [(0, .slice t0a t0n t0k), (1, .int .i64 t1), (2, .int .i64 t2), (7, .pointer t7), (8, .int .i64 t8), (21, .slice t21a t21n t21k), (22, .int .i64 t22), (23, .int .i64 t23)]) H r
def L1 (t1 : Int) (t2 : Int) (t7 : Option Addr) (t11a : Option Addr) (t11n : Nat) (t11k : Nat) (t54a : Option Addr) (t54n : Nat) (t54k : Nat) (t55 : Int) (t56 : Int) (H : Heap) (r : Value × Heap) : Prop := ∀ J, KR Try.prog good Try.f3 S18 (mat J 96 [(1, .int .i64 t1), (2, .int .i64 t2), (7, .pointer t7), (11, .slice t11a t11n t11k), (54, .slice t54a t54n t54k), (55, .int .i64 t55), (56, .int .i64 t56)]) H r
def L2 (t1 : Int) (t2 : Int) (t7 : Option Addr) (t11a : Option Addr) (t11n : Nat) (t11k : Nat) (t12 : Int) (t13 : Int) (t14a : Option Addr) (t14n : Nat) (t14k : Nat) (t15 : Bool) (t54b : Nat) (t54o : Nat) (t54n : Nat) (t54k : Nat) (t55 : Int) (t56 : Int) (H : Heap) (r : Value × Heap) : Prop := ∀ J, KR Try.prog good Try.f3 S27 (mat J 96 [(1, .int .i64 t1), (2, .int .i64 t2), (7, .pointer t7), (11, .slice t11a t11n t11k), (12, .int .i64 t12), (13, .int .i64 t13), (14, .slice t14a t14n t14k), (15, .bool t15), (54, .slice (some ⟨t54b, t54o, none⟩) t54n t54k), (55, .int .i64 t55), (56, .int .i64 t56)]) H r
def L3 (t1 : Int) (t2 : Int) (t7 : Option Addr) (t11a : Option Addr) (t11n : Nat) (t11k : Nat) (t54b : Nat) (t54o : Nat) (t54n : Nat) (t54k : Nat) (t55 : Int) (t56 : Int) (t93 : Bool) (H : Heap) (r : Value × Heap) : Prop := ∀ J, KR Try.prog good Try.f3 S25 (mat J 96 [(1, .int .i64 t1), (2, .int .i64 t2), (7, .pointer t7), (11, .slice t11a t11n t11k), (54, .slice (some ⟨t54b, t54o, none⟩) t54n t54k), (55, .int .i64 t55), (56, .int .i64 t56), (93, .bool t93)]) H r
theorem L0_step {t0a : Option Addr} {t0n : Nat} {t0k : Nat} {t1 : Int} {t2 : Int} {t7 : Option Addr} {t8 : Int} {t21a : Option Addr} {t21n : Nat} {t21k : Nat} {t22 : Int} {t23 : Int} {H : Heap} {r : Value × Heap} (h :
    if t23 < t22 then
    (∃ (t21ab t21ao : Nat), t21a = some ⟨t21ab, t21ao, none⟩ ∧
    ((0 : Int) ≤ t23 ∧ t23 < ((t21n : Nat) : Int) ∧
    (∃ (t27 : Int), ldc H t21ab (t21ao + Int.toNat t23 * 1) = some (.int .i64 t27) ∧
    (∃ (H_1 : Heap), H_1 = H.push (.row [.int .u8 (IntKind.wrap .u8 t23)] true) ∧
    (∃ (t33 : Bool) (H_2 : Heap), xC Try.prog good 14 [.pointer t7, .int .i64 t27, .slice (some ⟨H.next, 0, none⟩) 1 (UNK 1)] H_1 = some (.bool t33, H_2) ∧
    (if t33 = true then
    (if t27 = t1 then
    (L0 (t0a) (t0n) (t0k) (t1) (t2) (t7) ((IntKind.wrap .i64 (t8 + 1))) ((some ⟨t21ab, t21ao, none⟩)) (t21n) (t21k) (t22) ((IntKind.wrap .i64 (t23 + 1))) H_2 r)
    else
    (L0 (t0a) (t0n) (t0k) (t1) (t2) (t7) (t8) ((some ⟨t21ab, t21ao, none⟩)) (t21n) (t21k) (t22) ((IntKind.wrap .i64 (t23 + 1))) H_2 r))
    else
    (r = (.bool false, H_2))))))))
    else
    (∃ (t44 : Int) (H_3 : Heap), xC Try.prog good 15 [.pointer t7, .int .i64 t1, .int .i64 t2] H = some (.int .i64 t44, H_3) ∧
    (if t44 = t8 then
    (∃ (t48a : Option Addr) (t48n : Nat) (t48k : Nat) (H_4 : Heap), xC Try.prog good 16 [.pointer t7] H_3 = some (.slice t48a t48n t48k, H_4) ∧
    (if ((t48n : Nat) : Int) = ((t0n : Nat) : Int) then
    (L1 (t1) (t2) (t7) (t48a) (t48n) (t48k) (t0a) (t0n) (t0k) (((t0n : Nat) : Int)) 0 H_4 r)
    else
    (r = (.bool false, H_4))))
    else
    (r = (.bool false, H_3))))) :
    L0 t0a t0n t0k t1 t2 t7 t8 t21a t21n t21k t22 t23 H r := by
  intro J
  show KR _ _ _ (.lp (sub B [1, 1, 1, 1, 0, 1, 0, 0]) :: S4) _ _ _
  refine KR.run 6 [(0, .slice t0a t0n t0k), (1, .int .i64 t1), (2, .int .i64 t2), (7, .pointer t7), (8, .int .i64 t8), (21, .slice t21a t21n t21k), (22, .int .i64 t22), (23, .int .i64 t23), (24, .bool (decide (t23 < t22)))] 96 (s' := (.code (sub B [1, 1, 1, 1, 0, 1, 0, 0, 1, 0]) :: S6)) (by kernel_rfl) fun J => ?_
  by_cases c4 : t23 < t22
  · replace h := iteT c4 h
    refine KR.br true (by kernel_rfl) (vB (dT c4)) ?_
    obtain ⟨t21ab, t21ao, rfl, h⟩ := h
    refine KR.run 6 [(0, .slice t0a t0n t0k), (1, .int .i64 t1), (2, .int .i64 t2), (7, .pointer t7), (8, .int .i64 t8), (21, .slice (some ⟨t21ab, t21ao, none⟩) t21n t21k), (22, .int .i64 t22), (23, .int .i64 t23), (25, .int .i64 t23)] 96 (s' := (.reg (opsAt (sub B [1, 1, 1, 1, 0, 1, 0, 0, 1, 1, 0, 0, 0])) [1, 2, 3, 4] :: S9)) (by kernel_rfl) fun J => ?_
    obtain ⟨q5, q5x, h⟩ := h
    refine KR.p (one_ix 1 t21ab t21ao (by kernel_rfl) q5 q5x) ?_
    obtain ⟨t27, q6, h⟩ := h
    refine KR.rd (one_ld (by kernel_rfl) q6) ?_
    refine KR.run 10 [(0, .slice t0a t0n t0k), (1, .int .i64 t1), (2, .int .i64 t2), (7, .pointer t7), (8, .int .i64 t8), (10, .int .i64 t27), (21, .slice (some ⟨t21ab, t21ao, none⟩) t21n t21k), (22, .int .i64 t22), (23, .int .i64 t23), (28, .pointer t7), (29, .int .i64 t27), (31, .int .u8 (IntKind.wrap .u8 t23))] 96 (s' := (.reg (opsAt (sub B [1, 1, 1, 1, 0, 1, 0, 0, 1, 1, 0, 0, 1, 0, 0])) [4, 5, 6] :: S11)) (by kernel_rfl) fun J => ?_
    obtain ⟨H_1, q7, h⟩ := h
    refine KR.mk (w := sRow 1 1 [.int .u8 (IntKind.wrap .u8 t23)]) (one_al (by kernel_rfl)) q7 ?_
    obtain ⟨t33, H_2, q8, h⟩ := h
    refine KR.se (one_ca (by kernel_rfl) q8) ?_
    refine KR.run 2 [(0, .slice t0a t0n t0k), (1, .int .i64 t1), (2, .int .i64 t2), (7, .pointer t7), (8, .int .i64 t8), (10, .int .i64 t27), (21, .slice (some ⟨t21ab, t21ao, none⟩) t21n t21k), (22, .int .i64 t22), (23, .int .i64 t23), (34, .bool (!t33))] 96 (s' := (.code (sub B [1, 1, 1, 1, 0, 1, 0, 0, 1, 1, 0, 0, 1, 0, 1]) :: S10)) (by kernel_rfl) fun J => ?_
    by_cases c9 : t33 = true
    · replace h := iteT c9 h
      refine KR.br false (by kernel_rfl) (vB (nB (bT c9))) ?_
      refine KR.run 7 [(0, .slice t0a t0n t0k), (1, .int .i64 t1), (2, .int .i64 t2), (7, .pointer t7), (8, .int .i64 t8), (21, .slice (some ⟨t21ab, t21ao, none⟩) t21n t21k), (22, .int .i64 t22), (23, .int .i64 t23), (37, .bool (t27 == t1))] 96 (s' := (.code (sub B [1, 1, 1, 1, 0, 1, 0, 0, 1, 1, 0, 0, 1, 1, 1]) :: S8)) (by kernel_rfl) fun J => ?_
      by_cases c10 : t27 = t1
      · replace h := iteT c10 h
        refine KR.br true (by kernel_rfl) (vB (eT c10)) ?_
        exact KR.run 10 [(0, .slice t0a t0n t0k), (1, .int .i64 t1), (2, .int .i64 t2), (7, .pointer t7), (8, .int .i64 (IntKind.wrap .i64 (t8 + 1))), (21, .slice (some ⟨t21ab, t21ao, none⟩) t21n t21k), (22, .int .i64 t22), (23, .int .i64 (IntKind.wrap .i64 (t23 + 1)))] 96 (s' := (.lp (sub B [1, 1, 1, 1, 0, 1, 0, 0]) :: S4)) (by kernel_rfl) h
      · replace h := iteF c10 h
        refine KR.br false (by kernel_rfl) (vB (eF c10)) ?_
        exact KR.run 6 [(0, .slice t0a t0n t0k), (1, .int .i64 t1), (2, .int .i64 t2), (7, .pointer t7), (8, .int .i64 t8), (21, .slice (some ⟨t21ab, t21ao, none⟩) t21n t21k), (22, .int .i64 t22), (23, .int .i64 (IntKind.wrap .i64 (t23 + 1)))] 96 (s' := (.lp (sub B [1, 1, 1, 1, 0, 1, 0, 0]) :: S4)) (by kernel_rfl) h
    · replace h := iteF c9 h
      refine KR.br true (by kernel_rfl) (vB (nB (bF c9))) ?_
      refine KR.run 4 [(6, .bool false)] 96 (s' := (.code (sub B [1, 1, 1, 1, 0, 1, 0, 0, 1, 1, 0, 0, 1, 0, 1, 0, 1]) :: S10)) (by kernel_rfl) fun J => ?_
      exact KR.fin (by kernel_rfl) h
  · replace h := iteF c4 h
    refine KR.br false (by kernel_rfl) (vB (dF c4)) ?_
    refine KR.run 7 [(0, .slice t0a t0n t0k), (1, .int .i64 t1), (2, .int .i64 t2), (7, .pointer t7), (8, .int .i64 t8), (41, .pointer t7), (42, .int .i64 t1), (43, .int .i64 t2)] 96 (s' := (.reg (opsAt (sub B [1, 1, 1, 1, 1, 0, 0])) [3, 4, 5] :: S13)) (by kernel_rfl) fun J => ?_
    obtain ⟨t44, H_3, q11, h⟩ := h
    refine KR.se (one_ca (by kernel_rfl) q11) ?_
    refine KR.run 3 [(0, .slice t0a t0n t0k), (1, .int .i64 t1), (2, .int .i64 t2), (7, .pointer t7), (46, .bool (!(t44 == t8)))] 96 (s' := (.code (sub B [1, 1, 1, 1, 1, 0, 1]) :: S12)) (by kernel_rfl) fun J => ?_
    by_cases c12 : t44 = t8
    · replace h := iteT c12 h
      refine KR.br false (by kernel_rfl) (vB (nB (eT c12))) ?_
      refine KR.run 4 [(0, .slice t0a t0n t0k), (1, .int .i64 t1), (2, .int .i64 t2), (7, .pointer t7), (47, .pointer t7)] 96 (s' := (.reg (opsAt (sub B [1, 1, 1, 1, 1, 1, 0])) [1, 2] :: S14)) (by kernel_rfl) fun J => ?_
      obtain ⟨t48a, t48n, t48k, H_4, q13, h⟩ := h
      refine KR.se (one_ca (by kernel_rfl) q13) ?_
      refine KR.run 11 [(0, .slice t0a t0n t0k), (1, .int .i64 t1), (2, .int .i64 t2), (7, .pointer t7), (11, .slice t48a t48n t48k), (53, .bool (!(((t48n : Nat) : Int) == ((t0n : Nat) : Int))))] 96 (s' := (.code (sub B [1, 1, 1, 1, 1, 1, 1, 0, 1]) :: S15)) (by kernel_rfl) fun J => ?_
      by_cases c14 : ((t48n : Nat) : Int) = ((t0n : Nat) : Int)
      · replace h := iteT c14 h
        refine KR.br false (by kernel_rfl) (vB (nB (eT c14))) ?_
        exact KR.run 10 [(1, .int .i64 t1), (2, .int .i64 t2), (7, .pointer t7), (11, .slice t48a t48n t48k), (54, .slice t0a t0n t0k), (55, .int .i64 ((t0n : Nat) : Int)), (56, .int .i64 0)] 96 (s' := (.lp (sub B [1, 1, 1, 1, 1, 1, 1, 1, 0, 1, 0, 0]) :: S17)) (by kernel_rfl) h
      · replace h := iteF c14 h
        refine KR.br true (by kernel_rfl) (vB (nB (eF c14))) ?_
        refine KR.run 4 [(6, .bool false)] 96 (s' := (.code (sub B [1, 1, 1, 1, 1, 1, 1, 0, 1, 0, 1]) :: S15)) (by kernel_rfl) fun J => ?_
        exact KR.fin (by kernel_rfl) h
    · replace h := iteF c12 h
      refine KR.br true (by kernel_rfl) (vB (nB (eF c12))) ?_
      refine KR.run 4 [(6, .bool false)] 96 (s' := (.code (sub B [1, 1, 1, 1, 1, 0, 1, 0, 1]) :: S12)) (by kernel_rfl) fun J => ?_
      exact KR.fin (by kernel_rfl) h
theorem L1_step {t1 : Int} {t2 : Int} {t7 : Option Addr} {t11a : Option Addr} {t11n : Nat} {t11k : Nat} {t54a : Option Addr} {t54n : Nat} {t54k : Nat} {t55 : Int} {t56 : Int} {H : Heap} {r : Value × Heap} (h :
    if t56 < t55 then
    (∃ (t54ab t54ao : Nat), t54a = some ⟨t54ab, t54ao, none⟩ ∧
    ((0 : Int) ≤ t56 ∧ t56 < ((t54n : Nat) : Int) ∧
    (∃ (t60 : Int), ldc H t54ab (t54ao + Int.toNat t56 * 1) = some (.int .i64 t60) ∧
    (∃ (t64r0a : Option Addr) (t64r0n : Nat) (t64r0k : Nat) (t64r1 : Bool) (H_1 : Heap), xC Try.prog good 17 [.pointer t7, .int .i64 t56] H = some (.tuple #[.slice t64r0a t64r0n t64r0k, .bool t64r1], H_1) ∧
    (if t60 = t1 then
    (L2 (t1) (t2) (t7) (t11a) (t11n) (t11k) (t56) (t2) (t64r0a) (t64r0n) (t64r0k) (t64r1) (t54ab) (t54ao) (t54n) (t54k) (t55) (t56) H_1 r)
    else
    (L2 (t1) (t2) (t7) (t11a) (t11n) (t11k) (t56) (t60) (t64r0a) (t64r0n) (t64r0k) (t64r1) (t54ab) (t54ao) (t54n) (t54k) (t55) (t56) H_1 r))))))
    else
    (∃ (t95 : Bool) (H_2 : Heap), xC Try.prog good 12 [] H = some (.bool t95, H_2) ∧
    (r = (.bool t95, H_2)))) :
    L1 t1 t2 t7 t11a t11n t11k t54a t54n t54k t55 t56 H r := by
  intro J
  show KR _ _ _ (.lp (sub B [1, 1, 1, 1, 1, 1, 1, 1, 0, 1, 0, 0]) :: S17) _ _ _
  refine KR.run 6 [(1, .int .i64 t1), (2, .int .i64 t2), (7, .pointer t7), (11, .slice t11a t11n t11k), (54, .slice t54a t54n t54k), (55, .int .i64 t55), (56, .int .i64 t56), (57, .bool (decide (t56 < t55)))] 96 (s' := (.code (sub B [1, 1, 1, 1, 1, 1, 1, 1, 0, 1, 0, 0, 1, 0]) :: S19)) (by kernel_rfl) fun J => ?_
  by_cases c15 : t56 < t55
  · replace h := iteT c15 h
    refine KR.br true (by kernel_rfl) (vB (dT c15)) ?_
    obtain ⟨t54ab, t54ao, rfl, h⟩ := h
    refine KR.run 6 [(1, .int .i64 t1), (2, .int .i64 t2), (7, .pointer t7), (11, .slice t11a t11n t11k), (54, .slice (some ⟨t54ab, t54ao, none⟩) t54n t54k), (55, .int .i64 t55), (56, .int .i64 t56), (58, .int .i64 t56)] 96 (s' := (.reg (opsAt (sub B [1, 1, 1, 1, 1, 1, 1, 1, 0, 1, 0, 0, 1, 1, 0, 0, 0])) [1, 2, 3, 4] :: S22)) (by kernel_rfl) fun J => ?_
    obtain ⟨q16, q16x, h⟩ := h
    refine KR.p (one_ix 1 t54ab t54ao (by kernel_rfl) q16 q16x) ?_
    obtain ⟨t60, q17, h⟩ := h
    refine KR.rd (one_ld (by kernel_rfl) q17) ?_
    refine KR.run 7 [(1, .int .i64 t1), (2, .int .i64 t2), (7, .pointer t7), (11, .slice t11a t11n t11k), (12, .int .i64 t56), (13, .int .i64 t60), (54, .slice (some ⟨t54ab, t54ao, none⟩) t54n t54k), (55, .int .i64 t55), (56, .int .i64 t56), (62, .pointer t7), (63, .int .i64 t56)] 96 (s' := (.reg (opsAt (sub B [1, 1, 1, 1, 1, 1, 1, 1, 0, 1, 0, 0, 1, 1, 0, 0, 1, 0])) [2, 3, 4, 5, 6, 7] :: S23)) (by kernel_rfl) fun J => ?_
    obtain ⟨t64r0a, t64r0n, t64r0k, t64r1, H_1, q18, h⟩ := h
    refine KR.se (one_ca (by kernel_rfl) q18) ?_
    refine KR.run 13 [(1, .int .i64 t1), (2, .int .i64 t2), (7, .pointer t7), (11, .slice t11a t11n t11k), (12, .int .i64 t56), (13, .int .i64 t60), (14, .slice t64r0a t64r0n t64r0k), (15, .bool t64r1), (54, .slice (some ⟨t54ab, t54ao, none⟩) t54n t54k), (55, .int .i64 t55), (56, .int .i64 t56), (69, .bool (t60 == t1))] 96 (s' := (.code (sub B [1, 1, 1, 1, 1, 1, 1, 1, 0, 1, 0, 0, 1, 1, 0, 0, 1, 1, 0, 1]) :: S24)) (by kernel_rfl) fun J => ?_
    by_cases c19 : t60 = t1
    · replace h := iteT c19 h
      refine KR.br true (by kernel_rfl) (vB (eT c19)) ?_
      exact KR.run 6 [(1, .int .i64 t1), (2, .int .i64 t2), (7, .pointer t7), (11, .slice t11a t11n t11k), (12, .int .i64 t56), (13, .int .i64 t2), (14, .slice t64r0a t64r0n t64r0k), (15, .bool t64r1), (54, .slice (some ⟨t54ab, t54ao, none⟩) t54n t54k), (55, .int .i64 t55), (56, .int .i64 t56)] 96 (s' := (.reg (opsAt (sub B [1, 1, 1, 1, 1, 1, 1, 1, 0, 1, 0, 0, 1, 1, 0, 0, 1, 1, 1, 0])) [0, 1, 2, 3, 4, 5, 6, 7, 8, 9, 10, 11, 12, 13, 14, 15, 16, 17, 18, 19, 20, 21, 22] :: S25)) (by kernel_rfl) h
    · replace h := iteF c19 h
      refine KR.br false (by kernel_rfl) (vB (eF c19)) ?_
      exact KR.run 3 [(1, .int .i64 t1), (2, .int .i64 t2), (7, .pointer t7), (11, .slice t11a t11n t11k), (12, .int .i64 t56), (13, .int .i64 t60), (14, .slice t64r0a t64r0n t64r0k), (15, .bool t64r1), (54, .slice (some ⟨t54ab, t54ao, none⟩) t54n t54k), (55, .int .i64 t55), (56, .int .i64 t56)] 96 (s' := (.reg (opsAt (sub B [1, 1, 1, 1, 1, 1, 1, 1, 0, 1, 0, 0, 1, 1, 0, 0, 1, 1, 1, 0])) [0, 1, 2, 3, 4, 5, 6, 7, 8, 9, 10, 11, 12, 13, 14, 15, 16, 17, 18, 19, 20, 21, 22] :: S25)) (by kernel_rfl) h
  · replace h := iteF c15 h
    refine KR.br false (by kernel_rfl) (vB (dF c15)) ?_
    refine KR.run 3 [] 96 (s' := (.reg (opsAt (sub B [1, 1, 1, 1, 1, 1, 1, 1, 1, 0])) [0, 1] :: S26)) (by kernel_rfl) fun J => ?_
    obtain ⟨t95, H_2, q20, h⟩ := h
    refine KR.se (one_ca (by kernel_rfl) q20) ?_
    refine KR.run 2 [(6, .bool t95)] 96 (s' := (.code (sub B [1, 1, 1, 1, 1, 1, 1, 1, 1, 1]) :: [])) (by kernel_rfl) fun J => ?_
    exact KR.fin (by kernel_rfl) h
theorem L2_step {t1 : Int} {t2 : Int} {t7 : Option Addr} {t11a : Option Addr} {t11n : Nat} {t11k : Nat} {t12 : Int} {t13 : Int} {t14a : Option Addr} {t14n : Nat} {t14k : Nat} {t15 : Bool} {t54b : Nat} {t54o : Nat} {t54n : Nat} {t54k : Nat} {t55 : Int} {t56 : Int} {H : Heap} {r : Value × Heap} (h :
    if t15 = true then
    (if ((t14n : Nat) : Int) = 1 then
    (∃ (t14ab t14ao : Nat), t14a = some ⟨t14ab, t14ao, none⟩ ∧
    ((0 : Int) ≤ 0 ∧ 0 < ((t14n : Nat) : Int) ∧
    (∃ (t81 : Int), ldc H t14ab t14ao = some (.int .u8 t81) ∧
    (if t81 = (IntKind.wrap .u8 t12) then
    (∃ (t11ab t11ao : Nat), t11a = some ⟨t11ab, t11ao, none⟩ ∧
    ((0 : Int) ≤ t12 ∧ t12 < ((t11n : Nat) : Int) ∧
    (∃ (t90 : Int), ldc H t11ab (t11ao + Int.toNat t12 * 1) = some (.int .i64 t90) ∧
    (L3 (t1) (t2) (t7) ((some ⟨t11ab, t11ao, none⟩)) (t11n) (t11k) (t54b) (t54o) (t54n) (t54k) (t55) (t56) ((!(t90 == t13))) H r))))
    else
    (L3 (t1) (t2) (t7) (t11a) (t11n) (t11k) (t54b) (t54o) (t54n) (t54k) (t55) (t56) (true) H r)))))
    else
    (L3 (t1) (t2) (t7) (t11a) (t11n) (t11k) (t54b) (t54o) (t54n) (t54k) (t55) (t56) (true) H r))
    else
    (L3 (t1) (t2) (t7) (t11a) (t11n) (t11k) (t54b) (t54o) (t54n) (t54k) (t55) (t56) (true) H r)) :
    L2 t1 t2 t7 t11a t11n t11k t12 t13 t14a t14n t14k t15 t54b t54o t54n t54k t55 t56 H r := by
  intro J
  show KR _ _ _ (.reg (opsAt (sub B [1, 1, 1, 1, 1, 1, 1, 1, 0, 1, 0, 0, 1, 1, 0, 0, 1, 1, 1, 0])) [0, 1, 2, 3, 4, 5, 6, 7, 8, 9, 10, 11, 12, 13, 14, 15, 16, 17, 18, 19, 20, 21, 22] :: S25) _ _ _
  refine KR.run 3 [(1, .int .i64 t1), (2, .int .i64 t2), (7, .pointer t7), (11, .slice t11a t11n t11k), (12, .int .i64 t12), (13, .int .i64 t13), (14, .slice t14a t14n t14k), (54, .slice (some ⟨t54b, t54o, none⟩) t54n t54k), (55, .int .i64 t55), (56, .int .i64 t56), (73, .bool (!t15))] 96 (s' := (.reg (opsAt (sub B [1, 1, 1, 1, 1, 1, 1, 1, 0, 1, 0, 0, 1, 1, 0, 0, 1, 1, 1, 0])) [3, 4, 5, 6, 7, 8, 9, 10, 11, 12, 13, 14, 15, 16, 17, 18, 19, 20, 21, 22] :: S25)) (by kernel_rfl) fun J => ?_
  by_cases c21 : t15 = true
  · replace h := iteT c21 h
    refine KR.setV 73 (by kernel_rfl) (nB (bT c21)) ?_
    refine KR.run 5 [(1, .int .i64 t1), (2, .int .i64 t2), (7, .pointer t7), (11, .slice t11a t11n t11k), (12, .int .i64 t12), (13, .int .i64 t13), (14, .slice t14a t14n t14k), (54, .slice (some ⟨t54b, t54o, none⟩) t54n t54k), (55, .int .i64 t55), (56, .int .i64 t56), (78, .bool (!(((t14n : Nat) : Int) == 1)))] 96 (s' := (.reg (opsAt (sub B [1, 1, 1, 1, 1, 1, 1, 1, 0, 1, 0, 0, 1, 1, 0, 0, 1, 1, 1, 0])) [8, 9, 10, 11, 12, 13, 14, 15, 16, 17, 18, 19, 20, 21, 22] :: S25)) (by kernel_rfl) fun J => ?_
    by_cases c22 : ((t14n : Nat) : Int) = 1
    · replace h := iteT c22 h
      refine KR.setV 78 (by kernel_rfl) (nB (eT c22)) ?_
      obtain ⟨t14ab, t14ao, rfl, h⟩ := h
      refine KR.run 1 [(1, .int .i64 t1), (2, .int .i64 t2), (7, .pointer t7), (11, .slice t11a t11n t11k), (12, .int .i64 t12), (13, .int .i64 t13), (54, .slice (some ⟨t54b, t54o, none⟩) t54n t54k), (55, .int .i64 t55), (56, .int .i64 t56), (78, .bool false), (79, .slice (some ⟨t14ab, t14ao, none⟩) t14n t14k)] 96 (s' := (.reg (opsAt (sub B [1, 1, 1, 1, 1, 1, 1, 1, 0, 1, 0, 0, 1, 1, 0, 0, 1, 1, 1, 0])) [9, 10, 11, 12, 13, 14, 15, 16, 17, 18, 19, 20, 21, 22] :: S25)) (by kernel_rfl) fun J => ?_
      obtain ⟨q23, q23x, h⟩ := h
      refine KR.p (one_ix 1 t14ab t14ao (by kernel_rfl) q23 q23x) ?_
      obtain ⟨t81, q24, h⟩ := h
      refine KR.rd (one_ld (by kernel_rfl) q24) ?_
      refine KR.run 5 [(1, .int .i64 t1), (2, .int .i64 t2), (7, .pointer t7), (11, .slice t11a t11n t11k), (12, .int .i64 t12), (13, .int .i64 t13), (54, .slice (some ⟨t54b, t54o, none⟩) t54n t54k), (55, .int .i64 t55), (56, .int .i64 t56), (86, .bool (!(t81 == (IntKind.wrap .u8 t12))))] 96 (s' := (.reg (opsAt (sub B [1, 1, 1, 1, 1, 1, 1, 1, 0, 1, 0, 0, 1, 1, 0, 0, 1, 1, 1, 0])) [16, 17, 18, 19, 20, 21, 22] :: S25)) (by kernel_rfl) fun J => ?_
      by_cases c25 : t81 = (IntKind.wrap .u8 t12)
      · replace h := iteT c25 h
        refine KR.setV 86 (by kernel_rfl) (nB (eT c25)) ?_
        obtain ⟨t11ab, t11ao, rfl, h⟩ := h
        refine KR.run 2 [(1, .int .i64 t1), (2, .int .i64 t2), (7, .pointer t7), (11, .slice (some ⟨t11ab, t11ao, none⟩) t11n t11k), (13, .int .i64 t13), (54, .slice (some ⟨t54b, t54o, none⟩) t54n t54k), (55, .int .i64 t55), (56, .int .i64 t56), (86, .bool false), (87, .slice (some ⟨t11ab, t11ao, none⟩) t11n t11k), (88, .int .i64 t12)] 96 (s' := (.reg (opsAt (sub B [1, 1, 1, 1, 1, 1, 1, 1, 0, 1, 0, 0, 1, 1, 0, 0, 1, 1, 1, 0])) [18, 19, 20, 21, 22] :: S25)) (by kernel_rfl) fun J => ?_
        obtain ⟨q26, q26x, h⟩ := h
        refine KR.p (one_ix 1 t11ab t11ao (by kernel_rfl) q26 q26x) ?_
        obtain ⟨t90, q27, h⟩ := h
        refine KR.rd (one_ld (by kernel_rfl) q27) ?_
        exact KR.run 4 [(1, .int .i64 t1), (2, .int .i64 t2), (7, .pointer t7), (11, .slice (some ⟨t11ab, t11ao, none⟩) t11n t11k), (54, .slice (some ⟨t54b, t54o, none⟩) t54n t54k), (55, .int .i64 t55), (56, .int .i64 t56), (93, .bool (!(t90 == t13)))] 96 (s' := (.code (sub B [1, 1, 1, 1, 1, 1, 1, 1, 0, 1, 0, 0, 1, 1, 0, 0, 1, 1, 1, 1]) :: S21)) (by kernel_rfl) h
      · replace h := iteF c25 h
        refine KR.setV 86 (by kernel_rfl) (nB (eF c25)) ?_
        exact KR.run 8 [(1, .int .i64 t1), (2, .int .i64 t2), (7, .pointer t7), (11, .slice t11a t11n t11k), (54, .slice (some ⟨t54b, t54o, none⟩) t54n t54k), (55, .int .i64 t55), (56, .int .i64 t56), (93, .bool true)] 96 (s' := (.code (sub B [1, 1, 1, 1, 1, 1, 1, 1, 0, 1, 0, 0, 1, 1, 0, 0, 1, 1, 1, 1]) :: S21)) (by kernel_rfl) h
    · replace h := iteF c22 h
      refine KR.setV 78 (by kernel_rfl) (nB (eF c22)) ?_
      exact KR.run 16 [(1, .int .i64 t1), (2, .int .i64 t2), (7, .pointer t7), (11, .slice t11a t11n t11k), (54, .slice (some ⟨t54b, t54o, none⟩) t54n t54k), (55, .int .i64 t55), (56, .int .i64 t56), (93, .bool true)] 96 (s' := (.code (sub B [1, 1, 1, 1, 1, 1, 1, 1, 0, 1, 0, 0, 1, 1, 0, 0, 1, 1, 1, 1]) :: S21)) (by kernel_rfl) h
  · replace h := iteF c21 h
    refine KR.setV 73 (by kernel_rfl) (nB (bF c21)) ?_
    exact KR.run 21 [(1, .int .i64 t1), (2, .int .i64 t2), (7, .pointer t7), (11, .slice t11a t11n t11k), (54, .slice (some ⟨t54b, t54o, none⟩) t54n t54k), (55, .int .i64 t55), (56, .int .i64 t56), (93, .bool true)] 96 (s' := (.code (sub B [1, 1, 1, 1, 1, 1, 1, 1, 0, 1, 0, 0, 1, 1, 0, 0, 1, 1, 1, 1]) :: S21)) (by kernel_rfl) h
theorem L3_step {t1 : Int} {t2 : Int} {t7 : Option Addr} {t11a : Option Addr} {t11n : Nat} {t11k : Nat} {t54b : Nat} {t54o : Nat} {t54n : Nat} {t54k : Nat} {t55 : Int} {t56 : Int} {t93 : Bool} {H : Heap} {r : Value × Heap} (h :
    if t93 = true then
    (r = (.bool false, H))
    else
    (L1 (t1) (t2) (t7) (t11a) (t11n) (t11k) ((some ⟨t54b, t54o, none⟩)) (t54n) (t54k) (t55) ((IntKind.wrap .i64 (t56 + 1))) H r)) :
    L3 t1 t2 t7 t11a t11n t11k t54b t54o t54n t54k t55 t56 t93 H r := by
  intro J
  show KR _ _ _ (.code (sub B [1, 1, 1, 1, 1, 1, 1, 1, 0, 1, 0, 0, 1, 1, 0, 0, 1, 1, 1, 1]) :: S21) _ _ _
  by_cases c28 : t93 = true
  · replace h := iteT c28 h
    refine KR.br true (by kernel_rfl) (vB (bT c28)) ?_
    refine KR.run 4 [(6, .bool false)] 96 (s' := (.code (sub B [1, 1, 1, 1, 1, 1, 1, 1, 0, 1, 0, 0, 1, 1, 0, 0, 1, 1, 1, 1, 0, 1]) :: S21)) (by kernel_rfl) fun J => ?_
    exact KR.fin (by kernel_rfl) h
  · replace h := iteF c28 h
    refine KR.br false (by kernel_rfl) (vB (bF c28)) ?_
    exact KR.run 6 [(1, .int .i64 t1), (2, .int .i64 t2), (7, .pointer t7), (11, .slice t11a t11n t11k), (54, .slice (some ⟨t54b, t54o, none⟩) t54n t54k), (55, .int .i64 t55), (56, .int .i64 (IntKind.wrap .i64 (t56 + 1)))] 96 (s' := (.lp (sub B [1, 1, 1, 1, 1, 1, 1, 1, 0, 1, 0, 0]) :: S17)) (by kernel_rfl) h
theorem call {a0a : Option Addr} {a0n : Nat} {a0k : Nat} {a1 : Int} {a2 : Int} {H : Heap} {r : Value × Heap} (h :
    if ((a0n : Nat) : Int) > 30 then
    (∃ (t19 : Bool) (H_1 : Heap), xC Try.prog good 12 [] H = some (.bool t19, H_1) ∧
    (r = (.bool t19, H_1)))
    else
    (∃ (t20 : Option Addr) (H_2 : Heap), xC Try.prog good 13 [.int .i64 32] H = some (.pointer t20, H_2) ∧
    (L0 (a0a) (a0n) (a0k) (a1) (a2) (t20) 0 (a0a) (a0n) (a0k) (((a0n : Nat) : Int)) 0 H_2 r))) :
    xC Try.prog good 3 [.slice a0a a0n a0k, .int .i64 a1, .int .i64 a2] H = some r := by
  refine KR.enter (fn := Try.f3) (c := B) (by kernel_rfl) (by kernel_rfl) ?_
  refine KR.run 11 [(0, .slice a0a a0n a0k), (1, .int .i64 a1), (2, .int .i64 a2), (18, .bool (decide (((a0n : Nat) : Int) > 30)))] 96 (s' := (.code (sub B [1, 0, 1]) :: S0)) (by kernel_rfl) fun J => ?_
  by_cases c1 : ((a0n : Nat) : Int) > 30
  · replace h := iteT c1 h
    refine KR.br true (by kernel_rfl) (vB (dT c1)) ?_
    refine KR.run 2 [] 96 (s' := (.reg (opsAt (sub B [1, 0, 1, 0, 0])) [0, 1] :: S1)) (by kernel_rfl) fun J => ?_
    obtain ⟨t19, H_1, q2, h⟩ := h
    refine KR.se (one_ca (by kernel_rfl) q2) ?_
    refine KR.run 2 [(6, .bool t19)] 96 (s' := (.code (sub B [1, 0, 1, 0, 1]) :: S0)) (by kernel_rfl) fun J => ?_
    exact KR.fin (by kernel_rfl) h
  · replace h := iteF c1 h
    refine KR.br false (by kernel_rfl) (vB (dF c1)) ?_
    refine KR.run 3 [(0, .slice a0a a0n a0k), (1, .int .i64 a1), (2, .int .i64 a2)] 96 (s' := (.reg (opsAt (sub B [1, 1, 0])) [0, 1] :: S2)) (by kernel_rfl) fun J => ?_
    obtain ⟨t20, H_2, q3, h⟩ := h
    refine KR.se (one_ca (by kernel_rfl) q3) ?_
    exact KR.run 15 [(0, .slice a0a a0n a0k), (1, .int .i64 a1), (2, .int .i64 a2), (7, .pointer t20), (8, .int .i64 0), (21, .slice a0a a0n a0k), (22, .int .i64 ((a0n : Nat) : Int)), (23, .int .i64 0)] 96 (s' := (.lp (sub B [1, 1, 1, 1, 0, 1, 0, 0]) :: S4)) (by kernel_rfl) h
end F3
/-! #### 4 campanile/campanilelaw10.QueueOwn -/
namespace F4
noncomputable def B : Code := bodyOf Try.f4
noncomputable def S0 : List It := (.code (sub B [1, 1]) :: [])
noncomputable def S2 : List It := (.code (sub B [1, 1, 1]) :: [])
noncomputable def S3 : List It := (.code (sub B [1, 1, 1, 1]) :: [])
noncomputable def S4 : List It := (.code (sub B [1, 1, 1, 1, 1]) :: [])
noncomputable def S6 : List It := (.code (sub B [1, 1, 1, 1, 1, 1]) :: [])
noncomputable def S12 : List It := (.code (sub B [1, 1, 1, 1, 1, 1, 1]) :: [])
noncomputable def S13 : List It := (.code (sub B [1, 1, 1, 1, 1, 1, 1, 1]) :: [])
noncomputable def S19 : List It := (.code (sub B [1, 1, 1, 1, 1, 1, 1, 1, 1]) :: [])
noncomputable def S20 : List It := (.code (sub B [1, 1, 1, 1, 1, 1, 1, 1, 1, 1]) :: [])
noncomputable def S1 : List It := (.code (sub B [1, 0, 1, 0, 1]) :: S0)
noncomputable def S5 : List It := (.code (sub B [1, 1, 1, 1, 0, 1]) :: S4)
noncomputable def S7 : List It := (.blk 0 :: S6)
noncomputable def S14 : List It := (.blk 2 :: S13)
noncomputable def S8 : List It := (.lp (sub B [1, 1, 1, 1, 1, 0, 1, 0, 0]) :: S7)
noncomputable def S15 : List It := (.lp (sub B [1, 1, 1, 1, 1, 1, 1, 0, 1, 0, 0]) :: S14)
noncomputable def S9 : List It := (.code (sub B [1, 1, 1, 1, 1, 0, 1, 0, 0, 1, 1]) :: S8)
noncomputable def S10 : List It := (.code (sub B [1, 1, 1, 1, 1, 0, 1, 0, 0, 1, 1, 1]) :: S8)
noncomputable def S16 : List It := (.code (sub B [1, 1, 1, 1, 1, 1, 1, 0, 1, 0, 0, 1, 1]) :: S15)
noncomputable def S17 : List It := (.code (sub B [1, 1, 1, 1, 1, 1, 1, 0, 1, 0, 0, 1, 1, 1]) :: S15)
noncomputable def S11 : List It := (.blk 1 :: S10)
noncomputable def S18 : List It := (.blk 3 :: S17)
def L0 (t0a : Option Addr) (t0n : Nat) (t0k : Nat) (t3 : Option Addr) (t4a : Option Addr) (t4n : Nat) (t4k : Nat) (t24 : Int) (t25 : Int) (H : Heap) (r : Value × Heap) : Prop := ∀ J, KR Try.prog good Try.f4 S8 (mat J 73 [(0, .slice t0a t0n t0k), (3, .pointer t3), (4, .slice t4a t4n t4k), (24, .int .i64 t24), (25, .int .i64 t25)]) H r
def L1 (t0a : Option Addr) (t0n : Nat) (t0k : Nat) (t3 : Option Addr) (t6a : Option Addr) (t6n : Nat) (t6k : Nat) (t41 : Int) (t42 : Int) (H : Heap) (r : Value × Heap) : Prop := ∀ J, KR Try.prog good Try.f4 S15 (mat J 73 [(0, .slice t0a t0n t0k), (3, .pointer t3), (6, .slice t6a t6n t6k), (41, .int .i64 t41), (42, .int .i64 t42)]) H r
theorem L0_step {t0a : Option Addr} {t0n : Nat} {t0k : Nat} {t3 : Option Addr} {t4a : Option Addr} {t4n : Nat} {t4k : Nat} {t24 : Int} {t25 : Int} {H : Heap} {r : Value × Heap} (h :
    if t25 < t24 then
    (∃ (t4ab t4ao : Nat), t4a = some ⟨t4ab, t4ao, none⟩ ∧
    ((0 : Int) ≤ t25 ∧ t25 < ((t4n : Nat) : Int) ∧
    (∃ (t31 : Int), ldc H t4ab (t4ao + Int.toNat t25 * 1) = some (.int .u8 t31) ∧
    ((0 : Int) ≤ t25 ∧ t25 < ((t4n : Nat) : Int) ∧
    (∃ (H_1 : Heap), stc H t4ab (t4ao + Int.toNat t25 * 1) [.int .u8 (ixor .u8 t31 255)] = some H_1 ∧
    (L0 (t0a) (t0n) (t0k) (t3) ((some ⟨t4ab, t4ao, none⟩)) (t4n) (t4k) (t24) ((IntKind.wrap .i64 (t25 + 1))) H_1 r))))))
    else
    (∃ (t37r0a : Option Addr) (t37r0n : Nat) (t37r0k : Nat) (t37r1 : Bool) (H_2 : Heap), xC Try.prog good 17 [.pointer t3, .int .i64 0] H = some (.tuple #[.slice t37r0a t37r0n t37r0k, .bool t37r1], H_2) ∧
    (L1 (t0a) (t0n) (t0k) (t3) (t37r0a) (t37r0n) (t37r0k) (((t37r0n : Nat) : Int)) 0 H_2 r))) :
    L0 t0a t0n t0k t3 t4a t4n t4k t24 t25 H r := by
  intro J
  show KR _ _ _ (.lp (sub B [1, 1, 1, 1, 1, 0, 1, 0, 0]) :: S7) _ _ _
  refine KR.run 6 [(0, .slice t0a t0n t0k), (3, .pointer t3), (4, .slice t4a t4n t4k), (24, .int .i64 t24), (25, .int .i64 t25), (26, .bool (decide (t25 < t24)))] 73 (s' := (.code (sub B [1, 1, 1, 1, 1, 0, 1, 0, 0, 1, 0]) :: S9)) (by kernel_rfl) fun J => ?_
  by_cases c8 : t25 < t24
  · replace h := iteT c8 h
    refine KR.br true (by kernel_rfl) (vB (dT c8)) ?_
    obtain ⟨t4ab, t4ao, rfl, h⟩ := h
    refine KR.run 11 [(0, .slice t0a t0n t0k), (3, .pointer t3), (4, .slice (some ⟨t4ab, t4ao, none⟩) t4n t4k), (24, .int .i64 t24), (25, .int .i64 t25), (28, .slice (some ⟨t4ab, t4ao, none⟩) t4n t4k), (29, .int .i64 t25)] 73 (s' := (.reg (opsAt (sub B [1, 1, 1, 1, 1, 0, 1, 0, 0, 1, 1, 0, 0, 1])) [2, 3, 4, 5, 6] :: S11)) (by kernel_rfl) fun J => ?_
    obtain ⟨q9, q9x, h⟩ := h
    refine KR.p (one_ix 1 t4ab t4ao (by kernel_rfl) q9 q9x) ?_
    obtain ⟨t31, q10, h⟩ := h
    refine KR.rd (one_ld (by kernel_rfl) q10) ?_
    refine KR.run 1 [(0, .slice t0a t0n t0k), (3, .pointer t3), (4, .slice (some ⟨t4ab, t4ao, none⟩) t4n t4k), (24, .int .i64 t24), (25, .int .i64 t25), (28, .slice (some ⟨t4ab, t4ao, none⟩) t4n t4k), (29, .int .i64 t25), (32, .int .u8 (ixor .u8 t31 255))] 73 (s' := (.reg (opsAt (sub B [1, 1, 1, 1, 1, 0, 1, 0, 0, 1, 1, 0, 0, 1])) [5, 6] :: S11)) (by kernel_rfl) fun J => ?_
    obtain ⟨q11, q11x, h⟩ := h
    refine KR.p (one_ix 1 t4ab t4ao (by kernel_rfl) q11 q11x) ?_
    obtain ⟨H_1, q12, h⟩ := h
    refine KR.se (one_st (by kernel_rfl) q12) ?_
    exact KR.run 6 [(0, .slice t0a t0n t0k), (3, .pointer t3), (4, .slice (some ⟨t4ab, t4ao, none⟩) t4n t4k), (24, .int .i64 t24), (25, .int .i64 (IntKind.wrap .i64 (t25 + 1)))] 73 (s' := (.lp (sub B [1, 1, 1, 1, 1, 0, 1, 0, 0]) :: S7)) (by kernel_rfl) h
  · replace h := iteF c8 h
    refine KR.br false (by kernel_rfl) (vB (dF c8)) ?_
    refine KR.run 4 [(0, .slice t0a t0n t0k), (3, .pointer t3), (36, .pointer t3)] 73 (s' := (.reg (opsAt (sub B [1, 1, 1, 1, 1, 1, 0])) [1, 2, 3, 4, 5, 6] :: S12)) (by kernel_rfl) fun J => ?_
    obtain ⟨t37r0a, t37r0n, t37r0k, t37r1, H_2, q13, h⟩ := h
    refine KR.se (one_ca (by kernel_rfl) q13) ?_
    exact KR.run 15 [(0, .slice t0a t0n t0k), (3, .pointer t3), (6, .slice t37r0a t37r0n t37r0k), (41, .int .i64 ((t37r0n : Nat) : Int)), (42, .int .i64 0)] 73 (s' := (.lp (sub B [1, 1, 1, 1, 1, 1, 1, 0, 1, 0, 0]) :: S14)) (by kernel_rfl) h
theorem L1_step {t0a : Option Addr} {t0n : Nat} {t0k : Nat} {t3 : Option Addr} {t6a : Option Addr} {t6n : Nat} {t6k : Nat} {t41 : Int} {t42 : Int} {H : Heap} {r : Value × Heap} (h :
    if t42 < t41 then
    (∃ (t6ab t6ao : Nat), t6a = some ⟨t6ab, t6ao, none⟩ ∧
    ((0 : Int) ≤ t42 ∧ t42 < ((t6n : Nat) : Int) ∧
    (∃ (t48 : Int), ldc H t6ab (t6ao + Int.toNat t42 * 1) = some (.int .u8 t48) ∧
    ((0 : Int) ≤ t42 ∧ t42 < ((t6n : Nat) : Int) ∧
    (∃ (H_1 : Heap), stc H t6ab (t6ao + Int.toNat t42 * 1) [.int .u8 (ixor .u8 t48 255)] = some H_1 ∧
    (L1 (t0a) (t0n) (t0k) (t3) ((some ⟨t6ab, t6ao, none⟩)) (t6n) (t6k) (t41) ((IntKind.wrap .i64 (t42 + 1))) H_1 r))))))
    else
    (∃ (t54r0a : Option Addr) (t54r0n : Nat) (t54r0k : Nat) (t54r1 : Bool) (H_2 : Heap), xC Try.prog good 18 [.pointer t3, .int .i64 0] H = some (.tuple #[.slice t54r0a t54r0n t54r0k, .bool t54r1], H_2) ∧
    (if t54r1 = true then
    (∃ (t60 : ByteArray), pstrb H_2 t54r0a t54r0n = some t60 ∧
    (∃ (t62 : ByteArray), pstrb H_2 t0a t0n = some t62 ∧
    (if t60.toList = t62.toList then
    (∃ (t67 : Int) (H_3 : Heap), xC Try.prog good 19 [.pointer t3] H_2 = some (.int .i64 t67, H_3) ∧
    (if t67 = 0 then
    (∃ (t71 : Bool) (H_4 : Heap), xC Try.prog good 12 [] H_3 = some (.bool t71, H_4) ∧
    (r = (.bool t71, H_4)))
    else
    (r = (.bool false, H_3))))
    else
    (r = (.bool false, H_2)))))
    else
    (r = (.bool false, H_2))))) :
    L1 t0a t0n t0k t3 t6a t6n t6k t41 t42 H r := by
  intro J
  show KR _ _ _ (.lp (sub B [1, 1, 1, 1, 1, 1, 1, 0, 1, 0, 0]) :: S14) _ _ _
  refine KR.run 6 [(0, .slice t0a t0n t0k), (3, .pointer t3), (6, .slice t6a t6n t6k), (41, .int .i64 t41), (42, .int .i64 t42), (43, .bool (decide (t42 < t41)))] 73 (s' := (.code (sub B [1, 1, 1, 1, 1, 1, 1, 0, 1, 0, 0, 1, 0]) :: S16)) (by kernel_rfl) fun J => ?_
  by_cases c14 : t42 < t41
  · replace h := iteT c14 h
    refine KR.br true (by kernel_rfl) (vB (dT c14)) ?_
    obtain ⟨t6ab, t6ao, rfl, h⟩ := h
    refine KR.run 11 [(0, .slice t0a t0n t0k), (3, .pointer t3), (6, .slice (some ⟨t6ab, t6ao, none⟩) t6n t6k), (41, .int .i64 t41), (42, .int .i64 t42), (45, .slice (some ⟨t6ab, t6ao, none⟩) t6n t6k), (46, .int .i64 t42)] 73 (s' := (.reg (opsAt (sub B [1, 1, 1, 1, 1, 1, 1, 0, 1, 0, 0, 1, 1, 0, 0, 1])) [2, 3, 4, 5, 6] :: S18)) (by kernel_rfl) fun J => ?_
    obtain ⟨q15, q15x, h⟩ := h
    refine KR.p (one_ix 1 t6ab t6ao (by kernel_rfl) q15 q15x) ?_
    obtain ⟨t48, q16, h⟩ := h
    refine KR.rd (one_ld (by kernel_rfl) q16) ?_
    refine KR.run 1 [(0, .slice t0a t0n t0k), (3, .pointer t3), (6, .slice (some ⟨t6ab, t6ao, none⟩) t6n t6k), (41, .int .i64 t41), (42, .int .i64 t42), (45, .slice (some ⟨t6ab, t6ao, none⟩) t6n t6k), (46, .int .i64 t42), (49, .int .u8 (ixor .u8 t48 255))] 73 (s' := (.reg (opsAt (sub B [1, 1, 1, 1, 1, 1, 1, 0, 1, 0, 0, 1, 1, 0, 0, 1])) [5, 6] :: S18)) (by kernel_rfl) fun J => ?_
    obtain ⟨q17, q17x, h⟩ := h
    refine KR.p (one_ix 1 t6ab t6ao (by kernel_rfl) q17 q17x) ?_
    obtain ⟨H_1, q18, h⟩ := h
    refine KR.se (one_st (by kernel_rfl) q18) ?_
    exact KR.run 6 [(0, .slice t0a t0n t0k), (3, .pointer t3), (6, .slice (some ⟨t6ab, t6ao, none⟩) t6n t6k), (41, .int .i64 t41), (42, .int .i64 (IntKind.wrap .i64 (t42 + 1)))] 73 (s' := (.lp (sub B [1, 1, 1, 1, 1, 1, 1, 0, 1, 0, 0]) :: S14)) (by kernel_rfl) h
  · replace h := iteF c14 h
    refine KR.br false (by kernel_rfl) (vB (dF c14)) ?_
    refine KR.run 4 [(0, .slice t0a t0n t0k), (3, .pointer t3), (53, .pointer t3)] 73 (s' := (.reg (opsAt (sub B [1, 1, 1, 1, 1, 1, 1, 1, 0])) [1, 2, 3, 4, 5, 6] :: S19)) (by kernel_rfl) fun J => ?_
    obtain ⟨t54r0a, t54r0n, t54r0k, t54r1, H_2, q19, h⟩ := h
    refine KR.se (one_ca (by kernel_rfl) q19) ?_
    refine KR.run 10 [(0, .slice t0a t0n t0k), (3, .pointer t3), (9, .slice t54r0a t54r0n t54r0k), (58, .bool t54r1)] 73 (s' := (.reg (opsAt (sub B [1, 1, 1, 1, 1, 1, 1, 1, 1, 0])) [2, 3, 4, 5, 6, 7, 8, 9, 10, 11, 12, 13, 14, 15, 16] :: S20)) (by kernel_rfl) fun J => ?_
    by_cases c20 : t54r1 = true
    · replace h := iteT c20 h
      refine KR.setV 58 (by kernel_rfl) (bT c20) ?_
      refine KR.run 1 [(0, .slice t0a t0n t0k), (3, .pointer t3), (58, .bool true), (59, .slice t54r0a t54r0n t54r0k)] 73 (s' := (.reg (opsAt (sub B [1, 1, 1, 1, 1, 1, 1, 1, 1, 0])) [3, 4, 5, 6, 7, 8, 9, 10, 11, 12, 13, 14, 15, 16] :: S20)) (by kernel_rfl) fun J => ?_
      obtain ⟨t60, q21, h⟩ := h
      refine KR.rd (one_str (by kernel_rfl) q21) ?_
      refine KR.run 1 [(3, .pointer t3), (58, .bool true), (60, .string t60), (61, .slice t0a t0n t0k)] 73 (s' := (.reg (opsAt (sub B [1, 1, 1, 1, 1, 1, 1, 1, 1, 0])) [5, 6, 7, 8, 9, 10, 11, 12, 13, 14, 15, 16] :: S20)) (by kernel_rfl) fun J => ?_
      obtain ⟨t62, q22, h⟩ := h
      refine KR.rd (one_str (by kernel_rfl) q22) ?_
      refine KR.run 3 [(3, .pointer t3), (65, .bool (t60.toList == t62.toList))] 73 (s' := (.reg (opsAt (sub B [1, 1, 1, 1, 1, 1, 1, 1, 1, 0])) [9, 10, 11, 12, 13, 14, 15, 16] :: S20)) (by kernel_rfl) fun J => ?_
      by_cases c23 : t60.toList = t62.toList
      · replace h := iteT c23 h
        refine KR.setV 65 (by kernel_rfl) (eT c23) ?_
        refine KR.run 1 [(65, .bool true), (66, .pointer t3)] 73 (s' := (.reg (opsAt (sub B [1, 1, 1, 1, 1, 1, 1, 1, 1, 0])) [10, 11, 12, 13, 14, 15, 16] :: S20)) (by kernel_rfl) fun J => ?_
        obtain ⟨t67, H_3, q24, h⟩ := h
        refine KR.se (one_ca (by kernel_rfl) q24) ?_
        refine KR.run 3 [(70, .bool (t67 == 0))] 73 (s' := (.reg (opsAt (sub B [1, 1, 1, 1, 1, 1, 1, 1, 1, 0])) [14, 15, 16] :: S20)) (by kernel_rfl) fun J => ?_
        by_cases c25 : t67 = 0
        · replace h := iteT c25 h
          refine KR.setV 70 (by kernel_rfl) (eT c25) ?_
          obtain ⟨t71, H_4, q26, h⟩ := h
          refine KR.se (one_ca (by kernel_rfl) q26) ?_
          refine KR.run 3 [(2, .bool t71)] 73 (s' := (.code (sub B [1, 1, 1, 1, 1, 1, 1, 1, 1, 1]) :: [])) (by kernel_rfl) fun J => ?_
          exact KR.fin (by kernel_rfl) h
        · replace h := iteF c25 h
          refine KR.setV 70 (by kernel_rfl) (eF c25) ?_
          refine KR.run 4 [(2, .bool false)] 73 (s' := (.code (sub B [1, 1, 1, 1, 1, 1, 1, 1, 1, 1]) :: [])) (by kernel_rfl) fun J => ?_
          exact KR.fin (by kernel_rfl) h
      · replace h := iteF c23 h
        refine KR.setV 65 (by kernel_rfl) (eF c23) ?_
        refine KR.run 9 [(2, .bool false)] 73 (s' := (.code (sub B [1, 1, 1, 1, 1, 1, 1, 1, 1, 1]) :: [])) (by kernel_rfl) fun J => ?_
        exact KR.fin (by kernel_rfl) h
    · replace h := iteF c20 h
      refine KR.setV 58 (by kernel_rfl) (bF c20) ?_
      refine KR.run 16 [(2, .bool false)] 73 (s' := (.code (sub B [1, 1, 1, 1, 1, 1, 1, 1, 1, 1]) :: [])) (by kernel_rfl) fun J => ?_
      exact KR.fin (by kernel_rfl) h
theorem call {a0a : Option Addr} {a0n : Nat} {a0k : Nat} {H : Heap} {r : Value × Heap} (h :
    if ((a0n : Nat) : Int) > 200 then
    (∃ (t14 : Bool) (H_1 : Heap), xC Try.prog good 12 [] H = some (.bool t14, H_1) ∧
    (r = (.bool t14, H_1)))
    else
    (∃ (t15 : Option Addr) (H_2 : Heap), xC Try.prog good 13 [.int .i64 4] H = some (.pointer t15, H_2) ∧
    (∃ (H_3 : Heap), H_3 = H_2.push (.row [] true) ∧
    (∃ (t18a : Option Addr) (t18n : Nat) (t18k : Nat) (H_4 : Heap), papp H_3 1 1 (some ⟨H_2.next, 0, none⟩) 0 (UNK 1) a0a a0n a0k = some ((t18a, t18n, t18k), H_4) ∧
    (∃ (t21 : Bool) (H_5 : Heap), xC Try.prog good 14 [.pointer t15, .int .i64 1, .slice t18a t18n t18k] H_4 = some (.bool t21, H_5) ∧
    (if t21 = true then
    (L0 (a0a) (a0n) (a0k) (t15) (t18a) (t18n) (t18k) (((t18n : Nat) : Int)) 0 H_5 r)
    else
    (r = (.bool false, H_5)))))))) :
    xC Try.prog good 4 [.slice a0a a0n a0k] H = some r := by
  refine KR.enter (fn := Try.f4) (c := B) (by kernel_rfl) (by kernel_rfl) ?_
  refine KR.run 11 [(0, .slice a0a a0n a0k), (13, .bool (decide (((a0n : Nat) : Int) > 200)))] 73 (s' := (.code (sub B [1, 0, 1]) :: S0)) (by kernel_rfl) fun J => ?_
  by_cases c1 : ((a0n : Nat) : Int) > 200
  · replace h := iteT c1 h
    refine KR.br true (by kernel_rfl) (vB (dT c1)) ?_
    refine KR.run 2 [] 73 (s' := (.reg (opsAt (sub B [1, 0, 1, 0, 0])) [0, 1] :: S1)) (by kernel_rfl) fun J => ?_
    obtain ⟨t14, H_1, q2, h⟩ := h
    refine KR.se (one_ca (by kernel_rfl) q2) ?_
    refine KR.run 2 [(2, .bool t14)] 73 (s' := (.code (sub B [1, 0, 1, 0, 1]) :: S0)) (by kernel_rfl) fun J => ?_
    exact KR.fin (by kernel_rfl) h
  · replace h := iteF c1 h
    refine KR.br false (by kernel_rfl) (vB (dF c1)) ?_
    refine KR.run 3 [(0, .slice a0a a0n a0k)] 73 (s' := (.reg (opsAt (sub B [1, 1, 0])) [0, 1] :: S2)) (by kernel_rfl) fun J => ?_
    obtain ⟨t15, H_2, q3, h⟩ := h
    refine KR.se (one_ca (by kernel_rfl) q3) ?_
    refine KR.run 4 [(0, .slice a0a a0n a0k), (3, .pointer t15)] 73 (s' := (.reg (opsAt (sub B [1, 1, 1, 0])) [0, 1, 2, 3] :: S3)) (by kernel_rfl) fun J => ?_
    obtain ⟨H_3, q4, h⟩ := h
    refine KR.mk (w := sRow 0 1 []) (one_al (by kernel_rfl)) q4 ?_
    refine KR.run 1 [(0, .slice a0a a0n a0k), (3, .pointer t15), (16, .slice (some ⟨H_2.next, 0, none⟩) 0 (UNK 1)), (17, .slice a0a a0n a0k)] 73 (s' := (.reg (opsAt (sub B [1, 1, 1, 0])) [2, 3] :: S3)) (by kernel_rfl) fun J => ?_
    obtain ⟨t18a, t18n, t18k, H_4, q5, h⟩ := h
    refine KR.se (one_ap 1 1 (by kernel_rfl) q5) ?_
    refine KR.run 7 [(0, .slice a0a a0n a0k), (3, .pointer t15), (4, .slice t18a t18n t18k), (19, .pointer t15), (20, .slice t18a t18n t18k)] 73 (s' := (.reg (opsAt (sub B [1, 1, 1, 1, 0, 0])) [2, 3] :: S5)) (by kernel_rfl) fun J => ?_
    obtain ⟨t21, H_5, q6, h⟩ := h
    refine KR.se (one_ca (by kernel_rfl) q6) ?_
    refine KR.run 2 [(0, .slice a0a a0n a0k), (3, .pointer t15), (4, .slice t18a t18n t18k), (22, .bool (!t21))] 73 (s' := (.code (sub B [1, 1, 1, 1, 0, 1]) :: S4)) (by kernel_rfl) fun J => ?_
    by_cases c7 : t21 = true
    · replace h := iteT c7 h
      refine KR.br false (by kernel_rfl) (vB (nB (bT c7))) ?_
      exact KR.run 10 [(0, .slice a0a a0n a0k), (3, .pointer t15), (4, .slice t18a t18n t18k), (24, .int .i64 ((t18n : Nat) : Int)), (25, .int .i64 0)] 73 (s' := (.lp (sub B [1, 1, 1, 1, 1, 0, 1, 0, 0]) :: S7)) (by kernel_rfl) h
    · replace h := iteF c7 h
      refine KR.br true (by kernel_rfl) (vB (nB (bF c7))) ?_
      refine KR.run 4 [(2, .bool false)] 73 (s' := (.code (sub B [1, 1, 1, 1, 0, 1, 0, 1]) :: S4)) (by kernel_rfl) fun J => ?_
      exact KR.fin (by kernel_rfl) h
end F4
/-! #### 5 campanile/campanilelaw10.QueueOrder -/
namespace F5
noncomputable def B : Code := bodyOf Try.f5
noncomputable def S0 : List It := (.code (sub B [1, 1, 1]) :: [])
noncomputable def S1 : List It := (.code (sub B [1, 1, 1, 1]) :: [])
noncomputable def S3 : List It := (.code (sub B [1, 1, 1, 1, 1]) :: [])
noncomputable def S13 : List It := (.code (sub B [1, 1, 1, 1, 1, 1, 1]) :: [])
noncomputable def S15 : List It := (.code (sub B [1, 1, 1, 1, 1, 1, 1, 1]) :: [])
noncomputable def S24 : List It := (.code (sub B [1, 1, 1, 1, 1, 1, 1, 1, 1]) :: [])
noncomputable def S25 : List It := (.code (sub B [1, 1, 1, 1, 1, 1, 1, 1, 1, 1]) :: [])
noncomputable def S2 : List It := (.code (sub B [1, 1, 1, 0, 1, 0, 1]) :: S1)
noncomputable def S4 : List It := (.blk 0 :: S3)
noncomputable def S14 : List It := (.code (sub B [1, 1, 1, 1, 1, 1, 0, 1]) :: S13)
noncomputable def S16 : List It := (.blk 2 :: S15)
noncomputable def S5 : List It := (.lp (sub B [1, 1, 1, 1, 0, 1, 0, 0]) :: S4)
noncomputable def S17 : List It := (.lp (sub B [1, 1, 1, 1, 1, 1, 1, 0, 1, 0, 0]) :: S16)
noncomputable def S6 : List It := (.code (sub B [1, 1, 1, 1, 0, 1, 0, 0, 1, 1]) :: S5)
noncomputable def S7 : List It := (.code (sub B [1, 1, 1, 1, 0, 1, 0, 0, 1, 1, 1]) :: S5)
noncomputable def S18 : List It := (.code (sub B [1, 1, 1, 1, 1, 1, 1, 0, 1, 0, 0, 1, 1]) :: S17)
noncomputable def S19 : List It := (.code (sub B [1, 1, 1, 1, 1, 1, 1, 0, 1, 0, 0, 1, 1, 1]) :: S17)
noncomputable def S8 : List It := (.blk 1 :: S7)
noncomputable def S20 : List It := (.blk 3 :: S19)
noncomputable def S9 : List It := (.code (sub B [1, 1, 1, 1, 0, 1, 0, 0, 1, 1, 0, 0, 1]) :: S8)
noncomputable def S10 : List It := (.code (sub B [1, 1, 1, 1, 0, 1, 0, 0, 1, 1, 0, 0, 1, 1]) :: S8)
noncomputable def S12 : List It := (.code (sub B [1, 1, 1, 1, 0, 1, 0, 0, 1, 1, 0, 0, 1, 1, 1]) :: S8)
noncomputable def S21 : List It := (.code (sub B [1, 1, 1, 1, 1, 1, 1, 0, 1, 0, 0, 1, 1, 0, 0, 1, 1]) :: S20)
noncomputable def S26 : List It := (.code (sub B [1, 1, 1, 1, 1, 1, 1, 0, 1, 0, 0, 1, 1, 0, 0, 1, 1, 1]) :: S20)
noncomputable def S27 : List It := (.code (sub B [1, 1, 1, 1, 1, 1, 1, 0, 1, 0, 0, 1, 1, 0, 0, 1, 1, 1, 1]) :: S20)
noncomputable def S11 : List It := (.code (sub B [1, 1, 1, 1, 0, 1, 0, 0, 1, 1, 0, 0, 1, 0, 1, 0, 1]) :: S10)
noncomputable def S22 : List It := (.code (sub B [1, 1, 1, 1, 1, 1, 1, 0, 1, 0, 0, 1, 1, 0, 0, 1, 0, 1]) :: S21)
noncomputable def S23 : List It := (.code (sub B [1, 1, 1, 1, 1, 1, 1, 0, 1, 0, 0, 1, 1, 0, 0, 1, 0, 1, 1]) :: S21)
def L0 (t0 : Int) (t1a : Option Addr) (t1n : Nat) (t1k : Nat) (t5 : Option Addr) (t26a : Option Addr) (t26n : Nat) (t26k : Nat) (t27 : Int) (t28 : Int) (H : Heap) (r : Value × Heap) : Prop := ∀ J, KR Try.prog good Try.f5 S5 (mat J 115 [(0, .int .i64 t0), (1, .slice t1a t1n t1k), (5, .pointer t5), (26, .slice t26a t26n t26k), (27, .int .i64 t27), (28, .int .i64 t28)]) H r
def L1 (t1a : Option Addr) (t1n : Nat) (t1k : Nat) (t5 : Option Addr) (t8 : Int) (t62 : Bool) (H : Heap) (r : Value × Heap) : Prop := ∀ J, KR Try.prog good Try.f5 S14 (mat J 115 [(1, .slice t1a t1n t1k), (5, .pointer t5), (8, .int .i64 t8), (62, .bool t62)]) H r
def L2 (t1a : Option Addr) (t1n : Nat) (t1k : Nat) (t5 : Option Addr) (t8 : Int) (t63 : Int) (t64 : Int) (H : Heap) (r : Value × Heap) : Prop := ∀ J, KR Try.prog good Try.f5 S17 (mat J 115 [(1, .slice t1a t1n t1k), (5, .pointer t5), (8, .int .i64 t8), (63, .int .i64 t63), (64, .int .i64 t64)]) H r
def L3 (t1a : Option Addr) (t1n : Nat) (t1k : Nat) (t5 : Option Addr) (t8 : Int) (t9 : Int) (t63 : Int) (t64 : Int) (t81 : Bool) (H : Heap) (r : Value × Heap) : Prop := ∀ J, KR Try.prog good Try.f5 S23 (mat J 115 [(1, .slice t1a t1n t1k), (5, .pointer t5), (8, .int .i64 t8), (9, .int .i64 t9), (63, .int .i64 t63), (64, .int .i64 t64), (81, .bool t81)]) H r
def L4 (t1a : Option Addr) (t1n : Nat) (t1k : Nat) (t5 : Option Addr) (t8 : Int) (t63 : Int) (t64 : Int) (t98 : Bool) (H : Heap) (r : Value × Heap) : Prop := ∀ J, KR Try.prog good Try.f5 S27 (mat J 115 [(1, .slice t1a t1n t1k), (5, .pointer t5), (8, .int .i64 t8), (63, .int .i64 t63), (64, .int .i64 t64), (98, .bool t98)]) H r
theorem L0_step {t0 : Int} {t1a : Option Addr} {t1n : Nat} {t1k : Nat} {t5 : Option Addr} {t26a : Option Addr} {t26n : Nat} {t26k : Nat} {t27 : Int} {t28 : Int} {H : Heap} {r : Value × Heap} (h :
    if t28 < t27 then
    (∃ (t26ab t26ao : Nat), t26a = some ⟨t26ab, t26ao, none⟩ ∧
    ((0 : Int) ≤ t28 ∧ t28 < ((t26n : Nat) : Int) ∧
    (∃ (t32a : Option Addr) (t32n : Nat) (t32k : Nat), ldc H t26ab (t26ao + Int.toNat t28 * 1) = some (.slice t32a t32n t32k) ∧
    (if ((t32n : Nat) : Int) > 200 then
    (∃ (t36 : Bool) (H_1 : Heap), xC Try.prog good 12 [] H = some (.bool t36, H_1) ∧
    (r = (.bool t36, H_1)))
    else
    (∃ (t40 : Bool) (H_2 : Heap), xC Try.prog good 14 [.pointer t5, .int .i64 t28, .slice t32a t32n t32k] H = some (.bool t40, H_2) ∧
    (if (t40 == (decide (t28 < t0))) = true then
    (L0 (t0) (t1a) (t1n) (t1k) (t5) ((some ⟨t26ab, t26ao, none⟩)) (t26n) (t26k) (t27) ((IntKind.wrap .i64 (t28 + 1))) H_2 r)
    else
    (r = (.bool false, H_2))))))))
    else
    (∃ (t51 : Int) (H_3 : Heap), xC Try.prog good 19 [.pointer t5] H = some (.int .i64 t51, H_3) ∧
    (if t51 = (imin t0 ((t1n : Nat) : Int)) then
    (∃ (t56 : Int) (H_4 : Heap), xC Try.prog good 20 [.pointer t5] H_3 = some (.int .i64 t56, H_4) ∧
    (L1 (t1a) (t1n) (t1k) (t5) ((imin t0 ((t1n : Nat) : Int))) ((!(t56 == (IntKind.wrap .i64 (((t1n : Nat) : Int) - (imin t0 ((t1n : Nat) : Int))))))) H_4 r))
    else
    (L1 (t1a) (t1n) (t1k) (t5) ((imin t0 ((t1n : Nat) : Int))) (true) H_3 r)))) :
    L0 t0 t1a t1n t1k t5 t26a t26n t26k t27 t28 H r := by
  intro J
  show KR _ _ _ (.lp (sub B [1, 1, 1, 1, 0, 1, 0, 0]) :: S4) _ _ _
  refine KR.run 6 [(0, .int .i64 t0), (1, .slice t1a t1n t1k), (5, .pointer t5), (26, .slice t26a t26n t26k), (27, .int .i64 t27), (28, .int .i64 t28), (29, .bool (decide (t28 < t27)))] 115 (s' := (.code (sub B [1, 1, 1, 1, 0, 1, 0, 0, 1, 0]) :: S6)) (by kernel_rfl) fun J => ?_
  by_cases c4 : t28 < t27
  · replace h := iteT c4 h
    refine KR.br true (by kernel_rfl) (vB (dT c4)) ?_
    obtain ⟨t26ab, t26ao, rfl, h⟩ := h
    refine KR.run 6 [(0, .int .i64 t0), (1, .slice t1a t1n t1k), (5, .pointer t5), (26, .slice (some ⟨t26ab, t26ao, none⟩) t26n t26k), (27, .int .i64 t27), (28, .int .i64 t28), (30, .int .i64 t28)] 115 (s' := (.reg (opsAt (sub B [1, 1, 1, 1, 0, 1, 0, 0, 1, 1, 0, 0, 0])) [1, 2, 3, 4] :: S9)) (by kernel_rfl) fun J => ?_
    obtain ⟨q5, q5x, h⟩ := h
    refine KR.p (one_ix 1 t26ab t26ao (by kernel_rfl) q5 q5x) ?_
    obtain ⟨t32a, t32n, t32k, q6, h⟩ := h
    refine KR.rd (one_ld (by kernel_rfl) q6) ?_
    refine KR.run 10 [(0, .int .i64 t0), (1, .slice t1a t1n t1k), (5, .pointer t5), (6, .int .i64 t28), (7, .slice t32a t32n t32k), (26, .slice (some ⟨t26ab, t26ao, none⟩) t26n t26k), (27, .int .i64 t27), (28, .int .i64 t28), (35, .bool (decide (((t32n : Nat) : Int) > 200)))] 115 (s' := (.code (sub B [1, 1, 1, 1, 0, 1, 0, 0, 1, 1, 0, 0, 1, 0, 1]) :: S10)) (by kernel_rfl) fun J => ?_
    by_cases c7 : ((t32n : Nat) : Int) > 200
    · replace h := iteT c7 h
      refine KR.br true (by kernel_rfl) (vB (dT c7)) ?_
      refine KR.run 2 [] 115 (s' := (.reg (opsAt (sub B [1, 1, 1, 1, 0, 1, 0, 0, 1, 1, 0, 0, 1, 0, 1, 0, 0])) [0, 1] :: S11)) (by kernel_rfl) fun J => ?_
      obtain ⟨t36, H_1, q8, h⟩ := h
      refine KR.se (one_ca (by kernel_rfl) q8) ?_
      refine KR.run 2 [(4, .bool t36)] 115 (s' := (.code (sub B [1, 1, 1, 1, 0, 1, 0, 0, 1, 1, 0, 0, 1, 0, 1, 0, 1]) :: S10)) (by kernel_rfl) fun J => ?_
      exact KR.fin (by kernel_rfl) h
    · replace h := iteF c7 h
      refine KR.br false (by kernel_rfl) (vB (dF c7)) ?_
      refine KR.run 6 [(0, .int .i64 t0), (1, .slice t1a t1n t1k), (5, .pointer t5), (6, .int .i64 t28), (26, .slice (some ⟨t26ab, t26ao, none⟩) t26n t26k), (27, .int .i64 t27), (28, .int .i64 t28), (37, .pointer t5), (38, .int .i64 t28), (39, .slice t32a t32n t32k)] 115 (s' := (.reg (opsAt (sub B [1, 1, 1, 1, 0, 1, 0, 0, 1, 1, 0, 0, 1, 1, 0])) [3, 4, 5, 6, 7] :: S12)) (by kernel_rfl) fun J => ?_
      obtain ⟨t40, H_2, q9, h⟩ := h
      refine KR.se (one_ca (by kernel_rfl) q9) ?_
      refine KR.run 5 [(0, .int .i64 t0), (1, .slice t1a t1n t1k), (5, .pointer t5), (26, .slice (some ⟨t26ab, t26ao, none⟩) t26n t26k), (27, .int .i64 t27), (28, .int .i64 t28), (44, .bool (!(t40 == (decide (t28 < t0)))))] 115 (s' := (.code (sub B [1, 1, 1, 1, 0, 1, 0, 0, 1, 1, 0, 0, 1, 1, 1]) :: S8)) (by kernel_rfl) fun J => ?_
      by_cases c10 : (t40 == (decide (t28 < t0))) = true
      · replace h := iteT c10 h
        refine KR.br false (by kernel_rfl) (vB (nB (bT c10))) ?_
        exact KR.run 6 [(0, .int .i64 t0), (1, .slice t1a t1n t1k), (5, .pointer t5), (26, .slice (some ⟨t26ab, t26ao, none⟩) t26n t26k), (27, .int .i64 t27), (28, .int .i64 (IntKind.wrap .i64 (t28 + 1)))] 115 (s' := (.lp (sub B [1, 1, 1, 1, 0, 1, 0, 0]) :: S4)) (by kernel_rfl) h
      · replace h := iteF c10 h
        refine KR.br true (by kernel_rfl) (vB (nB (bF c10))) ?_
        refine KR.run 4 [(4, .bool false)] 115 (s' := (.code (sub B [1, 1, 1, 1, 0, 1, 0, 0, 1, 1, 0, 0, 1, 1, 1, 0, 1]) :: S8)) (by kernel_rfl) fun J => ?_
        exact KR.fin (by kernel_rfl) h
  · replace h := iteF c4 h
    refine KR.br false (by kernel_rfl) (vB (dF c4)) ?_
    refine KR.run 13 [(1, .slice t1a t1n t1k), (5, .pointer t5), (8, .int .i64 (imin t0 ((t1n : Nat) : Int))), (50, .pointer t5)] 115 (s' := (.reg (opsAt (sub B [1, 1, 1, 1, 1, 1, 0, 0])) [1, 2, 3, 4, 5, 6, 7, 8, 9, 10, 11, 12] :: S14)) (by kernel_rfl) fun J => ?_
    obtain ⟨t51, H_3, q11, h⟩ := h
    refine KR.se (one_ca (by kernel_rfl) q11) ?_
    refine KR.run 3 [(1, .slice t1a t1n t1k), (5, .pointer t5), (8, .int .i64 (imin t0 ((t1n : Nat) : Int))), (54, .bool (!(t51 == (imin t0 ((t1n : Nat) : Int)))))] 115 (s' := (.reg (opsAt (sub B [1, 1, 1, 1, 1, 1, 0, 0])) [5, 6, 7, 8, 9, 10, 11, 12] :: S14)) (by kernel_rfl) fun J => ?_
    by_cases c12 : t51 = (imin t0 ((t1n : Nat) : Int))
    · replace h := iteT c12 h
      refine KR.setV 54 (by kernel_rfl) (nB (eT c12)) ?_
      refine KR.run 1 [(1, .slice t1a t1n t1k), (5, .pointer t5), (8, .int .i64 (imin t0 ((t1n : Nat) : Int))), (54, .bool false), (55, .pointer t5)] 115 (s' := (.reg (opsAt (sub B [1, 1, 1, 1, 1, 1, 0, 0])) [6, 7, 8, 9, 10, 11, 12] :: S14)) (by kernel_rfl) fun J => ?_
      obtain ⟨t56, H_4, q13, h⟩ := h
      refine KR.se (one_ca (by kernel_rfl) q13) ?_
      exact KR.run 7 [(1, .slice t1a t1n t1k), (5, .pointer t5), (8, .int .i64 (imin t0 ((t1n : Nat) : Int))), (62, .bool (!(t56 == (IntKind.wrap .i64 (((t1n : Nat) : Int) - (imin t0 ((t1n : Nat) : Int)))))))] 115 (s' := (.code (sub B [1, 1, 1, 1, 1, 1, 0, 1]) :: S13)) (by kernel_rfl) h
    · replace h := iteF c12 h
      refine KR.setV 54 (by kernel_rfl) (nB (eF c12)) ?_
      exact KR.run 9 [(1, .slice t1a t1n t1k), (5, .pointer t5), (8, .int .i64 (imin t0 ((t1n : Nat) : Int))), (62, .bool true)] 115 (s' := (.code (sub B [1, 1, 1, 1, 1, 1, 0, 1]) :: S13)) (by kernel_rfl) h
theorem L1_step {t1a : Option Addr} {t1n : Nat} {t1k : Nat} {t5 : Option Addr} {t8 : Int} {t62 : Bool} {H : Heap} {r : Value × Heap} (h :
    if t62 = true then
    (r = (.bool false, H))
    else
    (L2 (t1a) (t1n) (t1k) (t5) (t8) (t8) 0 H r)) :
    L1 t1a t1n t1k t5 t8 t62 H r := by
  intro J
  show KR _ _ _ (.code (sub B [1, 1, 1, 1, 1, 1, 0, 1]) :: S13) _ _ _
  by_cases c14 : t62 = true
  · replace h := iteT c14 h
    refine KR.br true (by kernel_rfl) (vB (bT c14)) ?_
    refine KR.run 4 [(4, .bool false)] 115 (s' := (.code (sub B [1, 1, 1, 1, 1, 1, 0, 1, 0, 1]) :: S13)) (by kernel_rfl) fun J => ?_
    exact KR.fin (by kernel_rfl) h
  · replace h := iteF c14 h
    refine KR.br false (by kernel_rfl) (vB (bF c14)) ?_
    exact KR.run 9 [(1, .slice t1a t1n t1k), (5, .pointer t5), (8, .int .i64 t8), (63, .int .i64 t8), (64, .int .i64 0)] 115 (s' := (.lp (sub B [1, 1, 1, 1, 1, 1, 1, 0, 1, 0, 0]) :: S16)) (by kernel_rfl) h
theorem L2_step {t1a : Option Addr} {t1n : Nat} {t1k : Nat} {t5 : Option Addr} {t8 : Int} {t63 : Int} {t64 : Int} {H : Heap} {r : Value × Heap} (h :
    if t64 < t63 then
    (∃ (t68a : Option Addr) (t68n : Nat) (t68k : Nat) (H_1 : Heap), xC Try.prog good 16 [.pointer t5] H = some (.slice t68a t68n t68k, H_1) ∧
    (if ((t68n : Nat) : Int) = (IntKind.wrap .i64 (t8 - t64)) then
    (∃ (t68ab t68ao : Nat), t68a = some ⟨t68ab, t68ao, none⟩ ∧
    ((0 : Int) ≤ 0 ∧ 0 < ((t68n : Nat) : Int) ∧
    (∃ (t78 : Int), ldc H_1 t68ab t68ao = some (.int .i64 t78) ∧
    (L3 (t1a) (t1n) (t1k) (t5) (t8) (t64) (t63) (t64) ((!(t78 == t64))) H_1 r))))
    else
    (L3 (t1a) (t1n) (t1k) (t5) (t8) (t64) (t63) (t64) (true) H_1 r)))
    else
    (∃ (t102r0a : Option Addr) (t102r0n : Nat) (t102r0k : Nat) (t102r1 : Bool) (H_2 : Heap), xC Try.prog good 18 [.pointer t5, .int .i64 0] H = some (.tuple #[.slice t102r0a t102r0n t102r0k, .bool t102r1], H_2) ∧
    (if t102r1 = true then
    (r = (.bool false, H_2))
    else
    (∃ (t109 : Int) (H_3 : Heap), xC Try.prog good 19 [.pointer t5] H_2 = some (.int .i64 t109, H_3) ∧
    (if t109 = 0 then
    (∃ (t113 : Bool) (H_4 : Heap), xC Try.prog good 12 [] H_3 = some (.bool t113, H_4) ∧
    (r = (.bool t113, H_4)))
    else
    (r = (.bool false, H_3))))))) :
    L2 t1a t1n t1k t5 t8 t63 t64 H r := by
  intro J
  show KR _ _ _ (.lp (sub B [1, 1, 1, 1, 1, 1, 1, 0, 1, 0, 0]) :: S16) _ _ _
  refine KR.run 6 [(1, .slice t1a t1n t1k), (5, .pointer t5), (8, .int .i64 t8), (63, .int .i64 t63), (64, .int .i64 t64), (65, .bool (decide (t64 < t63)))] 115 (s' := (.code (sub B [1, 1, 1, 1, 1, 1, 1, 0, 1, 0, 0, 1, 0]) :: S18)) (by kernel_rfl) fun J => ?_
  by_cases c15 : t64 < t63
  · replace h := iteT c15 h
    refine KR.br true (by kernel_rfl) (vB (dT c15)) ?_
    refine KR.run 12 [(1, .slice t1a t1n t1k), (5, .pointer t5), (8, .int .i64 t8), (9, .int .i64 t64), (63, .int .i64 t63), (64, .int .i64 t64), (67, .pointer t5)] 115 (s' := (.reg (opsAt (sub B [1, 1, 1, 1, 1, 1, 1, 0, 1, 0, 0, 1, 1, 0, 0, 1, 0, 0])) [1, 2] :: S22)) (by kernel_rfl) fun J => ?_
    obtain ⟨t68a, t68n, t68k, H_1, q16, h⟩ := h
    refine KR.se (one_ca (by kernel_rfl) q16) ?_
    refine KR.run 11 [(1, .slice t1a t1n t1k), (5, .pointer t5), (8, .int .i64 t8), (9, .int .i64 t64), (10, .slice t68a t68n t68k), (63, .int .i64 t63), (64, .int .i64 t64), (75, .bool (!(((t68n : Nat) : Int) == (IntKind.wrap .i64 (t8 - t64)))))] 115 (s' := (.reg (opsAt (sub B [1, 1, 1, 1, 1, 1, 1, 0, 1, 0, 0, 1, 1, 0, 0, 1, 0, 1, 0])) [7, 8, 9, 10, 11, 12] :: S23)) (by kernel_rfl) fun J => ?_
    by_cases c17 : ((t68n : Nat) : Int) = (IntKind.wrap .i64 (t8 - t64))
    · replace h := iteT c17 h
      refine KR.setV 75 (by kernel_rfl) (nB (eT c17)) ?_
      obtain ⟨t68ab, t68ao, rfl, h⟩ := h
      refine KR.run 1 [(1, .slice t1a t1n t1k), (5, .pointer t5), (8, .int .i64 t8), (9, .int .i64 t64), (63, .int .i64 t63), (64, .int .i64 t64), (75, .bool false), (76, .slice (some ⟨t68ab, t68ao, none⟩) t68n t68k)] 115 (s' := (.reg (opsAt (sub B [1, 1, 1, 1, 1, 1, 1, 0, 1, 0, 0, 1, 1, 0, 0, 1, 0, 1, 0])) [8, 9, 10, 11, 12] :: S23)) (by kernel_rfl) fun J => ?_
      obtain ⟨q18, q18x, h⟩ := h
      refine KR.p (one_ix 1 t68ab t68ao (by kernel_rfl) q18 q18x) ?_
      obtain ⟨t78, q19, h⟩ := h
      refine KR.rd (one_ld (by kernel_rfl) q19) ?_
      exact KR.run 4 [(1, .slice t1a t1n t1k), (5, .pointer t5), (8, .int .i64 t8), (9, .int .i64 t64), (63, .int .i64 t63), (64, .int .i64 t64), (81, .bool (!(t78 == t64)))] 115 (s' := (.code (sub B [1, 1, 1, 1, 1, 1, 1, 0, 1, 0, 0, 1, 1, 0, 0, 1, 0, 1, 1]) :: S21)) (by kernel_rfl) h
    · replace h := iteF c17 h
      refine KR.setV 75 (by kernel_rfl) (nB (eF c17)) ?_
      exact KR.run 7 [(1, .slice t1a t1n t1k), (5, .pointer t5), (8, .int .i64 t8), (9, .int .i64 t64), (63, .int .i64 t63), (64, .int .i64 t64), (81, .bool true)] 115 (s' := (.code (sub B [1, 1, 1, 1, 1, 1, 1, 0, 1, 0, 0, 1, 1, 0, 0, 1, 0, 1, 1]) :: S21)) (by kernel_rfl) h
  · replace h := iteF c15 h
    refine KR.br false (by kernel_rfl) (vB (dF c15)) ?_
    refine KR.run 4 [(5, .pointer t5), (101, .pointer t5)] 115 (s' := (.reg (opsAt (sub B [1, 1, 1, 1, 1, 1, 1, 1, 0])) [1, 2, 3, 4, 5, 6] :: S24)) (by kernel_rfl) fun J => ?_
    obtain ⟨t102r0a, t102r0n, t102r0k, t102r1, H_2, q20, h⟩ := h
    refine KR.se (one_ca (by kernel_rfl) q20) ?_
    refine KR.run 11 [(5, .pointer t5), (107, .bool (!t102r1))] 115 (s' := (.reg (opsAt (sub B [1, 1, 1, 1, 1, 1, 1, 1, 1, 0])) [3, 4, 5, 6, 7, 8, 9, 10] :: S25)) (by kernel_rfl) fun J => ?_
    by_cases c21 : t102r1 = true
    · replace h := iteT c21 h
      refine KR.setV 107 (by kernel_rfl) (nB (bT c21)) ?_
      refine KR.run 9 [(4, .bool false)] 115 (s' := (.code (sub B [1, 1, 1, 1, 1, 1, 1, 1, 1, 1]) :: [])) (by kernel_rfl) fun J => ?_
      exact KR.fin (by kernel_rfl) h
    · replace h := iteF c21 h
      refine KR.setV 107 (by kernel_rfl) (nB (bF c21)) ?_
      refine KR.run 1 [(107, .bool true), (108, .pointer t5)] 115 (s' := (.reg (opsAt (sub B [1, 1, 1, 1, 1, 1, 1, 1, 1, 0])) [4, 5, 6, 7, 8, 9, 10] :: S25)) (by kernel_rfl) fun J => ?_
      obtain ⟨t109, H_3, q22, h⟩ := h
      refine KR.se (one_ca (by kernel_rfl) q22) ?_
      refine KR.run 3 [(112, .bool (t109 == 0))] 115 (s' := (.reg (opsAt (sub B [1, 1, 1, 1, 1, 1, 1, 1, 1, 0])) [8, 9, 10] :: S25)) (by kernel_rfl) fun J => ?_
      by_cases c23 : t109 = 0
      · replace h := iteT c23 h
        refine KR.setV 112 (by kernel_rfl) (eT c23) ?_
        obtain ⟨t113, H_4, q24, h⟩ := h
        refine KR.se (one_ca (by kernel_rfl) q24) ?_
        refine KR.run 3 [(4, .bool t113)] 115 (s' := (.code (sub B [1, 1, 1, 1, 1, 1, 1, 1, 1, 1]) :: [])) (by kernel_rfl) fun J => ?_
        exact KR.fin (by kernel_rfl) h
      · replace h := iteF c23 h
        refine KR.setV 112 (by kernel_rfl) (eF c23) ?_
        refine KR.run 4 [(4, .bool false)] 115 (s' := (.code (sub B [1, 1, 1, 1, 1, 1, 1, 1, 1, 1]) :: [])) (by kernel_rfl) fun J => ?_
        exact KR.fin (by kernel_rfl) h
theorem L3_step {t1a : Option Addr} {t1n : Nat} {t1k : Nat} {t5 : Option Addr} {t8 : Int} {t9 : Int} {t63 : Int} {t64 : Int} {t81 : Bool} {H : Heap} {r : Value × Heap} (h :
    if t81 = true then
    (r = (.bool false, H))
    else
    (∃ (t84r0a : Option Addr) (t84r0n : Nat) (t84r0k : Nat) (t84r1 : Bool) (H_1 : Heap), xC Try.prog good 18 [.pointer t5, .int .i64 0] H = some (.tuple #[.slice t84r0a t84r0n t84r0k, .bool t84r1], H_1) ∧
    (if t84r1 = true then
    (∃ (t91 : ByteArray), pstrb H_1 t84r0a t84r0n = some t91 ∧
    (∃ (t1ab t1ao : Nat), t1a = some ⟨t1ab, t1ao, none⟩ ∧
    ((0 : Int) ≤ t9 ∧ t9 < ((t1n : Nat) : Int) ∧
    (∃ (t95a : Option Addr) (t95n : Nat) (t95k : Nat), ldc H_1 t1ab (t1ao + Int.toNat t9 * 1) = some (.slice t95a t95n t95k) ∧
    (∃ (t96 : ByteArray), pstrb H_1 t95a t95n = some t96 ∧
    (L4 ((some ⟨t1ab, t1ao, none⟩)) (t1n) (t1k) (t5) (t8) (t63) (t64) ((!(t91.toList == t96.toList))) H_1 r))))))
    else
    (L4 (t1a) (t1n) (t1k) (t5) (t8) (t63) (t64) (true) H_1 r)))) :
    L3 t1a t1n t1k t5 t8 t9 t63 t64 t81 H r := by
  intro J
  show KR _ _ _ (.code (sub B [1, 1, 1, 1, 1, 1, 1, 0, 1, 0, 0, 1, 1, 0, 0, 1, 0, 1, 1]) :: S21) _ _ _
  by_cases c25 : t81 = true
  · replace h := iteT c25 h
    refine KR.br true (by kernel_rfl) (vB (bT c25)) ?_
    refine KR.run 4 [(4, .bool false)] 115 (s' := (.code (sub B [1, 1, 1, 1, 1, 1, 1, 0, 1, 0, 0, 1, 1, 0, 0, 1, 0, 1, 1, 0, 1]) :: S21)) (by kernel_rfl) fun J => ?_
    exact KR.fin (by kernel_rfl) h
  · replace h := iteF c25 h
    refine KR.br false (by kernel_rfl) (vB (bF c25)) ?_
    refine KR.run 4 [(1, .slice t1a t1n t1k), (5, .pointer t5), (8, .int .i64 t8), (9, .int .i64 t9), (63, .int .i64 t63), (64, .int .i64 t64), (83, .pointer t5)] 115 (s' := (.reg (opsAt (sub B [1, 1, 1, 1, 1, 1, 1, 0, 1, 0, 0, 1, 1, 0, 0, 1, 1, 0])) [1, 2, 3, 4, 5, 6] :: S26)) (by kernel_rfl) fun J => ?_
    obtain ⟨t84r0a, t84r0n, t84r0k, t84r1, H_1, q26, h⟩ := h
    refine KR.se (one_ca (by kernel_rfl) q26) ?_
    refine KR.run 7 [(1, .slice t1a t1n t1k), (5, .pointer t5), (8, .int .i64 t8), (9, .int .i64 t9), (11, .slice t84r0a t84r0n t84r0k), (12, .bool t84r1), (63, .int .i64 t63), (64, .int .i64 t64)] 115 (s' := (.code (sub B [1, 1, 1, 1, 1, 1, 1, 0, 1, 0, 0, 1, 1, 0, 0, 1, 1, 1, 0]) :: S27)) (by kernel_rfl) fun J => ?_
    refine KR.sd (by kernel_rfl) ?_
    refine KR.run 3 [(1, .slice t1a t1n t1k), (5, .pointer t5), (8, .int .i64 t8), (9, .int .i64 t9), (11, .slice t84r0a t84r0n t84r0k), (63, .int .i64 t63), (64, .int .i64 t64), (89, .bool (!t84r1))] 115 (s' := (.reg (opsAt (sub B [1, 1, 1, 1, 1, 1, 1, 0, 1, 0, 0, 1, 1, 0, 0, 1, 1, 1, 0])) [3, 4, 5, 6, 7, 8, 9, 10, 11] :: S27)) (by kernel_rfl) fun J => ?_
    by_cases c27 : t84r1 = true
    · replace h := iteT c27 h
      refine KR.setV 89 (by kernel_rfl) (nB (bT c27)) ?_
      refine KR.run 1 [(1, .slice t1a t1n t1k), (5, .pointer t5), (8, .int .i64 t8), (9, .int .i64 t9), (63, .int .i64 t63), (64, .int .i64 t64), (89, .bool false), (90, .slice t84r0a t84r0n t84r0k)] 115 (s' := (.reg (opsAt (sub B [1, 1, 1, 1, 1, 1, 1, 0, 1, 0, 0, 1, 1, 0, 0, 1, 1, 1, 0])) [4, 5, 6, 7, 8, 9, 10, 11] :: S27)) (by kernel_rfl) fun J => ?_
      obtain ⟨t91, q28, h⟩ := h
      refine KR.rd (one_str (by kernel_rfl) q28) ?_
      obtain ⟨t1ab, t1ao, rfl, h⟩ := h
      refine KR.run 2 [(1, .slice (some ⟨t1ab, t1ao, none⟩) t1n t1k), (5, .pointer t5), (8, .int .i64 t8), (63, .int .i64 t63), (64, .int .i64 t64), (89, .bool false), (91, .string t91), (92, .slice (some ⟨t1ab, t1ao, none⟩) t1n t1k), (93, .int .i64 t9)] 115 (s' := (.reg (opsAt (sub B [1, 1, 1, 1, 1, 1, 1, 0, 1, 0, 0, 1, 1, 0, 0, 1, 1, 1, 0])) [7, 8, 9, 10, 11] :: S27)) (by kernel_rfl) fun J => ?_
      obtain ⟨q29, q29x, h⟩ := h
      refine KR.p (one_ix 1 t1ab t1ao (by kernel_rfl) q29 q29x) ?_
      obtain ⟨t95a, t95n, t95k, q30, h⟩ := h
      refine KR.rd (one_ld (by kernel_rfl) q30) ?_
      obtain ⟨t96, q31, h⟩ := h
      refine KR.rd (one_str (by kernel_rfl) q31) ?_
      exact KR.run 3 [(1, .slice (some ⟨t1ab, t1ao, none⟩) t1n t1k), (5, .pointer t5), (8, .int .i64 t8), (63, .int .i64 t63), (64, .int .i64 t64), (98, .bool (!(t91.toList == t96.toList)))] 115 (s' := (.code (sub B [1, 1, 1, 1, 1, 1, 1, 0, 1, 0, 0, 1, 1, 0, 0, 1, 1, 1, 1]) :: S20)) (by kernel_rfl) h
    · replace h := iteF c27 h
      refine KR.setV 89 (by kernel_rfl) (nB (bF c27)) ?_
      exact KR.run 10 [(1, .slice t1a t1n t1k), (5, .pointer t5), (8, .int .i64 t8), (63, .int .i64 t63), (64, .int .i64 t64), (98, .bool true)] 115 (s' := (.code (sub B [1, 1, 1, 1, 1, 1, 1, 0, 1, 0, 0, 1, 1, 0, 0, 1, 1, 1, 1]) :: S20)) (by kernel_rfl) h
theorem L4_step {t1a : Option Addr} {t1n : Nat} {t1k : Nat} {t5 : Option Addr} {t8 : Int} {t63 : Int} {t64 : Int} {t98 : Bool} {H : Heap} {r : Value × Heap} (h :
    if t98 = true then
    (r = (.bool false, H))
    else
    (L2 (t1a) (t1n) (t1k) (t5) (t8) (t63) ((IntKind.wrap .i64 (t64 + 1))) H r)) :
    L4 t1a t1n t1k t5 t8 t63 t64 t98 H r := by
  intro J
  show KR _ _ _ (.code (sub B [1, 1, 1, 1, 1, 1, 1, 0, 1, 0, 0, 1, 1, 0, 0, 1, 1, 1, 1]) :: S20) _ _ _
  by_cases c32 : t98 = true
  · replace h := iteT c32 h
    refine KR.br true (by kernel_rfl) (vB (bT c32)) ?_
    refine KR.run 4 [(4, .bool false)] 115 (s' := (.code (sub B [1, 1, 1, 1, 1, 1, 1, 0, 1, 0, 0, 1, 1, 0, 0, 1, 1, 1, 1, 0, 1]) :: S20)) (by kernel_rfl) fun J => ?_
    exact KR.fin (by kernel_rfl) h
  · replace h := iteF c32 h
    refine KR.br false (by kernel_rfl) (vB (bF c32)) ?_
    exact KR.run 6 [(1, .slice t1a t1n t1k), (5, .pointer t5), (8, .int .i64 t8), (63, .int .i64 t63), (64, .int .i64 (IntKind.wrap .i64 (t64 + 1)))] 115 (s' := (.lp (sub B [1, 1, 1, 1, 1, 1, 1, 0, 1, 0, 0]) :: S16)) (by kernel_rfl) h
theorem call {a0 : Int} {a1a : Option Addr} {a1n : Nat} {a1k : Nat} {H : Heap} {r : Value × Heap} (h :
    ∃ (t21 : Option Addr) (H_1 : Heap), xC Try.prog good 13 [.int .i64 (IntKind.wrap .i64 (1 + (IntKind.wrap .i64 (Int.tmod (IntKind.wrap .u64 a0) 32))))] H = some (.pointer t21, H_1) ∧
    (if ((a1n : Nat) : Int) > 100 then
    (∃ (t25 : Bool) (H_2 : Heap), xC Try.prog good 12 [] H_1 = some (.bool t25, H_2) ∧
    (r = (.bool t25, H_2)))
    else
    (L0 ((IntKind.wrap .i64 (1 + (IntKind.wrap .i64 (Int.tmod (IntKind.wrap .u64 a0) 32))))) (a1a) (a1n) (a1k) (t21) (a1a) (a1n) (a1k) (((a1n : Nat) : Int)) 0 H_1 r))) :
    xC Try.prog good 5 [.int .i64 a0, .slice a1a a1n a1k] H = some r := by
  refine KR.enter (fn := Try.f5) (c := B) (by kernel_rfl) (by kernel_rfl) ?_
  refine KR.run 16 [(0, .int .i64 (IntKind.wrap .i64 (1 + (IntKind.wrap .i64 (Int.tmod (IntKind.wrap .u64 a0) 32))))), (1, .slice a1a a1n a1k), (20, .int .i64 (IntKind.wrap .i64 (1 + (IntKind.wrap .i64 (Int.tmod (IntKind.wrap .u64 a0) 32)))))] 115 (s' := (.reg (opsAt (sub B [1, 1, 0])) [1, 2] :: S0)) (by kernel_rfl) fun J => ?_
  obtain ⟨t21, H_1, q1, h⟩ := h
  refine KR.se (one_ca (by kernel_rfl) q1) ?_
  refine KR.run 9 [(0, .int .i64 (IntKind.wrap .i64 (1 + (IntKind.wrap .i64 (Int.tmod (IntKind.wrap .u64 a0) 32))))), (1, .slice a1a a1n a1k), (5, .pointer t21), (24, .bool (decide (((a1n : Nat) : Int) > 100)))] 115 (s' := (.code (sub B [1, 1, 1, 0, 1]) :: S1)) (by kernel_rfl) fun J => ?_
  by_cases c2 : ((a1n : Nat) : Int) > 100
  · replace h := iteT c2 h
    refine KR.br true (by kernel_rfl) (vB (dT c2)) ?_
    refine KR.run 2 [] 115 (s' := (.reg (opsAt (sub B [1, 1, 1, 0, 1, 0, 0])) [0, 1] :: S2)) (by kernel_rfl) fun J => ?_
    obtain ⟨t25, H_2, q3, h⟩ := h
    refine KR.se (one_ca (by kernel_rfl) q3) ?_
    refine KR.run 2 [(4, .bool t25)] 115 (s' := (.code (sub B [1, 1, 1, 0, 1, 0, 1]) :: S1)) (by kernel_rfl) fun J => ?_
    exact KR.fin (by kernel_rfl) h
  · replace h := iteF c2 h
    refine KR.br false (by kernel_rfl) (vB (dF c2)) ?_
    exact KR.run 10 [(0, .int .i64 (IntKind.wrap .i64 (1 + (IntKind.wrap .i64 (Int.tmod (IntKind.wrap .u64 a0) 32))))), (1, .slice a1a a1n a1k), (5, .pointer t21), (26, .slice a1a a1n a1k), (27, .int .i64 ((a1n : Nat) : Int)), (28, .int .i64 0)] 115 (s' := (.lp (sub B [1, 1, 1, 1, 0, 1, 0, 0]) :: S4)) (by kernel_rfl) h
end F5
/-! #### 6 campanile/campanilelaw5.HopForms -/
namespace F6
noncomputable def B : Code := bodyOf Try.f6
noncomputable def S0 : List It := (.code (sub B [1, 1]) :: [])
noncomputable def S2 : List It := (.code (sub B [1, 1, 1]) :: [])
noncomputable def S1 : List It := (.code (sub B [1, 0, 1, 0, 1]) :: S0)
theorem call {a0a : Option Addr} {a0n : Nat} {a0k : Nat} {a1 : Int} {a2 : Int} {a3 : Int} {H : Heap} {r : Value × Heap} (h :
    if ((a0n : Nat) : Int) > 100 then
    (∃ (t12 : Bool) (H_1 : Heap), xC Try.prog good 21 [] H = some (.bool t12, H_1) ∧
    (r = (.bool t12, H_1)))
    else
    (∃ (t14 : Bool) (H_2 : Heap), xC Try.prog good 22 [.slice a0a a0n a0k] H = some (.bool t14, H_2) ∧
    (∃ (t16 : Bool) (H_3 : Heap), xC Try.prog good 23 [.slice a0a a0n a0k] H_2 = some (.bool t16, H_3) ∧
    (if (t14 == t16) = true then
    (∃ (t21a : Option Addr) (t21n : Nat) (t21k : Nat) (H_4 : Heap), xC Try.prog good 25 [.slice a0a a0n a0k, .int .u32 a1] H_3 = some (.slice t21a t21n t21k, H_4) ∧
    (∃ (t24a : Option Addr) (t24n : Nat) (t24k : Nat) (H_5 : Heap), xC Try.prog good 26 [.slice a0a a0n a0k, .int .u32 a1] H_4 = some (.slice t24a t24n t24k, H_5) ∧
    (∃ (t25 : Bool) (H_6 : Heap), xC Try.prog good 24 [.slice t21a t21n t21k, .slice t24a t24n t24k] H_5 = some (.bool t25, H_6) ∧
    (if t25 = true then
    (∃ (t32 : Int) (H_7 : Heap), xC Try.prog good 27 [.slice a0a a0n a0k, .int .u32 a1, .int .i64 a2, .int .i64 a3] H_6 = some (.int .i64 t32, H_7) ∧
    (∃ (t37 : Int) (H_8 : Heap), xC Try.prog good 28 [.slice a0a a0n a0k, .int .u32 a1, .int .i64 a2, .int .i64 a3] H_7 = some (.int .i64 t37, H_8) ∧
    (if t32 = t37 then
    (∃ (t41 : Bool) (H_9 : Heap), xC Try.prog good 21 [] H_8 = some (.bool t41, H_9) ∧
    (r = (.bool t41, H_9)))
    else
    (r = (.bool false, H_8)))))
    else
    (r = (.bool false, H_6))))))
    else
    (r = (.bool false, H_3)))))) :
    xC Try.prog good 6 [.slice a0a a0n a0k, .int .u32 a1, .int .i64 a2, .int .i64 a3] H = some r := by
  refine KR.enter (fn := Try.f6) (c := B) (by kernel_rfl) (by kernel_rfl) ?_
  refine KR.run 11 [(0, .slice a0a a0n a0k), (1, .int .u32 a1), (2, .int .i64 a2), (3, .int .i64 a3), (11, .bool (decide (((a0n : Nat) : Int) > 100)))] 43 (s' := (.code (sub B [1, 0, 1]) :: S0)) (by kernel_rfl) fun J => ?_
  by_cases c1 : ((a0n : Nat) : Int) > 100
  · replace h := iteT c1 h
    refine KR.br true (by kernel_rfl) (vB (dT c1)) ?_
    refine KR.run 2 [] 43 (s' := (.reg (opsAt (sub B [1, 0, 1, 0, 0])) [0, 1] :: S1)) (by kernel_rfl) fun J => ?_
    obtain ⟨t12, H_1, q2, h⟩ := h
    refine KR.se (one_ca (by kernel_rfl) q2) ?_
    refine KR.run 2 [(8, .bool t12)] 43 (s' := (.code (sub B [1, 0, 1, 0, 1]) :: S0)) (by kernel_rfl) fun J => ?_
    exact KR.fin (by kernel_rfl) h
  · replace h := iteF c1 h
    refine KR.br false (by kernel_rfl) (vB (dF c1)) ?_
    refine KR.run 4 [(0, .slice a0a a0n a0k), (1, .int .u32 a1), (2, .int .i64 a2), (3, .int .i64 a3), (13, .slice a0a a0n a0k)] 43 (s' := (.reg (opsAt (sub B [1, 1, 0])) [1, 2, 3, 4, 5, 6, 7, 8, 9, 10, 11, 12, 13, 14, 15, 16, 17, 18, 19, 20, 21, 22, 23, 24, 25, 26, 27, 28, 29, 30] :: S2)) (by kernel_rfl) fun J => ?_
    obtain ⟨t14, H_2, q3, h⟩ := h
    refine KR.se (one_ca (by kernel_rfl) q3) ?_
    refine KR.run 1 [(0, .slice a0a a0n a0k), (1, .int .u32 a1), (2, .int .i64 a2), (3, .int .i64 a3), (14, .bool t14), (15, .slice a0a a0n a0k)] 43 (s' := (.reg (opsAt (sub B [1, 1, 0])) [3, 4, 5, 6, 7, 8, 9, 10, 11, 12, 13, 14, 15, 16, 17, 18, 19, 20, 21, 22, 23, 24, 25, 26, 27, 28, 29, 30] :: S2)) (by kernel_rfl) fun J => ?_
    obtain ⟨t16, H_3, q4, h⟩ := h
    refine KR.se (one_ca (by kernel_rfl) q4) ?_
    refine KR.run 2 [(0, .slice a0a a0n a0k), (1, .int .u32 a1), (2, .int .i64 a2), (3, .int .i64 a3), (18, .bool (t14 == t16))] 43 (s' := (.reg (opsAt (sub B [1, 1, 0])) [6, 7, 8, 9, 10, 11, 12, 13, 14, 15, 16, 17, 18, 19, 20, 21, 22, 23, 24, 25, 26, 27, 28, 29, 30] :: S2)) (by kernel_rfl) fun J => ?_
    by_cases c5 : (t14 == t16) = true
    · replace h := iteT c5 h
      refine KR.setV 18 (by kernel_rfl) (bT c5) ?_
      refine KR.run 2 [(0, .slice a0a a0n a0k), (1, .int .u32 a1), (2, .int .i64 a2), (3, .int .i64 a3), (18, .bool true), (19, .slice a0a a0n a0k), (20, .int .u32 a1)] 43 (s' := (.reg (opsAt (sub B [1, 1, 0])) [8, 9, 10, 11, 12, 13, 14, 15, 16, 17, 18, 19, 20, 21, 22, 23, 24, 25, 26, 27, 28, 29, 30] :: S2)) (by kernel_rfl) fun J => ?_
      obtain ⟨t21a, t21n, t21k, H_4, q6, h⟩ := h
      refine KR.se (one_ca (by kernel_rfl) q6) ?_
      refine KR.run 2 [(0, .slice a0a a0n a0k), (1, .int .u32 a1), (2, .int .i64 a2), (3, .int .i64 a3), (18, .bool true), (21, .slice t21a t21n t21k), (22, .slice a0a a0n a0k), (23, .int .u32 a1)] 43 (s' := (.reg (opsAt (sub B [1, 1, 0])) [11, 12, 13, 14, 15, 16, 17, 18, 19, 20, 21, 22, 23, 24, 25, 26, 27, 28, 29, 30] :: S2)) (by kernel_rfl) fun J => ?_
      obtain ⟨t24a, t24n, t24k, H_5, q7, h⟩ := h
      refine KR.se (one_ca (by kernel_rfl) q7) ?_
      obtain ⟨t25, H_6, q8, h⟩ := h
      refine KR.se (one_ca (by kernel_rfl) q8) ?_
      refine KR.run 2 [(0, .slice a0a a0n a0k), (1, .int .u32 a1), (2, .int .i64 a2), (3, .int .i64 a3), (27, .bool t25)] 43 (s' := (.reg (opsAt (sub B [1, 1, 0])) [15, 16, 17, 18, 19, 20, 21, 22, 23, 24, 25, 26, 27, 28, 29, 30] :: S2)) (by kernel_rfl) fun J => ?_
      by_cases c9 : t25 = true
      · replace h := iteT c9 h
        refine KR.setV 27 (by kernel_rfl) (bT c9) ?_
        refine KR.run 4 [(0, .slice a0a a0n a0k), (1, .int .u32 a1), (2, .int .i64 a2), (3, .int .i64 a3), (27, .bool true), (28, .slice a0a a0n a0k), (29, .int .u32 a1), (30, .int .i64 a2), (31, .int .i64 a3)] 43 (s' := (.reg (opsAt (sub B [1, 1, 0])) [19, 20, 21, 22, 23, 24, 25, 26, 27, 28, 29, 30] :: S2)) (by kernel_rfl) fun J => ?_
        obtain ⟨t32, H_7, q10, h⟩ := h
        refine KR.se (one_ca (by kernel_rfl) q10) ?_
        refine KR.run 4 [(27, .bool true), (32, .int .i64 t32), (33, .slice a0a a0n a0k), (34, .int .u32 a1), (35, .int .i64 a2), (36, .int .i64 a3)] 43 (s' := (.reg (opsAt (sub B [1, 1, 0])) [24, 25, 26, 27, 28, 29, 30] :: S2)) (by kernel_rfl) fun J => ?_
        obtain ⟨t37, H_8, q11, h⟩ := h
        refine KR.se (one_ca (by kernel_rfl) q11) ?_
        refine KR.run 3 [(40, .bool (t32 == t37))] 43 (s' := (.reg (opsAt (sub B [1, 1, 0])) [28, 29, 30] :: S2)) (by kernel_rfl) fun J => ?_
        by_cases c12 : t32 = t37
        · replace h := iteT c12 h
          refine KR.setV 40 (by kernel_rfl) (eT c12) ?_
          obtain ⟨t41, H_9, q13, h⟩ := h
          refine KR.se (one_ca (by kernel_rfl) q13) ?_
          refine KR.run 3 [(8, .bool t41)] 43 (s' := (.code (sub B [1, 1, 1]) :: [])) (by kernel_rfl) fun J => ?_
          exact KR.fin (by kernel_rfl) h
        · replace h := iteF c12 h
          refine KR.setV 40 (by kernel_rfl) (eF c12) ?_
          refine KR.run 4 [(8, .bool false)] 43 (s' := (.code (sub B [1, 1, 1]) :: [])) (by kernel_rfl) fun J => ?_
          exact KR.fin (by kernel_rfl) h
      · replace h := iteF c9 h
        refine KR.setV 27 (by kernel_rfl) (bF c9) ?_
        refine KR.run 17 [(8, .bool false)] 43 (s' := (.code (sub B [1, 1, 1]) :: [])) (by kernel_rfl) fun J => ?_
        exact KR.fin (by kernel_rfl) h
    · replace h := iteF c5 h
      refine KR.setV 18 (by kernel_rfl) (bF c5) ?_
      refine KR.run 26 [(8, .bool false)] 43 (s' := (.code (sub B [1, 1, 1]) :: [])) (by kernel_rfl) fun J => ?_
      exact KR.fin (by kernel_rfl) h
end F6
/-! #### 7 campanile/campanilelaw5.HopApart -/
namespace F7
noncomputable def B : Code := bodyOf Try.f7
noncomputable def S0 : List It := (.code (sub B [1, 1]) :: [])
noncomputable def S2 : List It := (.code (sub B [1, 1, 1]) :: [])
noncomputable def S3 : List It := (.code (sub B [1, 1, 1, 1, 1]) :: [])
noncomputable def S6 : List It := (.code (sub B [1, 1, 1, 1, 1, 1, 1]) :: [])
noncomputable def S8 : List It := (.code (sub B [1, 1, 1, 1, 1, 1, 1, 1]) :: [])
noncomputable def S9 : List It := (.code (sub B [1, 1, 1, 1, 1, 1, 1, 1, 1]) :: [])
noncomputable def S18 : List It := (.code (sub B [1, 1, 1, 1, 1, 1, 1, 1, 1, 1]) :: [])
noncomputable def S1 : List It := (.code (sub B [1, 0, 1]) :: S0)
noncomputable def S4 : List It := (.code (sub B [1, 1, 1, 1, 0, 1]) :: S3)
noncomputable def S5 : List It := (.code (sub B [1, 0, 1, 0, 1]) :: S0)
noncomputable def S7 : List It := (.code (sub B [1, 1, 1, 1, 1, 1, 0, 1]) :: S6)
noncomputable def S10 : List It := (.blk 0 :: S9)
noncomputable def S11 : List It := (.lp (sub B [1, 1, 1, 1, 1, 1, 1, 1, 0, 1, 0, 0]) :: S10)
noncomputable def S12 : List It := (.code (sub B [1, 1, 1, 1, 1, 1, 1, 1, 0, 1, 0, 0, 1, 1]) :: S11)
noncomputable def S13 : List It := (.code (sub B [1, 1, 1, 1, 1, 1, 1, 1, 0, 1, 0, 0, 1, 1, 1]) :: S11)
noncomputable def S14 : List It := (.blk 1 :: S13)
noncomputable def S15 : List It := (.code (sub B [1, 1, 1, 1, 1, 1, 1, 1, 0, 1, 0, 0, 1, 1, 0, 0, 1, 1]) :: S14)
noncomputable def S16 : List It := (.code (sub B [1, 1, 1, 1, 1, 1, 1, 1, 0, 1, 0, 0, 1, 1, 0, 0, 1, 1, 1]) :: S14)
noncomputable def S17 : List It := (.code (sub B [1, 1, 1, 1, 1, 1, 1, 1, 0, 1, 0, 0, 1, 1, 0, 0, 1, 1, 0, 1]) :: S16)
def L0 (t0a : Option Addr) (t0n : Nat) (t0k : Nat) (t1 : Int) (t2 : Int) (t3 : Int) (t4 : Int) (t12 : Int) (t45 : Bool) (H : Heap) (r : Value × Heap) : Prop := ∀ J, KR Try.prog good Try.f7 S4 (mat J 137 [(0, .slice t0a t0n t0k), (1, .int .u32 t1), (2, .int .i64 t2), (3, .int .i64 t3), (4, .int .i64 t4), (12, .int .i64 t12), (45, .bool t45)]) H r
def L1 (t0a : Option Addr) (t0n : Nat) (t0k : Nat) (t1 : Int) (t2 : Int) (t3 : Int) (t12 : Int) (t13b : Nat) (t13o : Nat) (t78 : Int) (t79 : Int) (H : Heap) (r : Value × Heap) : Prop := ∀ J, KR Try.prog good Try.f7 S11 (mat J 137 [(0, .slice t0a t0n t0k), (1, .int .u32 t1), (2, .int .i64 t2), (3, .int .i64 t3), (12, .int .i64 t12), (13, .pointer (some ⟨t13b, t13o, none⟩)), (78, .int .i64 t78), (79, .int .i64 t79)]) H r
def L2 (t0a : Option Addr) (t0n : Nat) (t0k : Nat) (t1 : Int) (t2 : Int) (t3 : Int) (t12 : Int) (t13b : Nat) (t13o : Nat) (t15 : Int) (t78 : Int) (t79 : Int) (t114 : Bool) (H : Heap) (r : Value × Heap) : Prop := ∀ J, KR Try.prog good Try.f7 S17 (mat J 137 [(0, .slice t0a t0n t0k), (1, .int .u32 t1), (2, .int .i64 t2), (3, .int .i64 t3), (12, .int .i64 t12), (13, .pointer (some ⟨t13b, t13o, none⟩)), (15, .int .i64 t15), (78, .int .i64 t78), (79, .int .i64 t79), (114, .bool t114)]) H r
theorem L0_step {t0a : Option Addr} {t0n : Nat} {t0k : Nat} {t1 : Int} {t2 : Int} {t3 : Int} {t4 : Int} {t12 : Int} {t45 : Bool} {H : Heap} {r : Value × Heap} (h :
    if t45 = true then
    (r = (.bool false, H))
    else
    (∃ (t62 : Int) (H_1 : Heap), xC Try.prog good 27 [.slice t0a t0n t0k, .int .u32 t1, .int .i64 (IntKind.wrap .i64 (Int.tmod (IntKind.wrap .u64 t2) 549755813888)), .int .i64 (IntKind.wrap .i64 (Int.tmod (IntKind.wrap .u64 t3) 256))] H = some (.int .i64 t62, H_1) ∧
    (∃ (t67 : Int) (H_2 : Heap), xC Try.prog good 27 [.slice t0a t0n t0k, .int .u32 t1, .int .i64 (IntKind.wrap .i64 (Int.tmod (IntKind.wrap .u64 t2) 549755813888)), .int .i64 (IntKind.wrap .i64 (Int.tmod (IntKind.wrap .u64 t4) 256))] H_1 = some (.int .i64 t67, H_2) ∧
    (t12 ≠ 0 ∧
    (t12 ≠ 0 ∧
    (if ((t62 == t67) == ((Int.tmod (IntKind.wrap .i64 (Int.tmod (IntKind.wrap .u64 t3) 256)) t12) == (Int.tmod (IntKind.wrap .i64 (Int.tmod (IntKind.wrap .u64 t4) 256)) t12))) = true then
    (∃ (H_3 : Heap), H_3 = H_2.push (.row [.int .i64 0, .int .i64 0, .int .i64 0, .int .i64 0, .int .i64 0, .int .i64 0, .int .i64 0, .int .i64 0, .int .i64 0, .int .i64 0, .int .i64 0, .int .i64 0, .int .i64 0, .int .i64 0, .int .i64 0, .int .i64 0, .int .i64 0, .int .i64 0, .int .i64 0, .int .i64 0, .int .i64 0, .int .i64 0, .int .i64 0, .int .i64 0, .int .i64 0, .int .i64 0, .int .i64 0, .int .i64 0, .int .i64 0, .int .i64 0, .int .i64 0, .int .i64 0] true) ∧
    (∃ (H_4 : Heap), stc H_3 H_2.next 0 [.int .i64 0, .int .i64 0, .int .i64 0, .int .i64 0, .int .i64 0, .int .i64 0, .int .i64 0, .int .i64 0, .int .i64 0, .int .i64 0, .int .i64 0, .int .i64 0, .int .i64 0, .int .i64 0, .int .i64 0, .int .i64 0, .int .i64 0, .int .i64 0, .int .i64 0, .int .i64 0, .int .i64 0, .int .i64 0, .int .i64 0, .int .i64 0, .int .i64 0, .int .i64 0, .int .i64 0, .int .i64 0, .int .i64 0, .int .i64 0, .int .i64 0, .int .i64 0] = some H_4 ∧
    (L1 (t0a) (t0n) (t0k) (t1) ((IntKind.wrap .i64 (Int.tmod (IntKind.wrap .u64 t2) 549755813888))) ((IntKind.wrap .i64 (Int.tmod (IntKind.wrap .u64 t3) 256))) (t12) (H_2.next) (0) (t12) 0 H_4 r)))
    else
    (r = (.bool false, H_2)))))))) :
    L0 t0a t0n t0k t1 t2 t3 t4 t12 t45 H r := by
  intro J
  show KR _ _ _ (.code (sub B [1, 1, 1, 1, 0, 1]) :: S3) _ _ _
  by_cases c10 : t45 = true
  · replace h := iteT c10 h
    refine KR.br true (by kernel_rfl) (vB (bT c10)) ?_
    refine KR.run 4 [(10, .bool false)] 137 (s' := (.code (sub B [1, 1, 1, 1, 0, 1, 0, 1]) :: S3)) (by kernel_rfl) fun J => ?_
    exact KR.fin (by kernel_rfl) h
  · replace h := iteF c10 h
    refine KR.br false (by kernel_rfl) (vB (bF c10)) ?_
    refine KR.run 21 [(0, .slice t0a t0n t0k), (1, .int .u32 t1), (2, .int .i64 (IntKind.wrap .i64 (Int.tmod (IntKind.wrap .u64 t2) 549755813888))), (3, .int .i64 (IntKind.wrap .i64 (Int.tmod (IntKind.wrap .u64 t3) 256))), (4, .int .i64 (IntKind.wrap .i64 (Int.tmod (IntKind.wrap .u64 t4) 256))), (12, .int .i64 t12)] 137 (s' := (.code (sub B [1, 1, 1, 1, 1, 1, 0, 0]) :: S7)) (by kernel_rfl) fun J => ?_
    refine KR.sd (by kernel_rfl) ?_
    refine KR.run 4 [(0, .slice t0a t0n t0k), (1, .int .u32 t1), (2, .int .i64 (IntKind.wrap .i64 (Int.tmod (IntKind.wrap .u64 t2) 549755813888))), (3, .int .i64 (IntKind.wrap .i64 (Int.tmod (IntKind.wrap .u64 t3) 256))), (4, .int .i64 (IntKind.wrap .i64 (Int.tmod (IntKind.wrap .u64 t4) 256))), (12, .int .i64 t12), (58, .slice t0a t0n t0k), (59, .int .u32 t1), (60, .int .i64 (IntKind.wrap .i64 (Int.tmod (IntKind.wrap .u64 t2) 549755813888))), (61, .int .i64 (IntKind.wrap .i64 (Int.tmod (IntKind.wrap .u64 t3) 256)))] 137 (s' := (.reg (opsAt (sub B [1, 1, 1, 1, 1, 1, 0, 0])) [4, 5, 6, 7, 8, 9, 10, 11, 12, 13, 14, 15, 16, 17, 18] :: S7)) (by kernel_rfl) fun J => ?_
    obtain ⟨t62, H_1, q11, h⟩ := h
    refine KR.se (one_ca (by kernel_rfl) q11) ?_
    refine KR.run 4 [(0, .slice t0a t0n t0k), (1, .int .u32 t1), (2, .int .i64 (IntKind.wrap .i64 (Int.tmod (IntKind.wrap .u64 t2) 549755813888))), (3, .int .i64 (IntKind.wrap .i64 (Int.tmod (IntKind.wrap .u64 t3) 256))), (4, .int .i64 (IntKind.wrap .i64 (Int.tmod (IntKind.wrap .u64 t4) 256))), (12, .int .i64 t12), (62, .int .i64 t62), (63, .slice t0a t0n t0k), (64, .int .u32 t1), (65, .int .i64 (IntKind.wrap .i64 (Int.tmod (IntKind.wrap .u64 t2) 549755813888))), (66, .int .i64 (IntKind.wrap .i64 (Int.tmod (IntKind.wrap .u64 t4) 256)))] 137 (s' := (.reg (opsAt (sub B [1, 1, 1, 1, 1, 1, 0, 0])) [9, 10, 11, 12, 13, 14, 15, 16, 17, 18] :: S7)) (by kernel_rfl) fun J => ?_
    obtain ⟨t67, H_2, q12, h⟩ := h
    refine KR.se (one_ca (by kernel_rfl) q12) ?_
    refine KR.run 3 [(0, .slice t0a t0n t0k), (1, .int .u32 t1), (2, .int .i64 (IntKind.wrap .i64 (Int.tmod (IntKind.wrap .u64 t2) 549755813888))), (3, .int .i64 (IntKind.wrap .i64 (Int.tmod (IntKind.wrap .u64 t3) 256))), (4, .int .i64 (IntKind.wrap .i64 (Int.tmod (IntKind.wrap .u64 t4) 256))), (12, .int .i64 t12), (68, .bool (t62 == t67)), (69, .int .i64 (IntKind.wrap .i64 (Int.tmod (IntKind.wrap .u64 t3) 256))), (70, .int .i64 t12)] 137 (s' := (.reg (opsAt (sub B [1, 1, 1, 1, 1, 1, 0, 0])) [13, 14, 15, 16, 17, 18] :: S7)) (by kernel_rfl) fun J => ?_
    obtain ⟨q13, h⟩ := h
    refine KR.p (one_rem .i64 (IntKind.wrap .i64 (Int.tmod (IntKind.wrap .u64 t3) 256)) (by kernel_rfl) q13) ?_
    refine KR.run 2 [(0, .slice t0a t0n t0k), (1, .int .u32 t1), (2, .int .i64 (IntKind.wrap .i64 (Int.tmod (IntKind.wrap .u64 t2) 549755813888))), (3, .int .i64 (IntKind.wrap .i64 (Int.tmod (IntKind.wrap .u64 t3) 256))), (12, .int .i64 t12), (68, .bool (t62 == t67)), (71, .int .i64 (Int.tmod (IntKind.wrap .i64 (Int.tmod (IntKind.wrap .u64 t3) 256)) t12)), (72, .int .i64 (IntKind.wrap .i64 (Int.tmod (IntKind.wrap .u64 t4) 256))), (73, .int .i64 t12)] 137 (s' := (.reg (opsAt (sub B [1, 1, 1, 1, 1, 1, 0, 0])) [16, 17, 18] :: S7)) (by kernel_rfl) fun J => ?_
    obtain ⟨q14, h⟩ := h
    refine KR.p (one_rem .i64 (IntKind.wrap .i64 (Int.tmod (IntKind.wrap .u64 t4) 256)) (by kernel_rfl) q14) ?_
    refine KR.run 3 [(0, .slice t0a t0n t0k), (1, .int .u32 t1), (2, .int .i64 (IntKind.wrap .i64 (Int.tmod (IntKind.wrap .u64 t2) 549755813888))), (3, .int .i64 (IntKind.wrap .i64 (Int.tmod (IntKind.wrap .u64 t3) 256))), (12, .int .i64 t12), (76, .bool (!((t62 == t67) == ((Int.tmod (IntKind.wrap .i64 (Int.tmod (IntKind.wrap .u64 t3) 256)) t12) == (Int.tmod (IntKind.wrap .i64 (Int.tmod (IntKind.wrap .u64 t4) 256)) t12)))))] 137 (s' := (.code (sub B [1, 1, 1, 1, 1, 1, 0, 1]) :: S6)) (by kernel_rfl) fun J => ?_
    by_cases c15 : ((t62 == t67) == ((Int.tmod (IntKind.wrap .i64 (Int.tmod (IntKind.wrap .u64 t3) 256)) t12) == (Int.tmod (IntKind.wrap .i64 (Int.tmod (IntKind.wrap .u64 t4) 256)) t12))) = true
    · replace h := iteT c15 h
      refine KR.br false (by kernel_rfl) (vB (nB (bT c15))) ?_
      refine KR.run 4 [(0, .slice t0a t0n t0k), (1, .int .u32 t1), (2, .int .i64 (IntKind.wrap .i64 (Int.tmod (IntKind.wrap .u64 t2) 549755813888))), (3, .int .i64 (IntKind.wrap .i64 (Int.tmod (IntKind.wrap .u64 t3) 256))), (12, .int .i64 t12), (77, .agg #[.int .i64 0, .int .i64 0, .int .i64 0, .int .i64 0, .int .i64 0, .int .i64 0, .int .i64 0, .int .i64 0, .int .i64 0, .int .i64 0, .int .i64 0, .int .i64 0, .int .i64 0, .int .i64 0, .int .i64 0, .int .i64 0, .int .i64 0, .int .i64 0, .int .i64 0, .int .i64 0, .int .i64 0, .int .i64 0, .int .i64 0, .int .i64 0, .int .i64 0, .int .i64 0, .int .i64 0, .int .i64 0, .int .i64 0, .int .i64 0, .int .i64 0, .int .i64 0])] 137 (s' := (.reg (opsAt (sub B [1, 1, 1, 1, 1, 1, 1, 0])) [1, 2] :: S8)) (by kernel_rfl) fun J => ?_
      obtain ⟨H_3, q16, h⟩ := h
      refine KR.mk (w := pRow [.int .i64 0, .int .i64 0, .int .i64 0, .int .i64 0, .int .i64 0, .int .i64 0, .int .i64 0, .int .i64 0, .int .i64 0, .int .i64 0, .int .i64 0, .int .i64 0, .int .i64 0, .int .i64 0, .int .i64 0, .int .i64 0, .int .i64 0, .int .i64 0, .int .i64 0, .int .i64 0, .int .i64 0, .int .i64 0, .int .i64 0, .int .i64 0, .int .i64 0, .int .i64 0, .int .i64 0, .int .i64 0, .int .i64 0, .int .i64 0, .int .i64 0, .int .i64 0]) (one_al (by kernel_rfl)) q16 ?_
      obtain ⟨H_4, q17, h⟩ := h
      refine KR.se (one_st (by kernel_rfl) q17) ?_
      exact KR.run 9 [(0, .slice t0a t0n t0k), (1, .int .u32 t1), (2, .int .i64 (IntKind.wrap .i64 (Int.tmod (IntKind.wrap .u64 t2) 549755813888))), (3, .int .i64 (IntKind.wrap .i64 (Int.tmod (IntKind.wrap .u64 t3) 256))), (12, .int .i64 t12), (13, .pointer (some ⟨H_2.next, 0, none⟩)), (78, .int .i64 t12), (79, .int .i64 0)] 137 (s' := (.lp (sub B [1, 1, 1, 1, 1, 1, 1, 1, 0, 1, 0, 0]) :: S10)) (by kernel_rfl) h
    · replace h := iteF c15 h
      refine KR.br true (by kernel_rfl) (vB (nB (bF c15))) ?_
      refine KR.run 4 [(10, .bool false)] 137 (s' := (.code (sub B [1, 1, 1, 1, 1, 1, 0, 1, 0, 1]) :: S6)) (by kernel_rfl) fun J => ?_
      exact KR.fin (by kernel_rfl) h
theorem L1_step {t0a : Option Addr} {t0n : Nat} {t0k : Nat} {t1 : Int} {t2 : Int} {t3 : Int} {t12 : Int} {t13b : Nat} {t13o : Nat} {t78 : Int} {t79 : Int} {H : Heap} {r : Value × Heap} (h :
    if t79 < t78 then
    (∃ (t88 : Int) (H_1 : Heap), xC Try.prog good 27 [.slice t0a t0n t0k, .int .u32 t1, .int .i64 (IntKind.wrap .i64 (t2 + t79)), .int .i64 t3] H = some (.int .i64 t88, H_1) ∧
    (if t88 < 0 then
    (L2 (t0a) (t0n) (t0k) (t1) (t2) (t3) (t12) (t13b) (t13o) (t88) (t78) (t79) (true) H_1 r)
    else
    (if t88 > 31 then
    (L2 (t0a) (t0n) (t0k) (t1) (t2) (t3) (t12) (t13b) (t13o) (t88) (t78) (t79) (true) H_1 r)
    else
    ((0 : Int) ≤ t88 ∧ t88 < (32 : Int) ∧
    (∃ (t98 : Int), ldc H_1 t13b (t13o + Int.toNat t88 * 1) = some (.int .i64 t98) ∧
    (if t98 > 0 then
    (L2 (t0a) (t0n) (t0k) (t1) (t2) (t3) (t12) (t13b) (t13o) (t88) (t78) (t79) (true) H_1 r)
    else
    (if t12 < ((t0n : Nat) : Int) then
    ((0 : Int) ≤ (IntKind.wrap .u64 t88) ∧
    (L2 (t0a) (t0n) (t0k) (t1) (t2) (t3) (t12) (t13b) (t13o) (t88) (t78) (t79) (((iand .u32 (ishr .u32 t1 (IntKind.wrap .u64 t88)) 1) == 1)) H_1 r))
    else
    (L2 (t0a) (t0n) (t0k) (t1) (t2) (t3) (t12) (t13b) (t13o) (t88) (t78) (t79) (false) H_1 r))))))))
    else
    (∃ (t127 : Int) (H_2 : Heap), xC Try.prog good 27 [.slice t0a t0n t0k, .int .u32 t1, .int .i64 (IntKind.wrap .i64 (t2 + t12)), .int .i64 t3] H = some (.int .i64 t127, H_2) ∧
    (∃ (t132 : Int) (H_3 : Heap), xC Try.prog good 27 [.slice t0a t0n t0k, .int .u32 t1, .int .i64 t2, .int .i64 t3] H_2 = some (.int .i64 t132, H_3) ∧
    (if t127 = t132 then
    (∃ (t135 : Bool) (H_4 : Heap), xC Try.prog good 21 [] H_3 = some (.bool t135, H_4) ∧
    (r = (.bool t135, H_4)))
    else
    (r = (.bool false, H_3)))))) :
    L1 t0a t0n t0k t1 t2 t3 t12 t13b t13o t78 t79 H r := by
  intro J
  show KR _ _ _ (.lp (sub B [1, 1, 1, 1, 1, 1, 1, 1, 0, 1, 0, 0]) :: S10) _ _ _
  refine KR.run 6 [(0, .slice t0a t0n t0k), (1, .int .u32 t1), (2, .int .i64 t2), (3, .int .i64 t3), (12, .int .i64 t12), (13, .pointer (some ⟨t13b, t13o, none⟩)), (78, .int .i64 t78), (79, .int .i64 t79), (80, .bool (decide (t79 < t78)))] 137 (s' := (.code (sub B [1, 1, 1, 1, 1, 1, 1, 1, 0, 1, 0, 0, 1, 0]) :: S12)) (by kernel_rfl) fun J => ?_
  by_cases c18 : t79 < t78
  · replace h := iteT c18 h
    refine KR.br true (by kernel_rfl) (vB (dT c18)) ?_
    refine KR.run 16 [(0, .slice t0a t0n t0k), (1, .int .u32 t1), (2, .int .i64 t2), (3, .int .i64 t3), (12, .int .i64 t12), (13, .pointer (some ⟨t13b, t13o, none⟩)), (78, .int .i64 t78), (79, .int .i64 t79), (82, .slice t0a t0n t0k), (83, .int .u32 t1), (86, .int .i64 (IntKind.wrap .i64 (t2 + t79))), (87, .int .i64 t3)] 137 (s' := (.reg (opsAt (sub B [1, 1, 1, 1, 1, 1, 1, 1, 0, 1, 0, 0, 1, 1, 0, 0, 1, 0])) [6, 7] :: S15)) (by kernel_rfl) fun J => ?_
    obtain ⟨t88, H_1, q19, h⟩ := h
    refine KR.se (one_ca (by kernel_rfl) q19) ?_
    refine KR.run 8 [(0, .slice t0a t0n t0k), (1, .int .u32 t1), (2, .int .i64 t2), (3, .int .i64 t3), (12, .int .i64 t12), (13, .pointer (some ⟨t13b, t13o, none⟩)), (15, .int .i64 t88), (78, .int .i64 t78), (79, .int .i64 t79), (91, .bool (decide (t88 < 0)))] 137 (s' := (.reg (opsAt (sub B [1, 1, 1, 1, 1, 1, 1, 1, 0, 1, 0, 0, 1, 1, 0, 0, 1, 1, 0, 0])) [3, 4, 5, 6, 7, 8, 9, 10, 11, 12, 13, 14, 15, 16, 17, 18, 19, 20, 21, 22, 23, 24, 25] :: S17)) (by kernel_rfl) fun J => ?_
    by_cases c20 : t88 < 0
    · replace h := iteT c20 h
      refine KR.setV 91 (by kernel_rfl) (dT c20) ?_
      exact KR.run 24 [(0, .slice t0a t0n t0k), (1, .int .u32 t1), (2, .int .i64 t2), (3, .int .i64 t3), (12, .int .i64 t12), (13, .pointer (some ⟨t13b, t13o, none⟩)), (15, .int .i64 t88), (78, .int .i64 t78), (79, .int .i64 t79), (114, .bool true)] 137 (s' := (.code (sub B [1, 1, 1, 1, 1, 1, 1, 1, 0, 1, 0, 0, 1, 1, 0, 0, 1, 1, 0, 1]) :: S16)) (by kernel_rfl) h
    · replace h := iteF c20 h
      refine KR.setV 91 (by kernel_rfl) (dF c20) ?_
      refine KR.run 4 [(0, .slice t0a t0n t0k), (1, .int .u32 t1), (2, .int .i64 t2), (3, .int .i64 t3), (12, .int .i64 t12), (13, .pointer (some ⟨t13b, t13o, none⟩)), (15, .int .i64 t88), (78, .int .i64 t78), (79, .int .i64 t79), (95, .bool (decide (t88 > 31)))] 137 (s' := (.reg (opsAt (sub B [1, 1, 1, 1, 1, 1, 1, 1, 0, 1, 0, 0, 1, 1, 0, 0, 1, 1, 0, 0])) [7, 8, 9, 10, 11, 12, 13, 14, 15, 16, 17, 18, 19, 20, 21, 22, 23, 24, 25] :: S17)) (by kernel_rfl) fun J => ?_
      by_cases c21 : t88 > 31
      · replace h := iteT c21 h
        refine KR.setV 95 (by kernel_rfl) (dT c21) ?_
        exact KR.run 20 [(0, .slice t0a t0n t0k), (1, .int .u32 t1), (2, .int .i64 t2), (3, .int .i64 t3), (12, .int .i64 t12), (13, .pointer (some ⟨t13b, t13o, none⟩)), (15, .int .i64 t88), (78, .int .i64 t78), (79, .int .i64 t79), (114, .bool true)] 137 (s' := (.code (sub B [1, 1, 1, 1, 1, 1, 1, 1, 0, 1, 0, 0, 1, 1, 0, 0, 1, 1, 0, 1]) :: S16)) (by kernel_rfl) h
      · replace h := iteF c21 h
        refine KR.setV 95 (by kernel_rfl) (dF c21) ?_
        refine KR.run 1 [(0, .slice t0a t0n t0k), (1, .int .u32 t1), (2, .int .i64 t2), (3, .int .i64 t3), (12, .int .i64 t12), (13, .pointer (some ⟨t13b, t13o, none⟩)), (15, .int .i64 t88), (78, .int .i64 t78), (79, .int .i64 t79), (95, .bool false), (96, .int .i64 t88)] 137 (s' := (.reg (opsAt (sub B [1, 1, 1, 1, 1, 1, 1, 1, 0, 1, 0, 0, 1, 1, 0, 0, 1, 1, 0, 0])) [8, 9, 10, 11, 12, 13, 14, 15, 16, 17, 18, 19, 20, 21, 22, 23, 24, 25] :: S17)) (by kernel_rfl) fun J => ?_
        obtain ⟨q22, q22x, h⟩ := h
        refine KR.p (one_ix 1 t13b t13o (by kernel_rfl) q22 q22x) ?_
        obtain ⟨t98, q23, h⟩ := h
        refine KR.rd (one_ld (by kernel_rfl) q23) ?_
        refine KR.run 3 [(0, .slice t0a t0n t0k), (1, .int .u32 t1), (2, .int .i64 t2), (3, .int .i64 t3), (12, .int .i64 t12), (13, .pointer (some ⟨t13b, t13o, none⟩)), (15, .int .i64 t88), (78, .int .i64 t78), (79, .int .i64 t79), (101, .bool (decide (t98 > 0)))] 137 (s' := (.reg (opsAt (sub B [1, 1, 1, 1, 1, 1, 1, 1, 0, 1, 0, 0, 1, 1, 0, 0, 1, 1, 0, 0])) [13, 14, 15, 16, 17, 18, 19, 20, 21, 22, 23, 24, 25] :: S17)) (by kernel_rfl) fun J => ?_
        by_cases c24 : t98 > 0
        · replace h := iteT c24 h
          refine KR.setV 101 (by kernel_rfl) (dT c24) ?_
          exact KR.run 14 [(0, .slice t0a t0n t0k), (1, .int .u32 t1), (2, .int .i64 t2), (3, .int .i64 t3), (12, .int .i64 t12), (13, .pointer (some ⟨t13b, t13o, none⟩)), (15, .int .i64 t88), (78, .int .i64 t78), (79, .int .i64 t79), (114, .bool true)] 137 (s' := (.code (sub B [1, 1, 1, 1, 1, 1, 1, 1, 0, 1, 0, 0, 1, 1, 0, 0, 1, 1, 0, 1]) :: S16)) (by kernel_rfl) h
        · replace h := iteF c24 h
          refine KR.setV 101 (by kernel_rfl) (dF c24) ?_
          refine KR.run 5 [(0, .slice t0a t0n t0k), (1, .int .u32 t1), (2, .int .i64 t2), (3, .int .i64 t3), (12, .int .i64 t12), (13, .pointer (some ⟨t13b, t13o, none⟩)), (15, .int .i64 t88), (78, .int .i64 t78), (79, .int .i64 t79), (101, .bool false), (106, .bool (decide (t12 < ((t0n : Nat) : Int))))] 137 (s' := (.reg (opsAt (sub B [1, 1, 1, 1, 1, 1, 1, 1, 0, 1, 0, 0, 1, 1, 0, 0, 1, 1, 0, 0])) [18, 19, 20, 21, 22, 23, 24, 25] :: S17)) (by kernel_rfl) fun J => ?_
          by_cases c25 : t12 < ((t0n : Nat) : Int)
          · replace h := iteT c25 h
            refine KR.setV 106 (by kernel_rfl) (dT c25) ?_
            refine KR.run 3 [(0, .slice t0a t0n t0k), (1, .int .u32 t1), (2, .int .i64 t2), (3, .int .i64 t3), (12, .int .i64 t12), (13, .pointer (some ⟨t13b, t13o, none⟩)), (15, .int .i64 t88), (78, .int .i64 t78), (79, .int .i64 t79), (101, .bool false), (106, .bool true), (107, .int .u32 t1), (109, .int .u64 (IntKind.wrap .u64 t88))] 137 (s' := (.reg (opsAt (sub B [1, 1, 1, 1, 1, 1, 1, 1, 0, 1, 0, 0, 1, 1, 0, 0, 1, 1, 0, 0])) [21, 22, 23, 24, 25] :: S17)) (by kernel_rfl) fun J => ?_
            obtain ⟨q26, h⟩ := h
            refine KR.p (one_shr .u32 .u64 t1 (by kernel_rfl) q26) ?_
            exact KR.run 5 [(0, .slice t0a t0n t0k), (1, .int .u32 t1), (2, .int .i64 t2), (3, .int .i64 t3), (12, .int .i64 t12), (13, .pointer (some ⟨t13b, t13o, none⟩)), (15, .int .i64 t88), (78, .int .i64 t78), (79, .int .i64 t79), (114, .bool ((iand .u32 (ishr .u32 t1 (IntKind.wrap .u64 t88)) 1) == 1))] 137 (s' := (.code (sub B [1, 1, 1, 1, 1, 1, 1, 1, 0, 1, 0, 0, 1, 1, 0, 0, 1, 1, 0, 1]) :: S16)) (by kernel_rfl) h
          · replace h := iteF c25 h
            refine KR.setV 106 (by kernel_rfl) (dF c25) ?_
            exact KR.run 9 [(0, .slice t0a t0n t0k), (1, .int .u32 t1), (2, .int .i64 t2), (3, .int .i64 t3), (12, .int .i64 t12), (13, .pointer (some ⟨t13b, t13o, none⟩)), (15, .int .i64 t88), (78, .int .i64 t78), (79, .int .i64 t79), (114, .bool false)] 137 (s' := (.code (sub B [1, 1, 1, 1, 1, 1, 1, 1, 0, 1, 0, 0, 1, 1, 0, 0, 1, 1, 0, 1]) :: S16)) (by kernel_rfl) h
  · replace h := iteF c18 h
    refine KR.br false (by kernel_rfl) (vB (dF c18)) ?_
    refine KR.run 9 [(0, .slice t0a t0n t0k), (1, .int .u32 t1), (2, .int .i64 t2), (3, .int .i64 t3), (121, .slice t0a t0n t0k), (122, .int .u32 t1), (125, .int .i64 (IntKind.wrap .i64 (t2 + t12))), (126, .int .i64 t3)] 137 (s' := (.reg (opsAt (sub B [1, 1, 1, 1, 1, 1, 1, 1, 1, 0])) [6, 7, 8, 9, 10, 11, 12, 13, 14, 15, 16] :: S18)) (by kernel_rfl) fun J => ?_
    obtain ⟨t127, H_2, q27, h⟩ := h
    refine KR.se (one_ca (by kernel_rfl) q27) ?_
    refine KR.run 4 [(127, .int .i64 t127), (128, .slice t0a t0n t0k), (129, .int .u32 t1), (130, .int .i64 t2), (131, .int .i64 t3)] 137 (s' := (.reg (opsAt (sub B [1, 1, 1, 1, 1, 1, 1, 1, 1, 0])) [11, 12, 13, 14, 15, 16] :: S18)) (by kernel_rfl) fun J => ?_
    obtain ⟨t132, H_3, q28, h⟩ := h
    refine KR.se (one_ca (by kernel_rfl) q28) ?_
    refine KR.run 2 [(134, .bool (t127 == t132))] 137 (s' := (.reg (opsAt (sub B [1, 1, 1, 1, 1, 1, 1, 1, 1, 0])) [14, 15, 16] :: S18)) (by kernel_rfl) fun J => ?_
    by_cases c29 : t127 = t132
    · replace h := iteT c29 h
      refine KR.setV 134 (by kernel_rfl) (eT c29) ?_
      obtain ⟨t135, H_4, q30, h⟩ := h
      refine KR.se (one_ca (by kernel_rfl) q30) ?_
      refine KR.run 3 [(10, .bool t135)] 137 (s' := (.code (sub B [1, 1, 1, 1, 1, 1, 1, 1, 1, 1]) :: [])) (by kernel_rfl) fun J => ?_
      exact KR.fin (by kernel_rfl) h
    · replace h := iteF c29 h
      refine KR.setV 134 (by kernel_rfl) (eF c29) ?_
      refine KR.run 4 [(10, .bool false)] 137 (s' := (.code (sub B [1, 1, 1, 1, 1, 1, 1, 1, 1, 1]) :: [])) (by kernel_rfl) fun J => ?_
      exact KR.fin (by kernel_rfl) h
theorem L2_step {t0a : Option Addr} {t0n : Nat} {t0k : Nat} {t1 : Int} {t2 : Int} {t3 : Int} {t12 : Int} {t13b : Nat} {t13o : Nat} {t15 : Int} {t78 : Int} {t79 : Int} {t114 : Bool} {H : Heap} {r : Value × Heap} (h :
    if t114 = true then
    (r = (.bool false, H))
    else
    ((0 : Int) ≤ t15 ∧ t15 < (32 : Int) ∧
    (∃ (t117 : Int), ldc H t13b (t13o + Int.toNat t15 * 1) = some (.int .i64 t117) ∧
    ((0 : Int) ≤ t15 ∧ t15 < (32 : Int) ∧
    (∃ (H_1 : Heap), stc H t13b (t13o + Int.toNat t15 * 1) [.int .i64 (IntKind.wrap .i64 (t117 + 1))] = some H_1 ∧
    (L1 (t0a) (t0n) (t0k) (t1) (t2) (t3) (t12) (t13b) (t13o) (t78) ((IntKind.wrap .i64 (t79 + 1))) H_1 r)))))) :
    L2 t0a t0n t0k t1 t2 t3 t12 t13b t13o t15 t78 t79 t114 H r := by
  intro J
  show KR _ _ _ (.code (sub B [1, 1, 1, 1, 1, 1, 1, 1, 0, 1, 0, 0, 1, 1, 0, 0, 1, 1, 0, 1]) :: S16) _ _ _
  by_cases c31 : t114 = true
  · replace h := iteT c31 h
    refine KR.br true (by kernel_rfl) (vB (bT c31)) ?_
    refine KR.run 4 [(10, .bool false)] 137 (s' := (.code (sub B [1, 1, 1, 1, 1, 1, 1, 1, 0, 1, 0, 0, 1, 1, 0, 0, 1, 1, 0, 1, 0, 1]) :: S16)) (by kernel_rfl) fun J => ?_
    exact KR.fin (by kernel_rfl) h
  · replace h := iteF c31 h
    refine KR.br false (by kernel_rfl) (vB (bF c31)) ?_
    refine KR.run 3 [(0, .slice t0a t0n t0k), (1, .int .u32 t1), (2, .int .i64 t2), (3, .int .i64 t3), (12, .int .i64 t12), (13, .pointer (some ⟨t13b, t13o, none⟩)), (78, .int .i64 t78), (79, .int .i64 t79), (115, .int .i64 t15)] 137 (s' := (.reg (opsAt (sub B [1, 1, 1, 1, 1, 1, 1, 1, 0, 1, 0, 0, 1, 1, 0, 0, 1, 1, 1])) [1, 2, 3, 4, 5] :: S14)) (by kernel_rfl) fun J => ?_
    obtain ⟨q32, q32x, h⟩ := h
    refine KR.p (one_ix 1 t13b t13o (by kernel_rfl) q32 q32x) ?_
    obtain ⟨t117, q33, h⟩ := h
    refine KR.rd (one_ld (by kernel_rfl) q33) ?_
    refine KR.run 1 [(0, .slice t0a t0n t0k), (1, .int .u32 t1), (2, .int .i64 t2), (3, .int .i64 t3), (12, .int .i64 t12), (13, .pointer (some ⟨t13b, t13o, none⟩)), (78, .int .i64 t78), (79, .int .i64 t79), (115, .int .i64 t15), (118, .int .i64 (IntKind.wrap .i64 (t117 + 1)))] 137 (s' := (.reg (opsAt (sub B [1, 1, 1, 1, 1, 1, 1, 1, 0, 1, 0, 0, 1, 1, 0, 0, 1, 1, 1])) [4, 5] :: S14)) (by kernel_rfl) fun J => ?_
    obtain ⟨q34, q34x, h⟩ := h
    refine KR.p (one_ix 1 t13b t13o (by kernel_rfl) q34 q34x) ?_
    obtain ⟨H_1, q35, h⟩ := h
    refine KR.se (one_st (by kernel_rfl) q35) ?_
    exact KR.run 6 [(0, .slice t0a t0n t0k), (1, .int .u32 t1), (2, .int .i64 t2), (3, .int .i64 t3), (12, .int .i64 t12), (13, .pointer (some ⟨t13b, t13o, none⟩)), (78, .int .i64 t78), (79, .int .i64 (IntKind.wrap .i64 (t79 + 1)))] 137 (s' := (.lp (sub B [1, 1, 1, 1, 1, 1, 1, 1, 0, 1, 0, 0]) :: S10)) (by kernel_rfl) h
theorem call {a0a : Option Addr} {a0n : Nat} {a0k : Nat} {a1 : Int} {a2 : Int} {a3 : Int} {a4 : Int} {H : Heap} {r : Value × Heap} (h :
    ∃ (t17 : Bool) (H_1 : Heap), xC Try.prog good 22 [.slice a0a a0n a0k] H = some (.bool t17, H_1) ∧
    (if t17 = true then
    (∃ (t35a : Option Addr) (t35n : Nat) (t35k : Nat) (H_2 : Heap), xC Try.prog good 25 [.slice a0a a0n a0k, .int .u32 a1] H_1 = some (.slice t35a t35n t35k, H_2) ∧
    (if ((t35n : Nat) : Int) < 1 then
    (L0 (a0a) (a0n) (a0k) (a1) (a2) (a3) (a4) (((t35n : Nat) : Int)) (true) H_2 r)
    else
    (L0 (a0a) (a0n) (a0k) (a1) (a2) (a3) (a4) (((t35n : Nat) : Int)) ((decide (((t35n : Nat) : Int) > ((a0n : Nat) : Int)))) H_2 r)))
    else
    (∃ (t21a : Option Addr) (t21n : Nat) (t21k : Nat) (H_3 : Heap), xC Try.prog good 25 [.slice a0a a0n a0k, .int .u32 a1] H_1 = some (.slice t21a t21n t21k, H_3) ∧
    (if ((t21n : Nat) : Int) = 0 then
    (∃ (t27 : Int) (H_4 : Heap), xC Try.prog good 27 [.slice a0a a0n a0k, .int .u32 a1, .int .i64 5, .int .i64 0] H_3 = some (.int .i64 t27, H_4) ∧
    (if t27 = (-1) then
    (∃ (t31 : Bool) (H_5 : Heap), xC Try.prog good 21 [] H_4 = some (.bool t31, H_5) ∧
    (r = (.bool t31, H_5)))
    else
    (r = (.bool false, H_4))))
    else
    (r = (.bool false, H_3)))))) :
    xC Try.prog good 7 [.slice a0a a0n a0k, .int .u32 a1, .int .i64 a2, .int .i64 a3, .int .i64 a4] H = some r := by
  refine KR.enter (fn := Try.f7) (c := B) (by kernel_rfl) (by kernel_rfl) ?_
  refine KR.run 8 [(0, .slice a0a a0n a0k), (1, .int .u32 a1), (2, .int .i64 a2), (3, .int .i64 a3), (4, .int .i64 a4), (16, .slice a0a a0n a0k)] 137 (s' := (.reg (opsAt (sub B [1, 0, 0])) [1, 2] :: S1)) (by kernel_rfl) fun J => ?_
  obtain ⟨t17, H_1, q1, h⟩ := h
  refine KR.se (one_ca (by kernel_rfl) q1) ?_
  refine KR.run 2 [(0, .slice a0a a0n a0k), (1, .int .u32 a1), (2, .int .i64 a2), (3, .int .i64 a3), (4, .int .i64 a4), (18, .bool (!t17))] 137 (s' := (.code (sub B [1, 0, 1]) :: S0)) (by kernel_rfl) fun J => ?_
  by_cases c2 : t17 = true
  · replace h := iteT c2 h
    refine KR.br false (by kernel_rfl) (vB (nB (bT c2))) ?_
    refine KR.run 5 [(0, .slice a0a a0n a0k), (1, .int .u32 a1), (2, .int .i64 a2), (3, .int .i64 a3), (4, .int .i64 a4), (33, .slice a0a a0n a0k), (34, .int .u32 a1)] 137 (s' := (.reg (opsAt (sub B [1, 1, 0])) [2, 3] :: S2)) (by kernel_rfl) fun J => ?_
    obtain ⟨t35a, t35n, t35k, H_2, q3, h⟩ := h
    refine KR.se (one_ca (by kernel_rfl) q3) ?_
    refine KR.run 14 [(0, .slice a0a a0n a0k), (1, .int .u32 a1), (2, .int .i64 a2), (3, .int .i64 a3), (4, .int .i64 a4), (12, .int .i64 ((t35n : Nat) : Int)), (40, .bool (decide (((t35n : Nat) : Int) < 1)))] 137 (s' := (.reg (opsAt (sub B [1, 1, 1, 1, 0, 0])) [3, 4, 5, 6, 7] :: S4)) (by kernel_rfl) fun J => ?_
    by_cases c4 : ((t35n : Nat) : Int) < 1
    · replace h := iteT c4 h
      refine KR.setV 40 (by kernel_rfl) (dT c4) ?_
      exact KR.run 6 [(0, .slice a0a a0n a0k), (1, .int .u32 a1), (2, .int .i64 a2), (3, .int .i64 a3), (4, .int .i64 a4), (12, .int .i64 ((t35n : Nat) : Int)), (45, .bool true)] 137 (s' := (.code (sub B [1, 1, 1, 1, 0, 1]) :: S3)) (by kernel_rfl) h
    · replace h := iteF c4 h
      refine KR.setV 40 (by kernel_rfl) (dF c4) ?_
      exact KR.run 6 [(0, .slice a0a a0n a0k), (1, .int .u32 a1), (2, .int .i64 a2), (3, .int .i64 a3), (4, .int .i64 a4), (12, .int .i64 ((t35n : Nat) : Int)), (45, .bool (decide (((t35n : Nat) : Int) > ((a0n : Nat) : Int))))] 137 (s' := (.code (sub B [1, 1, 1, 1, 0, 1]) :: S3)) (by kernel_rfl) h
  · replace h := iteF c2 h
    refine KR.br true (by kernel_rfl) (vB (nB (bF c2))) ?_
    refine KR.run 4 [(0, .slice a0a a0n a0k), (1, .int .u32 a1), (19, .slice a0a a0n a0k), (20, .int .u32 a1)] 137 (s' := (.reg (opsAt (sub B [1, 0, 1, 0, 0])) [2, 3, 4, 5, 6, 7, 8, 9, 10, 11, 12, 13, 14] :: S5)) (by kernel_rfl) fun J => ?_
    obtain ⟨t21a, t21n, t21k, H_3, q5, h⟩ := h
    refine KR.se (one_ca (by kernel_rfl) q5) ?_
    refine KR.run 3 [(0, .slice a0a a0n a0k), (1, .int .u32 a1), (24, .bool (((t21n : Nat) : Int) == 0))] 137 (s' := (.reg (opsAt (sub B [1, 0, 1, 0, 0])) [6, 7, 8, 9, 10, 11, 12, 13, 14] :: S5)) (by kernel_rfl) fun J => ?_
    by_cases c6 : ((t21n : Nat) : Int) = 0
    · replace h := iteT c6 h
      refine KR.setV 24 (by kernel_rfl) (eT c6) ?_
      refine KR.run 2 [(24, .bool true), (25, .slice a0a a0n a0k), (26, .int .u32 a1)] 137 (s' := (.reg (opsAt (sub B [1, 0, 1, 0, 0])) [8, 9, 10, 11, 12, 13, 14] :: S5)) (by kernel_rfl) fun J => ?_
      obtain ⟨t27, H_4, q7, h⟩ := h
      refine KR.se (one_ca (by kernel_rfl) q7) ?_
      refine KR.run 3 [(30, .bool (t27 == (-1)))] 137 (s' := (.reg (opsAt (sub B [1, 0, 1, 0, 0])) [12, 13, 14] :: S5)) (by kernel_rfl) fun J => ?_
      by_cases c8 : t27 = (-1)
      · replace h := iteT c8 h
        refine KR.setV 30 (by kernel_rfl) (eT c8) ?_
        obtain ⟨t31, H_5, q9, h⟩ := h
        refine KR.se (one_ca (by kernel_rfl) q9) ?_
        refine KR.run 3 [(10, .bool t31)] 137 (s' := (.code (sub B [1, 0, 1, 0, 1]) :: S0)) (by kernel_rfl) fun J => ?_
        exact KR.fin (by kernel_rfl) h
      · replace h := iteF c8 h
        refine KR.setV 30 (by kernel_rfl) (eF c8) ?_
        refine KR.run 4 [(10, .bool false)] 137 (s' := (.code (sub B [1, 0, 1, 0, 1]) :: S0)) (by kernel_rfl) fun J => ?_
        exact KR.fin (by kernel_rfl) h
    · replace h := iteF c6 h
      refine KR.setV 24 (by kernel_rfl) (eF c6) ?_
      refine KR.run 10 [(10, .bool false)] 137 (s' := (.code (sub B [1, 0, 1, 0, 1]) :: S0)) (by kernel_rfl) fun J => ?_
      exact KR.fin (by kernel_rfl) h
end F7
/-! #### 8 campanile/campanilelaw5.HopShift -/
namespace F8
noncomputable def B : Code := bodyOf Try.f8
noncomputable def S0 : List It := (.code (sub B [1, 1]) :: [])
noncomputable def S2 : List It := (.code (sub B [1, 1, 1, 1]) :: [])
noncomputable def S1 : List It := (.code (sub B [1, 0, 1]) :: S0)
noncomputable def S3 : List It := (.code (sub B [1, 0, 1, 0, 1]) :: S0)
theorem call {a0a : Option Addr} {a0n : Nat} {a0k : Nat} {a1 : Int} {a2 : Int} {a3 : Int} {a4 : Int} {H : Heap} {r : Value × Heap} (h :
    ∃ (t12 : Bool) (H_1 : Heap), xC Try.prog good 22 [.slice a0a a0n a0k] H = some (.bool t12, H_1) ∧
    (if t12 = true then
    (∃ (t33 : Int) (H_2 : Heap), xC Try.prog good 27 [.slice a0a a0n a0k, .int .u32 a1, .int .i64 (IntKind.wrap .i64 (Int.tmod (IntKind.wrap .u64 a2) 549755813888)), .int .i64 (IntKind.wrap .i64 ((IntKind.wrap .i64 (Int.tmod (IntKind.wrap .u64 a3) 100)) + (IntKind.wrap .i64 (Int.tmod (IntKind.wrap .u64 a4) 100))))] H_1 = some (.int .i64 t33, H_2) ∧
    (∃ (t40 : Int) (H_3 : Heap), xC Try.prog good 27 [.slice a0a a0n a0k, .int .u32 a1, .int .i64 (IntKind.wrap .i64 ((IntKind.wrap .i64 (Int.tmod (IntKind.wrap .u64 a2) 549755813888)) + (IntKind.wrap .i64 (Int.tmod (IntKind.wrap .u64 a3) 100)))), .int .i64 (IntKind.wrap .i64 (Int.tmod (IntKind.wrap .u64 a4) 100))] H_2 = some (.int .i64 t40, H_3) ∧
    (if t33 = t40 then
    (∃ (t43 : Bool) (H_4 : Heap), xC Try.prog good 21 [] H_3 = some (.bool t43, H_4) ∧
    (r = (.bool t43, H_4)))
    else
    (r = (.bool false, H_3)))))
    else
    (∃ (t14 : Bool) (H_5 : Heap), xC Try.prog good 21 [] H_1 = some (.bool t14, H_5) ∧
    (r = (.bool t14, H_5))))) :
    xC Try.prog good 8 [.slice a0a a0n a0k, .int .u32 a1, .int .i64 a2, .int .i64 a3, .int .i64 a4] H = some r := by
  refine KR.enter (fn := Try.f8) (c := B) (by kernel_rfl) (by kernel_rfl) ?_
  refine KR.run 8 [(0, .slice a0a a0n a0k), (1, .int .u32 a1), (2, .int .i64 a2), (3, .int .i64 a3), (4, .int .i64 a4), (11, .slice a0a a0n a0k)] 45 (s' := (.reg (opsAt (sub B [1, 0, 0])) [1, 2] :: S1)) (by kernel_rfl) fun J => ?_
  obtain ⟨t12, H_1, q1, h⟩ := h
  refine KR.se (one_ca (by kernel_rfl) q1) ?_
  refine KR.run 2 [(0, .slice a0a a0n a0k), (1, .int .u32 a1), (2, .int .i64 a2), (3, .int .i64 a3), (4, .int .i64 a4), (13, .bool (!t12))] 45 (s' := (.code (sub B [1, 0, 1]) :: S0)) (by kernel_rfl) fun J => ?_
  by_cases c2 : t12 = true
  · replace h := iteT c2 h
    refine KR.br false (by kernel_rfl) (vB (nB (bT c2))) ?_
    refine KR.run 27 [(0, .slice a0a a0n a0k), (1, .int .u32 a1), (2, .int .i64 (IntKind.wrap .i64 (Int.tmod (IntKind.wrap .u64 a2) 549755813888))), (3, .int .i64 (IntKind.wrap .i64 (Int.tmod (IntKind.wrap .u64 a3) 100))), (4, .int .i64 (IntKind.wrap .i64 (Int.tmod (IntKind.wrap .u64 a4) 100))), (27, .slice a0a a0n a0k), (28, .int .u32 a1), (29, .int .i64 (IntKind.wrap .i64 (Int.tmod (IntKind.wrap .u64 a2) 549755813888))), (32, .int .i64 (IntKind.wrap .i64 ((IntKind.wrap .i64 (Int.tmod (IntKind.wrap .u64 a3) 100)) + (IntKind.wrap .i64 (Int.tmod (IntKind.wrap .u64 a4) 100)))))] 45 (s' := (.reg (opsAt (sub B [1, 1, 1, 0])) [6, 7, 8, 9, 10, 11, 12, 13, 14, 15, 16, 17, 18] :: S2)) (by kernel_rfl) fun J => ?_
    obtain ⟨t33, H_2, q3, h⟩ := h
    refine KR.se (one_ca (by kernel_rfl) q3) ?_
    refine KR.run 6 [(33, .int .i64 t33), (34, .slice a0a a0n a0k), (35, .int .u32 a1), (38, .int .i64 (IntKind.wrap .i64 ((IntKind.wrap .i64 (Int.tmod (IntKind.wrap .u64 a2) 549755813888)) + (IntKind.wrap .i64 (Int.tmod (IntKind.wrap .u64 a3) 100))))), (39, .int .i64 (IntKind.wrap .i64 (Int.tmod (IntKind.wrap .u64 a4) 100)))] 45 (s' := (.reg (opsAt (sub B [1, 1, 1, 0])) [13, 14, 15, 16, 17, 18] :: S2)) (by kernel_rfl) fun J => ?_
    obtain ⟨t40, H_3, q4, h⟩ := h
    refine KR.se (one_ca (by kernel_rfl) q4) ?_
    refine KR.run 2 [(42, .bool (t33 == t40))] 45 (s' := (.reg (opsAt (sub B [1, 1, 1, 0])) [16, 17, 18] :: S2)) (by kernel_rfl) fun J => ?_
    by_cases c5 : t33 = t40
    · replace h := iteT c5 h
      refine KR.setV 42 (by kernel_rfl) (eT c5) ?_
      obtain ⟨t43, H_4, q6, h⟩ := h
      refine KR.se (one_ca (by kernel_rfl) q6) ?_
      refine KR.run 3 [(10, .bool t43)] 45 (s' := (.code (sub B [1, 1, 1, 1]) :: [])) (by kernel_rfl) fun J => ?_
      exact KR.fin (by kernel_rfl) h
    · replace h := iteF c5 h
      refine KR.setV 42 (by kernel_rfl) (eF c5) ?_
      refine KR.run 4 [(10, .bool false)] 45 (s' := (.code (sub B [1, 1, 1, 1]) :: [])) (by kernel_rfl) fun J => ?_
      exact KR.fin (by kernel_rfl) h
  · replace h := iteF c2 h
    refine KR.br true (by kernel_rfl) (vB (nB (bF c2))) ?_
    refine KR.run 2 [] 45 (s' := (.reg (opsAt (sub B [1, 0, 1, 0, 0])) [0, 1] :: S3)) (by kernel_rfl) fun J => ?_
    obtain ⟨t14, H_5, q7, h⟩ := h
    refine KR.se (one_ca (by kernel_rfl) q7) ?_
    refine KR.run 2 [(10, .bool t14)] 45 (s' := (.code (sub B [1, 0, 1, 0, 1]) :: S0)) (by kernel_rfl) fun J => ?_
    exact KR.fin (by kernel_rfl) h
end F8
/-! #### 9 campanile/campanilelaw5.HopOpen -/
namespace F9
noncomputable def B : Code := bodyOf Try.f9
noncomputable def S0 : List It := (.code (sub B [1, 1]) :: [])
noncomputable def S1 : List It := (.code (sub B [1, 1, 1]) :: [])
noncomputable def S2 : List It := (.code (sub B [1, 1, 1, 1]) :: [])
noncomputable def S3 : List It := (.code (sub B [1, 1, 1, 1, 1]) :: [])
noncomputable def S5 : List It := (.code (sub B [1, 1, 1, 1, 1, 1]) :: [])
noncomputable def S8 : List It := (.code (sub B [1, 1, 1, 1, 1, 1, 1, 1]) :: [])
noncomputable def S17 : List It := (.code (sub B [1, 1, 1, 1, 1, 1, 1, 1, 1]) :: [])
noncomputable def S4 : List It := (.code (sub B [1, 1, 1, 1, 0, 1]) :: S3)
noncomputable def S6 : List It := (.code (sub B [1, 1, 1, 1, 1, 0, 1]) :: S5)
noncomputable def S7 : List It := (.code (sub B [1, 1, 1, 1, 0, 1, 0, 1]) :: S3)
noncomputable def S9 : List It := (.blk 0 :: S8)
noncomputable def S10 : List It := (.lp (sub B [1, 1, 1, 1, 1, 1, 1, 0, 1, 0, 0]) :: S9)
noncomputable def S11 : List It := (.code (sub B [1, 1, 1, 1, 1, 1, 1, 0, 1, 0, 0, 1, 1]) :: S10)
noncomputable def S12 : List It := (.code (sub B [1, 1, 1, 1, 1, 1, 1, 0, 1, 0, 0, 1, 1, 1]) :: S10)
noncomputable def S13 : List It := (.blk 1 :: S12)
noncomputable def S14 : List It := (.code (sub B [1, 1, 1, 1, 1, 1, 1, 0, 1, 0, 0, 1, 1, 0, 0, 1]) :: S13)
noncomputable def S15 : List It := (.code (sub B [1, 1, 1, 1, 1, 1, 1, 0, 1, 0, 0, 1, 1, 0, 0, 1, 1]) :: S13)
noncomputable def S18 : List It := (.code (sub B [1, 1, 1, 1, 1, 1, 1, 0, 1, 0, 0, 1, 1, 0, 0, 1, 1, 1]) :: S13)
noncomputable def S16 : List It := (.code (sub B [1, 1, 1, 1, 1, 1, 1, 0, 1, 0, 0, 1, 1, 0, 0, 1, 0, 1]) :: S15)
def L0 (t0a : Option Addr) (t0n : Nat) (t0k : Nat) (t5a : Option Addr) (t5n : Nat) (t5k : Nat) (t6a : Option Addr) (t6n : Nat) (t6k : Nat) (t7a : Option Addr) (t7n : Nat) (t7k : Nat) (t49 : Bool) (H : Heap) (r : Value × Heap) : Prop := ∀ J, KR Try.prog good Try.f9 S6 (mat J 93 [(0, .slice t0a t0n t0k), (5, .slice t5a t5n t5k), (6, .slice t6a t6n t6k), (7, .slice t7a t7n t7k), (49, .bool t49)]) H r
def L1 (t5a : Option Addr) (t5n : Nat) (t5k : Nat) (t6a : Option Addr) (t6n : Nat) (t6k : Nat) (t7a : Option Addr) (t7n : Nat) (t7k : Nat) (t8 : Int) (t50a : Option Addr) (t50n : Nat) (t50k : Nat) (t51 : Int) (t52 : Int) (H : Heap) (r : Value × Heap) : Prop := ∀ J, KR Try.prog good Try.f9 S10 (mat J 93 [(5, .slice t5a t5n t5k), (6, .slice t6a t6n t6k), (7, .slice t7a t7n t7k), (8, .int .i64 t8), (50, .slice t50a t50n t50k), (51, .int .i64 t51), (52, .int .i64 t52)]) H r
def L2 (t5a : Option Addr) (t5n : Nat) (t5k : Nat) (t6b : Nat) (t6o : Nat) (t6n : Nat) (t6k : Nat) (t7a : Option Addr) (t7n : Nat) (t7k : Nat) (t8 : Int) (t10 : Int) (t50b : Nat) (t50o : Nat) (t50n : Nat) (t50k : Nat) (t51 : Int) (t52 : Int) (t70 : Bool) (H : Heap) (r : Value × Heap) : Prop := ∀ J, KR Try.prog good Try.f9 S16 (mat J 93 [(5, .slice t5a t5n t5k), (6, .slice (some ⟨t6b, t6o, none⟩) t6n t6k), (7, .slice t7a t7n t7k), (8, .int .i64 t8), (10, .int .i64 t10), (50, .slice (some ⟨t50b, t50o, none⟩) t50n t50k), (51, .int .i64 t51), (52, .int .i64 t52), (70, .bool t70)]) H r
def L3 (t5a : Option Addr) (t5n : Nat) (t5k : Nat) (t6b : Nat) (t6o : Nat) (t6n : Nat) (t6k : Nat) (t7a : Option Addr) (t7n : Nat) (t7k : Nat) (t8 : Int) (t50b : Nat) (t50o : Nat) (t50n : Nat) (t50k : Nat) (t51 : Int) (t52 : Int) (t82 : Bool) (H : Heap) (r : Value × Heap) : Prop := ∀ J, KR Try.prog good Try.f9 S18 (mat J 93 [(5, .slice t5a t5n t5k), (6, .slice (some ⟨t6b, t6o, none⟩) t6n t6k), (7, .slice t7a t7n t7k), (8, .int .i64 t8), (50, .slice (some ⟨t50b, t50o, none⟩) t50n t50k), (51, .int .i64 t51), (52, .int .i64 t52), (82, .bool t82)]) H r
theorem L0_step {t0a : Option Addr} {t0n : Nat} {t0k : Nat} {t5a : Option Addr} {t5n : Nat} {t5k : Nat} {t6a : Option Addr} {t6n : Nat} {t6k : Nat} {t7a : Option Addr} {t7n : Nat} {t7k : Nat} {t49 : Bool} {H : Heap} {r : Value × Heap} (h :
    if t49 = true then
    (r = (.bool false, H))
    else
    (L1 (t5a) (t5n) (t5k) (t6a) (t6n) (t6k) (t7a) (t7n) (t7k) 0 (t0a) (t0n) (t0k) (((t0n : Nat) : Int)) 0 H r)) :
    L0 t0a t0n t0k t5a t5n t5k t6a t6n t6k t7a t7n t7k t49 H r := by
  intro J
  show KR _ _ _ (.code (sub B [1, 1, 1, 1, 1, 0, 1]) :: S5) _ _ _
  by_cases c10 : t49 = true
  · replace h := iteT c10 h
    refine KR.br true (by kernel_rfl) (vB (bT c10)) ?_
    refine KR.run 4 [(4, .bool false)] 93 (s' := (.code (sub B [1, 1, 1, 1, 1, 0, 1, 0, 1]) :: S5)) (by kernel_rfl) fun J => ?_
    exact KR.fin (by kernel_rfl) h
  · replace h := iteF c10 h
    refine KR.br false (by kernel_rfl) (vB (bF c10)) ?_
    exact KR.run 14 [(5, .slice t5a t5n t5k), (6, .slice t6a t6n t6k), (7, .slice t7a t7n t7k), (8, .int .i64 0), (50, .slice t0a t0n t0k), (51, .int .i64 ((t0n : Nat) : Int)), (52, .int .i64 0)] 93 (s' := (.lp (sub B [1, 1, 1, 1, 1, 1, 1, 0, 1, 0, 0]) :: S9)) (by kernel_rfl) h
theorem L1_step {t5a : Option Addr} {t5n : Nat} {t5k : Nat} {t6a : Option Addr} {t6n : Nat} {t6k : Nat} {t7a : Option Addr} {t7n : Nat} {t7k : Nat} {t8 : Int} {t50a : Option Addr} {t50n : Nat} {t50k : Nat} {t51 : Int} {t52 : Int} {H : Heap} {r : Value × Heap} (h :
    if t52 < t51 then
    (∃ (t50ab t50ao : Nat), t50a = some ⟨t50ab, t50ao, none⟩ ∧
    ((0 : Int) ≤ t52 ∧ t52 < ((t50n : Nat) : Int) ∧
    (∃ (t56 : Int), ldc H t50ab (t50ao + Int.toNat t52 * 1) = some (.int .i64 t56) ∧
    (∃ (t6ab t6ao : Nat), t6a = some ⟨t6ab, t6ao, none⟩ ∧
    ((0 : Int) ≤ t52 ∧ t52 < ((t6n : Nat) : Int) ∧
    (∃ (t60 : Int), ldc H t6ab (t6ao + Int.toNat t52 * 1) = some (.int .i64 t60) ∧
    (if t60 = t56 then
    (∃ (t7ab t7ao : Nat), t7a = some ⟨t7ab, t7ao, none⟩ ∧
    ((0 : Int) ≤ t52 ∧ t52 < ((t7n : Nat) : Int) ∧
    (∃ (t67 : Int), ldc H t7ab (t7ao + Int.toNat t52 * 1) = some (.int .i64 t67) ∧
    (L2 (t5a) (t5n) (t5k) (t6ab) (t6ao) (t6n) (t6k) ((some ⟨t7ab, t7ao, none⟩)) (t7n) (t7k) (t8) (t56) (t50ab) (t50ao) (t50n) (t50k) (t51) (t52) ((!(t67 == t56))) H r))))
    else
    (L2 (t5a) (t5n) (t5k) (t6ab) (t6ao) (t6n) (t6k) (t7a) (t7n) (t7k) (t8) (t56) (t50ab) (t50ao) (t50n) (t50k) (t51) (t52) (true) H r))))))))
    else
    (if t8 = ((t5n : Nat) : Int) then
    (∃ (t91 : Bool) (H_1 : Heap), xC Try.prog good 21 [] H = some (.bool t91, H_1) ∧
    (r = (.bool t91, H_1)))
    else
    (r = (.bool false, H)))) :
    L1 t5a t5n t5k t6a t6n t6k t7a t7n t7k t8 t50a t50n t50k t51 t52 H r := by
  intro J
  show KR _ _ _ (.lp (sub B [1, 1, 1, 1, 1, 1, 1, 0, 1, 0, 0]) :: S9) _ _ _
  refine KR.run 6 [(5, .slice t5a t5n t5k), (6, .slice t6a t6n t6k), (7, .slice t7a t7n t7k), (8, .int .i64 t8), (50, .slice t50a t50n t50k), (51, .int .i64 t51), (52, .int .i64 t52), (53, .bool (decide (t52 < t51)))] 93 (s' := (.code (sub B [1, 1, 1, 1, 1, 1, 1, 0, 1, 0, 0, 1, 0]) :: S11)) (by kernel_rfl) fun J => ?_
  by_cases c11 : t52 < t51
  · replace h := iteT c11 h
    refine KR.br true (by kernel_rfl) (vB (dT c11)) ?_
    obtain ⟨t50ab, t50ao, rfl, h⟩ := h
    refine KR.run 6 [(5, .slice t5a t5n t5k), (6, .slice t6a t6n t6k), (7, .slice t7a t7n t7k), (8, .int .i64 t8), (50, .slice (some ⟨t50ab, t50ao, none⟩) t50n t50k), (51, .int .i64 t51), (52, .int .i64 t52), (54, .int .i64 t52)] 93 (s' := (.reg (opsAt (sub B [1, 1, 1, 1, 1, 1, 1, 0, 1, 0, 0, 1, 1, 0, 0, 0])) [1, 2, 3, 4] :: S14)) (by kernel_rfl) fun J => ?_
    obtain ⟨q12, q12x, h⟩ := h
    refine KR.p (one_ix 1 t50ab t50ao (by kernel_rfl) q12 q12x) ?_
    obtain ⟨t56, q13, h⟩ := h
    refine KR.rd (one_ld (by kernel_rfl) q13) ?_
    obtain ⟨t6ab, t6ao, rfl, h⟩ := h
    refine KR.run 8 [(5, .slice t5a t5n t5k), (6, .slice (some ⟨t6ab, t6ao, none⟩) t6n t6k), (7, .slice t7a t7n t7k), (8, .int .i64 t8), (9, .int .i64 t52), (10, .int .i64 t56), (50, .slice (some ⟨t50ab, t50ao, none⟩) t50n t50k), (51, .int .i64 t51), (52, .int .i64 t52), (57, .slice (some ⟨t6ab, t6ao, none⟩) t6n t6k), (58, .int .i64 t52)] 93 (s' := (.reg (opsAt (sub B [1, 1, 1, 1, 1, 1, 1, 0, 1, 0, 0, 1, 1, 0, 0, 1, 0, 0])) [2, 3, 4, 5, 6, 7, 8, 9, 10, 11, 12, 13] :: S16)) (by kernel_rfl) fun J => ?_
    obtain ⟨q14, q14x, h⟩ := h
    refine KR.p (one_ix 1 t6ab t6ao (by kernel_rfl) q14 q14x) ?_
    obtain ⟨t60, q15, h⟩ := h
    refine KR.rd (one_ld (by kernel_rfl) q15) ?_
    refine KR.run 3 [(5, .slice t5a t5n t5k), (6, .slice (some ⟨t6ab, t6ao, none⟩) t6n t6k), (7, .slice t7a t7n t7k), (8, .int .i64 t8), (9, .int .i64 t52), (10, .int .i64 t56), (50, .slice (some ⟨t50ab, t50ao, none⟩) t50n t50k), (51, .int .i64 t51), (52, .int .i64 t52), (63, .bool (!(t60 == t56)))] 93 (s' := (.reg (opsAt (sub B [1, 1, 1, 1, 1, 1, 1, 0, 1, 0, 0, 1, 1, 0, 0, 1, 0, 0])) [7, 8, 9, 10, 11, 12, 13] :: S16)) (by kernel_rfl) fun J => ?_
    by_cases c16 : t60 = t56
    · replace h := iteT c16 h
      refine KR.setV 63 (by kernel_rfl) (nB (eT c16)) ?_
      obtain ⟨t7ab, t7ao, rfl, h⟩ := h
      refine KR.run 2 [(5, .slice t5a t5n t5k), (6, .slice (some ⟨t6ab, t6ao, none⟩) t6n t6k), (7, .slice (some ⟨t7ab, t7ao, none⟩) t7n t7k), (8, .int .i64 t8), (10, .int .i64 t56), (50, .slice (some ⟨t50ab, t50ao, none⟩) t50n t50k), (51, .int .i64 t51), (52, .int .i64 t52), (63, .bool false), (64, .slice (some ⟨t7ab, t7ao, none⟩) t7n t7k), (65, .int .i64 t52)] 93 (s' := (.reg (opsAt (sub B [1, 1, 1, 1, 1, 1, 1, 0, 1, 0, 0, 1, 1, 0, 0, 1, 0, 0])) [9, 10, 11, 12, 13] :: S16)) (by kernel_rfl) fun J => ?_
      obtain ⟨q17, q17x, h⟩ := h
      refine KR.p (one_ix 1 t7ab t7ao (by kernel_rfl) q17 q17x) ?_
      obtain ⟨t67, q18, h⟩ := h
      refine KR.rd (one_ld (by kernel_rfl) q18) ?_
      exact KR.run 4 [(5, .slice t5a t5n t5k), (6, .slice (some ⟨t6ab, t6ao, none⟩) t6n t6k), (7, .slice (some ⟨t7ab, t7ao, none⟩) t7n t7k), (8, .int .i64 t8), (10, .int .i64 t56), (50, .slice (some ⟨t50ab, t50ao, none⟩) t50n t50k), (51, .int .i64 t51), (52, .int .i64 t52), (70, .bool (!(t67 == t56)))] 93 (s' := (.code (sub B [1, 1, 1, 1, 1, 1, 1, 0, 1, 0, 0, 1, 1, 0, 0, 1, 0, 1]) :: S15)) (by kernel_rfl) h
    · replace h := iteF c16 h
      refine KR.setV 63 (by kernel_rfl) (nB (eF c16)) ?_
      exact KR.run 8 [(5, .slice t5a t5n t5k), (6, .slice (some ⟨t6ab, t6ao, none⟩) t6n t6k), (7, .slice t7a t7n t7k), (8, .int .i64 t8), (10, .int .i64 t56), (50, .slice (some ⟨t50ab, t50ao, none⟩) t50n t50k), (51, .int .i64 t51), (52, .int .i64 t52), (70, .bool true)] 93 (s' := (.code (sub B [1, 1, 1, 1, 1, 1, 1, 0, 1, 0, 0, 1, 1, 0, 0, 1, 0, 1]) :: S15)) (by kernel_rfl) h
  · replace h := iteF c11 h
    refine KR.br false (by kernel_rfl) (vB (dF c11)) ?_
    refine KR.run 8 [(90, .bool (t8 == ((t5n : Nat) : Int)))] 93 (s' := (.reg (opsAt (sub B [1, 1, 1, 1, 1, 1, 1, 1, 0])) [5, 6, 7] :: S17)) (by kernel_rfl) fun J => ?_
    by_cases c19 : t8 = ((t5n : Nat) : Int)
    · replace h := iteT c19 h
      refine KR.setV 90 (by kernel_rfl) (eT c19) ?_
      obtain ⟨t91, H_1, q20, h⟩ := h
      refine KR.se (one_ca (by kernel_rfl) q20) ?_
      refine KR.run 3 [(4, .bool t91)] 93 (s' := (.code (sub B [1, 1, 1, 1, 1, 1, 1, 1, 1]) :: [])) (by kernel_rfl) fun J => ?_
      exact KR.fin (by kernel_rfl) h
    · replace h := iteF c19 h
      refine KR.setV 90 (by kernel_rfl) (eF c19) ?_
      refine KR.run 4 [(4, .bool false)] 93 (s' := (.code (sub B [1, 1, 1, 1, 1, 1, 1, 1, 1]) :: [])) (by kernel_rfl) fun J => ?_
      exact KR.fin (by kernel_rfl) h
theorem L2_step {t5a : Option Addr} {t5n : Nat} {t5k : Nat} {t6b : Nat} {t6o : Nat} {t6n : Nat} {t6k : Nat} {t7a : Option Addr} {t7n : Nat} {t7k : Nat} {t8 : Int} {t10 : Int} {t50b : Nat} {t50o : Nat} {t50n : Nat} {t50k : Nat} {t51 : Int} {t52 : Int} {t70 : Bool} {H : Heap} {r : Value × Heap} (h :
    if t70 = true then
    (r = (.bool false, H))
    else
    (if t8 < ((t5n : Nat) : Int) then
    (∃ (t5ab t5ao : Nat), t5a = some ⟨t5ab, t5ao, none⟩ ∧
    ((0 : Int) ≤ t8 ∧ t8 < ((t5n : Nat) : Int) ∧
    (∃ (t79 : Int), ldc H t5ab (t5ao + Int.toNat t8 * 1) = some (.int .i64 t79) ∧
    (L3 ((some ⟨t5ab, t5ao, none⟩)) (t5n) (t5k) (t6b) (t6o) (t6n) (t6k) (t7a) (t7n) (t7k) (t8) (t50b) (t50o) (t50n) (t50k) (t51) (t52) ((t79 == t10)) H r))))
    else
    (L3 (t5a) (t5n) (t5k) (t6b) (t6o) (t6n) (t6k) (t7a) (t7n) (t7k) (t8) (t50b) (t50o) (t50n) (t50k) (t51) (t52) (false) H r))) :
    L2 t5a t5n t5k t6b t6o t6n t6k t7a t7n t7k t8 t10 t50b t50o t50n t50k t51 t52 t70 H r := by
  intro J
  show KR _ _ _ (.code (sub B [1, 1, 1, 1, 1, 1, 1, 0, 1, 0, 0, 1, 1, 0, 0, 1, 0, 1]) :: S15) _ _ _
  by_cases c21 : t70 = true
  · replace h := iteT c21 h
    refine KR.br true (by kernel_rfl) (vB (bT c21)) ?_
    refine KR.run 4 [(4, .bool false)] 93 (s' := (.code (sub B [1, 1, 1, 1, 1, 1, 1, 0, 1, 0, 0, 1, 1, 0, 0, 1, 0, 1, 0, 1]) :: S15)) (by kernel_rfl) fun J => ?_
    exact KR.fin (by kernel_rfl) h
  · replace h := iteF c21 h
    refine KR.br false (by kernel_rfl) (vB (bF c21)) ?_
    refine KR.run 8 [(5, .slice t5a t5n t5k), (6, .slice (some ⟨t6b, t6o, none⟩) t6n t6k), (7, .slice t7a t7n t7k), (8, .int .i64 t8), (10, .int .i64 t10), (50, .slice (some ⟨t50b, t50o, none⟩) t50n t50k), (51, .int .i64 t51), (52, .int .i64 t52), (75, .bool (decide (t8 < ((t5n : Nat) : Int))))] 93 (s' := (.reg (opsAt (sub B [1, 1, 1, 1, 1, 1, 1, 0, 1, 0, 0, 1, 1, 0, 0, 1, 1, 0])) [5, 6, 7, 8, 9, 10, 11] :: S18)) (by kernel_rfl) fun J => ?_
    by_cases c22 : t8 < ((t5n : Nat) : Int)
    · replace h := iteT c22 h
      refine KR.setV 75 (by kernel_rfl) (dT c22) ?_
      obtain ⟨t5ab, t5ao, rfl, h⟩ := h
      refine KR.run 2 [(5, .slice (some ⟨t5ab, t5ao, none⟩) t5n t5k), (6, .slice (some ⟨t6b, t6o, none⟩) t6n t6k), (7, .slice t7a t7n t7k), (8, .int .i64 t8), (10, .int .i64 t10), (50, .slice (some ⟨t50b, t50o, none⟩) t50n t50k), (51, .int .i64 t51), (52, .int .i64 t52), (75, .bool true), (76, .slice (some ⟨t5ab, t5ao, none⟩) t5n t5k), (77, .int .i64 t8)] 93 (s' := (.reg (opsAt (sub B [1, 1, 1, 1, 1, 1, 1, 0, 1, 0, 0, 1, 1, 0, 0, 1, 1, 0])) [7, 8, 9, 10, 11] :: S18)) (by kernel_rfl) fun J => ?_
      obtain ⟨q23, q23x, h⟩ := h
      refine KR.p (one_ix 1 t5ab t5ao (by kernel_rfl) q23 q23x) ?_
      obtain ⟨t79, q24, h⟩ := h
      refine KR.rd (one_ld (by kernel_rfl) q24) ?_
      exact KR.run 4 [(5, .slice (some ⟨t5ab, t5ao, none⟩) t5n t5k), (6, .slice (some ⟨t6b, t6o, none⟩) t6n t6k), (7, .slice t7a t7n t7k), (8, .int .i64 t8), (50, .slice (some ⟨t50b, t50o, none⟩) t50n t50k), (51, .int .i64 t51), (52, .int .i64 t52), (82, .bool (t79 == t10))] 93 (s' := (.code (sub B [1, 1, 1, 1, 1, 1, 1, 0, 1, 0, 0, 1, 1, 0, 0, 1, 1, 1]) :: S13)) (by kernel_rfl) h
    · replace h := iteF c22 h
      refine KR.setV 75 (by kernel_rfl) (dF c22) ?_
      exact KR.run 8 [(5, .slice t5a t5n t5k), (6, .slice (some ⟨t6b, t6o, none⟩) t6n t6k), (7, .slice t7a t7n t7k), (8, .int .i64 t8), (50, .slice (some ⟨t50b, t50o, none⟩) t50n t50k), (51, .int .i64 t51), (52, .int .i64 t52), (82, .bool false)] 93 (s' := (.code (sub B [1, 1, 1, 1, 1, 1, 1, 0, 1, 0, 0, 1, 1, 0, 0, 1, 1, 1]) :: S13)) (by kernel_rfl) h
theorem L3_step {t5a : Option Addr} {t5n : Nat} {t5k : Nat} {t6b : Nat} {t6o : Nat} {t6n : Nat} {t6k : Nat} {t7a : Option Addr} {t7n : Nat} {t7k : Nat} {t8 : Int} {t50b : Nat} {t50o : Nat} {t50n : Nat} {t50k : Nat} {t51 : Int} {t52 : Int} {t82 : Bool} {H : Heap} {r : Value × Heap} (h :
    if t82 = true then
    (L1 (t5a) (t5n) (t5k) ((some ⟨t6b, t6o, none⟩)) (t6n) (t6k) (t7a) (t7n) (t7k) ((IntKind.wrap .i64 (t8 + 1))) ((some ⟨t50b, t50o, none⟩)) (t50n) (t50k) (t51) ((IntKind.wrap .i64 (t52 + 1))) H r)
    else
    (L1 (t5a) (t5n) (t5k) ((some ⟨t6b, t6o, none⟩)) (t6n) (t6k) (t7a) (t7n) (t7k) (t8) ((some ⟨t50b, t50o, none⟩)) (t50n) (t50k) (t51) ((IntKind.wrap .i64 (t52 + 1))) H r)) :
    L3 t5a t5n t5k t6b t6o t6n t6k t7a t7n t7k t8 t50b t50o t50n t50k t51 t52 t82 H r := by
  intro J
  show KR _ _ _ (.code (sub B [1, 1, 1, 1, 1, 1, 1, 0, 1, 0, 0, 1, 1, 0, 0, 1, 1, 1]) :: S13) _ _ _
  by_cases c25 : t82 = true
  · replace h := iteT c25 h
    refine KR.br true (by kernel_rfl) (vB (bT c25)) ?_
    exact KR.run 10 [(5, .slice t5a t5n t5k), (6, .slice (some ⟨t6b, t6o, none⟩) t6n t6k), (7, .slice t7a t7n t7k), (8, .int .i64 (IntKind.wrap .i64 (t8 + 1))), (50, .slice (some ⟨t50b, t50o, none⟩) t50n t50k), (51, .int .i64 t51), (52, .int .i64 (IntKind.wrap .i64 (t52 + 1)))] 93 (s' := (.lp (sub B [1, 1, 1, 1, 1, 1, 1, 0, 1, 0, 0]) :: S9)) (by kernel_rfl) h
  · replace h := iteF c25 h
    refine KR.br false (by kernel_rfl) (vB (bF c25)) ?_
    exact KR.run 6 [(5, .slice t5a t5n t5k), (6, .slice (some ⟨t6b, t6o, none⟩) t6n t6k), (7, .slice t7a t7n t7k), (8, .int .i64 t8), (50, .slice (some ⟨t50b, t50o, none⟩) t50n t50k), (51, .int .i64 t51), (52, .int .i64 (IntKind.wrap .i64 (t52 + 1)))] 93 (s' := (.lp (sub B [1, 1, 1, 1, 1, 1, 1, 0, 1, 0, 0]) :: S9)) (by kernel_rfl) h
theorem call {a0a : Option Addr} {a0n : Nat} {a0k : Nat} {a1 : Int} {H : Heap} {r : Value × Heap} (h :
    ∃ (t13a : Option Addr) (t13n : Nat) (t13k : Nat) (H_1 : Heap), xC Try.prog good 25 [.slice a0a a0n a0k, .int .u32 a1] H = some (.slice t13a t13n t13k, H_1) ∧
    (∃ (t15a : Option Addr) (t15n : Nat) (t15k : Nat) (H_2 : Heap), xC Try.prog good 25 [.slice a0a a0n a0k, .int .u32 0] H_1 = some (.slice t15a t15n t15k, H_2) ∧
    (∃ (t17a : Option Addr) (t17n : Nat) (t17k : Nat) (H_3 : Heap), xC Try.prog good 25 [.slice a0a a0n a0k, .int .u32 4294967295] H_2 = some (.slice t17a t17n t17k, H_3) ∧
    (∃ (t19 : Bool) (H_4 : Heap), xC Try.prog good 22 [.slice a0a a0n a0k] H_3 = some (.bool t19, H_4) ∧
    (if t19 = true then
    (if ((t15n : Nat) : Int) = ((a0n : Nat) : Int) then
    (if ((t17n : Nat) : Int) = ((a0n : Nat) : Int) then
    (L0 (a0a) (a0n) (a0k) (t13a) (t13n) (t13k) (t15a) (t15n) (t15k) (t17a) (t17n) (t17k) ((decide (((t13n : Nat) : Int) < 1))) H_4 r)
    else
    (L0 (a0a) (a0n) (a0k) (t13a) (t13n) (t13k) (t15a) (t15n) (t15k) (t17a) (t17n) (t17k) (true) H_4 r))
    else
    (L0 (a0a) (a0n) (a0k) (t13a) (t13n) (t13k) (t15a) (t15n) (t15k) (t17a) (t17n) (t17k) (true) H_4 r))
    else
    (if (IntKind.wrap .i64 ((IntKind.wrap .i64 (((t13n : Nat) : Int) + ((t15n : Nat) : Int))) + ((t17n : Nat) : Int))) = 0 then
    (∃ (t31 : Bool) (H_5 : Heap), xC Try.prog good 21 [] H_4 = some (.bool t31, H_5) ∧
    (r = (.bool t31, H_5)))
    else
    (r = (.bool false, H_4)))))))) :
    xC Try.prog good 9 [.slice a0a a0n a0k, .int .u32 a1] H = some r := by
  refine KR.enter (fn := Try.f9) (c := B) (by kernel_rfl) (by kernel_rfl) ?_
  refine KR.run 8 [(0, .slice a0a a0n a0k), (11, .slice a0a a0n a0k), (12, .int .u32 a1)] 93 (s' := (.reg (opsAt (sub B [1, 0])) [2, 3] :: S0)) (by kernel_rfl) fun J => ?_
  obtain ⟨t13a, t13n, t13k, H_1, q1, h⟩ := h
  refine KR.se (one_ca (by kernel_rfl) q1) ?_
  refine KR.run 5 [(0, .slice a0a a0n a0k), (5, .slice t13a t13n t13k), (14, .slice a0a a0n a0k)] 93 (s' := (.reg (opsAt (sub B [1, 1, 0])) [1, 2] :: S1)) (by kernel_rfl) fun J => ?_
  obtain ⟨t15a, t15n, t15k, H_2, q2, h⟩ := h
  refine KR.se (one_ca (by kernel_rfl) q2) ?_
  refine KR.run 5 [(0, .slice a0a a0n a0k), (5, .slice t13a t13n t13k), (6, .slice t15a t15n t15k), (16, .slice a0a a0n a0k)] 93 (s' := (.reg (opsAt (sub B [1, 1, 1, 0])) [1, 2] :: S2)) (by kernel_rfl) fun J => ?_
  obtain ⟨t17a, t17n, t17k, H_3, q3, h⟩ := h
  refine KR.se (one_ca (by kernel_rfl) q3) ?_
  refine KR.run 6 [(0, .slice a0a a0n a0k), (5, .slice t13a t13n t13k), (6, .slice t15a t15n t15k), (7, .slice t17a t17n t17k), (18, .slice a0a a0n a0k)] 93 (s' := (.reg (opsAt (sub B [1, 1, 1, 1, 0, 0])) [1, 2] :: S4)) (by kernel_rfl) fun J => ?_
  obtain ⟨t19, H_4, q4, h⟩ := h
  refine KR.se (one_ca (by kernel_rfl) q4) ?_
  refine KR.run 2 [(0, .slice a0a a0n a0k), (5, .slice t13a t13n t13k), (6, .slice t15a t15n t15k), (7, .slice t17a t17n t17k), (20, .bool (!t19))] 93 (s' := (.code (sub B [1, 1, 1, 1, 0, 1]) :: S3)) (by kernel_rfl) fun J => ?_
  by_cases c5 : t19 = true
  · replace h := iteT c5 h
    refine KR.br false (by kernel_rfl) (vB (nB (bT c5))) ?_
    refine KR.run 10 [(0, .slice a0a a0n a0k), (5, .slice t13a t13n t13k), (6, .slice t15a t15n t15k), (7, .slice t17a t17n t17k), (38, .bool (!(((t15n : Nat) : Int) == ((a0n : Nat) : Int))))] 93 (s' := (.reg (opsAt (sub B [1, 1, 1, 1, 1, 0, 0])) [6, 7, 8, 9, 10, 11, 12, 13, 14, 15, 16] :: S6)) (by kernel_rfl) fun J => ?_
    by_cases c6 : ((t15n : Nat) : Int) = ((a0n : Nat) : Int)
    · replace h := iteT c6 h
      refine KR.setV 38 (by kernel_rfl) (nB (eT c6)) ?_
      refine KR.run 7 [(0, .slice a0a a0n a0k), (5, .slice t13a t13n t13k), (6, .slice t15a t15n t15k), (7, .slice t17a t17n t17k), (45, .bool (!(((t17n : Nat) : Int) == ((a0n : Nat) : Int))))] 93 (s' := (.reg (opsAt (sub B [1, 1, 1, 1, 1, 0, 0])) [13, 14, 15, 16] :: S6)) (by kernel_rfl) fun J => ?_
      by_cases c7 : ((t17n : Nat) : Int) = ((a0n : Nat) : Int)
      · replace h := iteT c7 h
        refine KR.setV 45 (by kernel_rfl) (nB (eT c7)) ?_
        exact KR.run 5 [(0, .slice a0a a0n a0k), (5, .slice t13a t13n t13k), (6, .slice t15a t15n t15k), (7, .slice t17a t17n t17k), (49, .bool (decide (((t13n : Nat) : Int) < 1)))] 93 (s' := (.code (sub B [1, 1, 1, 1, 1, 0, 1]) :: S5)) (by kernel_rfl) h
      · replace h := iteF c7 h
        refine KR.setV 45 (by kernel_rfl) (nB (eF c7)) ?_
        exact KR.run 5 [(0, .slice a0a a0n a0k), (5, .slice t13a t13n t13k), (6, .slice t15a t15n t15k), (7, .slice t17a t17n t17k), (49, .bool true)] 93 (s' := (.code (sub B [1, 1, 1, 1, 1, 0, 1]) :: S5)) (by kernel_rfl) h
    · replace h := iteF c6 h
      refine KR.setV 38 (by kernel_rfl) (nB (eF c6)) ?_
      exact KR.run 12 [(0, .slice a0a a0n a0k), (5, .slice t13a t13n t13k), (6, .slice t15a t15n t15k), (7, .slice t17a t17n t17k), (49, .bool true)] 93 (s' := (.code (sub B [1, 1, 1, 1, 1, 0, 1]) :: S5)) (by kernel_rfl) h
  · replace h := iteF c5 h
    refine KR.br true (by kernel_rfl) (vB (nB (bF c5))) ?_
    refine KR.run 12 [(30, .bool ((IntKind.wrap .i64 ((IntKind.wrap .i64 (((t13n : Nat) : Int) + ((t15n : Nat) : Int))) + ((t17n : Nat) : Int))) == 0))] 93 (s' := (.reg (opsAt (sub B [1, 1, 1, 1, 0, 1, 0, 0])) [10, 11, 12] :: S7)) (by kernel_rfl) fun J => ?_
    by_cases c8 : (IntKind.wrap .i64 ((IntKind.wrap .i64 (((t13n : Nat) : Int) + ((t15n : Nat) : Int))) + ((t17n : Nat) : Int))) = 0
    · replace h := iteT c8 h
      refine KR.setV 30 (by kernel_rfl) (eT c8) ?_
      obtain ⟨t31, H_5, q9, h⟩ := h
      refine KR.se (one_ca (by kernel_rfl) q9) ?_
      refine KR.run 3 [(4, .bool t31)] 93 (s' := (.code (sub B [1, 1, 1, 1, 0, 1, 0, 1]) :: S3)) (by kernel_rfl) fun J => ?_
      exact KR.fin (by kernel_rfl) h
    · replace h := iteF c8 h
      refine KR.setV 30 (by kernel_rfl) (eF c8) ?_
      refine KR.run 4 [(4, .bool false)] 93 (s' := (.code (sub B [1, 1, 1, 1, 0, 1, 0, 1]) :: S3)) (by kernel_rfl) fun J => ?_
      exact KR.fin (by kernel_rfl) h
end F9
/-! #### 10 campanile/campanilelaw10.QueuePlays -/
namespace F10
noncomputable def B : Code := bodyOf Try.f10
noncomputable def S0 : List It := (.code (sub B [1, 1]) :: [])
noncomputable def S1 : List It := (.code (sub B [1, 1, 1]) :: [])
noncomputable def S3 : List It := (.code (sub B [1, 1, 1, 1]) :: [])
noncomputable def S12 : List It := (.code (sub B [1, 1, 1, 1, 1]) :: [])
noncomputable def S2 : List It := (.code (sub B [1, 1, 0, 1]) :: S1)
noncomputable def S4 : List It := (.blk 0 :: S3)
noncomputable def S5 : List It := (.lp (sub B [1, 1, 1, 0, 1, 0, 0]) :: S4)
noncomputable def S6 : List It := (.code (sub B [1, 1, 1, 0, 1, 0, 0, 1, 1]) :: S5)
noncomputable def S7 : List It := (.code (sub B [1, 1, 1, 0, 1, 0, 0, 1, 1, 1]) :: S5)
noncomputable def S8 : List It := (.blk 1 :: S7)
noncomputable def S9 : List It := (.code (sub B [1, 1, 1, 0, 1, 0, 0, 1, 1, 0, 0, 1]) :: S8)
noncomputable def S10 : List It := (.code (sub B [1, 1, 1, 0, 1, 0, 0, 1, 1, 0, 0, 1, 1]) :: S8)
noncomputable def S13 : List It := (.code (sub B [1, 1, 1, 0, 1, 0, 0, 1, 1, 0, 0, 1, 1, 1, 1]) :: S8)
noncomputable def S16 : List It := (.code (sub B [1, 1, 1, 0, 1, 0, 0, 1, 1, 0, 0, 1, 1, 1, 1, 1]) :: S8)
noncomputable def S21 : List It := (.code (sub B [1, 1, 1, 0, 1, 0, 0, 1, 1, 0, 0, 1, 1, 1, 1, 1, 1]) :: S8)
noncomputable def S29 : List It := (.code (sub B [1, 1, 1, 0, 1, 0, 0, 1, 1, 0, 0, 1, 1, 1, 1, 1, 1, 1]) :: S8)
noncomputable def S11 : List It := (.code (sub B [1, 1, 1, 0, 1, 0, 0, 1, 1, 0, 0, 1, 0, 1]) :: S10)
noncomputable def S14 : List It := (.code (sub B [1, 1, 1, 0, 1, 0, 0, 1, 1, 0, 0, 1, 1, 1, 0, 1]) :: S13)
noncomputable def S15 : List It := (.blk 2 :: S13)
noncomputable def S22 : List It := (.code (sub B [1, 1, 1, 0, 1, 0, 0, 1, 1, 0, 0, 1, 1, 1, 1, 1, 0, 1]) :: S21)
noncomputable def S23 : List It := (.blk 3 :: S21)
noncomputable def S30 : List It := (.reg (opsAt (sub B [1, 1, 1, 0, 1, 0, 0, 1, 1, 0, 0, 1, 1, 1, 1, 0])) [0] :: S16)
noncomputable def S17 : List It := (.code (sub B [1, 1, 1, 0, 1, 0, 0, 1, 1, 0, 0, 1, 1, 1, 0, 1, 0, 1, 1, 1, 0, 1]) :: S15)
noncomputable def S18 : List It := (.code (sub B [1, 1, 1, 0, 1, 0, 0, 1, 1, 0, 0, 1, 1, 1, 0, 1, 0, 1, 1, 1, 0, 1, 1]) :: S15)
noncomputable def S19 : List It := (.code (sub B [1, 1, 1, 0, 1, 0, 0, 1, 1, 0, 0, 1, 1, 1, 0, 1, 0, 1, 1, 1, 1, 1, 0, 1]) :: S15)
noncomputable def S20 : List It := (.code (sub B [1, 1, 1, 0, 1, 0, 0, 1, 1, 0, 0, 1, 1, 1, 0, 1, 0, 1, 1, 1, 1, 1, 0, 1, 1]) :: S15)
noncomputable def S24 : List It := (.lp (sub B [1, 1, 1, 0, 1, 0, 0, 1, 1, 0, 0, 1, 1, 1, 1, 1, 0, 1, 0, 0]) :: S23)
noncomputable def S25 : List It := (.code (sub B [1, 1, 1, 0, 1, 0, 0, 1, 1, 0, 0, 1, 1, 1, 1, 1, 0, 1, 0, 0, 1, 1]) :: S24)
noncomputable def S26 : List It := (.code (sub B [1, 1, 1, 0, 1, 0, 0, 1, 1, 0, 0, 1, 1, 1, 1, 1, 0, 1, 0, 0, 1, 1, 1]) :: S24)
noncomputable def S27 : List It := (.blk 4 :: S26)
noncomputable def S28 : List It := (.code (sub B [1, 1, 1, 0, 1, 0, 0, 1, 1, 0, 0, 1, 1, 1, 1, 1, 0, 1, 0, 0, 1, 1, 0, 0, 1]) :: S27)
def L0 (t5 : Option Addr) (t6 : Option Addr) (t26a : Option Addr) (t26n : Nat) (t26k : Nat) (t27 : Int) (t28 : Int) (H : Heap) (r : Value × Heap) : Prop := ∀ J, KR Try.prog good Try.f10 S5 (mat J 194 [(5, .pointer t5), (6, .pointer t6), (26, .slice t26a t26n t26k), (27, .int .i64 t27), (28, .int .i64 t28)]) H r
def L1 (t5 : Option Addr) (t6 : Option Addr) (t8b : Nat) (t8o : Nat) (t26b : Nat) (t26o : Nat) (t26n : Nat) (t26k : Nat) (t27 : Int) (t28 : Int) (t40 : Bool) (H : Heap) (r : Value × Heap) : Prop := ∀ J, KR Try.prog good Try.f10 S11 (mat J 194 [(5, .pointer t5), (6, .pointer t6), (8, .pointer (some ⟨t8b, t8o, none⟩)), (26, .slice (some ⟨t26b, t26o, none⟩) t26n t26k), (27, .int .i64 t27), (28, .int .i64 t28), (40, .bool t40)]) H r
def L2 (t5 : Option Addr) (t6 : Option Addr) (t9 : Bool) (t26b : Nat) (t26o : Nat) (t26n : Nat) (t26k : Nat) (t27 : Int) (t28 : Int) (H : Heap) (r : Value × Heap) : Prop := ∀ J, KR Try.prog good Try.f10 S30 (mat J 194 [(5, .pointer t5), (6, .pointer t6), (9, .bool t9), (26, .slice (some ⟨t26b, t26o, none⟩) t26n t26k), (27, .int .i64 t27), (28, .int .i64 t28)]) H r
def L3 (t5 : Option Addr) (t6 : Option Addr) (t8b : Nat) (t8o : Nat) (t10a : Option Addr) (t10n : Nat) (t10k : Nat) (t11 : Bool) (t12 : Bool) (t26b : Nat) (t26o : Nat) (t26n : Nat) (t26k : Nat) (t27 : Int) (t28 : Int) (H : Heap) (r : Value × Heap) : Prop := ∀ J, KR Try.prog good Try.f10 S18 (mat J 194 [(5, .pointer t5), (6, .pointer t6), (8, .pointer (some ⟨t8b, t8o, none⟩)), (10, .slice t10a t10n t10k), (11, .bool t11), (12, .bool t12), (26, .slice (some ⟨t26b, t26o, none⟩) t26n t26k), (27, .int .i64 t27), (28, .int .i64 t28)]) H r
def L4 (t5 : Option Addr) (t6b : Nat) (t6o : Nat) (t9 : Bool) (t17a : Option Addr) (t17n : Nat) (t17k : Nat) (t26b : Nat) (t26o : Nat) (t26n : Nat) (t26k : Nat) (t27 : Int) (t28 : Int) (t152a : Option Addr) (t152n : Nat) (t152k : Nat) (t153 : Int) (t154 : Int) (H : Heap) (r : Value × Heap) : Prop := ∀ J, KR Try.prog good Try.f10 S24 (mat J 194 [(5, .pointer t5), (6, .pointer (some ⟨t6b, t6o, none⟩)), (9, .bool t9), (17, .slice t17a t17n t17k), (26, .slice (some ⟨t26b, t26o, none⟩) t26n t26k), (27, .int .i64 t27), (28, .int .i64 t28), (152, .slice t152a t152n t152k), (153, .int .i64 t153), (154, .int .i64 t154)]) H r
def L5 (t5 : Option Addr) (t6b : Nat) (t6o : Nat) (t26b : Nat) (t26o : Nat) (t26n : Nat) (t26k : Nat) (t27 : Int) (t28 : Int) (t191 : Bool) (H : Heap) (r : Value × Heap) : Prop := ∀ J, KR Try.prog good Try.f10 S29 (mat J 194 [(5, .pointer t5), (6, .pointer (some ⟨t6b, t6o, none⟩)), (26, .slice (some ⟨t26b, t26o, none⟩) t26n t26k), (27, .int .i64 t27), (28, .int .i64 t28), (191, .bool t191)]) H r
theorem L0_step {t5 : Option Addr} {t6 : Option Addr} {t26a : Option Addr} {t26n : Nat} {t26k : Nat} {t27 : Int} {t28 : Int} {H : Heap} {r : Value × Heap} (h :
    if t28 < t27 then
    (∃ (t26ab t26ao : Nat), t26a = some ⟨t26ab, t26ao, none⟩ ∧
    ((0 : Int) ≤ t28 ∧ t28 < ((t26n : Nat) : Int) ∧
    (∃ (t32c0 : Int) (t32c1 : Int) (t32c2 : Int) (t32c3a : Option Addr) (t32c3n : Nat) (t32c3k : Nat), ldAll H t26ab (t26ao + Int.toNat t28 * 4) [.int .i64 t32c0, .int .i64 t32c1, .int .i64 t32c2, .slice t32c3a t32c3n t32c3k] ∧
    (∃ (H_1 : Heap), H_1 = H.push (.row [.int .i64 0, .int .i64 0, .int .i64 0, .slice none 0 0] true) ∧
    (∃ (H_2 : Heap), stc H_1 H.next 0 [.int .i64 t32c0, .int .i64 t32c1, .int .i64 t32c2, .slice t32c3a t32c3n t32c3k] = some H_2 ∧
    (if t28 ≥ 150 then
    (L1 (t5) (t6) (H.next) (0) (t26ab) (t26ao) (t26n) (t26k) (t27) (t28) (true) H_2 r)
    else
    (∃ (t37a : Option Addr) (t37n : Nat) (t37k : Nat), ldc H_2 H.next 3 = some (.slice t37a t37n t37k) ∧
    (L1 (t5) (t6) (H.next) (0) (t26ab) (t26ao) (t26n) (t26k) (t27) (t28) ((decide (((t37n : Nat) : Int) > 200))) H_2 r))))))))
    else
    (∃ (t193 : Bool) (H_3 : Heap), xC Try.prog good 12 [] H = some (.bool t193, H_3) ∧
    (r = (.bool t193, H_3)))) :
    L0 t5 t6 t26a t26n t26k t27 t28 H r := by
  intro J
  show KR _ _ _ (.lp (sub B [1, 1, 1, 0, 1, 0, 0]) :: S4) _ _ _
  refine KR.run 6 [(5, .pointer t5), (6, .pointer t6), (26, .slice t26a t26n t26k), (27, .int .i64 t27), (28, .int .i64 t28), (29, .bool (decide (t28 < t27)))] 194 (s' := (.code (sub B [1, 1, 1, 0, 1, 0, 0, 1, 0]) :: S6)) (by kernel_rfl) fun J => ?_
  by_cases c5 : t28 < t27
  · replace h := iteT c5 h
    refine KR.br true (by kernel_rfl) (vB (dT c5)) ?_
    obtain ⟨t26ab, t26ao, rfl, h⟩ := h
    refine KR.run 6 [(5, .pointer t5), (6, .pointer t6), (26, .slice (some ⟨t26ab, t26ao, none⟩) t26n t26k), (27, .int .i64 t27), (28, .int .i64 t28), (30, .int .i64 t28)] 194 (s' := (.reg (opsAt (sub B [1, 1, 1, 0, 1, 0, 0, 1, 1, 0, 0, 0])) [1, 2, 3, 4, 5] :: S9)) (by kernel_rfl) fun J => ?_
    obtain ⟨q6, q6x, h⟩ := h
    refine KR.p (one_ix 4 t26ab t26ao (by kernel_rfl) q6 q6x) ?_
    obtain ⟨t32c0, t32c1, t32c2, t32c3a, t32c3n, t32c3k, q7, h⟩ := h
    refine KR.rd (one_ldA (by kernel_rfl) q7) ?_
    obtain ⟨H_1, q8, h⟩ := h
    refine KR.mk (w := pRow [.int .i64 0, .int .i64 0, .int .i64 0, .slice none 0 0]) (one_al (by kernel_rfl)) q8 ?_
    refine KR.run 1 [(5, .pointer t5), (6, .pointer t6), (7, .int .i64 t28), (8, .pointer (some ⟨H.next, 0, none⟩)), (26, .slice (some ⟨t26ab, t26ao, none⟩) t26n t26k), (27, .int .i64 t27), (28, .int .i64 t28), (32, .agg #[.int .i64 t32c0, .int .i64 t32c1, .int .i64 t32c2, .slice t32c3a t32c3n t32c3k])] 194 (s' := (.reg (opsAt (sub B [1, 1, 1, 0, 1, 0, 0, 1, 1, 0, 0, 0])) [5] :: S9)) (by kernel_rfl) fun J => ?_
    obtain ⟨H_2, q9, h⟩ := h
    refine KR.se (one_st (by kernel_rfl) q9) ?_
    refine KR.run 7 [(5, .pointer t5), (6, .pointer t6), (8, .pointer (some ⟨H.next, 0, none⟩)), (26, .slice (some ⟨t26ab, t26ao, none⟩) t26n t26k), (27, .int .i64 t27), (28, .int .i64 t28), (35, .bool (decide (t28 ≥ 150)))] 194 (s' := (.reg (opsAt (sub B [1, 1, 1, 0, 1, 0, 0, 1, 1, 0, 0, 1, 0, 0])) [3, 4, 5, 6, 7] :: S11)) (by kernel_rfl) fun J => ?_
    by_cases c10 : t28 ≥ 150
    · replace h := iteT c10 h
      refine KR.setV 35 (by kernel_rfl) (dT c10) ?_
      exact KR.run 6 [(5, .pointer t5), (6, .pointer t6), (8, .pointer (some ⟨H.next, 0, none⟩)), (26, .slice (some ⟨t26ab, t26ao, none⟩) t26n t26k), (27, .int .i64 t27), (28, .int .i64 t28), (40, .bool true)] 194 (s' := (.code (sub B [1, 1, 1, 0, 1, 0, 0, 1, 1, 0, 0, 1, 0, 1]) :: S10)) (by kernel_rfl) h
    · replace h := iteF c10 h
      refine KR.setV 35 (by kernel_rfl) (dF c10) ?_
      refine KR.run 1 [(5, .pointer t5), (6, .pointer t6), (8, .pointer (some ⟨H.next, 0, none⟩)), (26, .slice (some ⟨t26ab, t26ao, none⟩) t26n t26k), (27, .int .i64 t27), (28, .int .i64 t28), (35, .bool false), (36, .pointer (some ⟨H.next, 3, none⟩))] 194 (s' := (.reg (opsAt (sub B [1, 1, 1, 0, 1, 0, 0, 1, 1, 0, 0, 1, 0, 0])) [4, 5, 6, 7] :: S11)) (by kernel_rfl) fun J => ?_
      obtain ⟨t37a, t37n, t37k, q11, h⟩ := h
      refine KR.rd (one_ld (by kernel_rfl) q11) ?_
      exact KR.run 4 [(5, .pointer t5), (6, .pointer t6), (8, .pointer (some ⟨H.next, 0, none⟩)), (26, .slice (some ⟨t26ab, t26ao, none⟩) t26n t26k), (27, .int .i64 t27), (28, .int .i64 t28), (40, .bool (decide (((t37n : Nat) : Int) > 200)))] 194 (s' := (.code (sub B [1, 1, 1, 0, 1, 0, 0, 1, 1, 0, 0, 1, 0, 1]) :: S10)) (by kernel_rfl) h
  · replace h := iteF c5 h
    refine KR.br false (by kernel_rfl) (vB (dF c5)) ?_
    refine KR.run 3 [] 194 (s' := (.reg (opsAt (sub B [1, 1, 1, 1, 0])) [0, 1] :: S12)) (by kernel_rfl) fun J => ?_
    obtain ⟨t193, H_3, q12, h⟩ := h
    refine KR.se (one_ca (by kernel_rfl) q12) ?_
    refine KR.run 2 [(4, .bool t193)] 194 (s' := (.code (sub B [1, 1, 1, 1, 1]) :: [])) (by kernel_rfl) fun J => ?_
    exact KR.fin (by kernel_rfl) h
theorem L1_step {t5 : Option Addr} {t6 : Option Addr} {t8b : Nat} {t8o : Nat} {t26b : Nat} {t26o : Nat} {t26n : Nat} {t26k : Nat} {t27 : Int} {t28 : Int} {t40 : Bool} {H : Heap} {r : Value × Heap} (h :
    if t40 = true then
    (∃ (t193 : Bool) (H_1 : Heap), xC Try.prog good 12 [] H = some (.bool t193, H_1) ∧
    (r = (.bool t193, H_1)))
    else
    (∃ (t42 : Int), ldc H t8b t8o = some (.int .i64 t42) ∧
    (if t42 = 0 then
    (∃ (t60 : Int), ldc H t8b (t8o + 1) = some (.int .i64 t60) ∧
    (∃ (t62a : Option Addr) (t62n : Nat) (t62k : Nat), ldc H t8b (t8o + 3) = some (.slice t62a t62n t62k) ∧
    (∃ (t63 : Bool) (H_2 : Heap), xC Try.prog good 14 [.pointer t5, .int .i64 t60, .slice t62a t62n t62k] H = some (.bool t63, H_2) ∧
    (∃ (t66 : Int), ldc H t8b (t8o + 1) = some (.int .i64 t66) ∧
    (∃ (t68a : Option Addr) (t68n : Nat) (t68k : Nat), ldc H t8b (t8o + 3) = some (.slice t68a t68n t68k) ∧
    (∃ (t69 : Bool) (H_3 : Heap), xC Try.prog good 30 [.pointer t6, .int .i64 t66, .slice t68a t68n t68k] H_2 = some (.bool t69, H_3) ∧
    (ldc H_2 t8b (t8o + 1) = some (.int .i64 t66) ∧
    ldc H_2 t8b (t8o + 3) = some (.slice t68a t68n t68k) ∧
    (L2 (t5) (t6) ((t63 == t69)) (t26b) (t26o) (t26n) (t26k) (t27) (t28) H_3 r))))))))
    else
    (if t42 = 1 then
    (∃ (t76 : Int), ldc H t8b (t8o + 1) = some (.int .i64 t76) ∧
    (∃ (t77r0a : Option Addr) (t77r0n : Nat) (t77r0k : Nat) (t77r1 : Bool) (H_4 : Heap), xC Try.prog good 17 [.pointer t5, .int .i64 t76] H = some (.tuple #[.slice t77r0a t77r0n t77r0k, .bool t77r1], H_4) ∧
    (∃ (t81 : Int), ldc H_4 t8b (t8o + 1) = some (.int .i64 t81) ∧
    (if t81 ≥ 0 then
    (∃ (t85 : Int), ldc H_4 t8b (t8o + 1) = some (.int .i64 t85) ∧
    (∃ (t6b t6o : Nat), t6 = some ⟨t6b, t6o, none⟩ ∧
    (∃ (t89a : Option Addr) (t89n : Nat) (t89k : Nat), ldc H_4 t6b (t6o + 1) = some (.slice t89a t89n t89k) ∧
    (L3 (t5) ((some ⟨t6b, t6o, none⟩)) (t8b) (t8o) (t77r0a) (t77r0n) (t77r0k) (t77r1) ((decide (t85 < ((t89n : Nat) : Int)))) (t26b) (t26o) (t26n) (t26k) (t27) (t28) H_4 r))))
    else
    (L3 (t5) (t6) (t8b) (t8o) (t77r0a) (t77r0n) (t77r0k) (t77r1) (false) (t26b) (t26o) (t26n) (t26k) (t27) (t28) H_4 r)))))
    else
    (if t42 = 2 then
    (∃ (t128 : Int), ldc H t8b (t8o + 1) = some (.int .i64 t128) ∧
    (∃ (t129r0a : Option Addr) (t129r0n : Nat) (t129r0k : Nat) (t129r1 : Bool) (H_5 : Heap), xC Try.prog good 18 [.pointer t5, .int .i64 t128] H = some (.tuple #[.slice t129r0a t129r0n t129r0k, .bool t129r1], H_5) ∧
    (∃ (t135 : Int), ldc H_5 t8b (t8o + 1) = some (.int .i64 t135) ∧
    (∃ (t136r0a : Option Addr) (t136r0n : Nat) (t136r0k : Nat) (t136r1 : Bool) (H_6 : Heap), xC Try.prog good 31 [.pointer t6, .int .i64 t135] H_5 = some (.tuple #[.slice t136r0a t136r0n t136r0k, .bool t136r1], H_6) ∧
    (∃ (t140 : ByteArray), pstrb H_6 t129r0a t129r0n = some t140 ∧
    (∃ (t142 : ByteArray), pstrb H_6 t136r0a t136r0n = some t142 ∧
    (if t140.toList = t142.toList then
    (L2 (t5) (t6) ((t129r1 == t136r1)) (t26b) (t26o) (t26n) (t26k) (t27) (t28) H_6 r)
    else
    (L2 (t5) (t6) (false) (t26b) (t26o) (t26n) (t26k) (t27) (t28) H_6 r))))))))
    else
    (∃ (t45 : Int), ldc H t8b (t8o + 1) = some (.int .i64 t45) ∧
    (∃ (t47 : Int), ldc H t8b (t8o + 2) = some (.int .i64 t47) ∧
    (∃ (t48 : Int) (H_7 : Heap), xC Try.prog good 15 [.pointer t5, .int .i64 t45, .int .i64 t47] H = some (.int .i64 t48, H_7) ∧
    (∃ (t51 : Int), ldc H t8b (t8o + 1) = some (.int .i64 t51) ∧
    (∃ (t53 : Int), ldc H t8b (t8o + 2) = some (.int .i64 t53) ∧
    (∃ (t54 : Int) (H_8 : Heap), xC Try.prog good 32 [.pointer t6, .int .i64 t51, .int .i64 t53] H_7 = some (.int .i64 t54, H_8) ∧
    (ldc H_7 t8b (t8o + 1) = some (.int .i64 t51) ∧
    ldc H_7 t8b (t8o + 2) = some (.int .i64 t53) ∧
    (L2 (t5) (t6) ((t48 == t54)) (t26b) (t26o) (t26n) (t26k) (t27) (t28) H_8 r))))))))))))) :
    L1 t5 t6 t8b t8o t26b t26o t26n t26k t27 t28 t40 H r := by
  intro J
  show KR _ _ _ (.code (sub B [1, 1, 1, 0, 1, 0, 0, 1, 1, 0, 0, 1, 0, 1]) :: S10) _ _ _
  by_cases c13 : t40 = true
  · replace h := iteT c13 h
    refine KR.br true (by kernel_rfl) (vB (bT c13)) ?_
    refine KR.run 3 [] 194 (s' := (.reg (opsAt (sub B [1, 1, 1, 1, 0])) [0, 1] :: S12)) (by kernel_rfl) fun J => ?_
    obtain ⟨t193, H_1, q14, h⟩ := h
    refine KR.se (one_ca (by kernel_rfl) q14) ?_
    refine KR.run 2 [(4, .bool t193)] 194 (s' := (.code (sub B [1, 1, 1, 1, 1]) :: [])) (by kernel_rfl) fun J => ?_
    exact KR.fin (by kernel_rfl) h
  · replace h := iteF c13 h
    refine KR.br false (by kernel_rfl) (vB (bF c13)) ?_
    refine KR.run 9 [(5, .pointer t5), (6, .pointer t6), (8, .pointer (some ⟨t8b, t8o, none⟩)), (26, .slice (some ⟨t26b, t26o, none⟩) t26n t26k), (27, .int .i64 t27), (28, .int .i64 t28), (41, .pointer (some ⟨t8b, t8o, none⟩))] 194 (s' := (.reg (opsAt (sub B [1, 1, 1, 0, 1, 0, 0, 1, 1, 0, 0, 1, 1, 1, 0, 0])) [1] :: S14)) (by kernel_rfl) fun J => ?_
    obtain ⟨t42, q15, h⟩ := h
    refine KR.rd (one_ld (by kernel_rfl) q15) ?_
    refine KR.run 7 [(5, .pointer t5), (6, .pointer t6), (8, .pointer (some ⟨t8b, t8o, none⟩)), (26, .slice (some ⟨t26b, t26o, none⟩) t26n t26k), (27, .int .i64 t27), (28, .int .i64 t28), (42, .int .i64 t42), (56, .bool (t42 == 0))] 194 (s' := (.code (sub B [1, 1, 1, 0, 1, 0, 0, 1, 1, 0, 0, 1, 1, 1, 0, 1, 0, 1]) :: S15)) (by kernel_rfl) fun J => ?_
    by_cases c16 : t42 = 0
    · replace h := iteT c16 h
      refine KR.br true (by kernel_rfl) (vB (eT c16)) ?_
      refine KE.start H (by kernel_rfl) (by kernel_rfl) ?_
      refine KE.run 2 [(5, .pointer t5), (6, .pointer t6), (8, .pointer (some ⟨t8b, t8o, none⟩)), (26, .slice (some ⟨t26b, t26o, none⟩) t26n t26k), (27, .int .i64 t27), (28, .int .i64 t28), (58, .pointer t5), (59, .pointer (some ⟨t8b, (t8o + 1), none⟩))] 194 2 (by kernel_rfl) fun J => ?_
      obtain ⟨t60, q17, h⟩ := h
      refine KE.rdN (one_ld (by kernel_rfl) q17) (by kernel_rfl) ?_
      refine KE.run 1 [(5, .pointer t5), (6, .pointer t6), (8, .pointer (some ⟨t8b, t8o, none⟩)), (26, .slice (some ⟨t26b, t26o, none⟩) t26n t26k), (27, .int .i64 t27), (28, .int .i64 t28), (58, .pointer t5), (60, .int .i64 t60), (61, .pointer (some ⟨t8b, (t8o + 3), none⟩))] 194 4 (by kernel_rfl) fun J => ?_
      obtain ⟨t62a, t62n, t62k, q18, h⟩ := h
      refine KE.rdN (one_ld (by kernel_rfl) q18) (by kernel_rfl) ?_
      obtain ⟨t63, H_2, q19, h⟩ := h
      refine KE.se (one_ca (by kernel_rfl) q19) (by kernel_rfl) ?_
      refine KE.run 2 [(5, .pointer t5), (6, .pointer t6), (8, .pointer (some ⟨t8b, t8o, none⟩)), (26, .slice (some ⟨t26b, t26o, none⟩) t26n t26k), (27, .int .i64 t27), (28, .int .i64 t28), (63, .bool t63), (64, .pointer t6), (65, .pointer (some ⟨t8b, (t8o + 1), none⟩))] 194 8 (by kernel_rfl) fun J => ?_
      obtain ⟨t66, q20, h⟩ := h
      refine KE.rdF (one_ld (by kernel_rfl) q20) (by kernel_rfl) ?_
      refine KE.run 1 [(5, .pointer t5), (6, .pointer t6), (26, .slice (some ⟨t26b, t26o, none⟩) t26n t26k), (27, .int .i64 t27), (28, .int .i64 t28), (63, .bool t63), (64, .pointer t6), (66, .int .i64 t66), (67, .pointer (some ⟨t8b, (t8o + 3), none⟩))] 194 10 (by kernel_rfl) fun J => ?_
      obtain ⟨t68a, t68n, t68k, q21, h⟩ := h
      refine KE.rdF (one_ld (by kernel_rfl) q21) (by kernel_rfl) ?_
      obtain ⟨t69, H_3, q22, h⟩ := h
      refine KE.se (one_ca (by kernel_rfl) q22) (by kernel_rfl) ?_
      refine KE.run 2 [(5, .pointer t5), (6, .pointer t6), (9, .bool (t63 == t69)), (26, .slice (some ⟨t26b, t26o, none⟩) t26n t26k), (27, .int .i64 t27), (28, .int .i64 t28)] 194 14 (by kernel_rfl) fun J => ?_
      obtain ⟨q23, q24, h⟩ := h
      refine KE.fin (H' := H_3) (by kernel_rfl) (rdsS (rdsS (rfl) (rd_ok (Hs := [H_2]) (by kernel_rfl) (by kernel_rfl) ⟨one_ld (by kernel_rfl) q23, trivial⟩)) (rd_ok (Hs := [H_2]) (by kernel_rfl) (by kernel_rfl) ⟨one_ld (by kernel_rfl) q24, trivial⟩)) (by kernel_rfl) ?_
      exact KR.run 3 [(5, .pointer t5), (6, .pointer t6), (9, .bool (t63 == t69)), (26, .slice (some ⟨t26b, t26o, none⟩) t26n t26k), (27, .int .i64 t27), (28, .int .i64 t28)] 194 (s' := (.reg (opsAt (sub B [1, 1, 1, 0, 1, 0, 0, 1, 1, 0, 0, 1, 1, 1, 1, 0])) [0] :: S16)) (by kernel_rfl) h
    · replace h := iteF c16 h
      refine KR.br false (by kernel_rfl) (vB (eF c16)) ?_
      refine KR.run 5 [(5, .pointer t5), (6, .pointer t6), (8, .pointer (some ⟨t8b, t8o, none⟩)), (26, .slice (some ⟨t26b, t26o, none⟩) t26n t26k), (27, .int .i64 t27), (28, .int .i64 t28), (42, .int .i64 t42), (71, .bool (t42 == 1))] 194 (s' := (.code (sub B [1, 1, 1, 0, 1, 0, 0, 1, 1, 0, 0, 1, 1, 1, 0, 1, 0, 1, 1, 1]) :: S15)) (by kernel_rfl) fun J => ?_
      by_cases c25 : t42 = 1
      · replace h := iteT c25 h
        refine KR.br true (by kernel_rfl) (vB (eT c25)) ?_
        refine KR.run 4 [(5, .pointer t5), (6, .pointer t6), (8, .pointer (some ⟨t8b, t8o, none⟩)), (26, .slice (some ⟨t26b, t26o, none⟩) t26n t26k), (27, .int .i64 t27), (28, .int .i64 t28), (74, .pointer t5), (75, .pointer (some ⟨t8b, (t8o + 1), none⟩))] 194 (s' := (.reg (opsAt (sub B [1, 1, 1, 0, 1, 0, 0, 1, 1, 0, 0, 1, 1, 1, 0, 1, 0, 1, 1, 1, 0, 0])) [2, 3, 4, 5, 6, 7, 8] :: S17)) (by kernel_rfl) fun J => ?_
        obtain ⟨t76, q26, h⟩ := h
        refine KR.rd (one_ld (by kernel_rfl) q26) ?_
        obtain ⟨t77r0a, t77r0n, t77r0k, t77r1, H_4, q27, h⟩ := h
        refine KR.se (one_ca (by kernel_rfl) q27) ?_
        refine KR.run 7 [(5, .pointer t5), (6, .pointer t6), (8, .pointer (some ⟨t8b, t8o, none⟩)), (10, .slice t77r0a t77r0n t77r0k), (11, .bool t77r1), (26, .slice (some ⟨t26b, t26o, none⟩) t26n t26k), (27, .int .i64 t27), (28, .int .i64 t28)] 194 (s' := (.code (sub B [1, 1, 1, 0, 1, 0, 0, 1, 1, 0, 0, 1, 1, 1, 0, 1, 0, 1, 1, 1, 0, 1, 0]) :: S18)) (by kernel_rfl) fun J => ?_
        refine KR.sd (by kernel_rfl) ?_
        refine KR.run 1 [(5, .pointer t5), (6, .pointer t6), (8, .pointer (some ⟨t8b, t8o, none⟩)), (10, .slice t77r0a t77r0n t77r0k), (11, .bool t77r1), (26, .slice (some ⟨t26b, t26o, none⟩) t26n t26k), (27, .int .i64 t27), (28, .int .i64 t28), (80, .pointer (some ⟨t8b, (t8o + 1), none⟩))] 194 (s' := (.reg (opsAt (sub B [1, 1, 1, 0, 1, 0, 0, 1, 1, 0, 0, 1, 1, 1, 0, 1, 0, 1, 1, 1, 0, 1, 0])) [1, 2, 3, 4, 5, 6, 7, 8, 9, 10, 11, 12, 13] :: S18)) (by kernel_rfl) fun J => ?_
        obtain ⟨t81, q28, h⟩ := h
        refine KR.rd (one_ld (by kernel_rfl) q28) ?_
        refine KR.run 2 [(5, .pointer t5), (6, .pointer t6), (8, .pointer (some ⟨t8b, t8o, none⟩)), (10, .slice t77r0a t77r0n t77r0k), (11, .bool t77r1), (26, .slice (some ⟨t26b, t26o, none⟩) t26n t26k), (27, .int .i64 t27), (28, .int .i64 t28), (83, .bool (decide (t81 ≥ 0)))] 194 (s' := (.reg (opsAt (sub B [1, 1, 1, 0, 1, 0, 0, 1, 1, 0, 0, 1, 1, 1, 0, 1, 0, 1, 1, 1, 0, 1, 0])) [4, 5, 6, 7, 8, 9, 10, 11, 12, 13] :: S18)) (by kernel_rfl) fun J => ?_
        by_cases c29 : t81 ≥ 0
        · replace h := iteT c29 h
          refine KR.setV 83 (by kernel_rfl) (dT c29) ?_
          refine KR.run 1 [(5, .pointer t5), (6, .pointer t6), (8, .pointer (some ⟨t8b, t8o, none⟩)), (10, .slice t77r0a t77r0n t77r0k), (11, .bool t77r1), (26, .slice (some ⟨t26b, t26o, none⟩) t26n t26k), (27, .int .i64 t27), (28, .int .i64 t28), (83, .bool true), (84, .pointer (some ⟨t8b, (t8o + 1), none⟩))] 194 (s' := (.reg (opsAt (sub B [1, 1, 1, 0, 1, 0, 0, 1, 1, 0, 0, 1, 1, 1, 0, 1, 0, 1, 1, 1, 0, 1, 0])) [5, 6, 7, 8, 9, 10, 11, 12, 13] :: S18)) (by kernel_rfl) fun J => ?_
          obtain ⟨t85, q30, h⟩ := h
          refine KR.rd (one_ld (by kernel_rfl) q30) ?_
          obtain ⟨t6b, t6o, rfl, h⟩ := h
          refine KR.run 3 [(5, .pointer t5), (6, .pointer (some ⟨t6b, t6o, none⟩)), (8, .pointer (some ⟨t8b, t8o, none⟩)), (10, .slice t77r0a t77r0n t77r0k), (11, .bool t77r1), (26, .slice (some ⟨t26b, t26o, none⟩) t26n t26k), (27, .int .i64 t27), (28, .int .i64 t28), (83, .bool true), (85, .int .i64 t85), (88, .pointer (some ⟨t6b, (t6o + 1), none⟩))] 194 (s' := (.reg (opsAt (sub B [1, 1, 1, 0, 1, 0, 0, 1, 1, 0, 0, 1, 1, 1, 0, 1, 0, 1, 1, 1, 0, 1, 0])) [9, 10, 11, 12, 13] :: S18)) (by kernel_rfl) fun J => ?_
          obtain ⟨t89a, t89n, t89k, q31, h⟩ := h
          refine KR.rd (one_ld (by kernel_rfl) q31) ?_
          exact KR.run 5 [(5, .pointer t5), (6, .pointer (some ⟨t6b, t6o, none⟩)), (8, .pointer (some ⟨t8b, t8o, none⟩)), (10, .slice t77r0a t77r0n t77r0k), (11, .bool t77r1), (12, .bool (decide (t85 < ((t89n : Nat) : Int)))), (26, .slice (some ⟨t26b, t26o, none⟩) t26n t26k), (27, .int .i64 t27), (28, .int .i64 t28)] 194 (s' := (.code (sub B [1, 1, 1, 0, 1, 0, 0, 1, 1, 0, 0, 1, 1, 1, 0, 1, 0, 1, 1, 1, 0, 1, 1]) :: S15)) (by kernel_rfl) h
        · replace h := iteF c29 h
          refine KR.setV 83 (by kernel_rfl) (dF c29) ?_
          exact KR.run 11 [(5, .pointer t5), (6, .pointer t6), (8, .pointer (some ⟨t8b, t8o, none⟩)), (10, .slice t77r0a t77r0n t77r0k), (11, .bool t77r1), (12, .bool false), (26, .slice (some ⟨t26b, t26o, none⟩) t26n t26k), (27, .int .i64 t27), (28, .int .i64 t28)] 194 (s' := (.code (sub B [1, 1, 1, 0, 1, 0, 0, 1, 1, 0, 0, 1, 1, 1, 0, 1, 0, 1, 1, 1, 0, 1, 1]) :: S15)) (by kernel_rfl) h
      · replace h := iteF c25 h
        refine KR.br false (by kernel_rfl) (vB (eF c25)) ?_
        refine KR.run 5 [(5, .pointer t5), (6, .pointer t6), (8, .pointer (some ⟨t8b, t8o, none⟩)), (26, .slice (some ⟨t26b, t26o, none⟩) t26n t26k), (27, .int .i64 t27), (28, .int .i64 t28), (123, .bool (t42 == 2))] 194 (s' := (.code (sub B [1, 1, 1, 0, 1, 0, 0, 1, 1, 0, 0, 1, 1, 1, 0, 1, 0, 1, 1, 1, 1, 1]) :: S15)) (by kernel_rfl) fun J => ?_
        by_cases c32 : t42 = 2
        · replace h := iteT c32 h
          refine KR.br true (by kernel_rfl) (vB (eT c32)) ?_
          refine KR.run 4 [(5, .pointer t5), (6, .pointer t6), (8, .pointer (some ⟨t8b, t8o, none⟩)), (26, .slice (some ⟨t26b, t26o, none⟩) t26n t26k), (27, .int .i64 t27), (28, .int .i64 t28), (126, .pointer t5), (127, .pointer (some ⟨t8b, (t8o + 1), none⟩))] 194 (s' := (.reg (opsAt (sub B [1, 1, 1, 0, 1, 0, 0, 1, 1, 0, 0, 1, 1, 1, 0, 1, 0, 1, 1, 1, 1, 1, 0, 0])) [2, 3, 4, 5, 6, 7, 8] :: S19)) (by kernel_rfl) fun J => ?_
          obtain ⟨t128, q33, h⟩ := h
          refine KR.rd (one_ld (by kernel_rfl) q33) ?_
          obtain ⟨t129r0a, t129r0n, t129r0k, t129r1, H_5, q34, h⟩ := h
          refine KR.se (one_ca (by kernel_rfl) q34) ?_
          refine KR.run 10 [(5, .pointer t5), (6, .pointer t6), (13, .slice t129r0a t129r0n t129r0k), (14, .bool t129r1), (26, .slice (some ⟨t26b, t26o, none⟩) t26n t26k), (27, .int .i64 t27), (28, .int .i64 t28), (133, .pointer t6), (134, .pointer (some ⟨t8b, (t8o + 1), none⟩))] 194 (s' := (.reg (opsAt (sub B [1, 1, 1, 0, 1, 0, 0, 1, 1, 0, 0, 1, 1, 1, 0, 1, 0, 1, 1, 1, 1, 1, 0, 1, 0])) [2, 3, 4, 5, 6, 7, 8] :: S20)) (by kernel_rfl) fun J => ?_
          obtain ⟨t135, q35, h⟩ := h
          refine KR.rd (one_ld (by kernel_rfl) q35) ?_
          obtain ⟨t136r0a, t136r0n, t136r0k, t136r1, H_6, q36, h⟩ := h
          refine KR.se (one_ca (by kernel_rfl) q36) ?_
          refine KR.run 8 [(5, .pointer t5), (6, .pointer t6), (14, .bool t129r1), (15, .slice t136r0a t136r0n t136r0k), (16, .bool t136r1), (26, .slice (some ⟨t26b, t26o, none⟩) t26n t26k), (27, .int .i64 t27), (28, .int .i64 t28), (139, .slice t129r0a t129r0n t129r0k)] 194 (s' := (.reg (opsAt (sub B [1, 1, 1, 0, 1, 0, 0, 1, 1, 0, 0, 1, 1, 1, 0, 1, 0, 1, 1, 1, 1, 1, 0, 1, 1])) [1, 2, 3, 4, 5, 6, 7, 8, 9, 10] :: S15)) (by kernel_rfl) fun J => ?_
          obtain ⟨t140, q37, h⟩ := h
          refine KR.rd (one_str (by kernel_rfl) q37) ?_
          refine KR.run 1 [(5, .pointer t5), (6, .pointer t6), (14, .bool t129r1), (16, .bool t136r1), (26, .slice (some ⟨t26b, t26o, none⟩) t26n t26k), (27, .int .i64 t27), (28, .int .i64 t28), (140, .string t140), (141, .slice t136r0a t136r0n t136r0k)] 194 (s' := (.reg (opsAt (sub B [1, 1, 1, 0, 1, 0, 0, 1, 1, 0, 0, 1, 1, 1, 0, 1, 0, 1, 1, 1, 1, 1, 0, 1, 1])) [3, 4, 5, 6, 7, 8, 9, 10] :: S15)) (by kernel_rfl) fun J => ?_
          obtain ⟨t142, q38, h⟩ := h
          refine KR.rd (one_str (by kernel_rfl) q38) ?_
          refine KR.run 2 [(5, .pointer t5), (6, .pointer t6), (14, .bool t129r1), (16, .bool t136r1), (26, .slice (some ⟨t26b, t26o, none⟩) t26n t26k), (27, .int .i64 t27), (28, .int .i64 t28), (144, .bool (t140.toList == t142.toList))] 194 (s' := (.reg (opsAt (sub B [1, 1, 1, 0, 1, 0, 0, 1, 1, 0, 0, 1, 1, 1, 0, 1, 0, 1, 1, 1, 1, 1, 0, 1, 1])) [6, 7, 8, 9, 10] :: S15)) (by kernel_rfl) fun J => ?_
          by_cases c39 : t140.toList = t142.toList
          · replace h := iteT c39 h
            refine KR.setV 144 (by kernel_rfl) (eT c39) ?_
            exact KR.run 9 [(5, .pointer t5), (6, .pointer t6), (9, .bool (t129r1 == t136r1)), (26, .slice (some ⟨t26b, t26o, none⟩) t26n t26k), (27, .int .i64 t27), (28, .int .i64 t28)] 194 (s' := (.reg (opsAt (sub B [1, 1, 1, 0, 1, 0, 0, 1, 1, 0, 0, 1, 1, 1, 1, 0])) [0] :: S16)) (by kernel_rfl) h
          · replace h := iteF c39 h
            refine KR.setV 144 (by kernel_rfl) (eF c39) ?_
            exact KR.run 9 [(5, .pointer t5), (6, .pointer t6), (9, .bool false), (26, .slice (some ⟨t26b, t26o, none⟩) t26n t26k), (27, .int .i64 t27), (28, .int .i64 t28)] 194 (s' := (.reg (opsAt (sub B [1, 1, 1, 0, 1, 0, 0, 1, 1, 0, 0, 1, 1, 1, 1, 0])) [0] :: S16)) (by kernel_rfl) h
        · replace h := iteF c32 h
          refine KR.br false (by kernel_rfl) (vB (eF c32)) ?_
          refine KE.start H (by kernel_rfl) (by kernel_rfl) ?_
          refine KE.run 2 [(5, .pointer t5), (6, .pointer t6), (8, .pointer (some ⟨t8b, t8o, none⟩)), (26, .slice (some ⟨t26b, t26o, none⟩) t26n t26k), (27, .int .i64 t27), (28, .int .i64 t28), (43, .pointer t5), (44, .pointer (some ⟨t8b, (t8o + 1), none⟩))] 194 2 (by kernel_rfl) fun J => ?_
          obtain ⟨t45, q40, h⟩ := h
          refine KE.rdN (one_ld (by kernel_rfl) q40) (by kernel_rfl) ?_
          refine KE.run 1 [(5, .pointer t5), (6, .pointer t6), (8, .pointer (some ⟨t8b, t8o, none⟩)), (26, .slice (some ⟨t26b, t26o, none⟩) t26n t26k), (27, .int .i64 t27), (28, .int .i64 t28), (43, .pointer t5), (45, .int .i64 t45), (46, .pointer (some ⟨t8b, (t8o + 2), none⟩))] 194 4 (by kernel_rfl) fun J => ?_
          obtain ⟨t47, q41, h⟩ := h
          refine KE.rdN (one_ld (by kernel_rfl) q41) (by kernel_rfl) ?_
          obtain ⟨t48, H_7, q42, h⟩ := h
          refine KE.se (one_ca (by kernel_rfl) q42) (by kernel_rfl) ?_
          refine KE.run 2 [(5, .pointer t5), (6, .pointer t6), (8, .pointer (some ⟨t8b, t8o, none⟩)), (26, .slice (some ⟨t26b, t26o, none⟩) t26n t26k), (27, .int .i64 t27), (28, .int .i64 t28), (48, .int .i64 t48), (49, .pointer t6), (50, .pointer (some ⟨t8b, (t8o + 1), none⟩))] 194 8 (by kernel_rfl) fun J => ?_
          obtain ⟨t51, q43, h⟩ := h
          refine KE.rdF (one_ld (by kernel_rfl) q43) (by kernel_rfl) ?_
          refine KE.run 1 [(5, .pointer t5), (6, .pointer t6), (26, .slice (some ⟨t26b, t26o, none⟩) t26n t26k), (27, .int .i64 t27), (28, .int .i64 t28), (48, .int .i64 t48), (49, .pointer t6), (51, .int .i64 t51), (52, .pointer (some ⟨t8b, (t8o + 2), none⟩))] 194 10 (by kernel_rfl) fun J => ?_
          obtain ⟨t53, q44, h⟩ := h
          refine KE.rdF (one_ld (by kernel_rfl) q44) (by kernel_rfl) ?_
          obtain ⟨t54, H_8, q45, h⟩ := h
          refine KE.se (one_ca (by kernel_rfl) q45) (by kernel_rfl) ?_
          refine KE.run 2 [(5, .pointer t5), (6, .pointer t6), (9, .bool (t48 == t54)), (26, .slice (some ⟨t26b, t26o, none⟩) t26n t26k), (27, .int .i64 t27), (28, .int .i64 t28)] 194 14 (by kernel_rfl) fun J => ?_
          obtain ⟨q46, q47, h⟩ := h
          refine KE.fin (H' := H_8) (by kernel_rfl) (rdsS (rdsS (rfl) (rd_ok (Hs := [H_7]) (by kernel_rfl) (by kernel_rfl) ⟨one_ld (by kernel_rfl) q46, trivial⟩)) (rd_ok (Hs := [H_7]) (by kernel_rfl) (by kernel_rfl) ⟨one_ld (by kernel_rfl) q47, trivial⟩)) (by kernel_rfl) ?_
          exact KR.run 3 [(5, .pointer t5), (6, .pointer t6), (9, .bool (t48 == t54)), (26, .slice (some ⟨t26b, t26o, none⟩) t26n t26k), (27, .int .i64 t27), (28, .int .i64 t28)] 194 (s' := (.reg (opsAt (sub B [1, 1, 1, 0, 1, 0, 0, 1, 1, 0, 0, 1, 1, 1, 1, 0])) [0] :: S16)) (by kernel_rfl) h
theorem L2_step {t5 : Option Addr} {t6 : Option Addr} {t9 : Bool} {t26b : Nat} {t26o : Nat} {t26n : Nat} {t26k : Nat} {t27 : Int} {t28 : Int} {H : Heap} {r : Value × Heap} (h :
    ∃ (t6b t6o : Nat), t6 = some ⟨t6b, t6o, none⟩ ∧
    (∃ (t152a : Option Addr) (t152n : Nat) (t152k : Nat), ldc H t6b (t6o + 1) = some (.slice t152a t152n t152k) ∧
    (L4 (t5) (t6b) (t6o) (t9) (none) (0) (0) (t26b) (t26o) (t26n) (t26k) (t27) (t28) (t152a) (t152n) (t152k) (((t152n : Nat) : Int)) 0 H r))) :
    L2 t5 t6 t9 t26b t26o t26n t26k t27 t28 H r := by
  intro J
  show KR _ _ _ (.reg (opsAt (sub B [1, 1, 1, 0, 1, 0, 0, 1, 1, 0, 0, 1, 1, 1, 1, 0])) [0] :: S16) _ _ _
  obtain ⟨t6b, t6o, rfl, h⟩ := h
  refine KR.run 8 [(5, .pointer t5), (6, .pointer (some ⟨t6b, t6o, none⟩)), (9, .bool t9), (17, .slice none 0 0), (26, .slice (some ⟨t26b, t26o, none⟩) t26n t26k), (27, .int .i64 t27), (28, .int .i64 t28), (151, .pointer (some ⟨t6b, (t6o + 1), none⟩))] 194 (s' := (.reg (opsAt (sub B [1, 1, 1, 0, 1, 0, 0, 1, 1, 0, 0, 1, 1, 1, 1, 1, 0, 0])) [3, 4, 5] :: S22)) (by kernel_rfl) fun J => ?_
  obtain ⟨t152a, t152n, t152k, q48, h⟩ := h
  refine KR.rd (one_ld (by kernel_rfl) q48) ?_
  exact KR.run 5 [(5, .pointer t5), (6, .pointer (some ⟨t6b, t6o, none⟩)), (9, .bool t9), (17, .slice none 0 0), (26, .slice (some ⟨t26b, t26o, none⟩) t26n t26k), (27, .int .i64 t27), (28, .int .i64 t28), (152, .slice t152a t152n t152k), (153, .int .i64 ((t152n : Nat) : Int)), (154, .int .i64 0)] 194 (s' := (.lp (sub B [1, 1, 1, 0, 1, 0, 0, 1, 1, 0, 0, 1, 1, 1, 1, 1, 0, 1, 0, 0]) :: S23)) (by kernel_rfl) h
theorem L3_step {t5 : Option Addr} {t6 : Option Addr} {t8b : Nat} {t8o : Nat} {t10a : Option Addr} {t10n : Nat} {t10k : Nat} {t11 : Bool} {t12 : Bool} {t26b : Nat} {t26o : Nat} {t26n : Nat} {t26k : Nat} {t27 : Int} {t28 : Int} {H : Heap} {r : Value × Heap} (h :
    if (t11 == t12) = true then
    (if t12 = true then
    (∃ (t101 : ByteArray), pstrb H t10a t10n = some t101 ∧
    (∃ (t6b t6o : Nat), t6 = some ⟨t6b, t6o, none⟩ ∧
    (∃ (t105a : Option Addr) (t105n : Nat) (t105k : Nat), ldc H t6b (t6o + 1) = some (.slice t105a t105n t105k) ∧
    (∃ (t107 : Int), ldc H t8b (t8o + 1) = some (.int .i64 t107) ∧
    (∃ (t105ab t105ao : Nat), t105a = some ⟨t105ab, t105ao, none⟩ ∧
    ((0 : Int) ≤ t107 ∧ t107 < ((t105n : Nat) : Int) ∧
    (∃ (t110a : Option Addr) (t110n : Nat) (t110k : Nat), ldc H t105ab ((t105ao + Int.toNat t107 * 2) + 1) = some (.slice t110a t110n t110k) ∧
    (∃ (t111 : ByteArray), pstrb H t110a t110n = some t111 ∧
    (if t101.toList = t111.toList then
    (L2 (t5) ((some ⟨t6b, t6o, none⟩)) (true) (t26b) (t26o) (t26n) (t26k) (t27) (t28) H r)
    else
    (L2 (t5) ((some ⟨t6b, t6o, none⟩)) (false) (t26b) (t26o) (t26n) (t26k) (t27) (t28) H r))))))))))
    else
    (L2 (t5) (t6) ((((t10n : Nat) : Int) == 0)) (t26b) (t26o) (t26n) (t26k) (t27) (t28) H r))
    else
    (L2 (t5) (t6) (false) (t26b) (t26o) (t26n) (t26k) (t27) (t28) H r)) :
    L3 t5 t6 t8b t8o t10a t10n t10k t11 t12 t26b t26o t26n t26k t27 t28 H r := by
  intro J
  show KR _ _ _ (.code (sub B [1, 1, 1, 0, 1, 0, 0, 1, 1, 0, 0, 1, 1, 1, 0, 1, 0, 1, 1, 1, 0, 1, 1]) :: S15) _ _ _
  refine KR.sd (by kernel_rfl) ?_
  refine KR.run 4 [(5, .pointer t5), (6, .pointer t6), (8, .pointer (some ⟨t8b, t8o, none⟩)), (10, .slice t10a t10n t10k), (12, .bool t12), (26, .slice (some ⟨t26b, t26o, none⟩) t26n t26k), (27, .int .i64 t27), (28, .int .i64 t28), (96, .bool (t11 == t12))] 194 (s' := (.reg (opsAt (sub B [1, 1, 1, 0, 1, 0, 0, 1, 1, 0, 0, 1, 1, 1, 0, 1, 0, 1, 1, 1, 0, 1, 1])) [4, 5, 6, 7, 8, 9, 10, 11, 12, 13, 14, 15, 16, 17, 18, 19, 20, 21, 22, 23, 24, 25, 26, 27, 28, 29, 30] :: S15)) (by kernel_rfl) fun J => ?_
  by_cases c49 : (t11 == t12) = true
  · replace h := iteT c49 h
    refine KR.setV 96 (by kernel_rfl) (bT c49) ?_
    refine KR.run 3 [(5, .pointer t5), (6, .pointer t6), (8, .pointer (some ⟨t8b, t8o, none⟩)), (10, .slice t10a t10n t10k), (12, .bool t12), (26, .slice (some ⟨t26b, t26o, none⟩) t26n t26k), (27, .int .i64 t27), (28, .int .i64 t28), (96, .bool true), (99, .bool (!t12))] 194 (s' := (.reg (opsAt (sub B [1, 1, 1, 0, 1, 0, 0, 1, 1, 0, 0, 1, 1, 1, 0, 1, 0, 1, 1, 1, 0, 1, 1])) [7, 8, 9, 10, 11, 12, 13, 14, 15, 16, 17, 18, 19, 20, 21, 22, 23, 24, 25, 26, 27, 28, 29, 30] :: S15)) (by kernel_rfl) fun J => ?_
    by_cases c50 : t12 = true
    · replace h := iteT c50 h
      refine KR.setV 99 (by kernel_rfl) (nB (bT c50)) ?_
      refine KR.run 1 [(5, .pointer t5), (6, .pointer t6), (8, .pointer (some ⟨t8b, t8o, none⟩)), (10, .slice t10a t10n t10k), (12, .bool t12), (26, .slice (some ⟨t26b, t26o, none⟩) t26n t26k), (27, .int .i64 t27), (28, .int .i64 t28), (96, .bool true), (99, .bool false), (100, .slice t10a t10n t10k)] 194 (s' := (.reg (opsAt (sub B [1, 1, 1, 0, 1, 0, 0, 1, 1, 0, 0, 1, 1, 1, 0, 1, 0, 1, 1, 1, 0, 1, 1])) [8, 9, 10, 11, 12, 13, 14, 15, 16, 17, 18, 19, 20, 21, 22, 23, 24, 25, 26, 27, 28, 29, 30] :: S15)) (by kernel_rfl) fun J => ?_
      obtain ⟨t101, q51, h⟩ := h
      refine KR.rd (one_str (by kernel_rfl) q51) ?_
      obtain ⟨t6b, t6o, rfl, h⟩ := h
      refine KR.run 3 [(5, .pointer t5), (6, .pointer (some ⟨t6b, t6o, none⟩)), (8, .pointer (some ⟨t8b, t8o, none⟩)), (10, .slice t10a t10n t10k), (12, .bool t12), (26, .slice (some ⟨t26b, t26o, none⟩) t26n t26k), (27, .int .i64 t27), (28, .int .i64 t28), (96, .bool true), (99, .bool false), (101, .string t101), (104, .pointer (some ⟨t6b, (t6o + 1), none⟩))] 194 (s' := (.reg (opsAt (sub B [1, 1, 1, 0, 1, 0, 0, 1, 1, 0, 0, 1, 1, 1, 0, 1, 0, 1, 1, 1, 0, 1, 1])) [12, 13, 14, 15, 16, 17, 18, 19, 20, 21, 22, 23, 24, 25, 26, 27, 28, 29, 30] :: S15)) (by kernel_rfl) fun J => ?_
      obtain ⟨t105a, t105n, t105k, q52, h⟩ := h
      refine KR.rd (one_ld (by kernel_rfl) q52) ?_
      refine KR.run 1 [(5, .pointer t5), (6, .pointer (some ⟨t6b, t6o, none⟩)), (10, .slice t10a t10n t10k), (12, .bool t12), (26, .slice (some ⟨t26b, t26o, none⟩) t26n t26k), (27, .int .i64 t27), (28, .int .i64 t28), (96, .bool true), (99, .bool false), (101, .string t101), (105, .slice t105a t105n t105k), (106, .pointer (some ⟨t8b, (t8o + 1), none⟩))] 194 (s' := (.reg (opsAt (sub B [1, 1, 1, 0, 1, 0, 0, 1, 1, 0, 0, 1, 1, 1, 0, 1, 0, 1, 1, 1, 0, 1, 1])) [14, 15, 16, 17, 18, 19, 20, 21, 22, 23, 24, 25, 26, 27, 28, 29, 30] :: S15)) (by kernel_rfl) fun J => ?_
      obtain ⟨t107, q53, h⟩ := h
      refine KR.rd (one_ld (by kernel_rfl) q53) ?_
      obtain ⟨t105ab, t105ao, rfl, h⟩ := h
      obtain ⟨q54, q54x, h⟩ := h
      refine KR.p (one_ix 2 t105ab t105ao (by kernel_rfl) q54 q54x) ?_
      refine KR.run 1 [(5, .pointer t5), (6, .pointer (some ⟨t6b, t6o, none⟩)), (10, .slice t10a t10n t10k), (12, .bool t12), (26, .slice (some ⟨t26b, t26o, none⟩) t26n t26k), (27, .int .i64 t27), (28, .int .i64 t28), (96, .bool true), (99, .bool false), (101, .string t101), (109, .pointer (some ⟨t105ab, ((t105ao + Int.toNat t107 * 2) + 1), none⟩))] 194 (s' := (.reg (opsAt (sub B [1, 1, 1, 0, 1, 0, 0, 1, 1, 0, 0, 1, 1, 1, 0, 1, 0, 1, 1, 1, 0, 1, 1])) [17, 18, 19, 20, 21, 22, 23, 24, 25, 26, 27, 28, 29, 30] :: S15)) (by kernel_rfl) fun J => ?_
      obtain ⟨t110a, t110n, t110k, q55, h⟩ := h
      refine KR.rd (one_ld (by kernel_rfl) q55) ?_
      obtain ⟨t111, q56, h⟩ := h
      refine KR.rd (one_str (by kernel_rfl) q56) ?_
      refine KR.run 4 [(5, .pointer t5), (6, .pointer (some ⟨t6b, t6o, none⟩)), (10, .slice t10a t10n t10k), (12, .bool t12), (26, .slice (some ⟨t26b, t26o, none⟩) t26n t26k), (27, .int .i64 t27), (28, .int .i64 t28), (115, .bool (t101.toList == t111.toList))] 194 (s' := (.reg (opsAt (sub B [1, 1, 1, 0, 1, 0, 0, 1, 1, 0, 0, 1, 1, 1, 0, 1, 0, 1, 1, 1, 0, 1, 1])) [23, 24, 25, 26, 27, 28, 29, 30] :: S15)) (by kernel_rfl) fun J => ?_
      by_cases c57 : t101.toList = t111.toList
      · replace h := iteT c57 h
        refine KR.setV 115 (by kernel_rfl) (eT c57) ?_
        refine KR.run 2 [(5, .pointer t5), (6, .pointer (some ⟨t6b, t6o, none⟩)), (10, .slice t10a t10n t10k), (26, .slice (some ⟨t26b, t26o, none⟩) t26n t26k), (27, .int .i64 t27), (28, .int .i64 t28), (115, .bool true), (117, .bool t12)] 194 (s' := (.reg (opsAt (sub B [1, 1, 1, 0, 1, 0, 0, 1, 1, 0, 0, 1, 1, 1, 0, 1, 0, 1, 1, 1, 0, 1, 1])) [25, 26, 27, 28, 29, 30] :: S15)) (by kernel_rfl) fun J => ?_
        refine KR.setV 117 (by kernel_rfl) (bT c50) ?_
        exact KR.run 10 [(5, .pointer t5), (6, .pointer (some ⟨t6b, t6o, none⟩)), (9, .bool true), (26, .slice (some ⟨t26b, t26o, none⟩) t26n t26k), (27, .int .i64 t27), (28, .int .i64 t28)] 194 (s' := (.reg (opsAt (sub B [1, 1, 1, 0, 1, 0, 0, 1, 1, 0, 0, 1, 1, 1, 1, 0])) [0] :: S16)) (by kernel_rfl) h
      · replace h := iteF c57 h
        refine KR.setV 115 (by kernel_rfl) (eF c57) ?_
        exact KR.run 12 [(5, .pointer t5), (6, .pointer (some ⟨t6b, t6o, none⟩)), (9, .bool false), (26, .slice (some ⟨t26b, t26o, none⟩) t26n t26k), (27, .int .i64 t27), (28, .int .i64 t28)] 194 (s' := (.reg (opsAt (sub B [1, 1, 1, 0, 1, 0, 0, 1, 1, 0, 0, 1, 1, 1, 1, 0])) [0] :: S16)) (by kernel_rfl) h
    · replace h := iteF c50 h
      refine KR.setV 99 (by kernel_rfl) (nB (bF c50)) ?_
      refine KR.run 18 [(5, .pointer t5), (6, .pointer t6), (10, .slice t10a t10n t10k), (26, .slice (some ⟨t26b, t26o, none⟩) t26n t26k), (27, .int .i64 t27), (28, .int .i64 t28), (115, .bool true), (117, .bool t12)] 194 (s' := (.reg (opsAt (sub B [1, 1, 1, 0, 1, 0, 0, 1, 1, 0, 0, 1, 1, 1, 0, 1, 0, 1, 1, 1, 0, 1, 1])) [25, 26, 27, 28, 29, 30] :: S15)) (by kernel_rfl) fun J => ?_
      refine KR.setV 117 (by kernel_rfl) (bF c50) ?_
      exact KR.run 10 [(5, .pointer t5), (6, .pointer t6), (9, .bool (((t10n : Nat) : Int) == 0)), (26, .slice (some ⟨t26b, t26o, none⟩) t26n t26k), (27, .int .i64 t27), (28, .int .i64 t28)] 194 (s' := (.reg (opsAt (sub B [1, 1, 1, 0, 1, 0, 0, 1, 1, 0, 0, 1, 1, 1, 1, 0])) [0] :: S16)) (by kernel_rfl) h
  · replace h := iteF c49 h
    refine KR.setV 96 (by kernel_rfl) (bF c49) ?_
    exact KR.run 31 [(5, .pointer t5), (6, .pointer t6), (9, .bool false), (26, .slice (some ⟨t26b, t26o, none⟩) t26n t26k), (27, .int .i64 t27), (28, .int .i64 t28)] 194 (s' := (.reg (opsAt (sub B [1, 1, 1, 0, 1, 0, 0, 1, 1, 0, 0, 1, 1, 1, 1, 0])) [0] :: S16)) (by kernel_rfl) h
theorem L4_step {t5 : Option Addr} {t6b : Nat} {t6o : Nat} {t9 : Bool} {t17a : Option Addr} {t17n : Nat} {t17k : Nat} {t26b : Nat} {t26o : Nat} {t26n : Nat} {t26k : Nat} {t27 : Int} {t28 : Int} {t152a : Option Addr} {t152n : Nat} {t152k : Nat} {t153 : Int} {t154 : Int} {H : Heap} {r : Value × Heap} (h :
    if t154 < t153 then
    (∃ (t152ab t152ao : Nat), t152a = some ⟨t152ab, t152ao, none⟩ ∧
    ((0 : Int) ≤ t154 ∧ t154 < ((t152n : Nat) : Int) ∧
    (∃ (t157c0 : Int) (t157c1a : Option Addr) (t157c1n : Nat) (t157c1k : Nat), ldAll H t152ab (t152ao + Int.toNat t154 * 2) [.int .i64 t157c0, .slice t157c1a t157c1n t157c1k] ∧
    (∃ (H_1 : Heap), H_1 = H.push (.row [.int .i64 0, .slice none 0 0] true) ∧
    (∃ (H_2 : Heap), stc H_1 H.next 0 [.int .i64 t157c0, .slice t157c1a t157c1n t157c1k] = some H_2 ∧
    (∃ (t160 : Int), ldc H_2 H.next 0 = some (.int .i64 t160) ∧
    (∃ (H_3 : Heap), H_3 = H_2.push (.row [.int .i64 t160] true) ∧
    (∃ (t162a : Option Addr) (t162n : Nat) (t162k : Nat) (H_4 : Heap), papp H_3 1 8 t17a t17n t17k (some ⟨H_2.next, 0, none⟩) 1 (UNK 1) = some ((t162a, t162n, t162k), H_4) ∧
    (L4 (t5) (t6b) (t6o) (t9) (t162a) (t162n) (t162k) (t26b) (t26o) (t26n) (t26k) (t27) (t28) ((some ⟨t152ab, t152ao, none⟩)) (t152n) (t152k) (t153) ((IntKind.wrap .i64 (t154 + 1))) H_4 r)))))))))
    else
    (if t9 = true then
    (∃ (t168a : Option Addr) (t168n : Nat) (t168k : Nat) (H_5 : Heap), xC Try.prog good 16 [.pointer t5] H = some (.slice t168a t168n t168k, H_5) ∧
    (∃ (t170 : Bool) (H_6 : Heap), xC Try.prog good 24 [.slice t168a t168n t168k, .slice t17a t17n t17k] H_5 = some (.bool t170, H_6) ∧
    (if t170 = true then
    (∃ (t175 : Int) (H_7 : Heap), xC Try.prog good 19 [.pointer t5] H_6 = some (.int .i64 t175, H_7) ∧
    (∃ (t179a : Option Addr) (t179n : Nat) (t179k : Nat), ldc H_6 t6b (t6o + 1) = some (.slice t179a t179n t179k) ∧
    (if t175 = ((t179n : Nat) : Int) then
    (∃ (t185 : Int) (H_8 : Heap), xC Try.prog good 20 [.pointer t5] H_7 = some (.int .i64 t185, H_8) ∧
    (∃ (t189 : Int), ldc H_7 t6b (t6o + 2) = some (.int .i64 t189) ∧
    (ldc H_7 t6b (t6o + 1) = some (.slice t179a t179n t179k) ∧
    ldc H_8 t6b (t6o + 2) = some (.int .i64 t189) ∧
    (L5 (t5) (t6b) (t6o) (t26b) (t26o) (t26n) (t26k) (t27) (t28) ((!(t185 == t189))) H_8 r))))
    else
    (ldc H_7 t6b (t6o + 1) = some (.slice t179a t179n t179k) ∧
    (L5 (t5) (t6b) (t6o) (t26b) (t26o) (t26n) (t26k) (t27) (t28) (true) H_7 r)))))
    else
    ((L5 (t5) (t6b) (t6o) (t26b) (t26o) (t26n) (t26k) (t27) (t28) (true) H_6 r)))))
    else
    ((L5 (t5) (t6b) (t6o) (t26b) (t26o) (t26n) (t26k) (t27) (t28) (true) H r)))) :
    L4 t5 t6b t6o t9 t17a t17n t17k t26b t26o t26n t26k t27 t28 t152a t152n t152k t153 t154 H r := by
  intro J
  show KR _ _ _ (.lp (sub B [1, 1, 1, 0, 1, 0, 0, 1, 1, 0, 0, 1, 1, 1, 1, 1, 0, 1, 0, 0]) :: S23) _ _ _
  refine KR.run 6 [(5, .pointer t5), (6, .pointer (some ⟨t6b, t6o, none⟩)), (9, .bool t9), (17, .slice t17a t17n t17k), (26, .slice (some ⟨t26b, t26o, none⟩) t26n t26k), (27, .int .i64 t27), (28, .int .i64 t28), (152, .slice t152a t152n t152k), (153, .int .i64 t153), (154, .int .i64 t154), (155, .bool (decide (t154 < t153)))] 194 (s' := (.code (sub B [1, 1, 1, 0, 1, 0, 0, 1, 1, 0, 0, 1, 1, 1, 1, 1, 0, 1, 0, 0, 1, 0]) :: S25)) (by kernel_rfl) fun J => ?_
  by_cases c58 : t154 < t153
  · replace h := iteT c58 h
    refine KR.br true (by kernel_rfl) (vB (dT c58)) ?_
    obtain ⟨t152ab, t152ao, rfl, h⟩ := h
    refine KR.run 5 [(5, .pointer t5), (6, .pointer (some ⟨t6b, t6o, none⟩)), (9, .bool t9), (17, .slice t17a t17n t17k), (26, .slice (some ⟨t26b, t26o, none⟩) t26n t26k), (27, .int .i64 t27), (28, .int .i64 t28), (152, .slice (some ⟨t152ab, t152ao, none⟩) t152n t152k), (153, .int .i64 t153), (154, .int .i64 t154)] 194 (s' := (.reg (opsAt (sub B [1, 1, 1, 0, 1, 0, 0, 1, 1, 0, 0, 1, 1, 1, 1, 1, 0, 1, 0, 0, 1, 1, 0, 0, 0])) [0, 1, 2, 3] :: S28)) (by kernel_rfl) fun J => ?_
    obtain ⟨q59, q59x, h⟩ := h
    refine KR.p (one_ix 2 t152ab t152ao (by kernel_rfl) q59 q59x) ?_
    obtain ⟨t157c0, t157c1a, t157c1n, t157c1k, q60, h⟩ := h
    refine KR.rd (one_ldA (by kernel_rfl) q60) ?_
    obtain ⟨H_1, q61, h⟩ := h
    refine KR.mk (w := pRow [.int .i64 0, .slice none 0 0]) (one_al (by kernel_rfl)) q61 ?_
    obtain ⟨H_2, q62, h⟩ := h
    refine KR.se (one_st (by kernel_rfl) q62) ?_
    refine KR.run 4 [(5, .pointer t5), (6, .pointer (some ⟨t6b, t6o, none⟩)), (9, .bool t9), (26, .slice (some ⟨t26b, t26o, none⟩) t26n t26k), (27, .int .i64 t27), (28, .int .i64 t28), (152, .slice (some ⟨t152ab, t152ao, none⟩) t152n t152k), (153, .int .i64 t153), (154, .int .i64 t154), (158, .slice t17a t17n t17k), (159, .pointer (some ⟨H.next, 0, none⟩))] 194 (s' := (.reg (opsAt (sub B [1, 1, 1, 0, 1, 0, 0, 1, 1, 0, 0, 1, 1, 1, 1, 1, 0, 1, 0, 0, 1, 1, 0, 0, 1])) [2, 3, 4, 5] :: S27)) (by kernel_rfl) fun J => ?_
    obtain ⟨t160, q63, h⟩ := h
    refine KR.rd (one_ld (by kernel_rfl) q63) ?_
    obtain ⟨H_3, q64, h⟩ := h
    refine KR.mk (w := sRow 1 1 [.int .i64 t160]) (one_al (by kernel_rfl)) q64 ?_
    obtain ⟨t162a, t162n, t162k, H_4, q65, h⟩ := h
    refine KR.se (one_ap 1 8 (by kernel_rfl) q65) ?_
    exact KR.run 7 [(5, .pointer t5), (6, .pointer (some ⟨t6b, t6o, none⟩)), (9, .bool t9), (17, .slice t162a t162n t162k), (26, .slice (some ⟨t26b, t26o, none⟩) t26n t26k), (27, .int .i64 t27), (28, .int .i64 t28), (152, .slice (some ⟨t152ab, t152ao, none⟩) t152n t152k), (153, .int .i64 t153), (154, .int .i64 (IntKind.wrap .i64 (t154 + 1)))] 194 (s' := (.lp (sub B [1, 1, 1, 0, 1, 0, 0, 1, 1, 0, 0, 1, 1, 1, 1, 1, 0, 1, 0, 0]) :: S23)) (by kernel_rfl) h
  · replace h := iteF c58 h
    refine KR.br false (by kernel_rfl) (vB (dF c58)) ?_
    refine KR.run 2 [(5, .pointer t5), (6, .pointer (some ⟨t6b, t6o, none⟩)), (9, .bool t9), (17, .slice t17a t17n t17k), (26, .slice (some ⟨t26b, t26o, none⟩) t26n t26k), (27, .int .i64 t27), (28, .int .i64 t28)] 194 (s' := (.code (sub B [1, 1, 1, 0, 1, 0, 0, 1, 1, 0, 0, 1, 1, 1, 1, 1, 1, 0]) :: S29)) (by kernel_rfl) fun J => ?_
    refine KE.start H (by kernel_rfl) (by kernel_rfl) ?_
    refine KE.run 3 [(5, .pointer t5), (6, .pointer (some ⟨t6b, t6o, none⟩)), (17, .slice t17a t17n t17k), (26, .slice (some ⟨t26b, t26o, none⟩) t26n t26k), (27, .int .i64 t27), (28, .int .i64 t28), (166, .bool (!t9))] 194 3 (by kernel_rfl) fun J => ?_
    by_cases c66 : t9 = true
    · replace h := iteT c66 h
      refine KE.setV 166 (by kernel_rfl) (nB (bT c66)) ?_
      refine KE.run 1 [(5, .pointer t5), (6, .pointer (some ⟨t6b, t6o, none⟩)), (17, .slice t17a t17n t17k), (26, .slice (some ⟨t26b, t26o, none⟩) t26n t26k), (27, .int .i64 t27), (28, .int .i64 t28), (166, .bool false), (167, .pointer t5)] 194 4 (by kernel_rfl) fun J => ?_
      obtain ⟨t168a, t168n, t168k, H_5, q67, h⟩ := h
      refine KE.se (one_ca (by kernel_rfl) q67) (by kernel_rfl) ?_
      refine KE.run 1 [(5, .pointer t5), (6, .pointer (some ⟨t6b, t6o, none⟩)), (26, .slice (some ⟨t26b, t26o, none⟩) t26n t26k), (27, .int .i64 t27), (28, .int .i64 t28), (166, .bool false), (168, .slice t168a t168n t168k), (169, .slice t17a t17n t17k)] 194 6 (by kernel_rfl) fun J => ?_
      obtain ⟨t170, H_6, q68, h⟩ := h
      refine KE.se (one_ca (by kernel_rfl) q68) (by kernel_rfl) ?_
      refine KE.run 3 [(5, .pointer t5), (6, .pointer (some ⟨t6b, t6o, none⟩)), (26, .slice (some ⟨t26b, t26o, none⟩) t26n t26k), (27, .int .i64 t27), (28, .int .i64 t28), (173, .bool (!t170))] 194 10 (by kernel_rfl) fun J => ?_
      by_cases c69 : t170 = true
      · replace h := iteT c69 h
        refine KE.setV 173 (by kernel_rfl) (nB (bT c69)) ?_
        refine KE.run 1 [(5, .pointer t5), (6, .pointer (some ⟨t6b, t6o, none⟩)), (26, .slice (some ⟨t26b, t26o, none⟩) t26n t26k), (27, .int .i64 t27), (28, .int .i64 t28), (173, .bool false), (174, .pointer t5)] 194 11 (by kernel_rfl) fun J => ?_
        obtain ⟨t175, H_7, q70, h⟩ := h
        refine KE.se (one_ca (by kernel_rfl) q70) (by kernel_rfl) ?_
        refine KE.run 3 [(5, .pointer t5), (6, .pointer (some ⟨t6b, t6o, none⟩)), (26, .slice (some ⟨t26b, t26o, none⟩) t26n t26k), (27, .int .i64 t27), (28, .int .i64 t28), (173, .bool false), (175, .int .i64 t175), (178, .pointer (some ⟨t6b, (t6o + 1), none⟩))] 194 15 (by kernel_rfl) fun J => ?_
        obtain ⟨t179a, t179n, t179k, q71, h⟩ := h
        refine KE.rdF (one_ld (by kernel_rfl) q71) (by kernel_rfl) ?_
        refine KE.run 4 [(5, .pointer t5), (6, .pointer (some ⟨t6b, t6o, none⟩)), (26, .slice (some ⟨t26b, t26o, none⟩) t26n t26k), (27, .int .i64 t27), (28, .int .i64 t28), (183, .bool (!(t175 == ((t179n : Nat) : Int))))] 194 20 (by kernel_rfl) fun J => ?_
        by_cases c72 : t175 = ((t179n : Nat) : Int)
        · replace h := iteT c72 h
          refine KE.setV 183 (by kernel_rfl) (nB (eT c72)) ?_
          refine KE.run 1 [(5, .pointer t5), (6, .pointer (some ⟨t6b, t6o, none⟩)), (26, .slice (some ⟨t26b, t26o, none⟩) t26n t26k), (27, .int .i64 t27), (28, .int .i64 t28), (183, .bool false), (184, .pointer t5)] 194 21 (by kernel_rfl) fun J => ?_
          obtain ⟨t185, H_8, q73, h⟩ := h
          refine KE.se (one_ca (by kernel_rfl) q73) (by kernel_rfl) ?_
          refine KE.run 3 [(5, .pointer t5), (6, .pointer (some ⟨t6b, t6o, none⟩)), (26, .slice (some ⟨t26b, t26o, none⟩) t26n t26k), (27, .int .i64 t27), (28, .int .i64 t28), (183, .bool false), (185, .int .i64 t185), (188, .pointer (some ⟨t6b, (t6o + 2), none⟩))] 194 25 (by kernel_rfl) fun J => ?_
          obtain ⟨t189, q74, h⟩ := h
          refine KE.rdF (one_ld (by kernel_rfl) q74) (by kernel_rfl) ?_
          refine KE.run 2 [(5, .pointer t5), (6, .pointer (some ⟨t6b, t6o, none⟩)), (26, .slice (some ⟨t26b, t26o, none⟩) t26n t26k), (27, .int .i64 t27), (28, .int .i64 t28), (191, .bool (!(t185 == t189)))] 194 28 (by kernel_rfl) fun J => ?_
          obtain ⟨q75, q76, h⟩ := h
          refine KE.fin (H' := H_8) (by kernel_rfl) (rdsS (rdsS (rfl) (rd_ok (Hs := [H_7]) (by kernel_rfl) (by kernel_rfl) ⟨one_ld (by kernel_rfl) q75, trivial⟩)) (rd_ok (Hs := [H_8]) (by kernel_rfl) (by kernel_rfl) ⟨one_ld (by kernel_rfl) q76, trivial⟩)) (by kernel_rfl) ?_
          exact KR.run 0 [(5, .pointer t5), (6, .pointer (some ⟨t6b, t6o, none⟩)), (26, .slice (some ⟨t26b, t26o, none⟩) t26n t26k), (27, .int .i64 t27), (28, .int .i64 t28), (191, .bool (!(t185 == t189)))] 194 (s' := (.code (sub B [1, 1, 1, 0, 1, 0, 0, 1, 1, 0, 0, 1, 1, 1, 1, 1, 1, 1]) :: S8)) (by kernel_rfl) h
        · replace h := iteF c72 h
          refine KE.setV 183 (by kernel_rfl) (nB (eF c72)) ?_
          refine KE.run 1 [(5, .pointer t5), (6, .pointer (some ⟨t6b, t6o, none⟩)), (26, .slice (some ⟨t26b, t26o, none⟩) t26n t26k), (27, .int .i64 t27), (28, .int .i64 t28), (183, .bool true), (184, undef)] 194 21 (by kernel_rfl) fun J => ?_
          refine KE.no (Gc := H_7) (by kernel_rfl) (by kernel_rfl) (by kernel_rfl) ?_
          refine KE.run 6 [(5, .pointer t5), (6, .pointer (some ⟨t6b, t6o, none⟩)), (26, .slice (some ⟨t26b, t26o, none⟩) t26n t26k), (27, .int .i64 t27), (28, .int .i64 t28), (191, .bool true)] 194 28 (by kernel_rfl) fun J => ?_
          obtain ⟨q77, h⟩ := h
          refine KE.fin (H' := H_7) (by kernel_rfl) (rdsS (rfl) (rd_ok (Hs := [H_7]) (by kernel_rfl) (by kernel_rfl) ⟨one_ld (by kernel_rfl) q77, trivial⟩)) (by kernel_rfl) ?_
          exact KR.run 0 [(5, .pointer t5), (6, .pointer (some ⟨t6b, t6o, none⟩)), (26, .slice (some ⟨t26b, t26o, none⟩) t26n t26k), (27, .int .i64 t27), (28, .int .i64 t28), (191, .bool true)] 194 (s' := (.code (sub B [1, 1, 1, 0, 1, 0, 0, 1, 1, 0, 0, 1, 1, 1, 1, 1, 1, 1]) :: S8)) (by kernel_rfl) h
      · replace h := iteF c69 h
        refine KE.setV 173 (by kernel_rfl) (nB (bF c69)) ?_
        refine KE.run 1 [(5, .pointer t5), (6, .pointer (some ⟨t6b, t6o, none⟩)), (26, .slice (some ⟨t26b, t26o, none⟩) t26n t26k), (27, .int .i64 t27), (28, .int .i64 t28), (173, .bool true), (174, undef)] 194 11 (by kernel_rfl) fun J => ?_
        refine KE.no (Gc := H_6) (by kernel_rfl) (by kernel_rfl) (by kernel_rfl) ?_
        refine KE.run 9 [(5, .pointer t5), (6, .pointer (some ⟨t6b, t6o, none⟩)), (26, .slice (some ⟨t26b, t26o, none⟩) t26n t26k), (27, .int .i64 t27), (28, .int .i64 t28), (183, .bool true), (184, undef)] 194 21 (by kernel_rfl) fun J => ?_
        refine KE.no (Gc := H_6) (by kernel_rfl) (by kernel_rfl) (by kernel_rfl) ?_
        refine KE.run 6 [(5, .pointer t5), (6, .pointer (some ⟨t6b, t6o, none⟩)), (26, .slice (some ⟨t26b, t26o, none⟩) t26n t26k), (27, .int .i64 t27), (28, .int .i64 t28), (191, .bool true)] 194 28 (by kernel_rfl) fun J => ?_
        refine KE.fin (H' := H_6) (by kernel_rfl) (rfl) (by kernel_rfl) ?_
        exact KR.run 0 [(5, .pointer t5), (6, .pointer (some ⟨t6b, t6o, none⟩)), (26, .slice (some ⟨t26b, t26o, none⟩) t26n t26k), (27, .int .i64 t27), (28, .int .i64 t28), (191, .bool true)] 194 (s' := (.code (sub B [1, 1, 1, 0, 1, 0, 0, 1, 1, 0, 0, 1, 1, 1, 1, 1, 1, 1]) :: S8)) (by kernel_rfl) h
    · replace h := iteF c66 h
      refine KE.setV 166 (by kernel_rfl) (nB (bF c66)) ?_
      refine KE.run 1 [(5, .pointer t5), (6, .pointer (some ⟨t6b, t6o, none⟩)), (17, .slice t17a t17n t17k), (26, .slice (some ⟨t26b, t26o, none⟩) t26n t26k), (27, .int .i64 t27), (28, .int .i64 t28), (166, .bool true), (167, undef)] 194 4 (by kernel_rfl) fun J => ?_
      refine KE.no (Gc := H) (by kernel_rfl) (by kernel_rfl) (by kernel_rfl) ?_
      refine KE.run 1 [(5, .pointer t5), (6, .pointer (some ⟨t6b, t6o, none⟩)), (26, .slice (some ⟨t26b, t26o, none⟩) t26n t26k), (27, .int .i64 t27), (28, .int .i64 t28), (166, .bool true), (168, undef), (169, undef)] 194 6 (by kernel_rfl) fun J => ?_
      refine KE.no (Gc := H) (by kernel_rfl) (by kernel_rfl) (by kernel_rfl) ?_
      refine KE.run 4 [(5, .pointer t5), (6, .pointer (some ⟨t6b, t6o, none⟩)), (26, .slice (some ⟨t26b, t26o, none⟩) t26n t26k), (27, .int .i64 t27), (28, .int .i64 t28), (173, .bool true), (174, undef)] 194 11 (by kernel_rfl) fun J => ?_
      refine KE.no (Gc := H) (by kernel_rfl) (by kernel_rfl) (by kernel_rfl) ?_
      refine KE.run 9 [(5, .pointer t5), (6, .pointer (some ⟨t6b, t6o, none⟩)), (26, .slice (some ⟨t26b, t26o, none⟩) t26n t26k), (27, .int .i64 t27), (28, .int .i64 t28), (183, .bool true), (184, undef)] 194 21 (by kernel_rfl) fun J => ?_
      refine KE.no (Gc := H) (by kernel_rfl) (by kernel_rfl) (by kernel_rfl) ?_
      refine KE.run 6 [(5, .pointer t5), (6, .pointer (some ⟨t6b, t6o, none⟩)), (26, .slice (some ⟨t26b, t26o, none⟩) t26n t26k), (27, .int .i64 t27), (28, .int .i64 t28), (191, .bool true)] 194 28 (by kernel_rfl) fun J => ?_
      refine KE.fin (H' := H) (by kernel_rfl) (rfl) (by kernel_rfl) ?_
      exact KR.run 0 [(5, .pointer t5), (6, .pointer (some ⟨t6b, t6o, none⟩)), (26, .slice (some ⟨t26b, t26o, none⟩) t26n t26k), (27, .int .i64 t27), (28, .int .i64 t28), (191, .bool true)] 194 (s' := (.code (sub B [1, 1, 1, 0, 1, 0, 0, 1, 1, 0, 0, 1, 1, 1, 1, 1, 1, 1]) :: S8)) (by kernel_rfl) h
theorem L5_step {t5 : Option Addr} {t6b : Nat} {t6o : Nat} {t26b : Nat} {t26o : Nat} {t26n : Nat} {t26k : Nat} {t27 : Int} {t28 : Int} {t191 : Bool} {H : Heap} {r : Value × Heap} (h :
    if t191 = true then
    (r = (.bool false, H))
    else
    (L0 (t5) ((some ⟨t6b, t6o, none⟩)) ((some ⟨t26b, t26o, none⟩)) (t26n) (t26k) (t27) ((IntKind.wrap .i64 (t28 + 1))) H r)) :
    L5 t5 t6b t6o t26b t26o t26n t26k t27 t28 t191 H r := by
  intro J
  show KR _ _ _ (.code (sub B [1, 1, 1, 0, 1, 0, 0, 1, 1, 0, 0, 1, 1, 1, 1, 1, 1, 1]) :: S8) _ _ _
  by_cases c78 : t191 = true
  · replace h := iteT c78 h
    refine KR.br true (by kernel_rfl) (vB (bT c78)) ?_
    refine KR.run 4 [(4, .bool false)] 194 (s' := (.code (sub B [1, 1, 1, 0, 1, 0, 0, 1, 1, 0, 0, 1, 1, 1, 1, 1, 1, 1, 0, 1]) :: S8)) (by kernel_rfl) fun J => ?_
    exact KR.fin (by kernel_rfl) h
  · replace h := iteF c78 h
    refine KR.br false (by kernel_rfl) (vB (bF c78)) ?_
    exact KR.run 6 [(5, .pointer t5), (6, .pointer (some ⟨t6b, t6o, none⟩)), (26, .slice (some ⟨t26b, t26o, none⟩) t26n t26k), (27, .int .i64 t27), (28, .int .i64 (IntKind.wrap .i64 (t28 + 1)))] 194 (s' := (.lp (sub B [1, 1, 1, 0, 1, 0, 0]) :: S4)) (by kernel_rfl) h
theorem call {a0 : Int} {a1a : Option Addr} {a1n : Nat} {a1k : Nat} {H : Heap} {r : Value × Heap} (h :
    ∃ (t21 : Option Addr) (H_1 : Heap), xC Try.prog good 13 [.int .i64 a0] H = some (.pointer t21, H_1) ∧
    (∃ (t23 : Option Addr) (H_2 : Heap), xC Try.prog good 29 [.int .i64 a0] H_1 = some (.pointer t23, H_2) ∧
    (if (Option.isNone t21) = true then
    (r = (.bool false, H_2))
    else
    (L0 (t21) (t23) (a1a) (a1n) (a1k) (((a1n : Nat) : Int)) 0 H_2 r)))) :
    xC Try.prog good 10 [.int .i64 a0, .slice a1a a1n a1k] H = some r := by
  refine KR.enter (fn := Try.f10) (c := B) (by kernel_rfl) (by kernel_rfl) ?_
  refine KR.run 7 [(0, .int .i64 a0), (1, .slice a1a a1n a1k), (20, .int .i64 a0)] 194 (s' := (.reg (opsAt (sub B [1, 0])) [1, 2, 3, 4, 5] :: S0)) (by kernel_rfl) fun J => ?_
  obtain ⟨t21, H_1, q1, h⟩ := h
  refine KR.se (one_ca (by kernel_rfl) q1) ?_
  refine KR.run 1 [(1, .slice a1a a1n a1k), (21, .pointer t21), (22, .int .i64 a0)] 194 (s' := (.reg (opsAt (sub B [1, 0])) [3, 4, 5] :: S0)) (by kernel_rfl) fun J => ?_
  obtain ⟨t23, H_2, q2, h⟩ := h
  refine KR.se (one_ca (by kernel_rfl) q2) ?_
  refine KR.run 7 [(1, .slice a1a a1n a1k), (5, .pointer t21), (6, .pointer t23), (24, .pointer t21)] 194 (s' := (.reg (opsAt (sub B [1, 1, 0, 0])) [1] :: S2)) (by kernel_rfl) fun J => ?_
  refine KR.p (one_nl false t21 (by kernel_rfl)) ?_
  refine KR.run 1 [(1, .slice a1a a1n a1k), (5, .pointer t21), (6, .pointer t23), (25, .bool (Option.isNone t21))] 194 (s' := (.code (sub B [1, 1, 0, 1]) :: S1)) (by kernel_rfl) fun J => ?_
  by_cases c4 : (Option.isNone t21) = true
  · replace h := iteT c4 h
    refine KR.br true (by kernel_rfl) (vB (bT c4)) ?_
    refine KR.run 4 [(4, .bool false)] 194 (s' := (.code (sub B [1, 1, 0, 1, 0, 1]) :: S1)) (by kernel_rfl) fun J => ?_
    exact KR.fin (by kernel_rfl) h
  · replace h := iteF c4 h
    refine KR.br false (by kernel_rfl) (vB (bF c4)) ?_
    exact KR.run 10 [(5, .pointer t21), (6, .pointer t23), (26, .slice a1a a1n a1k), (27, .int .i64 ((a1n : Nat) : Int)), (28, .int .i64 0)] 194 (s' := (.lp (sub B [1, 1, 1, 0, 1, 0, 0]) :: S4)) (by kernel_rfl) h
end F10
/-! #### 11 campanile/campanilelaw10.QueueNil -/
namespace F11
noncomputable def B : Code := bodyOf Try.f11
noncomputable def S0 : List It := (.code (sub B [1]) :: [])
noncomputable def S1 : List It := (.code (sub B [1, 1, 1]) :: [])
noncomputable def S2 : List It := (.code (sub B [1, 1, 1, 1]) :: [])
noncomputable def S3 : List It := (.code (sub B [1, 1, 1, 1, 1]) :: [])
theorem call {a0c0 : Int} {a0c1 : Int} {a0c2 : Int} {a0c3a : Option Addr} {a0c3n : Nat} {a0c3k : Nat} {H : Heap} {r : Value × Heap} (h :
    ∃ (H_1 : Heap), H_1 = H.push (.row [.int .i64 a0c0, .int .i64 a0c1, .int .i64 a0c2, .slice a0c3a a0c3n a0c3k] true) ∧
    (∃ (t11 : Int), ldc H_1 H.next 1 = some (.int .i64 t11) ∧
    (∃ (t12r0a : Option Addr) (t12r0n : Nat) (t12r0k : Nat) (t12r1 : Bool) (H_2 : Heap), xC Try.prog good 17 [.pointer none, .int .i64 t11] H_1 = some (.tuple #[.slice t12r0a t12r0n t12r0k, .bool t12r1], H_2) ∧
    (∃ (t18 : Int), ldc H_2 H.next 1 = some (.int .i64 t18) ∧
    (∃ (t19r0a : Option Addr) (t19r0n : Nat) (t19r0k : Nat) (t19r1 : Bool) (H_3 : Heap), xC Try.prog good 18 [.pointer none, .int .i64 t18] H_2 = some (.tuple #[.slice t19r0a t19r0n t19r0k, .bool t19r1], H_3) ∧
    (∃ (t24 : Int), ldc H_3 H.next 1 = some (.int .i64 t24) ∧
    (∃ (t26a : Option Addr) (t26n : Nat) (t26k : Nat), ldc H_3 H.next 3 = some (.slice t26a t26n t26k) ∧
    (∃ (t27 : Bool) (H_4 : Heap), xC Try.prog good 14 [.pointer none, .int .i64 t24, .slice t26a t26n t26k] H_3 = some (.bool t27, H_4) ∧
    (if t27 = true then
    (r = (.bool false, H_4))
    else
    (∃ (t31a : Option Addr) (t31n : Nat) (t31k : Nat) (H_5 : Heap), xC Try.prog good 16 [.pointer none] H_4 = some (.slice t31a t31n t31k, H_5) ∧
    (if ((t31n : Nat) : Int) = 0 then
    (if t12r1 = true then
    (r = (.bool false, H_5))
    else
    (if t19r1 = true then
    (r = (.bool false, H_5))
    else
    (∃ (t46 : Int), ldc H_5 H.next 1 = some (.int .i64 t46) ∧
    (∃ (t48 : Int), ldc H_5 H.next 2 = some (.int .i64 t48) ∧
    (∃ (t49 : Int) (H_6 : Heap), xC Try.prog good 15 [.pointer none, .int .i64 t46, .int .i64 t48] H_5 = some (.int .i64 t49, H_6) ∧
    (if t49 = 0 then
    (∃ (t54 : Int) (H_7 : Heap), xC Try.prog good 19 [.pointer none] H_6 = some (.int .i64 t54, H_7) ∧
    (if t54 = 0 then
    (∃ (t59 : Int) (H_8 : Heap), xC Try.prog good 20 [.pointer none] H_7 = some (.int .i64 t59, H_8) ∧
    (if t59 = 0 then
    (∃ (t63 : Bool) (H_9 : Heap), xC Try.prog good 12 [] H_8 = some (.bool t63, H_9) ∧
    (r = (.bool t63, H_9)))
    else
    (r = (.bool false, H_8))))
    else
    (r = (.bool false, H_7))))
    else
    (r = (.bool false, H_6))))))))
    else
    (r = (.bool false, H_5))))))))))))) :
    xC Try.prog good 11 [.agg #[.int .i64 a0c0, .int .i64 a0c1, .int .i64 a0c2, .slice a0c3a a0c3n a0c3k]] H = some r := by
  refine KR.enter (fn := Try.f11) (c := B) (by kernel_rfl) (by kernel_rfl) ?_
  refine KR.run 2 [(0, .agg #[.int .i64 a0c0, .int .i64 a0c1, .int .i64 a0c2, .slice a0c3a a0c3n a0c3k])] 65 (s' := (.reg (opsAt (sub B [0])) [0, 1] :: S0)) (by kernel_rfl) fun J => ?_
  obtain ⟨H_1, q1, h⟩ := h
  refine KR.mk (w := pRow [.int .i64 a0c0, .int .i64 a0c1, .int .i64 a0c2, .slice a0c3a a0c3n a0c3k]) (one_al (by kernel_rfl)) q1 ?_
  refine KR.run 10 [(1, .pointer (some ⟨H.next, 0, none⟩)), (3, .pointer none), (9, .pointer none), (10, .pointer (some ⟨H.next, 1, none⟩))] 65 (s' := (.reg (opsAt (sub B [1, 1, 0])) [2, 3, 4, 5, 6, 7, 8] :: S1)) (by kernel_rfl) fun J => ?_
  obtain ⟨t11, q2, h⟩ := h
  refine KR.rd (one_ld (by kernel_rfl) q2) ?_
  obtain ⟨t12r0a, t12r0n, t12r0k, t12r1, H_2, q3, h⟩ := h
  refine KR.se (one_ca (by kernel_rfl) q3) ?_
  refine KR.run 10 [(1, .pointer (some ⟨H.next, 0, none⟩)), (3, .pointer none), (5, .bool t12r1), (16, .pointer none), (17, .pointer (some ⟨H.next, 1, none⟩))] 65 (s' := (.reg (opsAt (sub B [1, 1, 1, 0])) [2, 3, 4, 5, 6, 7, 8] :: S2)) (by kernel_rfl) fun J => ?_
  obtain ⟨t18, q4, h⟩ := h
  refine KR.rd (one_ld (by kernel_rfl) q4) ?_
  obtain ⟨t19r0a, t19r0n, t19r0k, t19r1, H_3, q5, h⟩ := h
  refine KR.se (one_ca (by kernel_rfl) q5) ?_
  refine KR.run 10 [(1, .pointer (some ⟨H.next, 0, none⟩)), (3, .pointer none), (5, .bool t12r1), (7, .bool t19r1), (22, .pointer none), (23, .pointer (some ⟨H.next, 1, none⟩))] 65 (s' := (.reg (opsAt (sub B [1, 1, 1, 1, 0])) [2, 3, 4, 5, 6, 7, 8, 9, 10, 11, 12, 13, 14, 15, 16, 17, 18, 19, 20, 21, 22, 23, 24, 25, 26, 27, 28, 29, 30, 31, 32, 33, 34, 35, 36, 37, 38, 39, 40, 41, 42, 43] :: S3)) (by kernel_rfl) fun J => ?_
  obtain ⟨t24, q6, h⟩ := h
  refine KR.rd (one_ld (by kernel_rfl) q6) ?_
  refine KR.run 1 [(1, .pointer (some ⟨H.next, 0, none⟩)), (3, .pointer none), (5, .bool t12r1), (7, .bool t19r1), (22, .pointer none), (24, .int .i64 t24), (25, .pointer (some ⟨H.next, 3, none⟩))] 65 (s' := (.reg (opsAt (sub B [1, 1, 1, 1, 0])) [4, 5, 6, 7, 8, 9, 10, 11, 12, 13, 14, 15, 16, 17, 18, 19, 20, 21, 22, 23, 24, 25, 26, 27, 28, 29, 30, 31, 32, 33, 34, 35, 36, 37, 38, 39, 40, 41, 42, 43] :: S3)) (by kernel_rfl) fun J => ?_
  obtain ⟨t26a, t26n, t26k, q7, h⟩ := h
  refine KR.rd (one_ld (by kernel_rfl) q7) ?_
  obtain ⟨t27, H_4, q8, h⟩ := h
  refine KR.se (one_ca (by kernel_rfl) q8) ?_
  refine KR.run 2 [(1, .pointer (some ⟨H.next, 0, none⟩)), (3, .pointer none), (5, .bool t12r1), (7, .bool t19r1), (29, .bool (!t27))] 65 (s' := (.reg (opsAt (sub B [1, 1, 1, 1, 0])) [8, 9, 10, 11, 12, 13, 14, 15, 16, 17, 18, 19, 20, 21, 22, 23, 24, 25, 26, 27, 28, 29, 30, 31, 32, 33, 34, 35, 36, 37, 38, 39, 40, 41, 42, 43] :: S3)) (by kernel_rfl) fun J => ?_
  by_cases c9 : t27 = true
  · replace h := iteT c9 h
    refine KR.setV 29 (by kernel_rfl) (nB (bT c9)) ?_
    refine KR.run 37 [(2, .bool false)] 65 (s' := (.code (sub B [1, 1, 1, 1, 1]) :: [])) (by kernel_rfl) fun J => ?_
    exact KR.fin (by kernel_rfl) h
  · replace h := iteF c9 h
    refine KR.setV 29 (by kernel_rfl) (nB (bF c9)) ?_
    refine KR.run 1 [(1, .pointer (some ⟨H.next, 0, none⟩)), (3, .pointer none), (5, .bool t12r1), (7, .bool t19r1), (29, .bool true), (30, .pointer none)] 65 (s' := (.reg (opsAt (sub B [1, 1, 1, 1, 0])) [9, 10, 11, 12, 13, 14, 15, 16, 17, 18, 19, 20, 21, 22, 23, 24, 25, 26, 27, 28, 29, 30, 31, 32, 33, 34, 35, 36, 37, 38, 39, 40, 41, 42, 43] :: S3)) (by kernel_rfl) fun J => ?_
    obtain ⟨t31a, t31n, t31k, H_5, q10, h⟩ := h
    refine KR.se (one_ca (by kernel_rfl) q10) ?_
    refine KR.run 4 [(1, .pointer (some ⟨H.next, 0, none⟩)), (3, .pointer none), (5, .bool t12r1), (7, .bool t19r1), (35, .bool (((t31n : Nat) : Int) == 0))] 65 (s' := (.reg (opsAt (sub B [1, 1, 1, 1, 0])) [14, 15, 16, 17, 18, 19, 20, 21, 22, 23, 24, 25, 26, 27, 28, 29, 30, 31, 32, 33, 34, 35, 36, 37, 38, 39, 40, 41, 42, 43] :: S3)) (by kernel_rfl) fun J => ?_
    by_cases c11 : ((t31n : Nat) : Int) = 0
    · replace h := iteT c11 h
      refine KR.setV 35 (by kernel_rfl) (eT c11) ?_
      refine KR.run 4 [(1, .pointer (some ⟨H.next, 0, none⟩)), (3, .pointer none), (7, .bool t19r1), (39, .bool (!t12r1))] 65 (s' := (.reg (opsAt (sub B [1, 1, 1, 1, 0])) [18, 19, 20, 21, 22, 23, 24, 25, 26, 27, 28, 29, 30, 31, 32, 33, 34, 35, 36, 37, 38, 39, 40, 41, 42, 43] :: S3)) (by kernel_rfl) fun J => ?_
      by_cases c12 : t12r1 = true
      · replace h := iteT c12 h
        refine KR.setV 39 (by kernel_rfl) (nB (bT c12)) ?_
        refine KR.run 27 [(2, .bool false)] 65 (s' := (.code (sub B [1, 1, 1, 1, 1]) :: [])) (by kernel_rfl) fun J => ?_
        exact KR.fin (by kernel_rfl) h
      · replace h := iteF c12 h
        refine KR.setV 39 (by kernel_rfl) (nB (bF c12)) ?_
        refine KR.run 4 [(1, .pointer (some ⟨H.next, 0, none⟩)), (3, .pointer none), (43, .bool (!t19r1))] 65 (s' := (.reg (opsAt (sub B [1, 1, 1, 1, 0])) [22, 23, 24, 25, 26, 27, 28, 29, 30, 31, 32, 33, 34, 35, 36, 37, 38, 39, 40, 41, 42, 43] :: S3)) (by kernel_rfl) fun J => ?_
        by_cases c13 : t19r1 = true
        · replace h := iteT c13 h
          refine KR.setV 43 (by kernel_rfl) (nB (bT c13)) ?_
          refine KR.run 23 [(2, .bool false)] 65 (s' := (.code (sub B [1, 1, 1, 1, 1]) :: [])) (by kernel_rfl) fun J => ?_
          exact KR.fin (by kernel_rfl) h
        · replace h := iteF c13 h
          refine KR.setV 43 (by kernel_rfl) (nB (bF c13)) ?_
          refine KR.run 2 [(1, .pointer (some ⟨H.next, 0, none⟩)), (3, .pointer none), (43, .bool true), (44, .pointer none), (45, .pointer (some ⟨H.next, 1, none⟩))] 65 (s' := (.reg (opsAt (sub B [1, 1, 1, 1, 0])) [24, 25, 26, 27, 28, 29, 30, 31, 32, 33, 34, 35, 36, 37, 38, 39, 40, 41, 42, 43] :: S3)) (by kernel_rfl) fun J => ?_
          obtain ⟨t46, q14, h⟩ := h
          refine KR.rd (one_ld (by kernel_rfl) q14) ?_
          refine KR.run 1 [(3, .pointer none), (43, .bool true), (44, .pointer none), (46, .int .i64 t46), (47, .pointer (some ⟨H.next, 2, none⟩))] 65 (s' := (.reg (opsAt (sub B [1, 1, 1, 1, 0])) [26, 27, 28, 29, 30, 31, 32, 33, 34, 35, 36, 37, 38, 39, 40, 41, 42, 43] :: S3)) (by kernel_rfl) fun J => ?_
          obtain ⟨t48, q15, h⟩ := h
          refine KR.rd (one_ld (by kernel_rfl) q15) ?_
          obtain ⟨t49, H_6, q16, h⟩ := h
          refine KR.se (one_ca (by kernel_rfl) q16) ?_
          refine KR.run 3 [(3, .pointer none), (52, .bool (t49 == 0))] 65 (s' := (.reg (opsAt (sub B [1, 1, 1, 1, 0])) [31, 32, 33, 34, 35, 36, 37, 38, 39, 40, 41, 42, 43] :: S3)) (by kernel_rfl) fun J => ?_
          by_cases c17 : t49 = 0
          · replace h := iteT c17 h
            refine KR.setV 52 (by kernel_rfl) (eT c17) ?_
            refine KR.run 1 [(3, .pointer none), (52, .bool true), (53, .pointer none)] 65 (s' := (.reg (opsAt (sub B [1, 1, 1, 1, 0])) [32, 33, 34, 35, 36, 37, 38, 39, 40, 41, 42, 43] :: S3)) (by kernel_rfl) fun J => ?_
            obtain ⟨t54, H_7, q18, h⟩ := h
            refine KR.se (one_ca (by kernel_rfl) q18) ?_
            refine KR.run 3 [(3, .pointer none), (57, .bool (t54 == 0))] 65 (s' := (.reg (opsAt (sub B [1, 1, 1, 1, 0])) [36, 37, 38, 39, 40, 41, 42, 43] :: S3)) (by kernel_rfl) fun J => ?_
            by_cases c19 : t54 = 0
            · replace h := iteT c19 h
              refine KR.setV 57 (by kernel_rfl) (eT c19) ?_
              refine KR.run 1 [(57, .bool true), (58, .pointer none)] 65 (s' := (.reg (opsAt (sub B [1, 1, 1, 1, 0])) [37, 38, 39, 40, 41, 42, 43] :: S3)) (by kernel_rfl) fun J => ?_
              obtain ⟨t59, H_8, q20, h⟩ := h
              refine KR.se (one_ca (by kernel_rfl) q20) ?_
              refine KR.run 3 [(62, .bool (t59 == 0))] 65 (s' := (.reg (opsAt (sub B [1, 1, 1, 1, 0])) [41, 42, 43] :: S3)) (by kernel_rfl) fun J => ?_
              by_cases c21 : t59 = 0
              · replace h := iteT c21 h
                refine KR.setV 62 (by kernel_rfl) (eT c21) ?_
                obtain ⟨t63, H_9, q22, h⟩ := h
                refine KR.se (one_ca (by kernel_rfl) q22) ?_
                refine KR.run 3 [(2, .bool t63)] 65 (s' := (.code (sub B [1, 1, 1, 1, 1]) :: [])) (by kernel_rfl) fun J => ?_
                exact KR.fin (by kernel_rfl) h
              · replace h := iteF c21 h
                refine KR.setV 62 (by kernel_rfl) (eF c21) ?_
                refine KR.run 4 [(2, .bool false)] 65 (s' := (.code (sub B [1, 1, 1, 1, 1]) :: [])) (by kernel_rfl) fun J => ?_
                exact KR.fin (by kernel_rfl) h
            · replace h := iteF c19 h
              refine KR.setV 57 (by kernel_rfl) (eF c19) ?_
              refine KR.run 9 [(2, .bool false)] 65 (s' := (.code (sub B [1, 1, 1, 1, 1]) :: [])) (by kernel_rfl) fun J => ?_
              exact KR.fin (by kernel_rfl) h
          · replace h := iteF c17 h
            refine KR.setV 52 (by kernel_rfl) (eF c17) ?_
            refine KR.run 14 [(2, .bool false)] 65 (s' := (.code (sub B [1, 1, 1, 1, 1]) :: [])) (by kernel_rfl) fun J => ?_
            exact KR.fin (by kernel_rfl) h
    · replace h := iteF c11 h
      refine KR.setV 35 (by kernel_rfl) (eF c11) ?_
      refine KR.run 31 [(2, .bool false)] 65 (s' := (.code (sub B [1, 1, 1, 1, 1]) :: [])) (by kernel_rfl) fun J => ?_
      exact KR.fin (by kernel_rfl) h
end F11
/-! #### 12 campanile/campanilelaw10.awake -/
namespace F12
noncomputable def B : Code := bodyOf Try.f12
noncomputable def S0 : List It := (.code (sub B [1, 1]) :: [])
noncomputable def S1 : List It := (.code (sub B [1, 1, 1]) :: [])
noncomputable def S2 : List It := (.code (sub B [1, 1, 1, 1]) :: [])
noncomputable def S3 : List It := (.code (sub B [1, 1, 1, 1, 1]) :: [])
theorem call  {H : Heap} {r : Value × Heap} (h :
    ∃ (t6 : Option Addr) (H_1 : Heap), xC Try.prog good 13 [.int .i64 1] H = some (.pointer t6, H_1) ∧
    (∃ (H_2 : Heap), H_2 = H_1.push (.row [.int .u8 120] true) ∧
    (pmark H_2 (some ⟨H_1.next, 0, none⟩) = some () ∧
    (∃ (t10 : Bool) (H_3 : Heap), xC Try.prog good 14 [.pointer t6, .int .i64 3, .slice (some ⟨H_1.next, 0, none⟩) 1 (UNK 1)] H_2 = some (.bool t10, H_3) ∧
    (∃ (H_4 : Heap), H_4 = H_3.push (.row [.int .u8 121] true) ∧
    (pmark H_4 (some ⟨H_3.next, 0, none⟩) = some () ∧
    (∃ (t14 : Bool) (H_5 : Heap), xC Try.prog good 14 [.pointer t6, .int .i64 3, .slice (some ⟨H_3.next, 0, none⟩) 1 (UNK 1)] H_4 = some (.bool t14, H_5) ∧
    (∃ (t17r0a : Option Addr) (t17r0n : Nat) (t17r0k : Nat) (t17r1 : Bool) (H_6 : Heap), xC Try.prog good 17 [.pointer t6, .int .i64 0] H_5 = some (.tuple #[.slice t17r0a t17r0n t17r0k, .bool t17r1], H_6) ∧
    (if t10 = true then
    (if t14 = true then
    (r = (.bool false, H_6))
    else
    (if t17r1 = true then
    (∃ (t30 : ByteArray), pstrb H_6 t17r0a t17r0n = some t30 ∧
    (if t30.toList = (strC [120]).toList then
    (∃ (t35 : Int) (H_7 : Heap), xC Try.prog good 20 [.pointer t6] H_6 = some (.int .i64 t35, H_7) ∧
    (r = (.bool (t35 == 1), H_7)))
    else
    (r = (.bool false, H_6))))
    else
    (r = (.bool false, H_6))))
    else
    (r = (.bool false, H_6))))))))))) :
    xC Try.prog good 12 [] H = some r := by
  refine KR.enter (fn := Try.f12) (c := B) (by kernel_rfl) (by kernel_rfl) ?_
  refine KR.run 6 [] 38 (s' := (.reg (opsAt (sub B [1, 0])) [0, 1] :: S0)) (by kernel_rfl) fun J => ?_
  obtain ⟨t6, H_1, q1, h⟩ := h
  refine KR.se (one_ca (by kernel_rfl) q1) ?_
  refine KR.run 5 [(1, .pointer t6), (7, .pointer t6)] 38 (s' := (.reg (opsAt (sub B [1, 1, 0])) [1, 2, 3, 4, 5, 6, 7, 8, 9] :: S1)) (by kernel_rfl) fun J => ?_
  obtain ⟨H_2, q2, h⟩ := h
  refine KR.mk (w := sRow 1 1 [.int .u8 120]) (one_al (by kernel_rfl)) q2 ?_
  obtain ⟨q3, h⟩ := h
  refine KR.se (one_ma 1 (UNK 1) (by kernel_rfl) q3) ?_
  obtain ⟨t10, H_3, q4, h⟩ := h
  refine KR.se (one_ca (by kernel_rfl) q4) ?_
  refine KR.run 1 [(1, .pointer t6), (10, .bool t10), (11, .pointer t6)] 38 (s' := (.reg (opsAt (sub B [1, 1, 0])) [5, 6, 7, 8, 9] :: S1)) (by kernel_rfl) fun J => ?_
  obtain ⟨H_4, q5, h⟩ := h
  refine KR.mk (w := sRow 1 1 [.int .u8 121]) (one_al (by kernel_rfl)) q5 ?_
  obtain ⟨q6, h⟩ := h
  refine KR.se (one_ma 1 (UNK 1) (by kernel_rfl) q6) ?_
  obtain ⟨t14, H_5, q7, h⟩ := h
  refine KR.se (one_ca (by kernel_rfl) q7) ?_
  refine KR.run 6 [(1, .pointer t6), (2, .bool t10), (3, .bool t14), (16, .pointer t6)] 38 (s' := (.reg (opsAt (sub B [1, 1, 1, 0])) [1, 2, 3, 4, 5, 6] :: S2)) (by kernel_rfl) fun J => ?_
  obtain ⟨t17r0a, t17r0n, t17r0k, t17r1, H_6, q8, h⟩ := h
  refine KR.se (one_ca (by kernel_rfl) q8) ?_
  refine KR.run 10 [(1, .pointer t6), (3, .bool t14), (4, .slice t17r0a t17r0n t17r0k), (5, .bool t17r1), (21, .bool t10)] 38 (s' := (.reg (opsAt (sub B [1, 1, 1, 1, 0])) [2, 3, 4, 5, 6, 7, 8, 9, 10, 11, 12, 13, 14, 15, 16, 17, 18] :: S3)) (by kernel_rfl) fun J => ?_
  by_cases c9 : t10 = true
  · replace h := iteT c9 h
    refine KR.setV 21 (by kernel_rfl) (bT c9) ?_
    refine KR.run 4 [(1, .pointer t6), (4, .slice t17r0a t17r0n t17r0k), (5, .bool t17r1), (25, .bool (!t14))] 38 (s' := (.reg (opsAt (sub B [1, 1, 1, 1, 0])) [6, 7, 8, 9, 10, 11, 12, 13, 14, 15, 16, 17, 18] :: S3)) (by kernel_rfl) fun J => ?_
    by_cases c10 : t14 = true
    · replace h := iteT c10 h
      refine KR.setV 25 (by kernel_rfl) (nB (bT c10)) ?_
      refine KR.run 14 [(0, .bool false)] 38 (s' := (.code (sub B [1, 1, 1, 1, 1]) :: [])) (by kernel_rfl) fun J => ?_
      exact KR.fin (by kernel_rfl) h
    · replace h := iteF c10 h
      refine KR.setV 25 (by kernel_rfl) (nB (bF c10)) ?_
      refine KR.run 3 [(1, .pointer t6), (4, .slice t17r0a t17r0n t17r0k), (28, .bool t17r1)] 38 (s' := (.reg (opsAt (sub B [1, 1, 1, 1, 0])) [9, 10, 11, 12, 13, 14, 15, 16, 17, 18] :: S3)) (by kernel_rfl) fun J => ?_
      by_cases c11 : t17r1 = true
      · replace h := iteT c11 h
        refine KR.setV 28 (by kernel_rfl) (bT c11) ?_
        refine KR.run 1 [(1, .pointer t6), (28, .bool true), (29, .slice t17r0a t17r0n t17r0k)] 38 (s' := (.reg (opsAt (sub B [1, 1, 1, 1, 0])) [10, 11, 12, 13, 14, 15, 16, 17, 18] :: S3)) (by kernel_rfl) fun J => ?_
        obtain ⟨t30, q12, h⟩ := h
        refine KR.rd (one_str (by kernel_rfl) q12) ?_
        refine KR.run 3 [(1, .pointer t6), (33, .bool (t30.toList == (strC [120]).toList))] 38 (s' := (.reg (opsAt (sub B [1, 1, 1, 1, 0])) [14, 15, 16, 17, 18] :: S3)) (by kernel_rfl) fun J => ?_
        by_cases c13 : t30.toList = (strC [120]).toList
        · replace h := iteT c13 h
          refine KR.setV 33 (by kernel_rfl) (eT c13) ?_
          refine KR.run 1 [(33, .bool true), (34, .pointer t6)] 38 (s' := (.reg (opsAt (sub B [1, 1, 1, 1, 0])) [15, 16, 17, 18] :: S3)) (by kernel_rfl) fun J => ?_
          obtain ⟨t35, H_7, q14, h⟩ := h
          refine KR.se (one_ca (by kernel_rfl) q14) ?_
          refine KR.run 4 [(0, .bool (t35 == 1))] 38 (s' := (.code (sub B [1, 1, 1, 1, 1]) :: [])) (by kernel_rfl) fun J => ?_
          exact KR.fin (by kernel_rfl) h
        · replace h := iteF c13 h
          refine KR.setV 33 (by kernel_rfl) (eF c13) ?_
          refine KR.run 6 [(0, .bool false)] 38 (s' := (.code (sub B [1, 1, 1, 1, 1]) :: [])) (by kernel_rfl) fun J => ?_
          exact KR.fin (by kernel_rfl) h
      · replace h := iteF c11 h
        refine KR.setV 28 (by kernel_rfl) (bF c11) ?_
        refine KR.run 11 [(0, .bool false)] 38 (s' := (.code (sub B [1, 1, 1, 1, 1]) :: [])) (by kernel_rfl) fun J => ?_
        exact KR.fin (by kernel_rfl) h
  · replace h := iteF c9 h
    refine KR.setV 21 (by kernel_rfl) (bF c9) ?_
    refine KR.run 18 [(0, .bool false)] 38 (s' := (.code (sub B [1, 1, 1, 1, 1]) :: [])) (by kernel_rfl) fun J => ?_
    exact KR.fin (by kernel_rfl) h
end F12
/-! #### 13 campanile/queue.New -/
namespace F13
noncomputable def B : Code := bodyOf Try.f13
noncomputable def S0 : List It := (.code (sub B [1, 1]) :: [])
theorem call {a0 : Int} {H : Heap} {r : Value × Heap} (h :
    ∃ (H_1 : Heap), H_1 = H.push (.row [.int .i64 (imax 1 (imin a0 32)), .slice none 0 0, .int .i64 0] true) ∧
    (r = (.pointer (some ⟨H.next, 0, none⟩), H_1))) :
    xC Try.prog good 13 [.int .i64 a0] H = some r := by
  refine KR.enter (fn := Try.f13) (c := B) (by kernel_rfl) (by kernel_rfl) ?_
  refine KR.run 10 [(6, .agg #[.int .i64 (imax 1 (imin a0 32)), .slice none 0 0, .int .i64 0])] 8 (s' := (.reg (opsAt (sub B [1, 0])) [4, 5] :: S0)) (by kernel_rfl) fun J => ?_
  obtain ⟨H_1, q1, h⟩ := h
  refine KR.mk (w := pRow [.int .i64 (imax 1 (imin a0 32)), .slice none 0 0, .int .i64 0]) (one_al (by kernel_rfl)) q1 ?_
  refine KR.run 2 [(2, .pointer (some ⟨H.next, 0, none⟩))] 8 (s' := (.code (sub B [1, 1]) :: [])) (by kernel_rfl) fun J => ?_
  exact KR.fin (by kernel_rfl) h
end F13
/-! #### 14 (*campanile/queue.Queue).Put -/
namespace F14
noncomputable def B : Code := bodyOf Try.f14
noncomputable def S0 : List It := (.code (sub B [1, 1]) :: [])
noncomputable def S2 : List It := (.code (sub B [1, 1, 1]) :: [])
noncomputable def S5 : List It := (.code (sub B [1, 1, 1, 1]) :: [])
noncomputable def S1 : List It := (.code (sub B [1, 0, 1]) :: S0)
noncomputable def S3 : List It := (.code (sub B [1, 1, 0, 1]) :: S2)
noncomputable def S4 : List It := (.code (sub B [1, 1, 0, 1, 0, 1]) :: S2)
theorem call {a0 : Option Addr} {a1 : Int} {a2a : Option Addr} {a2n : Nat} {a2k : Nat} {H : Heap} {r : Value × Heap} (h :
    if (Option.isNone a0) = true then
    (r = (.bool false, H))
    else
    (∃ (a0b a0o : Nat), a0 = some ⟨a0b, a0o, none⟩ ∧
    (∃ (t12a : Option Addr) (t12n : Nat) (t12k : Nat), ldc H a0b (a0o + 1) = some (.slice t12a t12n t12k) ∧
    (∃ (t17 : Int), ldc H a0b a0o = some (.int .i64 t17) ∧
    (if ((t12n : Nat) : Int) ≥ t17 then
    (∃ (t23 : Int), ldc H a0b (a0o + 2) = some (.int .i64 t23) ∧
    (∃ (H_1 : Heap), stc H a0b (a0o + 2) [.int .i64 (imin (IntKind.wrap .i64 (t23 + 1)) 1000000)] = some H_1 ∧
    (r = (.bool false, H_1))))
    else
    (∃ (t32a : Option Addr) (t32n : Nat) (t32k : Nat), ldc H a0b (a0o + 1) = some (.slice t32a t32n t32k) ∧
    (∃ (t35a : Option Addr) (t35n : Nat) (t35k : Nat) (H_2 : Heap), xC Try.prog good 33 [.slice a2a a2n a2k] H = some (.slice t35a t35n t35k, H_2) ∧
    (∃ (H_3 : Heap), H_3 = H_2.push (.row [.int .i64 a1, .slice t35a t35n t35k] true) ∧
    (∃ (t38a : Option Addr) (t38n : Nat) (t38k : Nat) (H_4 : Heap), papp H_3 2 32 t32a t32n t32k (some ⟨H_2.next, 0, none⟩) 1 (UNK 2) = some ((t38a, t38n, t38k), H_4) ∧
    (∃ (H_5 : Heap), stc H_4 a0b (a0o + 1) [.slice t38a t38n t38k] = some H_5 ∧
    (ldc H_2 a0b (a0o + 1) = some (.slice t32a t32n t32k) ∧
    ldc H_3 a0b (a0o + 1) = some (.slice t32a t32n t32k) ∧
    (r = (.bool true, H_5))))))))))))) :
    xC Try.prog good 14 [.pointer a0, .int .i64 a1, .slice a2a a2n a2k] H = some r := by
  refine KR.enter (fn := Try.f14) (c := B) (by kernel_rfl) (by kernel_rfl) ?_
  refine KR.run 8 [(0, .pointer a0), (1, .int .i64 a1), (2, .slice a2a a2n a2k), (7, .pointer a0)] 41 (s' := (.reg (opsAt (sub B [1, 0, 0])) [1] :: S1)) (by kernel_rfl) fun J => ?_
  refine KR.p (one_nl false a0 (by kernel_rfl)) ?_
  refine KR.run 1 [(0, .pointer a0), (1, .int .i64 a1), (2, .slice a2a a2n a2k), (8, .bool (Option.isNone a0))] 41 (s' := (.code (sub B [1, 0, 1]) :: S0)) (by kernel_rfl) fun J => ?_
  by_cases c2 : (Option.isNone a0) = true
  · replace h := iteT c2 h
    refine KR.br true (by kernel_rfl) (vB (bT c2)) ?_
    refine KR.run 4 [(6, .bool false)] 41 (s' := (.code (sub B [1, 0, 1, 0, 1]) :: S0)) (by kernel_rfl) fun J => ?_
    exact KR.fin (by kernel_rfl) h
  · replace h := iteF c2 h
    refine KR.br false (by kernel_rfl) (vB (bF c2)) ?_
    refine KR.run 3 [(0, .pointer a0), (1, .int .i64 a1), (2, .slice a2a a2n a2k)] 41 (s' := (.code (sub B [1, 1, 0, 0]) :: S3)) (by kernel_rfl) fun J => ?_
    refine KR.sd (by kernel_rfl) ?_
    obtain ⟨a0b, a0o, rfl, h⟩ := h
    refine KR.run 3 [(0, .pointer (some ⟨a0b, a0o, none⟩)), (1, .int .i64 a1), (2, .slice a2a a2n a2k), (11, .pointer (some ⟨a0b, (a0o + 1), none⟩))] 41 (s' := (.reg (opsAt (sub B [1, 1, 0, 0])) [3, 4, 5, 6, 7, 8, 9] :: S3)) (by kernel_rfl) fun J => ?_
    obtain ⟨t12a, t12n, t12k, q3, h⟩ := h
    refine KR.rd (one_ld (by kernel_rfl) q3) ?_
    refine KR.run 4 [(0, .pointer (some ⟨a0b, a0o, none⟩)), (1, .int .i64 a1), (2, .slice a2a a2n a2k), (13, .int .i64 ((t12n : Nat) : Int)), (16, .pointer (some ⟨a0b, a0o, none⟩))] 41 (s' := (.reg (opsAt (sub B [1, 1, 0, 0])) [8, 9] :: S3)) (by kernel_rfl) fun J => ?_
    obtain ⟨t17, q4, h⟩ := h
    refine KR.rd (one_ld (by kernel_rfl) q4) ?_
    refine KR.run 2 [(0, .pointer (some ⟨a0b, a0o, none⟩)), (1, .int .i64 a1), (2, .slice a2a a2n a2k), (18, .bool (decide (((t12n : Nat) : Int) ≥ t17)))] 41 (s' := (.code (sub B [1, 1, 0, 1]) :: S2)) (by kernel_rfl) fun J => ?_
    by_cases c5 : ((t12n : Nat) : Int) ≥ t17
    · replace h := iteT c5 h
      refine KR.br true (by kernel_rfl) (vB (dT c5)) ?_
      refine KR.run 6 [(19, .pointer (some ⟨a0b, a0o, none⟩)), (22, .pointer (some ⟨a0b, (a0o + 2), none⟩))] 41 (s' := (.reg (opsAt (sub B [1, 1, 0, 1, 0, 0])) [4, 5, 6, 7, 8, 9] :: S4)) (by kernel_rfl) fun J => ?_
      obtain ⟨t23, q6, h⟩ := h
      refine KR.rd (one_ld (by kernel_rfl) q6) ?_
      refine KR.run 4 [(25, .int .i64 (imin (IntKind.wrap .i64 (t23 + 1)) 1000000)), (27, .pointer (some ⟨a0b, (a0o + 2), none⟩))] 41 (s' := (.reg (opsAt (sub B [1, 1, 0, 1, 0, 0])) [9] :: S4)) (by kernel_rfl) fun J => ?_
      obtain ⟨H_1, q7, h⟩ := h
      refine KR.se (one_st (by kernel_rfl) q7) ?_
      refine KR.run 5 [(6, .bool false)] 41 (s' := (.code (sub B [1, 1, 0, 1, 0, 1, 1]) :: S2)) (by kernel_rfl) fun J => ?_
      exact KR.fin (by kernel_rfl) h
    · replace h := iteF c5 h
      refine KR.br false (by kernel_rfl) (vB (dF c5)) ?_
      refine KR.run 2 [(0, .pointer (some ⟨a0b, a0o, none⟩)), (1, .int .i64 a1), (2, .slice a2a a2n a2k)] 41 (s' := (.code (sub B [1, 1, 1, 0]) :: S5)) (by kernel_rfl) fun J => ?_
      refine KE.start H (by kernel_rfl) (by kernel_rfl) ?_
      refine KE.run 4 [(1, .int .i64 a1), (2, .slice a2a a2n a2k), (28, .pointer (some ⟨a0b, a0o, none⟩)), (31, .pointer (some ⟨a0b, (a0o + 1), none⟩))] 41 4 (by kernel_rfl) fun J => ?_
      obtain ⟨t32a, t32n, t32k, q8, h⟩ := h
      refine KE.rdF (one_ld (by kernel_rfl) q8) (by kernel_rfl) ?_
      refine KE.run 2 [(28, .pointer (some ⟨a0b, a0o, none⟩)), (32, .slice t32a t32n t32k), (33, .int .i64 a1), (34, .slice a2a a2n a2k)] 41 7 (by kernel_rfl) fun J => ?_
      obtain ⟨t35a, t35n, t35k, H_2, q9, h⟩ := h
      refine KE.se (one_ca (by kernel_rfl) q9) (by kernel_rfl) ?_
      refine KE.run 1 [(28, .pointer (some ⟨a0b, a0o, none⟩)), (32, .slice t32a t32n t32k), (36, .agg #[.int .i64 a1, .slice t35a t35n t35k])] 41 9 (by kernel_rfl) fun J => ?_
      obtain ⟨H_3, q10, h⟩ := h
      refine KE.mk (w := sRow 1 2 [.int .i64 a1, .slice t35a t35n t35k]) (one_al (by kernel_rfl)) (by kernel_rfl) (by kernel_rfl) q10 ?_
      obtain ⟨t38a, t38n, t38k, H_4, q11, h⟩ := h
      refine KE.se (one_ap 2 32 (by kernel_rfl) q11) (by kernel_rfl) ?_
      refine KE.run 2 [(38, .slice t38a t38n t38k), (40, .pointer (some ⟨a0b, (a0o + 1), none⟩))] 41 13 (by kernel_rfl) fun J => ?_
      obtain ⟨H_5, q12, h⟩ := h
      refine KE.se (one_st (by kernel_rfl) q12) (by kernel_rfl) ?_
      obtain ⟨q13, q14, h⟩ := h
      refine KE.fin (H' := H_5) (by kernel_rfl) (rdsS (rfl) (rd_ok (Hs := [H_2, H_3]) (by kernel_rfl) (by kernel_rfl) ⟨one_ld (by kernel_rfl) q13, ⟨one_ld (by kernel_rfl) q14, trivial⟩⟩)) (by kernel_rfl) ?_
      refine KR.run 4 [(6, .bool true)] 41 (s' := (.code (sub B [1, 1, 1, 1, 1]) :: [])) (by kernel_rfl) fun J => ?_
      exact KR.fin (by kernel_rfl) h
end F14
/-! #### 15 (*campanile/queue.Queue).Move -/
namespace F15
noncomputable def B : Code := bodyOf Try.f15
noncomputable def S0 : List It := (.code (sub B [1, 1]) :: [])
noncomputable def S2 : List It := (.code (sub B [1, 1, 1, 1]) :: [])
noncomputable def S1 : List It := (.code (sub B [1, 0, 1]) :: S0)
noncomputable def S3 : List It := (.code (sub B [1, 1, 1, 0, 1]) :: S2)
noncomputable def S4 : List It := (.blk 0 :: S2)
noncomputable def S5 : List It := (.lp (sub B [1, 1, 1, 0, 1, 0, 0]) :: S4)
noncomputable def S6 : List It := (.code (sub B [1, 1, 1, 0, 1, 0, 0, 1, 1]) :: S5)
noncomputable def S7 : List It := (.code (sub B [1, 1, 1, 0, 1, 0, 0, 1, 1, 1]) :: S5)
noncomputable def S8 : List It := (.blk 1 :: S7)
noncomputable def S9 : List It := (.code (sub B [1, 1, 1, 0, 1, 0, 0, 1, 1, 0, 0, 1, 1]) :: S8)
noncomputable def S10 : List It := (.code (sub B [1, 1, 1, 0, 1, 0, 0, 1, 1, 0, 0, 1, 1, 0, 1]) :: S8)
def L0 (t0b : Nat) (t0o : Nat) (t1 : Int) (t2 : Int) (t7 : Int) (t15 : Int) (t16 : Int) (H : Heap) (r : Value × Heap) : Prop := ∀ J, KR Try.prog good Try.f15 S5 (mat J 41 [(0, .pointer (some ⟨t0b, t0o, none⟩)), (1, .int .i64 t1), (2, .int .i64 t2), (7, .int .i64 t7), (15, .int .i64 t15), (16, .int .i64 t16)]) H r
theorem L0_step {t0b : Nat} {t0o : Nat} {t1 : Int} {t2 : Int} {t7 : Int} {t15 : Int} {t16 : Int} {H : Heap} {r : Value × Heap} (h :
    if t16 < t15 then
    (∃ (t22a : Option Addr) (t22n : Nat) (t22k : Nat), ldc H t0b (t0o + 1) = some (.slice t22a t22n t22k) ∧
    (∃ (t22ab t22ao : Nat), t22a = some ⟨t22ab, t22ao, none⟩ ∧
    ((0 : Int) ≤ t16 ∧ t16 < ((t22n : Nat) : Int) ∧
    (∃ (t26 : Int), ldc H t22ab (t22ao + Int.toNat t16 * 2) = some (.int .i64 t26) ∧
    (if t26 = t1 then
    (∃ (t32a : Option Addr) (t32n : Nat) (t32k : Nat), ldc H t0b (t0o + 1) = some (.slice t32a t32n t32k) ∧
    (∃ (t32ab t32ao : Nat), t32a = some ⟨t32ab, t32ao, none⟩ ∧
    ((0 : Int) ≤ t16 ∧ t16 < ((t32n : Nat) : Int) ∧
    (∃ (H_1 : Heap), stc H t32ab (t32ao + Int.toNat t16 * 2) [.int .i64 t2] = some H_1 ∧
    (L0 (t0b) (t0o) (t1) (t2) ((IntKind.wrap .i64 (t7 + 1))) (t15) ((IntKind.wrap .i64 (t16 + 1))) H_1 r)))))
    else
    (L0 (t0b) (t0o) (t1) (t2) (t7) (t15) ((IntKind.wrap .i64 (t16 + 1))) H r))))))
    else
    (r = (.int .i64 t7, H))) :
    L0 t0b t0o t1 t2 t7 t15 t16 H r := by
  intro J
  show KR _ _ _ (.lp (sub B [1, 1, 1, 0, 1, 0, 0]) :: S4) _ _ _
  refine KR.run 6 [(0, .pointer (some ⟨t0b, t0o, none⟩)), (1, .int .i64 t1), (2, .int .i64 t2), (7, .int .i64 t7), (15, .int .i64 t15), (16, .int .i64 t16), (17, .bool (decide (t16 < t15)))] 41 (s' := (.code (sub B [1, 1, 1, 0, 1, 0, 0, 1, 0]) :: S6)) (by kernel_rfl) fun J => ?_
  by_cases c4 : t16 < t15
  · replace h := iteT c4 h
    refine KR.br true (by kernel_rfl) (vB (dT c4)) ?_
    refine KR.run 13 [(0, .pointer (some ⟨t0b, t0o, none⟩)), (1, .int .i64 t1), (2, .int .i64 t2), (7, .int .i64 t7), (8, .int .i64 t16), (15, .int .i64 t15), (16, .int .i64 t16), (21, .pointer (some ⟨t0b, (t0o + 1), none⟩))] 41 (s' := (.reg (opsAt (sub B [1, 1, 1, 0, 1, 0, 0, 1, 1, 0, 0, 1, 0])) [3, 4, 5, 6, 7, 8, 9] :: S9)) (by kernel_rfl) fun J => ?_
    obtain ⟨t22a, t22n, t22k, q5, h⟩ := h
    refine KR.rd (one_ld (by kernel_rfl) q5) ?_
    obtain ⟨t22ab, t22ao, rfl, h⟩ := h
    refine KR.run 1 [(0, .pointer (some ⟨t0b, t0o, none⟩)), (1, .int .i64 t1), (2, .int .i64 t2), (7, .int .i64 t7), (8, .int .i64 t16), (15, .int .i64 t15), (16, .int .i64 t16), (22, .slice (some ⟨t22ab, t22ao, none⟩) t22n t22k), (23, .int .i64 t16)] 41 (s' := (.reg (opsAt (sub B [1, 1, 1, 0, 1, 0, 0, 1, 1, 0, 0, 1, 0])) [5, 6, 7, 8, 9] :: S9)) (by kernel_rfl) fun J => ?_
    obtain ⟨q6, q6x, h⟩ := h
    refine KR.p (one_ix 2 t22ab t22ao (by kernel_rfl) q6 q6x) ?_
    refine KR.run 1 [(0, .pointer (some ⟨t0b, t0o, none⟩)), (1, .int .i64 t1), (2, .int .i64 t2), (7, .int .i64 t7), (8, .int .i64 t16), (15, .int .i64 t15), (16, .int .i64 t16), (25, .pointer (some ⟨t22ab, (t22ao + Int.toNat t16 * 2), none⟩))] 41 (s' := (.reg (opsAt (sub B [1, 1, 1, 0, 1, 0, 0, 1, 1, 0, 0, 1, 0])) [7, 8, 9] :: S9)) (by kernel_rfl) fun J => ?_
    obtain ⟨t26, q7, h⟩ := h
    refine KR.rd (one_ld (by kernel_rfl) q7) ?_
    refine KR.run 3 [(0, .pointer (some ⟨t0b, t0o, none⟩)), (1, .int .i64 t1), (2, .int .i64 t2), (7, .int .i64 t7), (8, .int .i64 t16), (15, .int .i64 t15), (16, .int .i64 t16), (28, .bool (t26 == t1))] 41 (s' := (.code (sub B [1, 1, 1, 0, 1, 0, 0, 1, 1, 0, 0, 1, 1]) :: S8)) (by kernel_rfl) fun J => ?_
    by_cases c8 : t26 = t1
    · replace h := iteT c8 h
      refine KR.br true (by kernel_rfl) (vB (eT c8)) ?_
      refine KR.run 5 [(0, .pointer (some ⟨t0b, t0o, none⟩)), (1, .int .i64 t1), (2, .int .i64 t2), (7, .int .i64 t7), (8, .int .i64 t16), (15, .int .i64 t15), (16, .int .i64 t16), (31, .pointer (some ⟨t0b, (t0o + 1), none⟩))] 41 (s' := (.reg (opsAt (sub B [1, 1, 1, 0, 1, 0, 0, 1, 1, 0, 0, 1, 1, 0, 0])) [3, 4, 5, 6, 7, 8] :: S10)) (by kernel_rfl) fun J => ?_
      obtain ⟨t32a, t32n, t32k, q9, h⟩ := h
      refine KR.rd (one_ld (by kernel_rfl) q9) ?_
      obtain ⟨t32ab, t32ao, rfl, h⟩ := h
      refine KR.run 2 [(0, .pointer (some ⟨t0b, t0o, none⟩)), (1, .int .i64 t1), (2, .int .i64 t2), (7, .int .i64 t7), (15, .int .i64 t15), (16, .int .i64 t16), (32, .slice (some ⟨t32ab, t32ao, none⟩) t32n t32k), (33, .int .i64 t16), (34, .int .i64 t2)] 41 (s' := (.reg (opsAt (sub B [1, 1, 1, 0, 1, 0, 0, 1, 1, 0, 0, 1, 1, 0, 0])) [6, 7, 8] :: S10)) (by kernel_rfl) fun J => ?_
      obtain ⟨q10, q10x, h⟩ := h
      refine KR.p (one_ix 2 t32ab t32ao (by kernel_rfl) q10 q10x) ?_
      refine KR.run 1 [(0, .pointer (some ⟨t0b, t0o, none⟩)), (1, .int .i64 t1), (2, .int .i64 t2), (7, .int .i64 t7), (15, .int .i64 t15), (16, .int .i64 t16), (34, .int .i64 t2), (36, .pointer (some ⟨t32ab, (t32ao + Int.toNat t16 * 2), none⟩))] 41 (s' := (.reg (opsAt (sub B [1, 1, 1, 0, 1, 0, 0, 1, 1, 0, 0, 1, 1, 0, 0])) [8] :: S10)) (by kernel_rfl) fun J => ?_
      obtain ⟨H_1, q11, h⟩ := h
      refine KR.se (one_st (by kernel_rfl) q11) ?_
      exact KR.run 11 [(0, .pointer (some ⟨t0b, t0o, none⟩)), (1, .int .i64 t1), (2, .int .i64 t2), (7, .int .i64 (IntKind.wrap .i64 (t7 + 1))), (15, .int .i64 t15), (16, .int .i64 (IntKind.wrap .i64 (t16 + 1)))] 41 (s' := (.lp (sub B [1, 1, 1, 0, 1, 0, 0]) :: S4)) (by kernel_rfl) h
    · replace h := iteF c8 h
      refine KR.br false (by kernel_rfl) (vB (eF c8)) ?_
      exact KR.run 6 [(0, .pointer (some ⟨t0b, t0o, none⟩)), (1, .int .i64 t1), (2, .int .i64 t2), (7, .int .i64 t7), (15, .int .i64 t15), (16, .int .i64 (IntKind.wrap .i64 (t16 + 1)))] 41 (s' := (.lp (sub B [1, 1, 1, 0, 1, 0, 0]) :: S4)) (by kernel_rfl) h
  · replace h := iteF c4 h
    refine KR.br false (by kernel_rfl) (vB (dF c4)) ?_
    refine KR.run 6 [(6, .int .i64 t7)] 41 (s' := (.code (sub B [1, 1, 1, 1, 1]) :: [])) (by kernel_rfl) fun J => ?_
    exact KR.fin (by kernel_rfl) h
theorem call {a0 : Option Addr} {a1 : Int} {a2 : Int} {H : Heap} {r : Value × Heap} (h :
    if (Option.isNone a0) = true then
    (r = (.int .i64 0, H))
    else
    (∃ (a0b a0o : Nat), a0 = some ⟨a0b, a0o, none⟩ ∧
    (∃ (t14a : Option Addr) (t14n : Nat) (t14k : Nat), ldc H a0b (a0o + 1) = some (.slice t14a t14n t14k) ∧
    (L0 (a0b) (a0o) (a1) (a2) 0 (((t14n : Nat) : Int)) 0 H r)))) :
    xC Try.prog good 15 [.pointer a0, .int .i64 a1, .int .i64 a2] H = some r := by
  refine KR.enter (fn := Try.f15) (c := B) (by kernel_rfl) (by kernel_rfl) ?_
  refine KR.run 8 [(0, .pointer a0), (1, .int .i64 a1), (2, .int .i64 a2), (9, .pointer a0)] 41 (s' := (.reg (opsAt (sub B [1, 0, 0])) [1] :: S1)) (by kernel_rfl) fun J => ?_
  refine KR.p (one_nl false a0 (by kernel_rfl)) ?_
  refine KR.run 1 [(0, .pointer a0), (1, .int .i64 a1), (2, .int .i64 a2), (10, .bool (Option.isNone a0))] 41 (s' := (.code (sub B [1, 0, 1]) :: S0)) (by kernel_rfl) fun J => ?_
  by_cases c2 : (Option.isNone a0) = true
  · replace h := iteT c2 h
    refine KR.br true (by kernel_rfl) (vB (bT c2)) ?_
    refine KR.run 4 [(6, .int .i64 0)] 41 (s' := (.code (sub B [1, 0, 1, 0, 1]) :: S0)) (by kernel_rfl) fun J => ?_
    exact KR.fin (by kernel_rfl) h
  · replace h := iteF c2 h
    refine KR.br false (by kernel_rfl) (vB (bF c2)) ?_
    obtain ⟨a0b, a0o, rfl, h⟩ := h
    refine KR.run 11 [(0, .pointer (some ⟨a0b, a0o, none⟩)), (1, .int .i64 a1), (2, .int .i64 a2), (7, .int .i64 0), (13, .pointer (some ⟨a0b, (a0o + 1), none⟩))] 41 (s' := (.reg (opsAt (sub B [1, 1, 1, 0, 0])) [3, 4, 5] :: S3)) (by kernel_rfl) fun J => ?_
    obtain ⟨t14a, t14n, t14k, q3, h⟩ := h
    refine KR.rd (one_ld (by kernel_rfl) q3) ?_
    exact KR.run 5 [(0, .pointer (some ⟨a0b, a0o, none⟩)), (1, .int .i64 a1), (2, .int .i64 a2), (7, .int .i64 0), (15, .int .i64 ((t14n : Nat) : Int)), (16, .int .i64 0)] 41 (s' := (.lp (sub B [1, 1, 1, 0, 1, 0, 0]) :: S4)) (by kernel_rfl) h
end F15
/-! #### 16 (*campanile/queue.Queue).To -/
namespace F16
noncomputable def B : Code := bodyOf Try.f16
noncomputable def S0 : List It := (.code (sub B [1, 1]) :: [])
noncomputable def S2 : List It := (.code (sub B [1, 1, 1, 1]) :: [])
noncomputable def S1 : List It := (.code (sub B [1, 0, 1]) :: S0)
noncomputable def S3 : List It := (.code (sub B [1, 1, 1, 0, 1]) :: S2)
noncomputable def S4 : List It := (.blk 0 :: S2)
noncomputable def S5 : List It := (.lp (sub B [1, 1, 1, 0, 1, 0, 0]) :: S4)
noncomputable def S6 : List It := (.code (sub B [1, 1, 1, 0, 1, 0, 0, 1, 1]) :: S5)
noncomputable def S7 : List It := (.code (sub B [1, 1, 1, 0, 1, 0, 0, 1, 1, 1]) :: S5)
noncomputable def S8 : List It := (.blk 1 :: S7)
noncomputable def S9 : List It := (.code (sub B [1, 1, 1, 0, 1, 0, 0, 1, 1, 0, 0, 1]) :: S8)
def L0 (t3a : Option Addr) (t3n : Nat) (t3k : Nat) (t11a : Option Addr) (t11n : Nat) (t11k : Nat) (t12 : Int) (t13 : Int) (H : Heap) (r : Value × Heap) : Prop := ∀ J, KR Try.prog good Try.f16 S5 (mat J 24 [(3, .slice t3a t3n t3k), (11, .slice t11a t11n t11k), (12, .int .i64 t12), (13, .int .i64 t13)]) H r
theorem L0_step {t3a : Option Addr} {t3n : Nat} {t3k : Nat} {t11a : Option Addr} {t11n : Nat} {t11k : Nat} {t12 : Int} {t13 : Int} {H : Heap} {r : Value × Heap} (h :
    if t13 < t12 then
    (∃ (t11ab t11ao : Nat), t11a = some ⟨t11ab, t11ao, none⟩ ∧
    ((0 : Int) ≤ t13 ∧ t13 < ((t11n : Nat) : Int) ∧
    (∃ (t16c0 : Int) (t16c1a : Option Addr) (t16c1n : Nat) (t16c1k : Nat), ldAll H t11ab (t11ao + Int.toNat t13 * 2) [.int .i64 t16c0, .slice t16c1a t16c1n t16c1k] ∧
    (∃ (H_1 : Heap), H_1 = H.push (.row [.int .i64 0, .slice none 0 0] true) ∧
    (∃ (H_2 : Heap), stc H_1 H.next 0 [.int .i64 t16c0, .slice t16c1a t16c1n t16c1k] = some H_2 ∧
    (∃ (t19 : Int), ldc H_2 H.next 0 = some (.int .i64 t19) ∧
    (∃ (H_3 : Heap), H_3 = H_2.push (.row [.int .i64 t19] true) ∧
    (∃ (t21a : Option Addr) (t21n : Nat) (t21k : Nat) (H_4 : Heap), papp H_3 1 8 t3a t3n t3k (some ⟨H_2.next, 0, none⟩) 1 (UNK 1) = some ((t21a, t21n, t21k), H_4) ∧
    (L0 (t21a) (t21n) (t21k) ((some ⟨t11ab, t11ao, none⟩)) (t11n) (t11k) (t12) ((IntKind.wrap .i64 (t13 + 1))) H_4 r)))))))))
    else
    (r = (.slice t3a t3n t3k, H))) :
    L0 t3a t3n t3k t11a t11n t11k t12 t13 H r := by
  intro J
  show KR _ _ _ (.lp (sub B [1, 1, 1, 0, 1, 0, 0]) :: S4) _ _ _
  refine KR.run 6 [(3, .slice t3a t3n t3k), (11, .slice t11a t11n t11k), (12, .int .i64 t12), (13, .int .i64 t13), (14, .bool (decide (t13 < t12)))] 24 (s' := (.code (sub B [1, 1, 1, 0, 1, 0, 0, 1, 0]) :: S6)) (by kernel_rfl) fun J => ?_
  by_cases c4 : t13 < t12
  · replace h := iteT c4 h
    refine KR.br true (by kernel_rfl) (vB (dT c4)) ?_
    obtain ⟨t11ab, t11ao, rfl, h⟩ := h
    refine KR.run 5 [(3, .slice t3a t3n t3k), (11, .slice (some ⟨t11ab, t11ao, none⟩) t11n t11k), (12, .int .i64 t12), (13, .int .i64 t13)] 24 (s' := (.reg (opsAt (sub B [1, 1, 1, 0, 1, 0, 0, 1, 1, 0, 0, 0])) [0, 1, 2, 3] :: S9)) (by kernel_rfl) fun J => ?_
    obtain ⟨q5, q5x, h⟩ := h
    refine KR.p (one_ix 2 t11ab t11ao (by kernel_rfl) q5 q5x) ?_
    obtain ⟨t16c0, t16c1a, t16c1n, t16c1k, q6, h⟩ := h
    refine KR.rd (one_ldA (by kernel_rfl) q6) ?_
    obtain ⟨H_1, q7, h⟩ := h
    refine KR.mk (w := pRow [.int .i64 0, .slice none 0 0]) (one_al (by kernel_rfl)) q7 ?_
    obtain ⟨H_2, q8, h⟩ := h
    refine KR.se (one_st (by kernel_rfl) q8) ?_
    refine KR.run 4 [(11, .slice (some ⟨t11ab, t11ao, none⟩) t11n t11k), (12, .int .i64 t12), (13, .int .i64 t13), (17, .slice t3a t3n t3k), (18, .pointer (some ⟨H.next, 0, none⟩))] 24 (s' := (.reg (opsAt (sub B [1, 1, 1, 0, 1, 0, 0, 1, 1, 0, 0, 1])) [2, 3, 4, 5] :: S8)) (by kernel_rfl) fun J => ?_
    obtain ⟨t19, q9, h⟩ := h
    refine KR.rd (one_ld (by kernel_rfl) q9) ?_
    obtain ⟨H_3, q10, h⟩ := h
    refine KR.mk (w := sRow 1 1 [.int .i64 t19]) (one_al (by kernel_rfl)) q10 ?_
    obtain ⟨t21a, t21n, t21k, H_4, q11, h⟩ := h
    refine KR.se (one_ap 1 8 (by kernel_rfl) q11) ?_
    exact KR.run 7 [(3, .slice t21a t21n t21k), (11, .slice (some ⟨t11ab, t11ao, none⟩) t11n t11k), (12, .int .i64 t12), (13, .int .i64 (IntKind.wrap .i64 (t13 + 1)))] 24 (s' := (.lp (sub B [1, 1, 1, 0, 1, 0, 0]) :: S4)) (by kernel_rfl) h
  · replace h := iteF c4 h
    refine KR.br false (by kernel_rfl) (vB (dF c4)) ?_
    refine KR.run 6 [(2, .slice t3a t3n t3k)] 24 (s' := (.code (sub B [1, 1, 1, 1, 1]) :: [])) (by kernel_rfl) fun J => ?_
    exact KR.fin (by kernel_rfl) h
theorem call {a0 : Option Addr} {H : Heap} {r : Value × Heap} (h :
    if (Option.isNone a0) = true then
    (r = (.slice none 0 0, H))
    else
    (∃ (a0b a0o : Nat), a0 = some ⟨a0b, a0o, none⟩ ∧
    (∃ (t11a : Option Addr) (t11n : Nat) (t11k : Nat), ldc H a0b (a0o + 1) = some (.slice t11a t11n t11k) ∧
    (L0 (none) (0) (0) (t11a) (t11n) (t11k) (((t11n : Nat) : Int)) 0 H r)))) :
    xC Try.prog good 16 [.pointer a0] H = some r := by
  refine KR.enter (fn := Try.f16) (c := B) (by kernel_rfl) (by kernel_rfl) ?_
  refine KR.run 8 [(0, .pointer a0), (6, .pointer a0)] 24 (s' := (.reg (opsAt (sub B [1, 0, 0])) [1] :: S1)) (by kernel_rfl) fun J => ?_
  refine KR.p (one_nl false a0 (by kernel_rfl)) ?_
  refine KR.run 1 [(0, .pointer a0), (7, .bool (Option.isNone a0))] 24 (s' := (.code (sub B [1, 0, 1]) :: S0)) (by kernel_rfl) fun J => ?_
  by_cases c2 : (Option.isNone a0) = true
  · replace h := iteT c2 h
    refine KR.br true (by kernel_rfl) (vB (bT c2)) ?_
    refine KR.run 4 [(2, .slice none 0 0)] 24 (s' := (.code (sub B [1, 0, 1, 0, 1]) :: S0)) (by kernel_rfl) fun J => ?_
    exact KR.fin (by kernel_rfl) h
  · replace h := iteF c2 h
    refine KR.br false (by kernel_rfl) (vB (bF c2)) ?_
    obtain ⟨a0b, a0o, rfl, h⟩ := h
    refine KR.run 11 [(3, .slice none 0 0), (10, .pointer (some ⟨a0b, (a0o + 1), none⟩))] 24 (s' := (.reg (opsAt (sub B [1, 1, 1, 0, 0])) [3, 4, 5] :: S3)) (by kernel_rfl) fun J => ?_
    obtain ⟨t11a, t11n, t11k, q3, h⟩ := h
    refine KR.rd (one_ld (by kernel_rfl) q3) ?_
    exact KR.run 5 [(3, .slice none 0 0), (11, .slice t11a t11n t11k), (12, .int .i64 ((t11n : Nat) : Int)), (13, .int .i64 0)] 24 (s' := (.lp (sub B [1, 1, 1, 0, 1, 0, 0]) :: S4)) (by kernel_rfl) h
end F16
/-! #### 17 (*campanile/queue.Queue).At -/
namespace F17
noncomputable def B : Code := bodyOf Try.f17
noncomputable def S0 : List It := (.code (sub B [1, 1]) :: [])
noncomputable def S2 : List It := (.code (sub B [1, 1, 1]) :: [])
noncomputable def S1 : List It := (.code (sub B [1, 0, 1]) :: S0)
def L0 (t0 : Option Addr) (t1 : Int) (t20 : Bool) (H : Heap) (r : Value × Heap) : Prop := ∀ J, KR Try.prog good Try.f17 S1 (mat J 30 [(0, .pointer t0), (1, .int .i64 t1), (20, .bool t20)]) H r
theorem L0_step {t0 : Option Addr} {t1 : Int} {t20 : Bool} {H : Heap} {r : Value × Heap} (h :
    if t20 = true then
    (r = (.tuple #[.slice none 0 0, .bool false], H))
    else
    (∃ (t0b t0o : Nat), t0 = some ⟨t0b, t0o, none⟩ ∧
    (∃ (t24a : Option Addr) (t24n : Nat) (t24k : Nat), ldc H t0b (t0o + 1) = some (.slice t24a t24n t24k) ∧
    (∃ (t24ab t24ao : Nat), t24a = some ⟨t24ab, t24ao, none⟩ ∧
    ((0 : Int) ≤ t1 ∧ t1 < ((t24n : Nat) : Int) ∧
    (∃ (t28a : Option Addr) (t28n : Nat) (t28k : Nat), ldc H t24ab ((t24ao + Int.toNat t1 * 2) + 1) = some (.slice t28a t28n t28k) ∧
    (∃ (t29a : Option Addr) (t29n : Nat) (t29k : Nat) (H_1 : Heap), xC Try.prog good 33 [.slice t28a t28n t28k] H = some (.slice t29a t29n t29k, H_1) ∧
    (r = (.tuple #[.slice t29a t29n t29k, .bool true], H_1))))))))) :
    L0 t0 t1 t20 H r := by
  intro J
  show KR _ _ _ (.code (sub B [1, 0, 1]) :: S0) _ _ _
  by_cases c5 : t20 = true
  · replace h := iteT c5 h
    refine KR.br true (by kernel_rfl) (vB (bT c5)) ?_
    refine KR.run 5 [(4, .slice none 0 0), (5, .bool false)] 30 (s' := (.code (sub B [1, 0, 1, 0, 1]) :: S0)) (by kernel_rfl) fun J => ?_
    exact KR.fin (by kernel_rfl) h
  · replace h := iteF c5 h
    refine KR.br false (by kernel_rfl) (vB (bF c5)) ?_
    obtain ⟨t0b, t0o, rfl, h⟩ := h
    refine KR.run 6 [(1, .int .i64 t1), (23, .pointer (some ⟨t0b, (t0o + 1), none⟩))] 30 (s' := (.reg (opsAt (sub B [1, 1, 0])) [3, 4, 5, 6, 7, 8, 9, 10] :: S2)) (by kernel_rfl) fun J => ?_
    obtain ⟨t24a, t24n, t24k, q6, h⟩ := h
    refine KR.rd (one_ld (by kernel_rfl) q6) ?_
    obtain ⟨t24ab, t24ao, rfl, h⟩ := h
    refine KR.run 1 [(24, .slice (some ⟨t24ab, t24ao, none⟩) t24n t24k), (25, .int .i64 t1)] 30 (s' := (.reg (opsAt (sub B [1, 1, 0])) [5, 6, 7, 8, 9, 10] :: S2)) (by kernel_rfl) fun J => ?_
    obtain ⟨q7, q7x, h⟩ := h
    refine KR.p (one_ix 2 t24ab t24ao (by kernel_rfl) q7 q7x) ?_
    refine KR.run 1 [(27, .pointer (some ⟨t24ab, ((t24ao + Int.toNat t1 * 2) + 1), none⟩))] 30 (s' := (.reg (opsAt (sub B [1, 1, 0])) [7, 8, 9, 10] :: S2)) (by kernel_rfl) fun J => ?_
    obtain ⟨t28a, t28n, t28k, q8, h⟩ := h
    refine KR.rd (one_ld (by kernel_rfl) q8) ?_
    obtain ⟨t29a, t29n, t29k, H_1, q9, h⟩ := h
    refine KR.se (one_ca (by kernel_rfl) q9) ?_
    refine KR.run 3 [(4, .slice t29a t29n t29k), (5, .bool true)] 30 (s' := (.code (sub B [1, 1, 1]) :: [])) (by kernel_rfl) fun J => ?_
    exact KR.fin (by kernel_rfl) h
theorem call {a0 : Option Addr} {a1 : Int} {H : Heap} {r : Value × Heap} (h :
    if (Option.isNone a0) = true then
    (L0 (a0) (a1) (true) H r)
    else
    (if a1 < 0 then
    (L0 (a0) (a1) (true) H r)
    else
    (∃ (a0b a0o : Nat), a0 = some ⟨a0b, a0o, none⟩ ∧
    (∃ (t17a : Option Addr) (t17n : Nat) (t17k : Nat), ldc H a0b (a0o + 1) = some (.slice t17a t17n t17k) ∧
    (L0 ((some ⟨a0b, a0o, none⟩)) (a1) ((decide (a1 ≥ ((t17n : Nat) : Int)))) H r))))) :
    xC Try.prog good 17 [.pointer a0, .int .i64 a1] H = some r := by
  refine KR.enter (fn := Try.f17) (c := B) (by kernel_rfl) (by kernel_rfl) ?_
  refine KR.run 9 [(0, .pointer a0), (1, .int .i64 a1), (6, .pointer a0)] 30 (s' := (.reg (opsAt (sub B [1, 0, 0])) [1, 2, 3, 4, 5, 6, 7, 8, 9, 10, 11, 12, 13, 14] :: S1)) (by kernel_rfl) fun J => ?_
  refine KR.p (one_nl false a0 (by kernel_rfl)) ?_
  refine KR.run 1 [(0, .pointer a0), (1, .int .i64 a1), (8, .bool (Option.isNone a0))] 30 (s' := (.reg (opsAt (sub B [1, 0, 0])) [3, 4, 5, 6, 7, 8, 9, 10, 11, 12, 13, 14] :: S1)) (by kernel_rfl) fun J => ?_
  by_cases c2 : (Option.isNone a0) = true
  · replace h := iteT c2 h
    refine KR.setV 8 (by kernel_rfl) (bT c2) ?_
    exact KR.run 13 [(0, .pointer a0), (1, .int .i64 a1), (20, .bool true)] 30 (s' := (.code (sub B [1, 0, 1]) :: S0)) (by kernel_rfl) h
  · replace h := iteF c2 h
    refine KR.setV 8 (by kernel_rfl) (bF c2) ?_
    refine KR.run 4 [(0, .pointer a0), (1, .int .i64 a1), (12, .bool (decide (a1 < 0)))] 30 (s' := (.reg (opsAt (sub B [1, 0, 0])) [7, 8, 9, 10, 11, 12, 13, 14] :: S1)) (by kernel_rfl) fun J => ?_
    by_cases c3 : a1 < 0
    · replace h := iteT c3 h
      refine KR.setV 12 (by kernel_rfl) (dT c3) ?_
      exact KR.run 9 [(0, .pointer a0), (1, .int .i64 a1), (20, .bool true)] 30 (s' := (.code (sub B [1, 0, 1]) :: S0)) (by kernel_rfl) h
    · replace h := iteF c3 h
      refine KR.setV 12 (by kernel_rfl) (dF c3) ?_
      obtain ⟨a0b, a0o, rfl, h⟩ := h
      refine KR.run 4 [(0, .pointer (some ⟨a0b, a0o, none⟩)), (1, .int .i64 a1), (12, .bool false), (13, .int .i64 a1), (16, .pointer (some ⟨a0b, (a0o + 1), none⟩))] 30 (s' := (.reg (opsAt (sub B [1, 0, 0])) [11, 12, 13, 14] :: S1)) (by kernel_rfl) fun J => ?_
      obtain ⟨t17a, t17n, t17k, q4, h⟩ := h
      refine KR.rd (one_ld (by kernel_rfl) q4) ?_
      exact KR.run 4 [(0, .pointer (some ⟨a0b, a0o, none⟩)), (1, .int .i64 a1), (20, .bool (decide (a1 ≥ ((t17n : Nat) : Int))))] 30 (s' := (.code (sub B [1, 0, 1]) :: S0)) (by kernel_rfl) h
end F17
/-! #### 18 (*campanile/queue.Queue).Take -/
namespace F18
noncomputable def B : Code := bodyOf Try.f18
noncomputable def S0 : List It := (.code (sub B [1, 1]) :: [])
noncomputable def S1 : List It := (.code (sub B [1, 1, 1]) :: [])
theorem call {a0 : Option Addr} {a1 : Int} {H : Heap} {r : Value × Heap} (h :
    ∃ (t11r0a : Option Addr) (t11r0n : Nat) (t11r0k : Nat) (t11r1 : Bool) (H_1 : Heap), xC Try.prog good 17 [.pointer a0, .int .i64 a1] H = some (.tuple #[.slice t11r0a t11r0n t11r0k, .bool t11r1], H_1) ∧
    (if t11r1 = true then
    (∃ (a0b a0o : Nat), a0 = some ⟨a0b, a0o, none⟩ ∧
    (∃ (t19a : Option Addr) (t19n : Nat) (t19k : Nat), ldc H_1 a0b (a0o + 1) = some (.slice t19a t19n t19k) ∧
    (∃ (t23a : Option Addr) (t23n : Nat) (t23k : Nat) (H_2 : Heap), xC Try.prog good 34 [.slice t19a t19n t19k, .int .i64 a1, .int .i64 (IntKind.wrap .i64 (a1 + 1))] H_1 = some (.slice t23a t23n t23k, H_2) ∧
    (∃ (H_3 : Heap), stc H_2 a0b (a0o + 1) [.slice t23a t23n t23k] = some H_3 ∧
    (r = (.tuple #[.slice t11r0a t11r0n t11r0k, .bool t11r1], H_3))))))
    else
    (r = (.tuple #[.slice t11r0a t11r0n t11r0k, .bool t11r1], H_1)))) :
    xC Try.prog good 18 [.pointer a0, .int .i64 a1] H = some r := by
  refine KR.enter (fn := Try.f18) (c := B) (by kernel_rfl) (by kernel_rfl) ?_
  refine KR.run 9 [(0, .pointer a0), (1, .int .i64 a1), (9, .pointer a0), (10, .int .i64 a1)] 28 (s' := (.reg (opsAt (sub B [1, 0])) [2, 3, 4, 5, 6, 7] :: S0)) (by kernel_rfl) fun J => ?_
  obtain ⟨t11r0a, t11r0n, t11r0k, t11r1, H_1, q1, h⟩ := h
  refine KR.se (one_ca (by kernel_rfl) q1) ?_
  refine KR.run 11 [(0, .pointer a0), (1, .int .i64 a1), (6, .slice t11r0a t11r0n t11r0k), (7, .bool t11r1), (14, .bool t11r1)] 28 (s' := (.code (sub B [1, 1, 0, 1]) :: S1)) (by kernel_rfl) fun J => ?_
  by_cases c2 : t11r1 = true
  · replace h := iteT c2 h
    refine KR.br true (by kernel_rfl) (vB (bT c2)) ?_
    obtain ⟨a0b, a0o, rfl, h⟩ := h
    refine KR.run 5 [(1, .int .i64 a1), (6, .slice t11r0a t11r0n t11r0k), (7, .bool t11r1), (15, .pointer (some ⟨a0b, a0o, none⟩)), (18, .pointer (some ⟨a0b, (a0o + 1), none⟩))] 28 (s' := (.reg (opsAt (sub B [1, 1, 0, 1, 0])) [4, 5, 6, 7, 8, 9, 10, 11] :: S1)) (by kernel_rfl) fun J => ?_
    obtain ⟨t19a, t19n, t19k, q3, h⟩ := h
    refine KR.rd (one_ld (by kernel_rfl) q3) ?_
    refine KR.run 3 [(6, .slice t11r0a t11r0n t11r0k), (7, .bool t11r1), (15, .pointer (some ⟨a0b, a0o, none⟩)), (19, .slice t19a t19n t19k), (20, .int .i64 a1), (22, .int .i64 (IntKind.wrap .i64 (a1 + 1)))] 28 (s' := (.reg (opsAt (sub B [1, 1, 0, 1, 0])) [8, 9, 10, 11] :: S1)) (by kernel_rfl) fun J => ?_
    obtain ⟨t23a, t23n, t23k, H_2, q4, h⟩ := h
    refine KR.se (one_ca (by kernel_rfl) q4) ?_
    refine KR.run 2 [(6, .slice t11r0a t11r0n t11r0k), (7, .bool t11r1), (23, .slice t23a t23n t23k), (25, .pointer (some ⟨a0b, (a0o + 1), none⟩))] 28 (s' := (.reg (opsAt (sub B [1, 1, 0, 1, 0])) [11] :: S1)) (by kernel_rfl) fun J => ?_
    obtain ⟨H_3, q5, h⟩ := h
    refine KR.se (one_st (by kernel_rfl) q5) ?_
    refine KR.run 8 [(4, .slice t11r0a t11r0n t11r0k), (5, .bool t11r1)] 28 (s' := (.code (sub B [1, 1, 1, 1]) :: [])) (by kernel_rfl) fun J => ?_
    exact KR.fin (by kernel_rfl) h
  · replace h := iteF c2 h
    refine KR.br false (by kernel_rfl) (vB (bF c2)) ?_
    refine KR.run 8 [(4, .slice t11r0a t11r0n t11r0k), (5, .bool t11r1)] 28 (s' := (.code (sub B [1, 1, 1, 1]) :: [])) (by kernel_rfl) fun J => ?_
    exact KR.fin (by kernel_rfl) h
end F18
end Go.X
