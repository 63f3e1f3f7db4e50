/- The walks of the functions: printed. -/
import Derived.Test.YtgcodmnajbcoaaaXzGf
set_option linter.unusedVariables false
set_option maxRecDepth 100000
namespace Go.X
open Go Go.RowKit Go.Proofs
/-! #### 3 campanile/campanilelaw18.JoinForms -/
namespace F6
noncomputable def B : Code := bodyOf Try.f6
noncomputable def S0 : List It := (.code (sub B [1, 1, 1]) :: [])
noncomputable def S1 : List It := (.code (sub B [1, 1, 1, 1]) :: [])
noncomputable def S2 : List It := (.code (sub B [1, 1, 1, 1, 1]) :: [])
noncomputable def S4 : List It := (.code (sub B [1, 1, 1, 1, 1, 1, 1]) :: [])
noncomputable def S14 : List It := (.code (sub B [1, 1, 1, 1, 1, 1, 1, 1]) :: [])
noncomputable def S15 : List It := (.code (sub B [1, 1, 1, 1, 1, 1, 1, 1, 1]) :: [])
noncomputable def S16 : List It := (.code (sub B [1, 1, 1, 1, 1, 1, 1, 1, 1, 1]) :: [])
noncomputable def S17 : List It := (.code (sub B [1, 1, 1, 1, 1, 1, 1, 1, 1, 1, 1]) :: [])
noncomputable def S18 : List It := (.code (sub B [1, 1, 1, 1, 1, 1, 1, 1, 1, 1, 1, 1]) :: [])
noncomputable def S3 : List It := (.code (sub B [1, 1, 1, 1, 0, 1]) :: S2)
noncomputable def S5 : List It := (.blk 0 :: S4)
noncomputable def S6 : List It := (.lp (sub B [1, 1, 1, 1, 1, 1, 0, 1, 0, 0]) :: S5)
noncomputable def S7 : List It := (.code (sub B [1, 1, 1, 1, 1, 1, 0, 1, 0, 0, 1, 1]) :: S6)
noncomputable def S8 : List It := (.code (sub B [1, 1, 1, 1, 1, 1, 0, 1, 0, 0, 1, 1, 1]) :: S6)
noncomputable def S9 : List It := (.blk 1 :: S8)
noncomputable def S10 : List It := (.code (sub B [1, 1, 1, 1, 1, 1, 0, 1, 0, 0, 1, 1, 0, 0, 1, 1]) :: S9)
noncomputable def S11 : List It := (.code (sub B [1, 1, 1, 1, 1, 1, 0, 1, 0, 0, 1, 1, 0, 0, 1, 1, 1]) :: S9)
noncomputable def S12 : List It := (.code (sub B [1, 1, 1, 1, 1, 1, 0, 1, 0, 0, 1, 1, 0, 0, 1, 1, 1, 1]) :: S9)
noncomputable def S13 : List It := (.code (sub B [1, 1, 1, 1, 1, 1, 0, 1, 0, 0, 1, 1, 0, 0, 1, 1, 1, 0, 1]) :: S12)
def L0 (t1 : Int) (t2 : Int) (t7 : Option Addr) (t8 : Option Addr) (t45 : Bool) (H : Heap) (r : Value × Heap) : Prop := ∀ J, KR Try.prog good Try.f6 S3 (mat J 155 [(1, .int .i64 t1), (2, .int .i64 t2), (7, .pointer t7), (8, .pointer t8), (45, .bool t45)]) H r
def L1 (t1 : Int) (t2 : Int) (t7 : Option Addr) (t8 : Option Addr) (t9a : Option Addr) (t9n : Nat) (t9k : Nat) (t46 : Int) (t47 : Int) (H : Heap) (r : Value × Heap) : Prop := ∀ J, KR Try.prog good Try.f6 S6 (mat J 155 [(1, .int .i64 t1), (2, .int .i64 t2), (7, .pointer t7), (8, .pointer t8), (9, .slice t9a t9n t9k), (46, .int .i64 t46), (47, .int .i64 t47)]) H r
def L2 (t1 : Int) (t2 : Int) (t7 : Option Addr) (t8 : Option Addr) (t9a : Option Addr) (t9n : Nat) (t9k : Nat) (t11a : Option Addr) (t11n : Nat) (t11k : Nat) (t46 : Int) (t47 : Int) (t87 : Bool) (H : Heap) (r : Value × Heap) : Prop := ∀ J, KR Try.prog good Try.f6 S13 (mat J 155 [(1, .int .i64 t1), (2, .int .i64 t2), (7, .pointer t7), (8, .pointer t8), (9, .slice t9a t9n t9k), (11, .slice t11a t11n t11k), (46, .int .i64 t46), (47, .int .i64 t47), (87, .bool t87)]) H r
theorem L0_step {t1 : Int} {t2 : Int} {t7 : Option Addr} {t8 : Option Addr} {t45 : Bool} {H : Heap} {r : Value × Heap} (h :
    if t45 = true then
    (r = (.bool false, H))
    else
    (L1 (t1) (t2) (t7) (t8) (none) (0) (0) (t1) 0 H r)) :
    L0 t1 t2 t7 t8 t45 H r := by
  intro J
  show KR _ _ _ (.code (sub B [1, 1, 1, 1, 0, 1]) :: S2) _ _ _
  by_cases c8 : t45 = true
  · replace h := iteT c8 h
    refine KR.br true (by kernel_rfl) (vB (bT c8)) ?_
    refine KR.run 4 [(6, .bool false)] 155 (s' := (.code (sub B [1, 1, 1, 1, 0, 1, 0, 1]) :: S2)) (by kernel_rfl) fun J => ?_
    exact KR.fin (by kernel_rfl) h
  · replace h := iteF c8 h
    refine KR.br false (by kernel_rfl) (vB (bF c8)) ?_
    exact KR.run 13 [(1, .int .i64 t1), (2, .int .i64 t2), (7, .pointer t7), (8, .pointer t8), (9, .slice none 0 0), (46, .int .i64 t1), (47, .int .i64 0)] 155 (s' := (.lp (sub B [1, 1, 1, 1, 1, 1, 0, 1, 0, 0]) :: S5)) (by kernel_rfl) h
theorem L1_step {t1 : Int} {t2 : Int} {t7 : Option Addr} {t8 : Option Addr} {t9a : Option Addr} {t9n : Nat} {t9k : Nat} {t46 : Int} {t47 : Int} {H : Heap} {r : Value × Heap} (h :
    if t47 < t46 then
    (∃ (t54r0a : Option Addr) (t54r0n : Nat) (t54r0k : Nat) (t54r1 : Int) (H_1 : Heap), xC Try.prog good 21 [.pointer t8, .int .i64 0, .int .u32 (IntKind.wrap .u32 t47)] H = some (.tuple #[.slice t54r0a t54r0n t54r0k, .int .i64 t54r1], H_1) ∧
    (∃ (t59r0c0 : Int) (t59r0c1 : Int) (t59r0c2 : Int) (t59r0c3 : Int) (t59r0c4 : Int) (t59r1 : Int) (H_2 : Heap), xC Try.prog good 14 [.slice t54r0a t54r0n t54r0k] H_1 = some (.tuple #[.agg #[.int .i64 t59r0c0, .int .i64 t59r0c1, .int .u32 t59r0c2, .int .u32 t59r0c3, .int .u32 t59r0c4], .int .i64 t59r1], H_2) ∧
    (∃ (H_3 : Heap), H_3 = H_2.push (.row [.int .i64 0, .int .i64 0, .int .u32 0, .int .u32 0, .int .u32 0] true) ∧
    (∃ (H_4 : Heap), stc H_3 H_2.next 0 [.int .i64 t59r0c0, .int .i64 t59r0c1, .int .u32 t59r0c2, .int .u32 t59r0c3, .int .u32 t59r0c4] = some H_4 ∧
    (if t54r1 = 0 then
    (if t59r1 = 0 then
    (∃ (t70 : Int), ldc H_4 H_2.next 3 = some (.int .u32 t70) ∧
    (if t70 = (IntKind.wrap .u32 (IntKind.wrap .i64 (t47 + 1))) then
    (∃ (t78 : Int), ldc H_4 H_2.next 2 = some (.int .u32 t78) ∧
    (if t78 = (IntKind.wrap .u32 t47) then
    (∃ (t85 : Int), ldc H_4 H_2.next 0 = some (.int .i64 t85) ∧
    (L2 (t1) (t2) (t7) (t8) (t9a) (t9n) (t9k) (t54r0a) (t54r0n) (t54r0k) (t46) (t47) ((!(t85 == 2))) H_4 r))
    else
    (L2 (t1) (t2) (t7) (t8) (t9a) (t9n) (t9k) (t54r0a) (t54r0n) (t54r0k) (t46) (t47) (true) H_4 r)))
    else
    (L2 (t1) (t2) (t7) (t8) (t9a) (t9n) (t9k) (t54r0a) (t54r0n) (t54r0k) (t46) (t47) (true) H_4 r)))
    else
    (L2 (t1) (t2) (t7) (t8) (t9a) (t9n) (t9k) (t54r0a) (t54r0n) (t54r0k) (t46) (t47) (true) H_4 r))
    else
    (L2 (t1) (t2) (t7) (t8) (t9a) (t9n) (t9k) (t54r0a) (t54r0n) (t54r0k) (t46) (t47) (true) H_4 r))))))
    else
    (∃ (t9ab t9ao : Nat), t9a = some ⟨t9ab, t9ao, none⟩ ∧
    ((0 : Int) ≤ (IntKind.wrap .i64 (t1 - 1)) ∧ (IntKind.wrap .i64 (t1 - 1)) < ((t9n : Nat) : Int) ∧
    (∃ (t99a : Option Addr) (t99n : Nat) (t99k : Nat), ldc H t9ab (t9ao + Int.toNat (IntKind.wrap .i64 (t1 - 1)) * 1) = some (.slice t99a t99n t99k) ∧
    (∃ (t100r0c0 : Int) (t100r0c1 : Int) (t100r0c2 : Int) (t100r0c3a : Option Addr) (t100r0c3n : Nat) (t100r0c3k : Nat) (t100r0c4 : Int) (t100r1 : Int) (H_5 : Heap), xC Try.prog good 22 [.pointer t7, .slice t99a t99n t99k, .slice none 0 0] H = some (.tuple #[.agg #[.int .i64 t100r0c0, .int .i64 t100r0c1, .int .u32 t100r0c2, .slice t100r0c3a t100r0c3n t100r0c3k, .int .u32 t100r0c4], .int .i64 t100r1], H_5) ∧
    (∃ (H_6 : Heap), H_6 = H_5.push (.row [.int .i64 0, .int .i64 0, .int .u32 0, .slice none 0 0, .int .u32 0] true) ∧
    (∃ (H_7 : Heap), stc H_6 H_5.next 0 [.int .i64 t100r0c0, .int .i64 t100r0c1, .int .u32 t100r0c2, .slice t100r0c3a t100r0c3n t100r0c3k, .int .u32 t100r0c4] = some H_7 ∧
    ((0 : Int) ≤ t2 ∧ t2 < ((t9n : Nat) : Int) ∧
    (∃ (t108a : Option Addr) (t108n : Nat) (t108k : Nat), ldc H_7 t9ab (t9ao + Int.toNat t2 * 1) = some (.slice t108a t108n t108k) ∧
    (∃ (t109r0c0 : Int) (t109r0c1 : Int) (t109r0c2 : Int) (t109r0c3a : Option Addr) (t109r0c3n : Nat) (t109r0c3k : Nat) (t109r0c4 : Int) (t109r1 : Int) (H_8 : Heap), xC Try.prog good 22 [.pointer t7, .slice t108a t108n t108k, .slice none 0 0] H_7 = some (.tuple #[.agg #[.int .i64 t109r0c0, .int .i64 t109r0c1, .int .u32 t109r0c2, .slice t109r0c3a t109r0c3n t109r0c3k, .int .u32 t109r0c4], .int .i64 t109r1], H_8) ∧
    (∃ (H_9 : Heap), H_9 = H_8.push (.row [.int .i64 0, .int .i64 0, .int .u32 0, .slice none 0 0, .int .u32 0] true) ∧
    (∃ (H_10 : Heap), stc H_9 H_8.next 0 [.int .i64 t109r0c0, .int .i64 t109r0c1, .int .u32 t109r0c2, .slice t109r0c3a t109r0c3n t109r0c3k, .int .u32 t109r0c4] = some H_10 ∧
    (∃ (t114r0 : Int) (t114r1 : Bool) (H_11 : Heap), xC Try.prog good 27 [.pointer t7, .int .i64 2] H_10 = some (.tuple #[.int .u32 t114r0, .bool t114r1], H_11) ∧
    (∃ (t119r0 : Int) (t119r1 : Bool) (H_12 : Heap), xC Try.prog good 27 [.pointer t7, .int .i64 3] H_11 = some (.tuple #[.int .u32 t119r0, .bool t119r1], H_12) ∧
    (if t100r1 = 0 then
    (if t109r1 = 8 then
    (∃ (t130 : Int), ldc H_12 H_5.next 1 = some (.int .i64 t130) ∧
    (if t130 = 0 then
    (∃ (t135a : Option Addr) (t135n : Nat) (t135k : Nat), ldc H_12 H_5.next 3 = some (.slice t135a t135n t135k) ∧
    (if ((t135n : Nat) : Int) = 0 then
    (if t114r1 = true then
    (if t114r0 = (IntKind.wrap .u32 t1) then
    (if t119r1 = true then
    (r = (.bool false, H_12))
    else
    (∃ (t153 : Bool) (H_13 : Heap), xC Try.prog good 8 [] H_12 = some (.bool t153, H_13) ∧
    (r = (.bool t153, H_13))))
    else
    (r = (.bool false, H_12)))
    else
    (r = (.bool false, H_12)))
    else
    (r = (.bool false, H_12))))
    else
    (r = (.bool false, H_12))))
    else
    (r = (.bool false, H_12)))
    else
    (r = (.bool false, H_12))))))))))))))))) :
    L1 t1 t2 t7 t8 t9a t9n t9k t46 t47 H r := by
  intro J
  show KR _ _ _ (.lp (sub B [1, 1, 1, 1, 1, 1, 0, 1, 0, 0]) :: S5) _ _ _
  refine KR.run 6 [(1, .int .i64 t1), (2, .int .i64 t2), (7, .pointer t7), (8, .pointer t8), (9, .slice t9a t9n t9k), (46, .int .i64 t46), (47, .int .i64 t47), (48, .bool (decide (t47 < t46)))] 155 (s' := (.code (sub B [1, 1, 1, 1, 1, 1, 0, 1, 0, 0, 1, 0]) :: S7)) (by kernel_rfl) fun J => ?_
  by_cases c9 : t47 < t46
  · replace h := iteT c9 h
    refine KR.br true (by kernel_rfl) (vB (dT c9)) ?_
    refine KR.run 13 [(1, .int .i64 t1), (2, .int .i64 t2), (7, .pointer t7), (8, .pointer t8), (9, .slice t9a t9n t9k), (10, .int .i64 t47), (46, .int .i64 t46), (47, .int .i64 t47), (51, .pointer t8), (53, .int .u32 (IntKind.wrap .u32 t47))] 155 (s' := (.reg (opsAt (sub B [1, 1, 1, 1, 1, 1, 0, 1, 0, 0, 1, 1, 0, 0, 1, 0])) [3, 4, 5, 6, 7, 8] :: S10)) (by kernel_rfl) fun J => ?_
    obtain ⟨t54r0a, t54r0n, t54r0k, t54r1, H_1, q10, h⟩ := h
    refine KR.se (one_ca (by kernel_rfl) q10) ?_
    refine KR.run 9 [(1, .int .i64 t1), (2, .int .i64 t2), (7, .pointer t7), (8, .pointer t8), (9, .slice t9a t9n t9k), (10, .int .i64 t47), (11, .slice t54r0a t54r0n t54r0k), (12, .int .i64 t54r1), (46, .int .i64 t46), (47, .int .i64 t47), (58, .slice t54r0a t54r0n t54r0k)] 155 (s' := (.reg (opsAt (sub B [1, 1, 1, 1, 1, 1, 0, 1, 0, 0, 1, 1, 0, 0, 1, 1, 0])) [1, 2, 3, 4, 5, 6, 7] :: S11)) (by kernel_rfl) fun J => ?_
    obtain ⟨t59r0c0, t59r0c1, t59r0c2, t59r0c3, t59r0c4, t59r1, H_2, q11, h⟩ := h
    refine KR.se (one_ca (by kernel_rfl) q11) ?_
    refine KR.run 3 [(1, .int .i64 t1), (2, .int .i64 t2), (7, .pointer t7), (8, .pointer t8), (9, .slice t9a t9n t9k), (10, .int .i64 t47), (11, .slice t54r0a t54r0n t54r0k), (12, .int .i64 t54r1), (46, .int .i64 t46), (47, .int .i64 t47), (60, .agg #[.int .i64 t59r0c0, .int .i64 t59r0c1, .int .u32 t59r0c2, .int .u32 t59r0c3, .int .u32 t59r0c4]), (61, .int .i64 t59r1)] 155 (s' := (.reg (opsAt (sub B [1, 1, 1, 1, 1, 1, 0, 1, 0, 0, 1, 1, 0, 0, 1, 1, 0])) [5, 6, 7] :: S11)) (by kernel_rfl) fun J => ?_
    obtain ⟨H_3, q12, h⟩ := h
    refine KR.mk (w := pRow [.int .i64 0, .int .i64 0, .int .u32 0, .int .u32 0, .int .u32 0]) (one_al (by kernel_rfl)) q12 ?_
    obtain ⟨H_4, q13, h⟩ := h
    refine KR.se (one_st (by kernel_rfl) q13) ?_
    refine KR.run 8 [(1, .int .i64 t1), (2, .int .i64 t2), (7, .pointer t7), (8, .pointer t8), (9, .slice t9a t9n t9k), (10, .int .i64 t47), (11, .slice t54r0a t54r0n t54r0k), (13, .pointer (some ⟨H_2.next, 0, none⟩)), (14, .int .i64 t59r1), (46, .int .i64 t46), (47, .int .i64 t47), (64, .bool (!(t54r1 == 0)))] 155 (s' := (.reg (opsAt (sub B [1, 1, 1, 1, 1, 1, 0, 1, 0, 0, 1, 1, 0, 0, 1, 1, 1, 0, 0])) [3, 4, 5, 6, 7, 8, 9, 10, 11, 12, 13, 14, 15, 16, 17, 18, 19, 20, 21, 22, 23, 24, 25] :: S13)) (by kernel_rfl) fun J => ?_
    by_cases c14 : t54r1 = 0
    · replace h := iteT c14 h
      refine KR.setV 64 (by kernel_rfl) (nB (eT c14)) ?_
      refine KR.run 4 [(1, .int .i64 t1), (2, .int .i64 t2), (7, .pointer t7), (8, .pointer t8), (9, .slice t9a t9n t9k), (10, .int .i64 t47), (11, .slice t54r0a t54r0n t54r0k), (13, .pointer (some ⟨H_2.next, 0, none⟩)), (46, .int .i64 t46), (47, .int .i64 t47), (68, .bool (!(t59r1 == 0)))] 155 (s' := (.reg (opsAt (sub B [1, 1, 1, 1, 1, 1, 0, 1, 0, 0, 1, 1, 0, 0, 1, 1, 1, 0, 0])) [7, 8, 9, 10, 11, 12, 13, 14, 15, 16, 17, 18, 19, 20, 21, 22, 23, 24, 25] :: S13)) (by kernel_rfl) fun J => ?_
      by_cases c15 : t59r1 = 0
      · replace h := iteT c15 h
        refine KR.setV 68 (by kernel_rfl) (nB (eT c15)) ?_
        refine KR.run 1 [(1, .int .i64 t1), (2, .int .i64 t2), (7, .pointer t7), (8, .pointer t8), (9, .slice t9a t9n t9k), (10, .int .i64 t47), (11, .slice t54r0a t54r0n t54r0k), (13, .pointer (some ⟨H_2.next, 0, none⟩)), (46, .int .i64 t46), (47, .int .i64 t47), (68, .bool false), (69, .pointer (some ⟨H_2.next, 3, none⟩))] 155 (s' := (.reg (opsAt (sub B [1, 1, 1, 1, 1, 1, 0, 1, 0, 0, 1, 1, 0, 0, 1, 1, 1, 0, 0])) [8, 9, 10, 11, 12, 13, 14, 15, 16, 17, 18, 19, 20, 21, 22, 23, 24, 25] :: S13)) (by kernel_rfl) fun J => ?_
        obtain ⟨t70, q16, h⟩ := h
        refine KR.rd (one_ld (by kernel_rfl) q16) ?_
        refine KR.run 6 [(1, .int .i64 t1), (2, .int .i64 t2), (7, .pointer t7), (8, .pointer t8), (9, .slice t9a t9n t9k), (10, .int .i64 t47), (11, .slice t54r0a t54r0n t54r0k), (13, .pointer (some ⟨H_2.next, 0, none⟩)), (46, .int .i64 t46), (47, .int .i64 t47), (76, .bool (!(t70 == (IntKind.wrap .u32 (IntKind.wrap .i64 (t47 + 1))))))] 155 (s' := (.reg (opsAt (sub B [1, 1, 1, 1, 1, 1, 0, 1, 0, 0, 1, 1, 0, 0, 1, 1, 1, 0, 0])) [15, 16, 17, 18, 19, 20, 21, 22, 23, 24, 25] :: S13)) (by kernel_rfl) fun J => ?_
        by_cases c17 : t70 = (IntKind.wrap .u32 (IntKind.wrap .i64 (t47 + 1)))
        · replace h := iteT c17 h
          refine KR.setV 76 (by kernel_rfl) (nB (eT c17)) ?_
          refine KR.run 1 [(1, .int .i64 t1), (2, .int .i64 t2), (7, .pointer t7), (8, .pointer t8), (9, .slice t9a t9n t9k), (10, .int .i64 t47), (11, .slice t54r0a t54r0n t54r0k), (13, .pointer (some ⟨H_2.next, 0, none⟩)), (46, .int .i64 t46), (47, .int .i64 t47), (76, .bool false), (77, .pointer (some ⟨H_2.next, 2, none⟩))] 155 (s' := (.reg (opsAt (sub B [1, 1, 1, 1, 1, 1, 0, 1, 0, 0, 1, 1, 0, 0, 1, 1, 1, 0, 0])) [16, 17, 18, 19, 20, 21, 22, 23, 24, 25] :: S13)) (by kernel_rfl) fun J => ?_
          obtain ⟨t78, q18, h⟩ := h
          refine KR.rd (one_ld (by kernel_rfl) q18) ?_
          refine KR.run 5 [(1, .int .i64 t1), (2, .int .i64 t2), (7, .pointer t7), (8, .pointer t8), (9, .slice t9a t9n t9k), (11, .slice t54r0a t54r0n t54r0k), (13, .pointer (some ⟨H_2.next, 0, none⟩)), (46, .int .i64 t46), (47, .int .i64 t47), (83, .bool (!(t78 == (IntKind.wrap .u32 t47))))] 155 (s' := (.reg (opsAt (sub B [1, 1, 1, 1, 1, 1, 0, 1, 0, 0, 1, 1, 0, 0, 1, 1, 1, 0, 0])) [22, 23, 24, 25] :: S13)) (by kernel_rfl) fun J => ?_
          by_cases c19 : t78 = (IntKind.wrap .u32 t47)
          · replace h := iteT c19 h
            refine KR.setV 83 (by kernel_rfl) (nB (eT c19)) ?_
            refine KR.run 1 [(1, .int .i64 t1), (2, .int .i64 t2), (7, .pointer t7), (8, .pointer t8), (9, .slice t9a t9n t9k), (11, .slice t54r0a t54r0n t54r0k), (46, .int .i64 t46), (47, .int .i64 t47), (83, .bool false), (84, .pointer (some ⟨H_2.next, 0, none⟩))] 155 (s' := (.reg (opsAt (sub B [1, 1, 1, 1, 1, 1, 0, 1, 0, 0, 1, 1, 0, 0, 1, 1, 1, 0, 0])) [23, 24, 25] :: S13)) (by kernel_rfl) fun J => ?_
            obtain ⟨t85, q20, h⟩ := h
            refine KR.rd (one_ld (by kernel_rfl) q20) ?_
            exact KR.run 3 [(1, .int .i64 t1), (2, .int .i64 t2), (7, .pointer t7), (8, .pointer t8), (9, .slice t9a t9n t9k), (11, .slice t54r0a t54r0n t54r0k), (46, .int .i64 t46), (47, .int .i64 t47), (87, .bool (!(t85 == 2)))] 155 (s' := (.code (sub B [1, 1, 1, 1, 1, 1, 0, 1, 0, 0, 1, 1, 0, 0, 1, 1, 1, 0, 1]) :: S12)) (by kernel_rfl) h
          · replace h := iteF c19 h
            refine KR.setV 83 (by kernel_rfl) (nB (eF c19)) ?_
            exact KR.run 5 [(1, .int .i64 t1), (2, .int .i64 t2), (7, .pointer t7), (8, .pointer t8), (9, .slice t9a t9n t9k), (11, .slice t54r0a t54r0n t54r0k), (46, .int .i64 t46), (47, .int .i64 t47), (87, .bool true)] 155 (s' := (.code (sub B [1, 1, 1, 1, 1, 1, 0, 1, 0, 0, 1, 1, 0, 0, 1, 1, 1, 0, 1]) :: S12)) (by kernel_rfl) h
        · replace h := iteF c17 h
          refine KR.setV 76 (by kernel_rfl) (nB (eF c17)) ?_
          exact KR.run 12 [(1, .int .i64 t1), (2, .int .i64 t2), (7, .pointer t7), (8, .pointer t8), (9, .slice t9a t9n t9k), (11, .slice t54r0a t54r0n t54r0k), (46, .int .i64 t46), (47, .int .i64 t47), (87, .bool true)] 155 (s' := (.code (sub B [1, 1, 1, 1, 1, 1, 0, 1, 0, 0, 1, 1, 0, 0, 1, 1, 1, 0, 1]) :: S12)) (by kernel_rfl) h
      · replace h := iteF c15 h
        refine KR.setV 68 (by kernel_rfl) (nB (eF c15)) ?_
        exact KR.run 20 [(1, .int .i64 t1), (2, .int .i64 t2), (7, .pointer t7), (8, .pointer t8), (9, .slice t9a t9n t9k), (11, .slice t54r0a t54r0n t54r0k), (46, .int .i64 t46), (47, .int .i64 t47), (87, .bool true)] 155 (s' := (.code (sub B [1, 1, 1, 1, 1, 1, 0, 1, 0, 0, 1, 1, 0, 0, 1, 1, 1, 0, 1]) :: S12)) (by kernel_rfl) h
    · replace h := iteF c14 h
      refine KR.setV 64 (by kernel_rfl) (nB (eF c14)) ?_
      exact KR.run 24 [(1, .int .i64 t1), (2, .int .i64 t2), (7, .pointer t7), (8, .pointer t8), (9, .slice t9a t9n t9k), (11, .slice t54r0a t54r0n t54r0k), (46, .int .i64 t46), (47, .int .i64 t47), (87, .bool true)] 155 (s' := (.code (sub B [1, 1, 1, 1, 1, 1, 0, 1, 0, 0, 1, 1, 0, 0, 1, 1, 1, 0, 1]) :: S12)) (by kernel_rfl) h
  · replace h := iteF c9 h
    refine KR.br false (by kernel_rfl) (vB (dF c9)) ?_
    obtain ⟨t9ab, t9ao, rfl, h⟩ := h
    refine KR.run 7 [(1, .int .i64 t1), (2, .int .i64 t2), (7, .pointer t7), (9, .slice (some ⟨t9ab, t9ao, none⟩) t9n t9k), (94, .pointer t7), (95, .slice (some ⟨t9ab, t9ao, none⟩) t9n t9k), (97, .int .i64 (IntKind.wrap .i64 (t1 - 1)))] 155 (s' := (.reg (opsAt (sub B [1, 1, 1, 1, 1, 1, 1, 0])) [4, 5, 6, 7, 8, 9, 10, 11, 12] :: S14)) (by kernel_rfl) fun J => ?_
    obtain ⟨q21, q21x, h⟩ := h
    refine KR.p (one_ix 1 t9ab t9ao (by kernel_rfl) q21 q21x) ?_
    obtain ⟨t99a, t99n, t99k, q22, h⟩ := h
    refine KR.rd (one_ld (by kernel_rfl) q22) ?_
    obtain ⟨t100r0c0, t100r0c1, t100r0c2, t100r0c3a, t100r0c3n, t100r0c3k, t100r0c4, t100r1, H_5, q23, h⟩ := h
    refine KR.se (one_ca (by kernel_rfl) q23) ?_
    refine KR.run 3 [(1, .int .i64 t1), (2, .int .i64 t2), (7, .pointer t7), (9, .slice (some ⟨t9ab, t9ao, none⟩) t9n t9k), (101, .agg #[.int .i64 t100r0c0, .int .i64 t100r0c1, .int .u32 t100r0c2, .slice t100r0c3a t100r0c3n t100r0c3k, .int .u32 t100r0c4]), (102, .int .i64 t100r1)] 155 (s' := (.reg (opsAt (sub B [1, 1, 1, 1, 1, 1, 1, 0])) [10, 11, 12] :: S14)) (by kernel_rfl) fun J => ?_
    obtain ⟨H_6, q24, h⟩ := h
    refine KR.mk (w := pRow [.int .i64 0, .int .i64 0, .int .u32 0, .slice none 0 0, .int .u32 0]) (one_al (by kernel_rfl)) q24 ?_
    obtain ⟨H_7, q25, h⟩ := h
    refine KR.se (one_st (by kernel_rfl) q25) ?_
    refine KR.run 7 [(1, .int .i64 t1), (7, .pointer t7), (15, .pointer (some ⟨H_5.next, 0, none⟩)), (16, .int .i64 t100r1), (104, .pointer t7), (105, .slice (some ⟨t9ab, t9ao, none⟩) t9n t9k), (106, .int .i64 t2)] 155 (s' := (.reg (opsAt (sub B [1, 1, 1, 1, 1, 1, 1, 1, 0])) [3, 4, 5, 6, 7, 8, 9, 10, 11] :: S15)) (by kernel_rfl) fun J => ?_
    obtain ⟨q26, q26x, h⟩ := h
    refine KR.p (one_ix 1 t9ab t9ao (by kernel_rfl) q26 q26x) ?_
    obtain ⟨t108a, t108n, t108k, q27, h⟩ := h
    refine KR.rd (one_ld (by kernel_rfl) q27) ?_
    obtain ⟨t109r0c0, t109r0c1, t109r0c2, t109r0c3a, t109r0c3n, t109r0c3k, t109r0c4, t109r1, H_8, q28, h⟩ := h
    refine KR.se (one_ca (by kernel_rfl) q28) ?_
    refine KR.run 3 [(1, .int .i64 t1), (7, .pointer t7), (15, .pointer (some ⟨H_5.next, 0, none⟩)), (16, .int .i64 t100r1), (110, .agg #[.int .i64 t109r0c0, .int .i64 t109r0c1, .int .u32 t109r0c2, .slice t109r0c3a t109r0c3n t109r0c3k, .int .u32 t109r0c4]), (111, .int .i64 t109r1)] 155 (s' := (.reg (opsAt (sub B [1, 1, 1, 1, 1, 1, 1, 1, 0])) [9, 10, 11] :: S15)) (by kernel_rfl) fun J => ?_
    obtain ⟨H_9, q29, h⟩ := h
    refine KR.mk (w := pRow [.int .i64 0, .int .i64 0, .int .u32 0, .slice none 0 0, .int .u32 0]) (one_al (by kernel_rfl)) q29 ?_
    obtain ⟨H_10, q30, h⟩ := h
    refine KR.se (one_st (by kernel_rfl) q30) ?_
    refine KR.run 5 [(1, .int .i64 t1), (7, .pointer t7), (15, .pointer (some ⟨H_5.next, 0, none⟩)), (16, .int .i64 t100r1), (18, .int .i64 t109r1), (113, .pointer t7)] 155 (s' := (.reg (opsAt (sub B [1, 1, 1, 1, 1, 1, 1, 1, 1, 0])) [1, 2, 3, 4, 5, 6] :: S16)) (by kernel_rfl) fun J => ?_
    obtain ⟨t114r0, t114r1, H_11, q31, h⟩ := h
    refine KR.se (one_ca (by kernel_rfl) q31) ?_
    refine KR.run 9 [(1, .int .i64 t1), (15, .pointer (some ⟨H_5.next, 0, none⟩)), (16, .int .i64 t100r1), (18, .int .i64 t109r1), (19, .int .u32 t114r0), (20, .bool t114r1), (118, .pointer t7)] 155 (s' := (.reg (opsAt (sub B [1, 1, 1, 1, 1, 1, 1, 1, 1, 1, 0])) [1, 2, 3, 4, 5, 6] :: S17)) (by kernel_rfl) fun J => ?_
    obtain ⟨t119r0, t119r1, H_12, q32, h⟩ := h
    refine KR.se (one_ca (by kernel_rfl) q32) ?_
    refine KR.run 11 [(1, .int .i64 t1), (15, .pointer (some ⟨H_5.next, 0, none⟩)), (18, .int .i64 t109r1), (19, .int .u32 t114r0), (20, .bool t114r1), (22, .bool t119r1), (124, .bool (t100r1 == 0))] 155 (s' := (.reg (opsAt (sub B [1, 1, 1, 1, 1, 1, 1, 1, 1, 1, 1, 0])) [3, 4, 5, 6, 7, 8, 9, 10, 11, 12, 13, 14, 15, 16, 17, 18, 19, 20, 21, 22, 23, 24, 25, 26, 27, 28, 29, 30, 31, 32, 33] :: S18)) (by kernel_rfl) fun J => ?_
    by_cases c33 : t100r1 = 0
    · replace h := iteT c33 h
      refine KR.setV 124 (by kernel_rfl) (eT c33) ?_
      refine KR.run 4 [(1, .int .i64 t1), (15, .pointer (some ⟨H_5.next, 0, none⟩)), (19, .int .u32 t114r0), (20, .bool t114r1), (22, .bool t119r1), (128, .bool (t109r1 == 8))] 155 (s' := (.reg (opsAt (sub B [1, 1, 1, 1, 1, 1, 1, 1, 1, 1, 1, 0])) [7, 8, 9, 10, 11, 12, 13, 14, 15, 16, 17, 18, 19, 20, 21, 22, 23, 24, 25, 26, 27, 28, 29, 30, 31, 32, 33] :: S18)) (by kernel_rfl) fun J => ?_
      by_cases c34 : t109r1 = 8
      · replace h := iteT c34 h
        refine KR.setV 128 (by kernel_rfl) (eT c34) ?_
        refine KR.run 1 [(1, .int .i64 t1), (15, .pointer (some ⟨H_5.next, 0, none⟩)), (19, .int .u32 t114r0), (20, .bool t114r1), (22, .bool t119r1), (128, .bool true), (129, .pointer (some ⟨H_5.next, 1, none⟩))] 155 (s' := (.reg (opsAt (sub B [1, 1, 1, 1, 1, 1, 1, 1, 1, 1, 1, 0])) [8, 9, 10, 11, 12, 13, 14, 15, 16, 17, 18, 19, 20, 21, 22, 23, 24, 25, 26, 27, 28, 29, 30, 31, 32, 33] :: S18)) (by kernel_rfl) fun J => ?_
        obtain ⟨t130, q35, h⟩ := h
        refine KR.rd (one_ld (by kernel_rfl) q35) ?_
        refine KR.run 3 [(1, .int .i64 t1), (15, .pointer (some ⟨H_5.next, 0, none⟩)), (19, .int .u32 t114r0), (20, .bool t114r1), (22, .bool t119r1), (133, .bool (t130 == 0))] 155 (s' := (.reg (opsAt (sub B [1, 1, 1, 1, 1, 1, 1, 1, 1, 1, 1, 0])) [12, 13, 14, 15, 16, 17, 18, 19, 20, 21, 22, 23, 24, 25, 26, 27, 28, 29, 30, 31, 32, 33] :: S18)) (by kernel_rfl) fun J => ?_
        by_cases c36 : t130 = 0
        · replace h := iteT c36 h
          refine KR.setV 133 (by kernel_rfl) (eT c36) ?_
          refine KR.run 1 [(1, .int .i64 t1), (19, .int .u32 t114r0), (20, .bool t114r1), (22, .bool t119r1), (133, .bool true), (134, .pointer (some ⟨H_5.next, 3, none⟩))] 155 (s' := (.reg (opsAt (sub B [1, 1, 1, 1, 1, 1, 1, 1, 1, 1, 1, 0])) [13, 14, 15, 16, 17, 18, 19, 20, 21, 22, 23, 24, 25, 26, 27, 28, 29, 30, 31, 32, 33] :: S18)) (by kernel_rfl) fun J => ?_
          obtain ⟨t135a, t135n, t135k, q37, h⟩ := h
          refine KR.rd (one_ld (by kernel_rfl) q37) ?_
          refine KR.run 4 [(1, .int .i64 t1), (19, .int .u32 t114r0), (20, .bool t114r1), (22, .bool t119r1), (139, .bool (((t135n : Nat) : Int) == 0))] 155 (s' := (.reg (opsAt (sub B [1, 1, 1, 1, 1, 1, 1, 1, 1, 1, 1, 0])) [18, 19, 20, 21, 22, 23, 24, 25, 26, 27, 28, 29, 30, 31, 32, 33] :: S18)) (by kernel_rfl) fun J => ?_
          by_cases c38 : ((t135n : Nat) : Int) = 0
          · replace h := iteT c38 h
            refine KR.setV 139 (by kernel_rfl) (eT c38) ?_
            refine KR.run 3 [(1, .int .i64 t1), (19, .int .u32 t114r0), (22, .bool t119r1), (142, .bool t114r1)] 155 (s' := (.reg (opsAt (sub B [1, 1, 1, 1, 1, 1, 1, 1, 1, 1, 1, 0])) [21, 22, 23, 24, 25, 26, 27, 28, 29, 30, 31, 32, 33] :: S18)) (by kernel_rfl) fun J => ?_
            by_cases c39 : t114r1 = true
            · replace h := iteT c39 h
              refine KR.setV 142 (by kernel_rfl) (bT c39) ?_
              refine KR.run 6 [(22, .bool t119r1), (148, .bool (t114r0 == (IntKind.wrap .u32 t1)))] 155 (s' := (.reg (opsAt (sub B [1, 1, 1, 1, 1, 1, 1, 1, 1, 1, 1, 0])) [27, 28, 29, 30, 31, 32, 33] :: S18)) (by kernel_rfl) fun J => ?_
              by_cases c40 : t114r0 = (IntKind.wrap .u32 t1)
              · replace h := iteT c40 h
                refine KR.setV 148 (by kernel_rfl) (eT c40) ?_
                refine KR.run 4 [(152, .bool (!t119r1))] 155 (s' := (.reg (opsAt (sub B [1, 1, 1, 1, 1, 1, 1, 1, 1, 1, 1, 0])) [31, 32, 33] :: S18)) (by kernel_rfl) fun J => ?_
                by_cases c41 : t119r1 = true
                · replace h := iteT c41 h
                  refine KR.setV 152 (by kernel_rfl) (nB (bT c41)) ?_
                  refine KR.run 4 [(6, .bool false)] 155 (s' := (.code (sub B [1, 1, 1, 1, 1, 1, 1, 1, 1, 1, 1, 1]) :: [])) (by kernel_rfl) fun J => ?_
                  exact KR.fin (by kernel_rfl) h
                · replace h := iteF c41 h
                  refine KR.setV 152 (by kernel_rfl) (nB (bF c41)) ?_
                  obtain ⟨t153, H_13, q42, h⟩ := h
                  refine KR.se (one_ca (by kernel_rfl) q42) ?_
                  refine KR.run 3 [(6, .bool t153)] 155 (s' := (.code (sub B [1, 1, 1, 1, 1, 1, 1, 1, 1, 1, 1, 1]) :: [])) (by kernel_rfl) fun J => ?_
                  exact KR.fin (by kernel_rfl) h
              · replace h := iteF c40 h
                refine KR.setV 148 (by kernel_rfl) (eF c40) ?_
                refine KR.run 8 [(6, .bool false)] 155 (s' := (.code (sub B [1, 1, 1, 1, 1, 1, 1, 1, 1, 1, 1, 1]) :: [])) (by kernel_rfl) fun J => ?_
                exact KR.fin (by kernel_rfl) h
            · replace h := iteF c39 h
              refine KR.setV 142 (by kernel_rfl) (bF c39) ?_
              refine KR.run 14 [(6, .bool false)] 155 (s' := (.code (sub B [1, 1, 1, 1, 1, 1, 1, 1, 1, 1, 1, 1]) :: [])) (by kernel_rfl) fun J => ?_
              exact KR.fin (by kernel_rfl) h
          · replace h := iteF c38 h
            refine KR.setV 139 (by kernel_rfl) (eF c38) ?_
            refine KR.run 17 [(6, .bool false)] 155 (s' := (.code (sub B [1, 1, 1, 1, 1, 1, 1, 1, 1, 1, 1, 1]) :: [])) (by kernel_rfl) fun J => ?_
            exact KR.fin (by kernel_rfl) h
        · replace h := iteF c36 h
          refine KR.setV 133 (by kernel_rfl) (eF c36) ?_
          refine KR.run 23 [(6, .bool false)] 155 (s' := (.code (sub B [1, 1, 1, 1, 1, 1, 1, 1, 1, 1, 1, 1]) :: [])) (by kernel_rfl) fun J => ?_
          exact KR.fin (by kernel_rfl) h
      · replace h := iteF c34 h
        refine KR.setV 128 (by kernel_rfl) (eF c34) ?_
        refine KR.run 28 [(6, .bool false)] 155 (s' := (.code (sub B [1, 1, 1, 1, 1, 1, 1, 1, 1, 1, 1, 1]) :: [])) (by kernel_rfl) fun J => ?_
        exact KR.fin (by kernel_rfl) h
    · replace h := iteF c33 h
      refine KR.setV 124 (by kernel_rfl) (eF c33) ?_
      refine KR.run 32 [(6, .bool false)] 155 (s' := (.code (sub B [1, 1, 1, 1, 1, 1, 1, 1, 1, 1, 1, 1]) :: [])) (by kernel_rfl) fun J => ?_
      exact KR.fin (by kernel_rfl) h
theorem L2_step {t1 : Int} {t2 : Int} {t7 : Option Addr} {t8 : Option Addr} {t9a : Option Addr} {t9n : Nat} {t9k : Nat} {t11a : Option Addr} {t11n : Nat} {t11k : Nat} {t46 : Int} {t47 : Int} {t87 : Bool} {H : Heap} {r : Value × Heap} (h :
    if t87 = true then
    (r = (.bool false, H))
    else
    (∃ (H_1 : Heap), H_1 = H.push (.row [.slice t11a t11n t11k] true) ∧
    (∃ (t91a : Option Addr) (t91n : Nat) (t91k : Nat) (H_2 : Heap), papp H_1 1 24 t9a t9n t9k (some ⟨H.next, 0, none⟩) 1 (UNK 1) = some ((t91a, t91n, t91k), H_2) ∧
    (L1 (t1) (t2) (t7) (t8) (t91a) (t91n) (t91k) (t46) ((IntKind.wrap .i64 (t47 + 1))) H_2 r)))) :
    L2 t1 t2 t7 t8 t9a t9n t9k t11a t11n t11k t46 t47 t87 H r := by
  intro J
  show KR _ _ _ (.code (sub B [1, 1, 1, 1, 1, 1, 0, 1, 0, 0, 1, 1, 0, 0, 1, 1, 1, 0, 1]) :: S12) _ _ _
  by_cases c43 : t87 = true
  · replace h := iteT c43 h
    refine KR.br true (by kernel_rfl) (vB (bT c43)) ?_
    refine KR.run 4 [(6, .bool false)] 155 (s' := (.code (sub B [1, 1, 1, 1, 1, 1, 0, 1, 0, 0, 1, 1, 0, 0, 1, 1, 1, 0, 1, 0, 1]) :: S12)) (by kernel_rfl) fun J => ?_
    exact KR.fin (by kernel_rfl) h
  · replace h := iteF c43 h
    refine KR.br false (by kernel_rfl) (vB (bF c43)) ?_
    refine KR.run 4 [(1, .int .i64 t1), (2, .int .i64 t2), (7, .pointer t7), (8, .pointer t8), (46, .int .i64 t46), (47, .int .i64 t47), (88, .slice t9a t9n t9k), (89, .slice t11a t11n t11k)] 155 (s' := (.reg (opsAt (sub B [1, 1, 1, 1, 1, 1, 0, 1, 0, 0, 1, 1, 0, 0, 1, 1, 1, 1])) [2, 3, 4] :: S9)) (by kernel_rfl) fun J => ?_
    obtain ⟨H_1, q44, h⟩ := h
    refine KR.mk (w := sRow 1 1 [.slice t11a t11n t11k]) (one_al (by kernel_rfl)) q44 ?_
    obtain ⟨t91a, t91n, t91k, H_2, q45, h⟩ := h
    refine KR.se (one_ap 1 24 (by kernel_rfl) q45) ?_
    exact KR.run 7 [(1, .int .i64 t1), (2, .int .i64 t2), (7, .pointer t7), (8, .pointer t8), (9, .slice t91a t91n t91k), (46, .int .i64 t46), (47, .int .i64 (IntKind.wrap .i64 (t47 + 1)))] 155 (s' := (.lp (sub B [1, 1, 1, 1, 1, 1, 0, 1, 0, 0]) :: S5)) (by kernel_rfl) h
theorem call {a0 : Int} {a1 : Int} {a2 : Int} {H : Heap} {r : Value × Heap} (h :
    (IntKind.wrap .u64 (IntKind.wrap .i64 ((IntKind.wrap .i64 (2 + (IntKind.wrap .i64 (Int.tmod (IntKind.wrap .u64 a1) 8)))) - 1))) ≠ 0 ∧
    (∃ (H_1 : Heap), H_1 = H.push (.row [.int .u64 1, .int .u64 2, .int .u64 a0] true) ∧
    (∃ (t37 : Option Addr) (H_2 : Heap), xC Try.prog good 19 [.slice (some ⟨H.next, 0, none⟩) 3 (UNK 1)] H_1 = some (.pointer t37, H_2) ∧
    (∃ (t39 : Option Addr) (H_3 : Heap), xC Try.prog good 20 [.int .i64 2, .int .u64 a0] H_2 = some (.pointer t39, H_3) ∧
    (if (Option.isNone t37) = true then
    (L0 ((IntKind.wrap .i64 (2 + (IntKind.wrap .i64 (Int.tmod (IntKind.wrap .u64 a1) 8))))) ((IntKind.wrap .i64 (Int.tmod (IntKind.wrap .u64 a2) (IntKind.wrap .u64 (IntKind.wrap .i64 ((IntKind.wrap .i64 (2 + (IntKind.wrap .i64 (Int.tmod (IntKind.wrap .u64 a1) 8)))) - 1)))))) (t37) (t39) (true) H_3 r)
    else
    (L0 ((IntKind.wrap .i64 (2 + (IntKind.wrap .i64 (Int.tmod (IntKind.wrap .u64 a1) 8))))) ((IntKind.wrap .i64 (Int.tmod (IntKind.wrap .u64 a2) (IntKind.wrap .u64 (IntKind.wrap .i64 ((IntKind.wrap .i64 (2 + (IntKind.wrap .i64 (Int.tmod (IntKind.wrap .u64 a1) 8)))) - 1)))))) (t37) (t39) ((Option.isNone t39)) H_3 r)))))) :
    xC Try.prog good 6 [.int .u64 a0, .int .i64 a1, .int .i64 a2] H = some r := by
  refine KR.enter (fn := Try.f6) (c := B) (by kernel_rfl) (by kernel_rfl) ?_
  refine KR.run 20 [(0, .int .u64 a0), (1, .int .i64 (IntKind.wrap .i64 (2 + (IntKind.wrap .i64 (Int.tmod (IntKind.wrap .u64 a1) 8))))), (29, .int .u64 (IntKind.wrap .u64 a2)), (32, .int .u64 (IntKind.wrap .u64 (IntKind.wrap .i64 ((IntKind.wrap .i64 (2 + (IntKind.wrap .i64 (Int.tmod (IntKind.wrap .u64 a1) 8)))) - 1))))] 155 (s' := (.reg (opsAt (sub B [1, 1, 0])) [5, 6, 7] :: S0)) (by kernel_rfl) fun J => ?_
  obtain ⟨q1, h⟩ := h
  refine KR.p (one_rem .u64 (IntKind.wrap .u64 a2) (by kernel_rfl) q1) ?_
  refine KR.run 6 [(0, .int .u64 a0), (1, .int .i64 (IntKind.wrap .i64 (2 + (IntKind.wrap .i64 (Int.tmod (IntKind.wrap .u64 a1) 8))))), (2, .int .i64 (IntKind.wrap .i64 (Int.tmod (IntKind.wrap .u64 a2) (IntKind.wrap .u64 (IntKind.wrap .i64 ((IntKind.wrap .i64 (2 + (IntKind.wrap .i64 (Int.tmod (IntKind.wrap .u64 a1) 8)))) - 1)))))), (35, .int .u64 a0)] 155 (s' := (.reg (opsAt (sub B [1, 1, 1, 0])) [1, 2, 3, 4, 5, 6] :: S1)) (by kernel_rfl) fun J => ?_
  obtain ⟨H_1, q2, h⟩ := h
  refine KR.mk (w := sRow 3 1 [.int .u64 1, .int .u64 2, .int .u64 a0]) (one_al (by kernel_rfl)) q2 ?_
  obtain ⟨t37, H_2, q3, h⟩ := h
  refine KR.se (one_ca (by kernel_rfl) q3) ?_
  refine KR.run 1 [(1, .int .i64 (IntKind.wrap .i64 (2 + (IntKind.wrap .i64 (Int.tmod (IntKind.wrap .u64 a1) 8))))), (2, .int .i64 (IntKind.wrap .i64 (Int.tmod (IntKind.wrap .u64 a2) (IntKind.wrap .u64 (IntKind.wrap .i64 ((IntKind.wrap .i64 (2 + (IntKind.wrap .i64 (Int.tmod (IntKind.wrap .u64 a1) 8)))) - 1)))))), (37, .pointer t37), (38, .int .u64 a0)] 155 (s' := (.reg (opsAt (sub B [1, 1, 1, 0])) [4, 5, 6] :: S1)) (by kernel_rfl) fun J => ?_
  obtain ⟨t39, H_3, q4, h⟩ := h
  refine KR.se (one_ca (by kernel_rfl) q4) ?_
  refine KR.run 7 [(1, .int .i64 (IntKind.wrap .i64 (2 + (IntKind.wrap .i64 (Int.tmod (IntKind.wrap .u64 a1) 8))))), (2, .int .i64 (IntKind.wrap .i64 (Int.tmod (IntKind.wrap .u64 a2) (IntKind.wrap .u64 (IntKind.wrap .i64 ((IntKind.wrap .i64 (2 + (IntKind.wrap .i64 (Int.tmod (IntKind.wrap .u64 a1) 8)))) - 1)))))), (7, .pointer t37), (8, .pointer t39), (40, .pointer t37)] 155 (s' := (.reg (opsAt (sub B [1, 1, 1, 1, 0, 0])) [1, 2, 3, 4, 5] :: S3)) (by kernel_rfl) fun J => ?_
  refine KR.p (one_nl false t37 (by kernel_rfl)) ?_
  refine KR.run 1 [(1, .int .i64 (IntKind.wrap .i64 (2 + (IntKind.wrap .i64 (Int.tmod (IntKind.wrap .u64 a1) 8))))), (2, .int .i64 (IntKind.wrap .i64 (Int.tmod (IntKind.wrap .u64 a2) (IntKind.wrap .u64 (IntKind.wrap .i64 ((IntKind.wrap .i64 (2 + (IntKind.wrap .i64 (Int.tmod (IntKind.wrap .u64 a1) 8)))) - 1)))))), (7, .pointer t37), (8, .pointer t39), (42, .bool (Option.isNone t37))] 155 (s' := (.reg (opsAt (sub B [1, 1, 1, 1, 0, 0])) [3, 4, 5] :: S3)) (by kernel_rfl) fun J => ?_
  by_cases c6 : (Option.isNone t37) = true
  · replace h := iteT c6 h
    refine KR.setV 42 (by kernel_rfl) (bT c6) ?_
    exact KR.run 4 [(1, .int .i64 (IntKind.wrap .i64 (2 + (IntKind.wrap .i64 (Int.tmod (IntKind.wrap .u64 a1) 8))))), (2, .int .i64 (IntKind.wrap .i64 (Int.tmod (IntKind.wrap .u64 a2) (IntKind.wrap .u64 (IntKind.wrap .i64 ((IntKind.wrap .i64 (2 + (IntKind.wrap .i64 (Int.tmod (IntKind.wrap .u64 a1) 8)))) - 1)))))), (7, .pointer t37), (8, .pointer t39), (45, .bool true)] 155 (s' := (.code (sub B [1, 1, 1, 1, 0, 1]) :: S2)) (by kernel_rfl) h
  · replace h := iteF c6 h
    refine KR.setV 42 (by kernel_rfl) (bF c6) ?_
    refine KR.run 1 [(1, .int .i64 (IntKind.wrap .i64 (2 + (IntKind.wrap .i64 (Int.tmod (IntKind.wrap .u64 a1) 8))))), (2, .int .i64 (IntKind.wrap .i64 (Int.tmod (IntKind.wrap .u64 a2) (IntKind.wrap .u64 (IntKind.wrap .i64 ((IntKind.wrap .i64 (2 + (IntKind.wrap .i64 (Int.tmod (IntKind.wrap .u64 a1) 8)))) - 1)))))), (7, .pointer t37), (8, .pointer t39), (42, .bool false), (43, .pointer t39)] 155 (s' := (.reg (opsAt (sub B [1, 1, 1, 1, 0, 0])) [4, 5] :: S3)) (by kernel_rfl) fun J => ?_
    refine KR.p (one_nl false t39 (by kernel_rfl)) ?_
    exact KR.run 2 [(1, .int .i64 (IntKind.wrap .i64 (2 + (IntKind.wrap .i64 (Int.tmod (IntKind.wrap .u64 a1) 8))))), (2, .int .i64 (IntKind.wrap .i64 (Int.tmod (IntKind.wrap .u64 a2) (IntKind.wrap .u64 (IntKind.wrap .i64 ((IntKind.wrap .i64 (2 + (IntKind.wrap .i64 (Int.tmod (IntKind.wrap .u64 a1) 8)))) - 1)))))), (7, .pointer t37), (8, .pointer t39), (45, .bool (Option.isNone t39))] 155 (s' := (.code (sub B [1, 1, 1, 1, 0, 1]) :: S2)) (by kernel_rfl) h
end F6
end Go.X
