/- The walks of the functions: printed. -/
import Derived.Test.YtbfjajoekcbodaaXzGe
set_option linter.unusedVariables false
set_option maxRecDepth 100000
namespace Go.X
open Go Go.RowKit Go.Proofs
/-! #### 7 campanile/campanilelaw7.FrameDecodes -/
namespace F7
noncomputable def B : Code := bodyOf Try.f7
noncomputable def S0 : List It := (.code (sub B [1]) :: [])
noncomputable def S1 : List It := (.code (sub B [1, 1]) :: [])
noncomputable def S4 : List It := (.code (sub B [1, 1, 1]) :: [])
noncomputable def S5 : List It := (.code (sub B [1, 1, 1, 1]) :: [])
noncomputable def S8 : List It := (.code (sub B [1, 1, 1, 1, 1]) :: [])
noncomputable def S25 : List It := (.code (sub B [1, 1, 1, 1, 1, 1]) :: [])
noncomputable def S2 : List It := (.code (sub B [1, 0, 1]) :: S1)
noncomputable def S3 : List It := (.code (sub B [1, 0, 1, 0, 1]) :: S1)
noncomputable def S6 : List It := (.code (sub B [1, 1, 1, 0, 1, 1, 0, 1]) :: S5)
noncomputable def S9 : List It := (.code (sub B [1, 1, 1, 1, 0, 1]) :: S8)
noncomputable def S15 : List It := (.code (sub B [1, 1, 1, 0, 1, 1, 0, 1, 1]) :: S5)
noncomputable def S16 : List It := (.blk 2 :: S8)
noncomputable def S7 : List It := (.blk 0 :: S6)
noncomputable def S17 : List It := (.lp (sub B [1, 1, 1, 1, 0, 1, 0, 0]) :: S16)
noncomputable def S26 : List It := (.reg (opsAt (sub B [1, 1, 1, 1, 0, 0])) [0, 1, 2, 3] :: S9)
noncomputable def S10 : List It := (.lp (sub B [1, 1, 1, 0, 1, 1, 0, 0, 1, 0, 0]) :: S7)
noncomputable def S18 : List It := (.code (sub B [1, 1, 1, 1, 0, 1, 0, 0, 1, 1]) :: S17)
noncomputable def S19 : List It := (.code (sub B [1, 1, 1, 1, 0, 1, 0, 0, 1, 1, 1]) :: S17)
noncomputable def S11 : List It := (.code (sub B [1, 1, 1, 0, 1, 1, 0, 0, 1, 0, 0, 1, 1]) :: S10)
noncomputable def S12 : List It := (.code (sub B [1, 1, 1, 0, 1, 1, 0, 0, 1, 0, 0, 1, 1, 1]) :: S10)
noncomputable def S20 : List It := (.blk 3 :: S19)
noncomputable def S13 : List It := (.blk 1 :: S12)
noncomputable def S21 : List It := (.code (sub B [1, 1, 1, 1, 0, 1, 0, 0, 1, 1, 0, 0, 1]) :: S20)
noncomputable def S22 : List It := (.code (sub B [1, 1, 1, 1, 0, 1, 0, 0, 1, 1, 0, 0, 1, 1]) :: S20)
noncomputable def S23 : List It := (.code (sub B [1, 1, 1, 1, 0, 1, 0, 0, 1, 1, 0, 0, 1, 1, 1]) :: S20)
noncomputable def S24 : List It := (.code (sub B [1, 1, 1, 1, 0, 1, 0, 0, 1, 1, 0, 0, 1, 1, 1, 1]) :: S20)
noncomputable def S14 : List It := (.code (sub B [1, 1, 1, 0, 1, 1, 0, 0, 1, 0, 0, 1, 1, 0, 0, 1]) :: S13)
def L0 (t1a : Option Addr) (t1n t1k : Nat) (t2 : Int) (t3 : Bool) (t4a : Option Addr) (t4n t4k : Nat) (t5 : Int) (t6a : Option Addr) (t6n t6k t7b t7o : Nat) (t38 : Bool) (H : Heap) (r : Value × Heap) : Prop := ∀ J, KR Try.prog good Try.f7 S2 (mat J 112 [(1, .slice t1a t1n t1k), (2, .int .u8 t2), (3, .bool t3), (4, .slice t4a t4n t4k), (5, .int .i64 t5), (6, .slice t6a t6n t6k), (7, .pointer (some ⟨t7b, t7o, none⟩)), (38, .bool t38)]) H r
def L1 (t2 : Int) (t3 : Bool) (t4a : Option Addr) (t4n t4k : Nat) (t5 : Int) (t6a : Option Addr) (t6n t6k : Nat) (t15a : Option Addr) (t15n t15k : Nat) (t17 : Int) (t49a : Option Addr) (t49n t49k : Nat) (t50 t51 : Int) (H : Heap) (r : Value × Heap) : Prop := ∀ J, KR Try.prog good Try.f7 S10 (mat J 112 [(2, .int .u8 t2), (3, .bool t3), (4, .slice t4a t4n t4k), (5, .int .i64 t5), (6, .slice t6a t6n t6k), (15, .slice t15a t15n t15k), (17, .int .i64 t17), (49, .slice t49a t49n t49k), (50, .int .i64 t50), (51, .int .i64 t51)]) H r
def L2 (t6a : Option Addr) (t6n t6k : Nat) (t15a : Option Addr) (t15n t15k : Nat) (H : Heap) (r : Value × Heap) : Prop := ∀ J, KR Try.prog good Try.f7 S26 (mat J 112 [(6, .slice t6a t6n t6k), (15, .slice t15a t15n t15k)]) H r
def L3 (t87c0a : Option Addr) (t87c0n t87c0k : Nat) (t87c1a : Option Addr) (t87c1n t87c1k : Nat) (t88 : Int) (H : Heap) (r : Value × Heap) : Prop := ∀ J, KR Try.prog good Try.f7 S17 (mat J 112 [(87, .agg #[.slice t87c0a t87c0n t87c0k, .slice t87c1a t87c1n t87c1k]), (88, .int .i64 t88)]) H r
def L4 (t87c0a : Option Addr) (t87c0n t87c0k : Nat) (t87c1a : Option Addr) (t87c1n t87c1k : Nat) (t88 : Int) (t109 : Bool) (H : Heap) (r : Value × Heap) : Prop := ∀ J, KR Try.prog good Try.f7 S24 (mat J 112 [(87, .agg #[.slice t87c0a t87c0n t87c0k, .slice t87c1a t87c1n t87c1k]), (88, .int .i64 t88), (109, .bool t109)]) H r
theorem L0_step {t1a : Option Addr} {t1n t1k : Nat} {t2 : Int} {t3 : Bool} {t4a : Option Addr} {t4n t4k : Nat} {t5 : Int} {t6a : Option Addr} {t6n t6k t7b t7o : Nat} {t38 : Bool} {H : Heap} {r : Value × Heap} (h :
    if t38 = true then
    (∃ (t39 : Bool) (H_1 : Heap), xC Try.prog good 27 [] H = some (.bool t39, H_1) ∧
    (r = (.bool t39, H_1)))
    else
    (∃ (t41c0 t41c1 t41c2 t41c3 : Int) (t41c4a : Option Addr) (t41c4n t41c4k : Nat) (t41c5a : Option Addr) (t41c5n t41c5k : Nat), ldAll H t7b t7o [.int .i64 t41c0, .int .i64 t41c1, .int .i64 t41c2, .int .i64 t41c3, .slice t41c4a t41c4n t41c4k, .slice t41c5a t41c5n t41c5k] ∧
    (∃ (t42r0a : Option Addr) (t42r0n t42r0k : Nat) (t42r1 : Int) (H_2 : Heap), xC Try.prog good 28 [.agg #[.int .i64 t41c0, .int .i64 t41c1, .int .i64 t41c2, .int .i64 t41c3, .slice t41c4a t41c4n t41c4k, .slice t41c5a t41c5n t41c5k]] H = some (.tuple #[.slice t42r0a t42r0n t42r0k, .int .i64 t42r1], H_2) ∧
    (if (t42r0n : Int) > 0 then
    (L1 t2 t3 t4a t4n t4k t5 t6a t6n t6k t42r0a t42r0n t42r0k ((t42r0n : Int)) t1a t1n t1k ((t1n : Int)) 0 H_2 r)
    else
    (L2 t6a t6n t6k t42r0a t42r0n t42r0k H_2 r))))) :
    L0 t1a t1n t1k t2 t3 t4a t4n t4k t5 t6a t6n t6k t7b t7o t38 H r := by
  intro J
  show KR _ _ _ (.code (sub B [1, 0, 1]) :: S1) _ _ _
  by_cases c6 : t38 = true
  · replace h := iteT c6 h
    refine KR.bb true (vB (bT c6)) ?_
    refine KR.go 2 [] 112 (s' := (.reg (opsAt (sub B [1, 0, 1, 0, 0])) [0, 1] :: S3)) fun J => ?_
    obtain ⟨t39, H_1, q7, h⟩ := h
    refine KR.se (one_ca (by kernel_rfl) q7) ?_
    refine KR.go 2 [(14, .bool t39)] 112 (s' := (.code (sub B [1, 0, 1, 0, 1]) :: S1)) fun J => ?_
    exact KR.fi h
  · replace h := iteF c6 h
    refine KR.bb false (vB (bF c6)) ?_
    refine KR.go 3 [(1, .slice t1a t1n t1k), (2, .int .u8 t2), (3, .bool t3), (4, .slice t4a t4n t4k), (5, .int .i64 t5), (6, .slice t6a t6n t6k), (7, .pointer (some ⟨t7b, t7o, none⟩))] 112 (s' := (.reg (opsAt (sub B [1, 1, 0])) [0, 1, 2, 3, 4, 5, 6] :: S4)) fun J => ?_
    obtain ⟨t41c0, t41c1, t41c2, t41c3, t41c4a, t41c4n, t41c4k, t41c5a, t41c5n, t41c5k, q8, h⟩ := h
    refine KR.rd (one_ldA (by kernel_rfl) q8) ?_
    obtain ⟨t42r0a, t42r0n, t42r0k, t42r1, H_2, q9, h⟩ := h
    refine KR.se (one_ca (by kernel_rfl) q9) ?_
    refine KR.go 18 [(1, .slice t1a t1n t1k), (2, .int .u8 t2), (3, .bool t3), (4, .slice t4a t4n t4k), (5, .int .i64 t5), (6, .slice t6a t6n t6k), (15, .slice t42r0a t42r0n t42r0k), (17, .int .i64 (t42r0n : Int)), (48, .bool (decide ((t42r0n : Int) > 0)))] 112 (s' := (.code (sub B [1, 1, 1, 0, 1, 1]) :: S5)) fun J => ?_
    by_cases c10 : (t42r0n : Int) > 0
    · replace h := iteT c10 h
      refine KR.bb true (vB (dT c10)) ?_
      exact KR.go 9 [(2, .int .u8 t2), (3, .bool t3), (4, .slice t4a t4n t4k), (5, .int .i64 t5), (6, .slice t6a t6n t6k), (15, .slice t42r0a t42r0n t42r0k), (17, .int .i64 (t42r0n : Int)), (49, .slice t1a t1n t1k), (50, .int .i64 (t1n : Int)), (51, .int .i64 0)] 112 (s' := (.lp (sub B [1, 1, 1, 0, 1, 1, 0, 0, 1, 0, 0]) :: S7)) h
    · replace h := iteF c10 h
      refine KR.bb false (vB (dF c10)) ?_
      exact KR.go 4 [(6, .slice t6a t6n t6k), (15, .slice t42r0a t42r0n t42r0k)] 112 (s' := (.reg (opsAt (sub B [1, 1, 1, 1, 0, 0])) [0, 1, 2, 3] :: S9)) h
theorem L1_step {t2 : Int} {t3 : Bool} {t4a : Option Addr} {t4n t4k : Nat} {t5 : Int} {t6a : Option Addr} {t6n t6k : Nat} {t15a : Option Addr} {t15n t15k : Nat} {t17 : Int} {t49a : Option Addr} {t49n t49k : Nat} {t50 t51 : Int} {H : Heap} {r : Value × Heap} (h :
    if t51 < t50 then
    (∃ (t49ab t49ao : Nat), t49a = some ⟨t49ab, t49ao, none⟩ ∧
    ((0 : Int) ≤ t51 ∧ t51 < (t49n : Int) ∧
    (∃ (t55 : Int), ldc H t49ab (t49ao + Int.toNat t51 * 1) = some (.int .i64 t55) ∧
    (if t51 < 3 then
    ((IntKind.wrap .u64 t17) ≠ 0 ∧
    (∃ (t15ab t15ao : Nat), t15a = some ⟨t15ab, t15ao, none⟩ ∧
    ((0 : Int) ≤ (IntKind.wrap .i64 (Int.tmod (IntKind.wrap .u64 t55) (IntKind.wrap .u64 t17))) ∧ (IntKind.wrap .i64 (Int.tmod (IntKind.wrap .u64 t55) (IntKind.wrap .u64 t17))) < (t15n : Int) ∧
    (∃ (t66 : Int), ldc H t15ab (t15ao + Int.toNat (IntKind.wrap .i64 (Int.tmod (IntKind.wrap .u64 t55) (IntKind.wrap .u64 t17))) * 1) = some (.int .u8 t66) ∧
    ((0 : Int) ≤ (IntKind.wrap .i64 (Int.tmod (IntKind.wrap .u64 t55) (IntKind.wrap .u64 t17))) ∧ (IntKind.wrap .i64 (Int.tmod (IntKind.wrap .u64 t55) (IntKind.wrap .u64 t17))) < (t15n : Int) ∧
    (∃ (H_1 : Heap), stc H t15ab (t15ao + Int.toNat (IntKind.wrap .i64 (Int.tmod (IntKind.wrap .u64 t55) (IntKind.wrap .u64 t17))) * 1) [.int .u8 (ixor .u8 t66 t2)] = some H_1 ∧
    (L1 t2 t3 t4a t4n t4k t5 t6a t6n t6k ((some ⟨t15ab, t15ao, none⟩)) t15n t15k t17 ((some ⟨t49ab, t49ao, none⟩)) t49n t49k t50 ((IntKind.wrap .i64 (t51 + 1))) H_1 r)))))))
    else
    (L1 t2 t3 t4a t4n t4k t5 t6a t6n t6k t15a t15n t15k t17 ((some ⟨t49ab, t49ao, none⟩)) t49n t49k t50 ((IntKind.wrap .i64 (t51 + 1))) H r)))))
    else
    (∃ (t79a : Option Addr) (t79n t79k : Nat), psl 1 t15a t15n t15k none (some (IntKind.wrap .i64 ((IntKind.wrap .i64 (t17 - 2)) - (IntKind.wrap .i64 (Int.tmod (IntKind.wrap .u64 t5) 3))))) none = some (t79a, t79n, t79k) ∧
    (∃ (t81a : Option Addr) (t81n t81k : Nat) (H_2 : Heap), papp H 1 1 t79a t79n t79k t4a t4n t4k = some ((t81a, t81n, t81k), H_2) ∧
    (if t3 = true then
    (∃ (t84a : Option Addr) (t84n t84k : Nat) (H_3 : Heap), xC Try.prog good 29 [.slice t81a t81n t81k] H_2 = some (.slice t84a t84n t84k, H_3) ∧
    (L2 t6a t6n t6k t84a t84n t84k H_3 r))
    else
    (L2 t6a t6n t6k t81a t81n t81k H_2 r))))) :
    L1 t2 t3 t4a t4n t4k t5 t6a t6n t6k t15a t15n t15k t17 t49a t49n t49k t50 t51 H r := by
  intro J
  show KR _ _ _ (.lp (sub B [1, 1, 1, 0, 1, 1, 0, 0, 1, 0, 0]) :: S7) _ _ _
  refine KR.go 6 [(2, .int .u8 t2), (3, .bool t3), (4, .slice t4a t4n t4k), (5, .int .i64 t5), (6, .slice t6a t6n t6k), (15, .slice t15a t15n t15k), (17, .int .i64 t17), (49, .slice t49a t49n t49k), (50, .int .i64 t50), (51, .int .i64 t51), (52, .bool (decide (t51 < t50)))] 112 (s' := (.code (sub B [1, 1, 1, 0, 1, 1, 0, 0, 1, 0, 0, 1, 0]) :: S11)) fun J => ?_
  by_cases c11 : t51 < t50
  · replace h := iteT c11 h
    refine KR.bb true (vB (dT c11)) ?_
    obtain ⟨t49ab, t49ao, rfl, h⟩ := h
    refine KR.go 6 [(2, .int .u8 t2), (3, .bool t3), (4, .slice t4a t4n t4k), (5, .int .i64 t5), (6, .slice t6a t6n t6k), (15, .slice t15a t15n t15k), (17, .int .i64 t17), (49, .slice (some ⟨t49ab, t49ao, none⟩) t49n t49k), (50, .int .i64 t50), (51, .int .i64 t51), (53, .int .i64 t51)] 112 (s' := (.reg (opsAt (sub B [1, 1, 1, 0, 1, 1, 0, 0, 1, 0, 0, 1, 1, 0, 0, 0])) [1, 2, 3, 4] :: S14)) fun J => ?_
    obtain ⟨q12, q12x, h⟩ := h
    refine KR.p (one_ix 1 t49ab t49ao (by kernel_rfl) q12 q12x) ?_
    obtain ⟨t55, q13, h⟩ := h
    refine KR.rd (one_ld (by kernel_rfl) q13) ?_
    refine KR.go 8 [(2, .int .u8 t2), (3, .bool t3), (4, .slice t4a t4n t4k), (5, .int .i64 t5), (6, .slice t6a t6n t6k), (15, .slice t15a t15n t15k), (17, .int .i64 t17), (19, .int .i64 t55), (49, .slice (some ⟨t49ab, t49ao, none⟩) t49n t49k), (50, .int .i64 t50), (51, .int .i64 t51), (57, .bool (decide (t51 < 3)))] 112 (s' := (.code (sub B [1, 1, 1, 0, 1, 1, 0, 0, 1, 0, 0, 1, 1, 0, 0, 1, 1]) :: S13)) fun J => ?_
    by_cases c14 : t51 < 3
    · replace h := iteT c14 h
      refine KR.bb true (vB (dT c14)) ?_
      refine KR.go 6 [(2, .int .u8 t2), (3, .bool t3), (4, .slice t4a t4n t4k), (5, .int .i64 t5), (6, .slice t6a t6n t6k), (15, .slice t15a t15n t15k), (17, .int .i64 t17), (49, .slice (some ⟨t49ab, t49ao, none⟩) t49n t49k), (50, .int .i64 t50), (51, .int .i64 t51), (58, .slice t15a t15n t15k), (60, .int .u64 (IntKind.wrap .u64 t55)), (62, .int .u64 (IntKind.wrap .u64 t17))] 112 (s' := (.reg (opsAt (sub B [1, 1, 1, 0, 1, 1, 0, 0, 1, 0, 0, 1, 1, 0, 0, 1, 1, 0])) [5, 6, 7, 8, 9, 10, 11, 12] :: S13)) fun J => ?_
      obtain ⟨q15, h⟩ := h
      refine KR.p (one_rem .u64 (IntKind.wrap .u64 t55) (by kernel_rfl) q15) ?_
      obtain ⟨t15ab, t15ao, rfl, h⟩ := h
      refine KR.go 1 [(2, .int .u8 t2), (3, .bool t3), (4, .slice t4a t4n t4k), (5, .int .i64 t5), (6, .slice t6a t6n t6k), (15, .slice (some ⟨t15ab, t15ao, none⟩) t15n t15k), (17, .int .i64 t17), (49, .slice (some ⟨t49ab, t49ao, none⟩) t49n t49k), (50, .int .i64 t50), (51, .int .i64 t51), (58, .slice (some ⟨t15ab, t15ao, none⟩) t15n t15k), (64, .int .i64 (IntKind.wrap .i64 (Int.tmod (IntKind.wrap .u64 t55) (IntKind.wrap .u64 t17))))] 112 (s' := (.reg (opsAt (sub B [1, 1, 1, 0, 1, 1, 0, 0, 1, 0, 0, 1, 1, 0, 0, 1, 1, 0])) [7, 8, 9, 10, 11, 12] :: S13)) fun J => ?_
      obtain ⟨q16, q16x, h⟩ := h
      refine KR.p (one_ix 1 t15ab t15ao (by kernel_rfl) q16 q16x) ?_
      obtain ⟨t66, q17, h⟩ := h
      refine KR.rd (one_ld (by kernel_rfl) q17) ?_
      refine KR.go 2 [(2, .int .u8 t2), (3, .bool t3), (4, .slice t4a t4n t4k), (5, .int .i64 t5), (6, .slice t6a t6n t6k), (15, .slice (some ⟨t15ab, t15ao, none⟩) t15n t15k), (17, .int .i64 t17), (49, .slice (some ⟨t49ab, t49ao, none⟩) t49n t49k), (50, .int .i64 t50), (51, .int .i64 t51), (58, .slice (some ⟨t15ab, t15ao, none⟩) t15n t15k), (64, .int .i64 (IntKind.wrap .i64 (Int.tmod (IntKind.wrap .u64 t55) (IntKind.wrap .u64 t17)))), (68, .int .u8 (ixor .u8 t66 t2))] 112 (s' := (.reg (opsAt (sub B [1, 1, 1, 0, 1, 1, 0, 0, 1, 0, 0, 1, 1, 0, 0, 1, 1, 0])) [11, 12] :: S13)) fun J => ?_
      obtain ⟨q18, q18x, h⟩ := h
      refine KR.p (one_ix 1 t15ab t15ao (by kernel_rfl) q18 q18x) ?_
      obtain ⟨H_1, q19, h⟩ := h
      refine KR.se (one_st (by kernel_rfl) q19) ?_
      exact KR.go 6 [(2, .int .u8 t2), (3, .bool t3), (4, .slice t4a t4n t4k), (5, .int .i64 t5), (6, .slice t6a t6n t6k), (15, .slice (some ⟨t15ab, t15ao, none⟩) t15n t15k), (17, .int .i64 t17), (49, .slice (some ⟨t49ab, t49ao, none⟩) t49n t49k), (50, .int .i64 t50), (51, .int .i64 (IntKind.wrap .i64 (t51 + 1)))] 112 (s' := (.lp (sub B [1, 1, 1, 0, 1, 1, 0, 0, 1, 0, 0]) :: S7)) h
    · replace h := iteF c14 h
      refine KR.bb false (vB (dF c14)) ?_
      exact KR.go 6 [(2, .int .u8 t2), (3, .bool t3), (4, .slice t4a t4n t4k), (5, .int .i64 t5), (6, .slice t6a t6n t6k), (15, .slice t15a t15n t15k), (17, .int .i64 t17), (49, .slice (some ⟨t49ab, t49ao, none⟩) t49n t49k), (50, .int .i64 t50), (51, .int .i64 (IntKind.wrap .i64 (t51 + 1)))] 112 (s' := (.lp (sub B [1, 1, 1, 0, 1, 1, 0, 0, 1, 0, 0]) :: S7)) h
  · replace h := iteF c11 h
    refine KR.bb false (vB (dF c11)) ?_
    refine KR.go 11 [(3, .bool t3), (4, .slice t4a t4n t4k), (6, .slice t6a t6n t6k), (71, .slice t15a t15n t15k), (78, .int .i64 (IntKind.wrap .i64 ((IntKind.wrap .i64 (t17 - 2)) - (IntKind.wrap .i64 (Int.tmod (IntKind.wrap .u64 t5) 3)))))] 112 (s' := (.reg (opsAt (sub B [1, 1, 1, 0, 1, 1, 0, 1, 0])) [8, 9, 10, 11] :: S15)) fun J => ?_
    obtain ⟨t79a, t79n, t79k, q20, h⟩ := h
    refine KR.p (one_sl (by kernel_rfl) q20) ?_
    refine KR.go 1 [(3, .bool t3), (6, .slice t6a t6n t6k), (79, .slice t79a t79n t79k), (80, .slice t4a t4n t4k)] 112 (s' := (.reg (opsAt (sub B [1, 1, 1, 0, 1, 1, 0, 1, 0])) [10, 11] :: S15)) fun J => ?_
    obtain ⟨t81a, t81n, t81k, H_2, q21, h⟩ := h
    refine KR.se (one_ap 1 1 (by kernel_rfl) q21) ?_
    refine KR.go 6 [(6, .slice t6a t6n t6k), (15, .slice t81a t81n t81k), (82, .bool t3)] 112 (s' := (.code (sub B [1, 1, 1, 0, 1, 1, 0, 1, 1, 1]) :: S5)) fun J => ?_
    by_cases c22 : t3 = true
    · replace h := iteT c22 h
      refine KR.bb true (vB (bT c22)) ?_
      refine KR.go 2 [(6, .slice t6a t6n t6k), (83, .slice t81a t81n t81k)] 112 (s' := (.reg (opsAt (sub B [1, 1, 1, 0, 1, 1, 0, 1, 1, 1, 0])) [1, 2] :: S5)) fun J => ?_
      obtain ⟨t84a, t84n, t84k, H_3, q23, h⟩ := h
      refine KR.se (one_ca (by kernel_rfl) q23) ?_
      exact KR.go 5 [(6, .slice t6a t6n t6k), (15, .slice t84a t84n t84k)] 112 (s' := (.reg (opsAt (sub B [1, 1, 1, 1, 0, 0])) [0, 1, 2, 3] :: S9)) h
    · replace h := iteF c22 h
      refine KR.bb false (vB (bF c22)) ?_
      exact KR.go 4 [(6, .slice t6a t6n t6k), (15, .slice t81a t81n t81k)] 112 (s' := (.reg (opsAt (sub B [1, 1, 1, 1, 0, 0])) [0, 1, 2, 3] :: S9)) h
theorem L2_step {t6a : Option Addr} {t6n t6k : Nat} {t15a : Option Addr} {t15n t15k : Nat} {H : Heap} {r : Value × Heap} (h :
    L3 t15a t15n t15k t6a t6n t6k 0 H r) :
    L2 t6a t6n t6k t15a t15n t15k H r := by
  intro J
  show KR _ _ _ (.reg (opsAt (sub B [1, 1, 1, 1, 0, 0])) [0, 1, 2, 3] :: S9) _ _ _
  exact KR.go 7 [(87, .agg #[.slice t15a t15n t15k, .slice t6a t6n t6k]), (88, .int .i64 0)] 112 (s' := (.lp (sub B [1, 1, 1, 1, 0, 1, 0, 0]) :: S16)) h
theorem L3_step {t87c0a : Option Addr} {t87c0n t87c0k : Nat} {t87c1a : Option Addr} {t87c1n t87c1k : Nat} {t88 : Int} {H : Heap} {r : Value × Heap} (h :
    if t88 < 2 then
    (∃ (t90a : Option Addr) (t90n t90k : Nat), pag [.slice t87c0a t87c0n t87c0k, .slice t87c1a t87c1n t87c1k] t88 = some (.slice t90a t90n t90k) ∧
    (∃ (t93r0c0 t93r0c1 t93r0c2 t93r0c3 : Int) (t93r0c4a : Option Addr) (t93r0c4n t93r0c4k : Nat) (t93r0c5a : Option Addr) (t93r0c5n t93r0c5k : Nat) (t93r1 : Int) (H_1 : Heap), xC Try.prog good 30 [.slice t90a t90n t90k] H = some (.tuple #[.agg #[.int .i64 t93r0c0, .int .i64 t93r0c1, .int .i64 t93r0c2, .int .i64 t93r0c3, .slice t93r0c4a t93r0c4n t93r0c4k, .slice t93r0c5a t93r0c5n t93r0c5k], .int .i64 t93r1], H_1) ∧
    (∃ (H_2 : Heap), H_2 = H_1.push (.row [.int .i64 0, .int .i64 0, .int .i64 0, .int .i64 0, .slice none 0 0, .slice none 0 0] true) ∧
    (∃ (H_3 : Heap), stc H_2 H_1.next 0 [.int .i64 t93r0c0, .int .i64 t93r0c1, .int .i64 t93r0c2, .int .i64 t93r0c3, .slice t93r0c4a t93r0c4n t93r0c4k, .slice t93r0c5a t93r0c5n t93r0c5k] = some H_3 ∧
    (∃ (t98r0c0 t98r0c1 t98r0c2 t98r0c3 : Int) (t98r0c4a : Option Addr) (t98r0c4n t98r0c4k : Nat) (t98r0c5a : Option Addr) (t98r0c5n t98r0c5k : Nat) (t98r1 : Int) (H_4 : Heap), xC Try.prog good 31 [.slice t90a t90n t90k] H_3 = some (.tuple #[.agg #[.int .i64 t98r0c0, .int .i64 t98r0c1, .int .i64 t98r0c2, .int .i64 t98r0c3, .slice t98r0c4a t98r0c4n t98r0c4k, .slice t98r0c5a t98r0c5n t98r0c5k], .int .i64 t98r1], H_4) ∧
    (∃ (H_5 : Heap), H_5 = H_4.push (.row [.int .i64 0, .int .i64 0, .int .i64 0, .int .i64 0, .slice none 0 0, .slice none 0 0] true) ∧
    (∃ (H_6 : Heap), stc H_5 H_4.next 0 [.int .i64 t98r0c0, .int .i64 t98r0c1, .int .i64 t98r0c2, .int .i64 t98r0c3, .slice t98r0c4a t98r0c4n t98r0c4k, .slice t98r0c5a t98r0c5n t98r0c5k] = some H_6 ∧
    (∃ (t101c0 t101c1 t101c2 t101c3 : Int) (t101c4a : Option Addr) (t101c4n t101c4k : Nat) (t101c5a : Option Addr) (t101c5n t101c5k : Nat), ldAll H_6 H_1.next 0 [.int .i64 t101c0, .int .i64 t101c1, .int .i64 t101c2, .int .i64 t101c3, .slice t101c4a t101c4n t101c4k, .slice t101c5a t101c5n t101c5k] ∧
    (∃ (t102c0 t102c1 t102c2 t102c3 : Int) (t102c4a : Option Addr) (t102c4n t102c4k : Nat) (t102c5a : Option Addr) (t102c5n t102c5k : Nat), ldAll H_6 H_4.next 0 [.int .i64 t102c0, .int .i64 t102c1, .int .i64 t102c2, .int .i64 t102c3, .slice t102c4a t102c4n t102c4k, .slice t102c5a t102c5n t102c5k] ∧
    (∃ (t103 : Bool) (H_7 : Heap), xC Try.prog good 32 [.agg #[.int .i64 t101c0, .int .i64 t101c1, .int .i64 t101c2, .int .i64 t101c3, .slice t101c4a t101c4n t101c4k, .slice t101c5a t101c5n t101c5k], .agg #[.int .i64 t102c0, .int .i64 t102c1, .int .i64 t102c2, .int .i64 t102c3, .slice t102c4a t102c4n t102c4k, .slice t102c5a t102c5n t102c5k]] H_6 = some (.bool t103, H_7) ∧
    (if t103 = true then
    (L4 t87c0a t87c0n t87c0k t87c1a t87c1n t87c1k t88 ((!(t93r1 == t98r1))) H_7 r)
    else
    (L4 t87c0a t87c0n t87c0k t87c1a t87c1n t87c1k t88 true H_7 r))))))))))))
    else
    (∃ (t111 : Bool) (H_8 : Heap), xC Try.prog good 27 [] H = some (.bool t111, H_8) ∧
    (r = (.bool t111, H_8)))) :
    L3 t87c0a t87c0n t87c0k t87c1a t87c1n t87c1k t88 H r := by
  intro J
  show KR _ _ _ (.lp (sub B [1, 1, 1, 1, 0, 1, 0, 0]) :: S16) _ _ _
  refine KR.go 6 [(87, .agg #[.slice t87c0a t87c0n t87c0k, .slice t87c1a t87c1n t87c1k]), (88, .int .i64 t88), (89, .bool (decide (t88 < 2)))] 112 (s' := (.code (sub B [1, 1, 1, 1, 0, 1, 0, 0, 1, 0]) :: S18)) fun J => ?_
  by_cases c24 : t88 < 2
  · replace h := iteT c24 h
    refine KR.bb true (vB (dT c24)) ?_
    refine KR.go 5 [(87, .agg #[.slice t87c0a t87c0n t87c0k, .slice t87c1a t87c1n t87c1k]), (88, .int .i64 t88)] 112 (s' := (.reg (opsAt (sub B [1, 1, 1, 1, 0, 1, 0, 0, 1, 1, 0, 0, 0])) [0, 1] :: S21)) fun J => ?_
    obtain ⟨t90a, t90n, t90k, q25, h⟩ := h
    refine KR.p (one_ag (by kernel_rfl) q25) ?_
    refine KR.go 5 [(21, .slice t90a t90n t90k), (87, .agg #[.slice t87c0a t87c0n t87c0k, .slice t87c1a t87c1n t87c1k]), (88, .int .i64 t88), (92, .slice t90a t90n t90k)] 112 (s' := (.reg (opsAt (sub B [1, 1, 1, 1, 0, 1, 0, 0, 1, 1, 0, 0, 1, 0])) [1, 2, 3, 4, 5, 6, 7] :: S22)) fun J => ?_
    obtain ⟨t93r0c0, t93r0c1, t93r0c2, t93r0c3, t93r0c4a, t93r0c4n, t93r0c4k, t93r0c5a, t93r0c5n, t93r0c5k, t93r1, H_1, q26, h⟩ := h
    refine KR.se (one_ca (by kernel_rfl) q26) ?_
    refine KR.go 3 [(21, .slice t90a t90n t90k), (87, .agg #[.slice t87c0a t87c0n t87c0k, .slice t87c1a t87c1n t87c1k]), (88, .int .i64 t88), (94, .agg #[.int .i64 t93r0c0, .int .i64 t93r0c1, .int .i64 t93r0c2, .int .i64 t93r0c3, .slice t93r0c4a t93r0c4n t93r0c4k, .slice t93r0c5a t93r0c5n t93r0c5k]), (95, .int .i64 t93r1)] 112 (s' := (.reg (opsAt (sub B [1, 1, 1, 1, 0, 1, 0, 0, 1, 1, 0, 0, 1, 0])) [5, 6, 7] :: S22)) fun J => ?_
    obtain ⟨H_2, q27, h⟩ := h
    refine KR.mk (w := pRow [.int .i64 0, .int .i64 0, .int .i64 0, .int .i64 0, .slice none 0 0, .slice none 0 0]) (one_al (by kernel_rfl)) q27 ?_
    obtain ⟨H_3, q28, h⟩ := h
    refine KR.se (one_st (by kernel_rfl) q28) ?_
    refine KR.go 5 [(22, .pointer (some ⟨H_1.next, 0, none⟩)), (23, .int .i64 t93r1), (87, .agg #[.slice t87c0a t87c0n t87c0k, .slice t87c1a t87c1n t87c1k]), (88, .int .i64 t88), (97, .slice t90a t90n t90k)] 112 (s' := (.reg (opsAt (sub B [1, 1, 1, 1, 0, 1, 0, 0, 1, 1, 0, 0, 1, 1, 0])) [1, 2, 3, 4, 5, 6, 7] :: S23)) fun J => ?_
    obtain ⟨t98r0c0, t98r0c1, t98r0c2, t98r0c3, t98r0c4a, t98r0c4n, t98r0c4k, t98r0c5a, t98r0c5n, t98r0c5k, t98r1, H_4, q29, h⟩ := h
    refine KR.se (one_ca (by kernel_rfl) q29) ?_
    refine KR.go 3 [(22, .pointer (some ⟨H_1.next, 0, none⟩)), (23, .int .i64 t93r1), (87, .agg #[.slice t87c0a t87c0n t87c0k, .slice t87c1a t87c1n t87c1k]), (88, .int .i64 t88), (99, .agg #[.int .i64 t98r0c0, .int .i64 t98r0c1, .int .i64 t98r0c2, .int .i64 t98r0c3, .slice t98r0c4a t98r0c4n t98r0c4k, .slice t98r0c5a t98r0c5n t98r0c5k]), (100, .int .i64 t98r1)] 112 (s' := (.reg (opsAt (sub B [1, 1, 1, 1, 0, 1, 0, 0, 1, 1, 0, 0, 1, 1, 0])) [5, 6, 7] :: S23)) fun J => ?_
    obtain ⟨H_5, q30, h⟩ := h
    refine KR.mk (w := pRow [.int .i64 0, .int .i64 0, .int .i64 0, .int .i64 0, .slice none 0 0, .slice none 0 0]) (one_al (by kernel_rfl)) q30 ?_
    obtain ⟨H_6, q31, h⟩ := h
    refine KR.se (one_st (by kernel_rfl) q31) ?_
    refine KR.go 4 [(22, .pointer (some ⟨H_1.next, 0, none⟩)), (23, .int .i64 t93r1), (24, .pointer (some ⟨H_4.next, 0, none⟩)), (25, .int .i64 t98r1), (87, .agg #[.slice t87c0a t87c0n t87c0k, .slice t87c1a t87c1n t87c1k]), (88, .int .i64 t88)] 112 (s' := (.reg (opsAt (sub B [1, 1, 1, 1, 0, 1, 0, 0, 1, 1, 0, 0, 1, 1, 1, 0])) [0, 1, 2, 3, 4, 5, 6, 7, 8] :: S24)) fun J => ?_
    obtain ⟨t101c0, t101c1, t101c2, t101c3, t101c4a, t101c4n, t101c4k, t101c5a, t101c5n, t101c5k, q32, h⟩ := h
    refine KR.rd (one_ldA (by kernel_rfl) q32) ?_
    obtain ⟨t102c0, t102c1, t102c2, t102c3, t102c4a, t102c4n, t102c4k, t102c5a, t102c5n, t102c5k, q33, h⟩ := h
    refine KR.rd (one_ldA (by kernel_rfl) q33) ?_
    obtain ⟨t103, H_7, q34, h⟩ := h
    refine KR.se (one_ca (by kernel_rfl) q34) ?_
    refine KR.go 2 [(23, .int .i64 t93r1), (25, .int .i64 t98r1), (87, .agg #[.slice t87c0a t87c0n t87c0k, .slice t87c1a t87c1n t87c1k]), (88, .int .i64 t88), (105, .bool (!t103))] 112 (s' := (.reg (opsAt (sub B [1, 1, 1, 1, 0, 1, 0, 0, 1, 1, 0, 0, 1, 1, 1, 0])) [5, 6, 7, 8] :: S24)) fun J => ?_
    by_cases c35 : t103 = true
    · replace h := iteT c35 h
      refine KR.setV 105 (by kernel_rfl) (nB (bT c35)) ?_
      exact KR.go 5 [(87, .agg #[.slice t87c0a t87c0n t87c0k, .slice t87c1a t87c1n t87c1k]), (88, .int .i64 t88), (109, .bool (!(t93r1 == t98r1)))] 112 (s' := (.code (sub B [1, 1, 1, 1, 0, 1, 0, 0, 1, 1, 0, 0, 1, 1, 1, 1]) :: S20)) h
    · replace h := iteF c35 h
      refine KR.setV 105 (by kernel_rfl) (nB (bF c35)) ?_
      exact KR.go 5 [(87, .agg #[.slice t87c0a t87c0n t87c0k, .slice t87c1a t87c1n t87c1k]), (88, .int .i64 t88), (109, .bool true)] 112 (s' := (.code (sub B [1, 1, 1, 1, 0, 1, 0, 0, 1, 1, 0, 0, 1, 1, 1, 1]) :: S20)) h
  · replace h := iteF c24 h
    refine KR.bb false (vB (dF c24)) ?_
    refine KR.go 3 [] 112 (s' := (.reg (opsAt (sub B [1, 1, 1, 1, 1, 0])) [0, 1] :: S25)) fun J => ?_
    obtain ⟨t111, H_8, q36, h⟩ := h
    refine KR.se (one_ca (by kernel_rfl) q36) ?_
    refine KR.go 2 [(14, .bool t111)] 112 (s' := (.code (sub B [1, 1, 1, 1, 1, 1]) :: [])) fun J => ?_
    exact KR.fi h
theorem L4_step {t87c0a : Option Addr} {t87c0n t87c0k : Nat} {t87c1a : Option Addr} {t87c1n t87c1k : Nat} {t88 : Int} {t109 : Bool} {H : Heap} {r : Value × Heap} (h :
    if t109 = true then
    (r = (.bool false, H))
    else
    (L3 t87c0a t87c0n t87c0k t87c1a t87c1n t87c1k ((IntKind.wrap .i64 (t88 + 1))) H r)) :
    L4 t87c0a t87c0n t87c0k t87c1a t87c1n t87c1k t88 t109 H r := by
  intro J
  show KR _ _ _ (.code (sub B [1, 1, 1, 1, 0, 1, 0, 0, 1, 1, 0, 0, 1, 1, 1, 1]) :: S20) _ _ _
  by_cases c37 : t109 = true
  · replace h := iteT c37 h
    refine KR.bb true (vB (bT c37)) ?_
    refine KR.go 4 [(14, .bool false)] 112 (s' := (.code (sub B [1, 1, 1, 1, 0, 1, 0, 0, 1, 1, 0, 0, 1, 1, 1, 1, 0, 1]) :: S20)) fun J => ?_
    exact KR.fi h
  · replace h := iteF c37 h
    refine KR.bb false (vB (bF c37)) ?_
    exact KR.go 6 [(87, .agg #[.slice t87c0a t87c0n t87c0k, .slice t87c1a t87c1n t87c1k]), (88, .int .i64 (IntKind.wrap .i64 (t88 + 1)))] 112 (s' := (.lp (sub B [1, 1, 1, 1, 0, 1, 0, 0]) :: S16)) h
theorem call {a0c0 a0c1 a0c2 a0c3 : Int} {a0c4a : Option Addr} {a0c4n a0c4k : Nat} {a0c5a : Option Addr} {a0c5n a0c5k : Nat} {a1a : Option Addr} {a1n a1k : Nat} {a2 : Int} {a3 : Bool} {a4a : Option Addr} {a4n a4k : Nat} {a5 : Int} {a6a : Option Addr} {a6n a6k : Nat} {H : Heap} {r : Value × Heap} (h :
    ∃ (H_1 : Heap), H_1 = H.push (.row [.int .i64 a0c0, .int .i64 a0c1, .int .i64 a0c2, .int .i64 a0c3, .slice a0c4a a0c4n a0c4k, .slice a0c5a a0c5n a0c5k] true) ∧
    (∃ (t26c0 t26c1 t26c2 t26c3 : Int) (t26c4a : Option Addr) (t26c4n t26c4k : Nat) (t26c5a : Option Addr) (t26c5n t26c5k : Nat), ldAll H_1 H.next 0 [.int .i64 t26c0, .int .i64 t26c1, .int .i64 t26c2, .int .i64 t26c3, .slice t26c4a t26c4n t26c4k, .slice t26c5a t26c5n t26c5k] ∧
    (∃ (t27 : Bool) (H_2 : Heap), xC Try.prog good 26 [.agg #[.int .i64 t26c0, .int .i64 t26c1, .int .i64 t26c2, .int .i64 t26c3, .slice t26c4a t26c4n t26c4k, .slice t26c5a t26c5n t26c5k]] H_1 = some (.bool t27, H_2) ∧
    (if t27 = true then
    (if (a4n : Int) > 100 then
    (L0 a1a a1n a1k a2 a3 a4a a4n a4k a5 a6a a6n a6k (H.next) 0 true H_2 r)
    else
    (L0 a1a a1n a1k a2 a3 a4a a4n a4k a5 a6a a6n a6k (H.next) 0 ((decide ((a6n : Int) > 300))) H_2 r))
    else
    (L0 a1a a1n a1k a2 a3 a4a a4n a4k a5 a6a a6n a6k (H.next) 0 true H_2 r))))) :
    xC Try.prog good 7 [.agg #[.int .i64 a0c0, .int .i64 a0c1, .int .i64 a0c2, .int .i64 a0c3, .slice a0c4a a0c4n a0c4k, .slice a0c5a a0c5n a0c5k], .slice a1a a1n a1k, .int .u8 a2, .bool a3, .slice a4a a4n a4k, .int .i64 a5, .slice a6a a6n a6k] H = some r := by
  refine KR.enter (fn := Try.f7) (c := B) (by kernel_rfl) (by kernel_rfl) ?_
  refine KR.go 2 [(0, .agg #[.int .i64 a0c0, .int .i64 a0c1, .int .i64 a0c2, .int .i64 a0c3, .slice a0c4a a0c4n a0c4k, .slice a0c5a a0c5n a0c5k]), (1, .slice a1a a1n a1k), (2, .int .u8 a2), (3, .bool a3), (4, .slice a4a a4n a4k), (5, .int .i64 a5), (6, .slice a6a a6n a6k)] 112 (s' := (.reg (opsAt (sub B [0])) [0, 1] :: S0)) fun J => ?_
  obtain ⟨H_1, q1, h⟩ := h
  refine KR.mk (w := pRow [.int .i64 a0c0, .int .i64 a0c1, .int .i64 a0c2, .int .i64 a0c3, .slice a0c4a a0c4n a0c4k, .slice a0c5a a0c5n a0c5k]) (one_al (by kernel_rfl)) q1 ?_
  refine KR.go 5 [(1, .slice a1a a1n a1k), (2, .int .u8 a2), (3, .bool a3), (4, .slice a4a a4n a4k), (5, .int .i64 a5), (6, .slice a6a a6n a6k), (7, .pointer (some ⟨H.next, 0, none⟩))] 112 (s' := (.reg (opsAt (sub B [1, 0, 0])) [0, 1, 2, 3, 4, 5, 6, 7, 8, 9, 10, 11, 12] :: S2)) fun J => ?_
  obtain ⟨t26c0, t26c1, t26c2, t26c3, t26c4a, t26c4n, t26c4k, t26c5a, t26c5n, t26c5k, q2, h⟩ := h
  refine KR.rd (one_ldA (by kernel_rfl) q2) ?_
  obtain ⟨t27, H_2, q3, h⟩ := h
  refine KR.se (one_ca (by kernel_rfl) q3) ?_
  refine KR.go 2 [(1, .slice a1a a1n a1k), (2, .int .u8 a2), (3, .bool a3), (4, .slice a4a a4n a4k), (5, .int .i64 a5), (6, .slice a6a a6n a6k), (7, .pointer (some ⟨H.next, 0, none⟩)), (29, .bool (!t27))] 112 (s' := (.reg (opsAt (sub B [1, 0, 0])) [4, 5, 6, 7, 8, 9, 10, 11, 12] :: S2)) fun J => ?_
  by_cases c4 : t27 = true
  · replace h := iteT c4 h
    refine KR.setV 29 (by kernel_rfl) (nB (bT c4)) ?_
    refine KR.go 5 [(1, .slice a1a a1n a1k), (2, .int .u8 a2), (3, .bool a3), (4, .slice a4a a4n a4k), (5, .int .i64 a5), (6, .slice a6a a6n a6k), (7, .pointer (some ⟨H.next, 0, none⟩)), (34, .bool (decide ((a4n : Int) > 100)))] 112 (s' := (.reg (opsAt (sub B [1, 0, 0])) [9, 10, 11, 12] :: S2)) fun J => ?_
    by_cases c5 : (a4n : Int) > 100
    · replace h := iteT c5 h
      refine KR.setV 34 (by kernel_rfl) (dT c5) ?_
      exact KR.go 5 [(1, .slice a1a a1n a1k), (2, .int .u8 a2), (3, .bool a3), (4, .slice a4a a4n a4k), (5, .int .i64 a5), (6, .slice a6a a6n a6k), (7, .pointer (some ⟨H.next, 0, none⟩)), (38, .bool true)] 112 (s' := (.code (sub B [1, 0, 1]) :: S1)) h
    · replace h := iteF c5 h
      refine KR.setV 34 (by kernel_rfl) (dF c5) ?_
      exact KR.go 5 [(1, .slice a1a a1n a1k), (2, .int .u8 a2), (3, .bool a3), (4, .slice a4a a4n a4k), (5, .int .i64 a5), (6, .slice a6a a6n a6k), (7, .pointer (some ⟨H.next, 0, none⟩)), (38, .bool (decide ((a6n : Int) > 300)))] 112 (s' := (.code (sub B [1, 0, 1]) :: S1)) h
  · replace h := iteF c4 h
    refine KR.setV 29 (by kernel_rfl) (nB (bF c4)) ?_
    exact KR.go 10 [(1, .slice a1a a1n a1k), (2, .int .u8 a2), (3, .bool a3), (4, .slice a4a a4n a4k), (5, .int .i64 a5), (6, .slice a6a a6n a6k), (7, .pointer (some ⟨H.next, 0, none⟩)), (38, .bool true)] 112 (s' := (.code (sub B [1, 0, 1]) :: S1)) h
end F7
end Go.X
