/- The walks of the functions: printed. -/
import Derived.Test.YtbfjajoekcbodaaXzGe
set_option linter.unusedVariables false
set_option maxRecDepth 100000
namespace Go.X
open Go Go.RowKit Go.Proofs
/-! #### 41 (*campanile/bits.Writer).Put -/
namespace F41
noncomputable def B : Code := bodyOf Try.f41
noncomputable def S0 : List It := (.code (sub B [1]) :: [])
noncomputable def S2 : List It := (.blk 0 :: [])
noncomputable def S1 : List It := (.code (sub B [0, 1]) :: S0)
noncomputable def S3 : List It := (.lp (sub B [1, 1, 0, 0]) :: S2)
noncomputable def S4 : List It := (.code (sub B [1, 1, 0, 0, 1]) :: S3)
noncomputable def S5 : List It := (.blk 1 :: S3)
noncomputable def S6 : List It := (.code (sub B [1, 1, 0, 0, 1, 0, 1]) :: S5)
noncomputable def S8 : List It := (.code (sub B [1, 1, 0, 0, 1, 0, 1, 1]) :: S5)
noncomputable def S9 : List It := (.code (sub B [1, 1, 0, 0, 1, 0, 1, 1, 1, 1]) :: S5)
noncomputable def S10 : List It := (.code (sub B [1, 1, 0, 0, 1, 0, 1, 1, 1, 1, 1]) :: S5)
noncomputable def S7 : List It := (.code (sub B [1, 1, 0, 0, 1, 0, 0, 1]) :: S6)
noncomputable def S11 : List It := (.reg (opsAt (sub B [1, 1, 0, 0, 1, 0, 1, 0])) [0, 1, 2, 3, 4, 5, 6] :: S8)
def L0 (t0 : Option Addr) (t1 t2 : Int) (t16 : Bool) (H : Heap) (r : Value × Heap) : Prop := ∀ J, KR Try.prog good Try.f41 S1 (mat J 85 [(0, .pointer t0), (1, .int .u64 t1), (2, .int .i64 t2), (16, .bool t16)]) H r
def L1 (t0 : Option Addr) (t1 t6 : Int) (H : Heap) (r : Value × Heap) : Prop := ∀ J, KR Try.prog good Try.f41 S3 (mat J 85 [(0, .pointer t0), (1, .int .u64 t1), (6, .int .i64 t6)]) H r
def L2 (t0b t0o : Nat) (t1 t6 : Int) (H : Heap) (r : Value × Heap) : Prop := ∀ J, KR Try.prog good Try.f41 S11 (mat J 85 [(0, .pointer (some ⟨t0b, t0o, none⟩)), (1, .int .u64 t1), (6, .int .i64 t6)]) H r
theorem L0_step {t0 : Option Addr} {t1 t2 : Int} {t16 : Bool} {H : Heap} {r : Value × Heap} (h :
    if t16 = true then
    (r = (.tuple #[], H))
    else
    (L1 t0 t1 t2 H r)) :
    L0 t0 t1 t2 t16 H r := by
  intro J
  show KR _ _ _ (.code (sub B [0, 1]) :: S0) _ _ _
  by_cases c4 : t16 = true
  · replace h := iteT c4 h
    refine KR.bb true (vB (bT c4)) ?_
    exact KR.fi h
  · replace h := iteF c4 h
    refine KR.bb false (vB (bF c4)) ?_
    exact KR.go 8 [(0, .pointer t0), (1, .int .u64 t1), (6, .int .i64 t2)] 85 (s' := (.lp (sub B [1, 1, 0, 0]) :: S2)) h
theorem L1_step {t0 : Option Addr} {t1 t6 : Int} {H : Heap} {r : Value × Heap} (h :
    if t6 > 0 then
    (∃ (t0b t0o : Nat), t0 = some ⟨t0b, t0o, none⟩ ∧
    (∃ (t23 : Int), ldc H t0b (t0o + 1) = some (.int .i64 t23) ∧
    (if (Int.tmod t23 8) = 0 then
    (∃ (t30a : Option Addr) (t30n t30k : Nat), ldc H t0b t0o = some (.slice t30a t30n t30k) ∧
    (∃ (H_1 : Heap), H_1 = H.push (.row [.int .u8 0] true) ∧
    (∃ (t32a : Option Addr) (t32n t32k : Nat) (H_2 : Heap), papp H_1 1 1 t30a t30n t30k (some ⟨H.next, 0, none⟩) 1 (UNK 1) = some ((t32a, t32n, t32k), H_2) ∧
    (∃ (H_3 : Heap), stc H_2 t0b t0o [.slice t32a t32n t32k] = some H_3 ∧
    (L2 t0b t0o t1 t6 H_3 r)))))
    else
    (L2 t0b t0o t1 t6 H r))))
    else
    (r = (.tuple #[], H))) :
    L1 t0 t1 t6 H r := by
  intro J
  show KR _ _ _ (.lp (sub B [1, 1, 0, 0]) :: S2) _ _ _
  refine KR.go 7 [(0, .pointer t0), (1, .int .u64 t1), (6, .int .i64 t6), (19, .bool (decide (t6 > 0)))] 85 (s' := (.code (sub B [1, 1, 0, 0, 0, 1]) :: S4)) fun J => ?_
  by_cases c5 : t6 > 0
  · replace h := iteT c5 h
    refine KR.bb true (vB (dT c5)) ?_
    obtain ⟨t0b, t0o, rfl, h⟩ := h
    refine KR.go 8 [(0, .pointer (some ⟨t0b, t0o, none⟩)), (1, .int .u64 t1), (6, .int .i64 t6), (22, .pointer (some ⟨t0b, (t0o + 1), none⟩))] 85 (s' := (.reg (opsAt (sub B [1, 1, 0, 0, 1, 0, 0, 0])) [3, 4, 5] :: S7)) fun J => ?_
    obtain ⟨t23, q6, h⟩ := h
    refine KR.rd (one_ld (by kernel_rfl) q6) ?_
    refine KR.go 3 [(0, .pointer (some ⟨t0b, t0o, none⟩)), (1, .int .u64 t1), (6, .int .i64 t6), (25, .bool ((Int.tmod t23 8) == 0))] 85 (s' := (.code (sub B [1, 1, 0, 0, 1, 0, 0, 1]) :: S6)) fun J => ?_
    by_cases c7 : (Int.tmod t23 8) = 0
    · replace h := iteT c7 h
      refine KR.bb true (vB (eT c7)) ?_
      refine KR.go 5 [(0, .pointer (some ⟨t0b, t0o, none⟩)), (1, .int .u64 t1), (6, .int .i64 t6), (26, .pointer (some ⟨t0b, t0o, none⟩)), (29, .pointer (some ⟨t0b, t0o, none⟩))] 85 (s' := (.reg (opsAt (sub B [1, 1, 0, 0, 1, 0, 0, 1, 0])) [4, 5, 6, 7, 8, 9] :: S6)) fun J => ?_
      obtain ⟨t30a, t30n, t30k, q8, h⟩ := h
      refine KR.rd (one_ld (by kernel_rfl) q8) ?_
      obtain ⟨H_1, q9, h⟩ := h
      refine KR.mk (w := sRow 1 1 [.int .u8 0]) (one_al (by kernel_rfl)) q9 ?_
      obtain ⟨t32a, t32n, t32k, H_2, q10, h⟩ := h
      refine KR.se (one_ap 1 1 (by kernel_rfl) q10) ?_
      refine KR.go 2 [(0, .pointer (some ⟨t0b, t0o, none⟩)), (1, .int .u64 t1), (6, .int .i64 t6), (32, .slice t32a t32n t32k), (34, .pointer (some ⟨t0b, t0o, none⟩))] 85 (s' := (.reg (opsAt (sub B [1, 1, 0, 0, 1, 0, 0, 1, 0])) [9] :: S6)) fun J => ?_
      obtain ⟨H_3, q11, h⟩ := h
      refine KR.se (one_st (by kernel_rfl) q11) ?_
      exact KR.go 3 [(0, .pointer (some ⟨t0b, t0o, none⟩)), (1, .int .u64 t1), (6, .int .i64 t6)] 85 (s' := (.reg (opsAt (sub B [1, 1, 0, 0, 1, 0, 1, 0])) [0, 1, 2, 3, 4, 5, 6] :: S8)) h
    · replace h := iteF c7 h
      refine KR.bb false (vB (eF c7)) ?_
      exact KR.go 3 [(0, .pointer (some ⟨t0b, t0o, none⟩)), (1, .int .u64 t1), (6, .int .i64 t6)] 85 (s' := (.reg (opsAt (sub B [1, 1, 0, 0, 1, 0, 1, 0])) [0, 1, 2, 3, 4, 5, 6] :: S8)) h
  · replace h := iteF c5 h
    refine KR.bb false (vB (dF c5)) ?_
    refine KR.go 1 [] 85 (s' := []) fun J => ?_
    exact KR.fin0 (by kernel_rfl) h
theorem L2_step {t0b t0o : Nat} {t1 t6 : Int} {H : Heap} {r : Value × Heap} (h :
    ∃ (t38 : Int), ldc H t0b (t0o + 1) = some (.int .i64 t38) ∧
    ((0 : Int) ≤ (IntKind.wrap .i64 (t6 - (imin (IntKind.wrap .i64 (8 - (Int.tmod t38 8))) t6))) ∧
    ((0 : Int) ≤ (imin (IntKind.wrap .i64 (8 - (Int.tmod t38 8))) t6) ∧
    (∃ (t57a : Option Addr) (t57n t57k : Nat), ldc H t0b t0o = some (.slice t57a t57n t57k) ∧
    (∃ (t61a : Option Addr) (t61n t61k : Nat), ldc H t0b t0o = some (.slice t61a t61n t61k) ∧
    (∃ (t57ab t57ao : Nat), t57a = some ⟨t57ab, t57ao, none⟩ ∧
    ((0 : Int) ≤ (IntKind.wrap .i64 ((t61n : Int) - 1)) ∧ (IntKind.wrap .i64 ((t61n : Int) - 1)) < (t57n : Int) ∧
    (∃ (t65 : Int), ldc H t57ab (t57ao + Int.toNat (IntKind.wrap .i64 ((t61n : Int) - 1)) * 1) = some (.int .u8 t65) ∧
    ((0 : Int) ≤ (IntKind.wrap .i64 ((IntKind.wrap .i64 (8 - (Int.tmod t38 8))) - (imin (IntKind.wrap .i64 (8 - (Int.tmod t38 8))) t6))) ∧
    ((0 : Int) ≤ (IntKind.wrap .i64 ((t61n : Int) - 1)) ∧ (IntKind.wrap .i64 ((t61n : Int) - 1)) < (t57n : Int) ∧
    (∃ (H_1 : Heap), stc H t57ab (t57ao + Int.toNat (IntKind.wrap .i64 ((t61n : Int) - 1)) * 1) [.int .u8 (ior .u8 t65 (ishl .u8 (iand .u8 (IntKind.wrap .u8 (ishr .u64 t1 (IntKind.wrap .i64 (t6 - (imin (IntKind.wrap .i64 (8 - (Int.tmod t38 8))) t6))))) (IntKind.wrap .u8 ((ishl .u8 1 (imin (IntKind.wrap .i64 (8 - (Int.tmod t38 8))) t6)) - 1))) (IntKind.wrap .i64 ((IntKind.wrap .i64 (8 - (Int.tmod t38 8))) - (imin (IntKind.wrap .i64 (8 - (Int.tmod t38 8))) t6)))))] = some H_1 ∧
    (∃ (t77 : Int), ldc H_1 t0b (t0o + 1) = some (.int .i64 t77) ∧
    (∃ (H_2 : Heap), stc H_1 t0b (t0o + 1) [.int .i64 (IntKind.wrap .i64 (t77 + (imin (IntKind.wrap .i64 (8 - (Int.tmod t38 8))) t6)))] = some H_2 ∧
    (L1 ((some ⟨t0b, t0o, none⟩)) t1 ((IntKind.wrap .i64 (t6 - (imin (IntKind.wrap .i64 (8 - (Int.tmod t38 8))) t6)))) H_2 r)))))))))))))) :
    L2 t0b t0o t1 t6 H r := by
  intro J
  show KR _ _ _ (.reg (opsAt (sub B [1, 1, 0, 0, 1, 0, 1, 0])) [0, 1, 2, 3, 4, 5, 6] :: S8) _ _ _
  refine KR.go 3 [(0, .pointer (some ⟨t0b, t0o, none⟩)), (1, .int .u64 t1), (6, .int .i64 t6), (37, .pointer (some ⟨t0b, (t0o + 1), none⟩))] 85 (s' := (.reg (opsAt (sub B [1, 1, 0, 0, 1, 0, 1, 0])) [3, 4, 5, 6] :: S8)) fun J => ?_
  obtain ⟨t38, q12, h⟩ := h
  refine KR.rd (one_ld (by kernel_rfl) q12) ?_
  refine KR.go 12 [(0, .pointer (some ⟨t0b, t0o, none⟩)), (1, .int .u64 t1), (6, .int .i64 t6), (7, .int .i64 (IntKind.wrap .i64 (8 - (Int.tmod t38 8)))), (8, .int .i64 (imin (IntKind.wrap .i64 (8 - (Int.tmod t38 8))) t6))] 85 (s' := (.code (sub B [1, 1, 0, 0, 1, 0, 1, 1, 1, 0]) :: S9)) fun J => ?_
  refine KR.sd (by kernel_rfl) ?_
  refine KR.go 4 [(0, .pointer (some ⟨t0b, t0o, none⟩)), (1, .int .u64 t1), (6, .int .i64 t6), (7, .int .i64 (IntKind.wrap .i64 (8 - (Int.tmod t38 8)))), (8, .int .i64 (imin (IntKind.wrap .i64 (8 - (Int.tmod t38 8))) t6)), (44, .int .u64 t1), (47, .int .i64 (IntKind.wrap .i64 (t6 - (imin (IntKind.wrap .i64 (8 - (Int.tmod t38 8))) t6))))] 85 (s' := (.reg (opsAt (sub B [1, 1, 0, 0, 1, 0, 1, 1, 1, 0])) [4, 5, 6, 7, 8, 9, 10] :: S9)) fun J => ?_
  obtain ⟨q13, h⟩ := h
  refine KR.p (one_shr .u64 .i64 t1 (by kernel_rfl) q13) ?_
  refine KR.go 2 [(0, .pointer (some ⟨t0b, t0o, none⟩)), (1, .int .u64 t1), (6, .int .i64 t6), (7, .int .i64 (IntKind.wrap .i64 (8 - (Int.tmod t38 8)))), (8, .int .i64 (imin (IntKind.wrap .i64 (8 - (Int.tmod t38 8))) t6)), (49, .int .u8 (IntKind.wrap .u8 (ishr .u64 t1 (IntKind.wrap .i64 (t6 - (imin (IntKind.wrap .i64 (8 - (Int.tmod t38 8))) t6)))))), (50, .int .i64 (imin (IntKind.wrap .i64 (8 - (Int.tmod t38 8))) t6))] 85 (s' := (.reg (opsAt (sub B [1, 1, 0, 0, 1, 0, 1, 1, 1, 0])) [7, 8, 9, 10] :: S9)) fun J => ?_
  obtain ⟨q14, h⟩ := h
  refine KR.p (one_shl .u8 .i64 1 (by kernel_rfl) q14) ?_
  refine KR.go 5 [(0, .pointer (some ⟨t0b, t0o, none⟩)), (1, .int .u64 t1), (6, .int .i64 t6), (7, .int .i64 (IntKind.wrap .i64 (8 - (Int.tmod t38 8)))), (8, .int .i64 (imin (IntKind.wrap .i64 (8 - (Int.tmod t38 8))) t6)), (9, .int .u8 (iand .u8 (IntKind.wrap .u8 (ishr .u64 t1 (IntKind.wrap .i64 (t6 - (imin (IntKind.wrap .i64 (8 - (Int.tmod t38 8))) t6))))) (IntKind.wrap .u8 ((ishl .u8 1 (imin (IntKind.wrap .i64 (8 - (Int.tmod t38 8))) t6)) - 1))))] 85 (s' := (.code (sub B [1, 1, 0, 0, 1, 0, 1, 1, 1, 1, 0]) :: S10)) fun J => ?_
  refine KR.sd (by kernel_rfl) ?_
  refine KR.go 3 [(0, .pointer (some ⟨t0b, t0o, none⟩)), (1, .int .u64 t1), (6, .int .i64 t6), (7, .int .i64 (IntKind.wrap .i64 (8 - (Int.tmod t38 8)))), (8, .int .i64 (imin (IntKind.wrap .i64 (8 - (Int.tmod t38 8))) t6)), (9, .int .u8 (iand .u8 (IntKind.wrap .u8 (ishr .u64 t1 (IntKind.wrap .i64 (t6 - (imin (IntKind.wrap .i64 (8 - (Int.tmod t38 8))) t6))))) (IntKind.wrap .u8 ((ishl .u8 1 (imin (IntKind.wrap .i64 (8 - (Int.tmod t38 8))) t6)) - 1)))), (56, .pointer (some ⟨t0b, t0o, none⟩))] 85 (s' := (.reg (opsAt (sub B [1, 1, 0, 0, 1, 0, 1, 1, 1, 1, 0])) [3, 4, 5, 6, 7, 8, 9, 10, 11, 12, 13, 14, 15, 16, 17, 18, 19] :: S10)) fun J => ?_
  obtain ⟨t57a, t57n, t57k, q15, h⟩ := h
  refine KR.rd (one_ld (by kernel_rfl) q15) ?_
  refine KR.go 3 [(0, .pointer (some ⟨t0b, t0o, none⟩)), (1, .int .u64 t1), (6, .int .i64 t6), (7, .int .i64 (IntKind.wrap .i64 (8 - (Int.tmod t38 8)))), (8, .int .i64 (imin (IntKind.wrap .i64 (8 - (Int.tmod t38 8))) t6)), (9, .int .u8 (iand .u8 (IntKind.wrap .u8 (ishr .u64 t1 (IntKind.wrap .i64 (t6 - (imin (IntKind.wrap .i64 (8 - (Int.tmod t38 8))) t6))))) (IntKind.wrap .u8 ((ishl .u8 1 (imin (IntKind.wrap .i64 (8 - (Int.tmod t38 8))) t6)) - 1)))), (57, .slice t57a t57n t57k), (60, .pointer (some ⟨t0b, t0o, none⟩))] 85 (s' := (.reg (opsAt (sub B [1, 1, 0, 0, 1, 0, 1, 1, 1, 1, 0])) [7, 8, 9, 10, 11, 12, 13, 14, 15, 16, 17, 18, 19] :: S10)) fun J => ?_
  obtain ⟨t61a, t61n, t61k, q16, h⟩ := h
  refine KR.rd (one_ld (by kernel_rfl) q16) ?_
  obtain ⟨t57ab, t57ao, rfl, h⟩ := h
  refine KR.go 2 [(0, .pointer (some ⟨t0b, t0o, none⟩)), (1, .int .u64 t1), (6, .int .i64 t6), (7, .int .i64 (IntKind.wrap .i64 (8 - (Int.tmod t38 8)))), (8, .int .i64 (imin (IntKind.wrap .i64 (8 - (Int.tmod t38 8))) t6)), (9, .int .u8 (iand .u8 (IntKind.wrap .u8 (ishr .u64 t1 (IntKind.wrap .i64 (t6 - (imin (IntKind.wrap .i64 (8 - (Int.tmod t38 8))) t6))))) (IntKind.wrap .u8 ((ishl .u8 1 (imin (IntKind.wrap .i64 (8 - (Int.tmod t38 8))) t6)) - 1)))), (57, .slice (some ⟨t57ab, t57ao, none⟩) t57n t57k), (63, .int .i64 (IntKind.wrap .i64 ((t61n : Int) - 1)))] 85 (s' := (.reg (opsAt (sub B [1, 1, 0, 0, 1, 0, 1, 1, 1, 1, 0])) [10, 11, 12, 13, 14, 15, 16, 17, 18, 19] :: S10)) fun J => ?_
  obtain ⟨q17, q17x, h⟩ := h
  refine KR.p (one_ix 1 t57ab t57ao (by kernel_rfl) q17 q17x) ?_
  obtain ⟨t65, q18, h⟩ := h
  refine KR.rd (one_ld (by kernel_rfl) q18) ?_
  refine KR.go 4 [(0, .pointer (some ⟨t0b, t0o, none⟩)), (1, .int .u64 t1), (6, .int .i64 t6), (8, .int .i64 (imin (IntKind.wrap .i64 (8 - (Int.tmod t38 8))) t6)), (57, .slice (some ⟨t57ab, t57ao, none⟩) t57n t57k), (63, .int .i64 (IntKind.wrap .i64 ((t61n : Int) - 1))), (65, .int .u8 t65), (66, .int .u8 (iand .u8 (IntKind.wrap .u8 (ishr .u64 t1 (IntKind.wrap .i64 (t6 - (imin (IntKind.wrap .i64 (8 - (Int.tmod t38 8))) t6))))) (IntKind.wrap .u8 ((ishl .u8 1 (imin (IntKind.wrap .i64 (8 - (Int.tmod t38 8))) t6)) - 1)))), (69, .int .i64 (IntKind.wrap .i64 ((IntKind.wrap .i64 (8 - (Int.tmod t38 8))) - (imin (IntKind.wrap .i64 (8 - (Int.tmod t38 8))) t6))))] 85 (s' := (.reg (opsAt (sub B [1, 1, 0, 0, 1, 0, 1, 1, 1, 1, 0])) [16, 17, 18, 19] :: S10)) fun J => ?_
  obtain ⟨q19, h⟩ := h
  refine KR.p (one_shl .u8 .i64 (iand .u8 (IntKind.wrap .u8 (ishr .u64 t1 (IntKind.wrap .i64 (t6 - (imin (IntKind.wrap .i64 (8 - (Int.tmod t38 8))) t6))))) (IntKind.wrap .u8 ((ishl .u8 1 (imin (IntKind.wrap .i64 (8 - (Int.tmod t38 8))) t6)) - 1))) (by kernel_rfl) q19) ?_
  refine KR.go 1 [(0, .pointer (some ⟨t0b, t0o, none⟩)), (1, .int .u64 t1), (6, .int .i64 t6), (8, .int .i64 (imin (IntKind.wrap .i64 (8 - (Int.tmod t38 8))) t6)), (57, .slice (some ⟨t57ab, t57ao, none⟩) t57n t57k), (63, .int .i64 (IntKind.wrap .i64 ((t61n : Int) - 1))), (71, .int .u8 (ior .u8 t65 (ishl .u8 (iand .u8 (IntKind.wrap .u8 (ishr .u64 t1 (IntKind.wrap .i64 (t6 - (imin (IntKind.wrap .i64 (8 - (Int.tmod t38 8))) t6))))) (IntKind.wrap .u8 ((ishl .u8 1 (imin (IntKind.wrap .i64 (8 - (Int.tmod t38 8))) t6)) - 1))) (IntKind.wrap .i64 ((IntKind.wrap .i64 (8 - (Int.tmod t38 8))) - (imin (IntKind.wrap .i64 (8 - (Int.tmod t38 8))) t6))))))] 85 (s' := (.reg (opsAt (sub B [1, 1, 0, 0, 1, 0, 1, 1, 1, 1, 0])) [18, 19] :: S10)) fun J => ?_
  obtain ⟨q20, q20x, h⟩ := h
  refine KR.p (one_ix 1 t57ab t57ao (by kernel_rfl) q20 q20x) ?_
  obtain ⟨H_1, q21, h⟩ := h
  refine KR.se (one_st (by kernel_rfl) q21) ?_
  refine KR.go 6 [(0, .pointer (some ⟨t0b, t0o, none⟩)), (1, .int .u64 t1), (6, .int .i64 t6), (8, .int .i64 (imin (IntKind.wrap .i64 (8 - (Int.tmod t38 8))) t6)), (73, .pointer (some ⟨t0b, t0o, none⟩)), (76, .pointer (some ⟨t0b, (t0o + 1), none⟩))] 85 (s' := (.reg (opsAt (sub B [1, 1, 0, 0, 1, 0, 1, 1, 1, 1, 1])) [4, 5, 6, 7, 8, 9, 10, 11, 12, 13] :: S5)) fun J => ?_
  obtain ⟨t77, q22, h⟩ := h
  refine KR.rd (one_ld (by kernel_rfl) q22) ?_
  refine KR.go 7 [(0, .pointer (some ⟨t0b, t0o, none⟩)), (1, .int .u64 t1), (79, .int .i64 (IntKind.wrap .i64 (t77 + (imin (IntKind.wrap .i64 (8 - (Int.tmod t38 8))) t6)))), (82, .int .i64 (IntKind.wrap .i64 (t6 - (imin (IntKind.wrap .i64 (8 - (Int.tmod t38 8))) t6)))), (84, .pointer (some ⟨t0b, (t0o + 1), none⟩))] 85 (s' := (.reg (opsAt (sub B [1, 1, 0, 0, 1, 0, 1, 1, 1, 1, 1])) [12, 13] :: S5)) fun J => ?_
  obtain ⟨H_2, q23, h⟩ := h
  refine KR.se (one_st (by kernel_rfl) q23) ?_
  exact KR.go 3 [(0, .pointer (some ⟨t0b, t0o, none⟩)), (1, .int .u64 t1), (6, .int .i64 (IntKind.wrap .i64 (t6 - (imin (IntKind.wrap .i64 (8 - (Int.tmod t38 8))) t6))))] 85 (s' := (.lp (sub B [1, 1, 0, 0]) :: S2)) h
theorem call {a0 : Option Addr} {a1 a2 : Int} {H : Heap} {r : Value × Heap} (h :
    if (Option.isNone a0) = true then
    (L0 a0 a1 a2 true H r)
    else
    (∃ (t14 : Bool) (H_1 : Heap), xC Try.prog good 71 [.int .i64 a2] H = some (.bool t14, H_1) ∧
    (L0 a0 a1 a2 ((!t14)) H_1 r))) :
    xC Try.prog good 41 [.pointer a0, .int .u64 a1, .int .i64 a2] H = some r := by
  refine KR.enter (fn := Try.f41) (c := B) (by kernel_rfl) (by kernel_rfl) ?_
  refine KR.go 4 [(0, .pointer a0), (1, .int .u64 a1), (2, .int .i64 a2), (10, .pointer a0)] 85 (s' := (.reg (opsAt (sub B [0, 0])) [1, 2, 3, 4, 5, 6] :: S1)) fun J => ?_
  refine KR.p (one_nl false a0 (by kernel_rfl)) ?_
  refine KR.go 1 [(0, .pointer a0), (1, .int .u64 a1), (2, .int .i64 a2), (12, .bool (Option.isNone a0))] 85 (s' := (.reg (opsAt (sub B [0, 0])) [3, 4, 5, 6] :: S1)) fun J => ?_
  by_cases c2 : (Option.isNone a0) = true
  · replace h := iteT c2 h
    refine KR.setV 12 (by kernel_rfl) (bT c2) ?_
    exact KR.go 5 [(0, .pointer a0), (1, .int .u64 a1), (2, .int .i64 a2), (16, .bool true)] 85 (s' := (.code (sub B [0, 1]) :: S0)) h
  · replace h := iteF c2 h
    refine KR.setV 12 (by kernel_rfl) (bF c2) ?_
    refine KR.go 1 [(0, .pointer a0), (1, .int .u64 a1), (2, .int .i64 a2), (12, .bool false), (13, .int .i64 a2)] 85 (s' := (.reg (opsAt (sub B [0, 0])) [4, 5, 6] :: S1)) fun J => ?_
    obtain ⟨t14, H_1, q3, h⟩ := h
    refine KR.se (one_ca (by kernel_rfl) q3) ?_
    exact KR.go 3 [(0, .pointer a0), (1, .int .u64 a1), (2, .int .i64 a2), (16, .bool (!t14))] 85 (s' := (.code (sub B [0, 1]) :: S0)) h
end F41
/-! #### 42 (*campanile/bits.Writer).Bytes -/
namespace F42
noncomputable def B : Code := bodyOf Try.f42
noncomputable def S0 : List It := (.code (sub B [1, 1]) :: [])
noncomputable def S2 : List It := (.code (sub B [1, 1, 1]) :: [])
noncomputable def S1 : List It := (.code (sub B [1, 0, 1]) :: S0)
theorem call {a0 : Option Addr} {H : Heap} {r : Value × Heap} (h :
    if (Option.isNone a0) = true then
    (r = (.slice none 0 0, H))
    else
    (∃ (a0b a0o : Nat), a0 = some ⟨a0b, a0o, none⟩ ∧
    (∃ (t8a : Option Addr) (t8n t8k : Nat), ldc H a0b a0o = some (.slice t8a t8n t8k) ∧
    (∃ (t9a : Option Addr) (t9n t9k : Nat) (H_1 : Heap), papp H 1 1 none 0 0 t8a t8n t8k = some ((t9a, t9n, t9k), H_1) ∧
    (r = (.slice t9a t9n t9k, H_1)))))) :
    xC Try.prog good 42 [.pointer a0] H = some r := by
  refine KR.enter (fn := Try.f42) (c := B) (by kernel_rfl) (by kernel_rfl) ?_
  refine KR.go 8 [(0, .pointer a0), (3, .pointer a0)] 10 (s' := (.reg (opsAt (sub B [1, 0, 0])) [1] :: S1)) fun J => ?_
  refine KR.p (one_nl false a0 (by kernel_rfl)) ?_
  refine KR.go 1 [(0, .pointer a0), (4, .bool (Option.isNone a0))] 10 (s' := (.code (sub B [1, 0, 1]) :: S0)) fun J => ?_
  by_cases c2 : (Option.isNone a0) = true
  · replace h := iteT c2 h
    refine KR.bb true (vB (bT c2)) ?_
    refine KR.go 4 [(2, .slice none 0 0)] 10 (s' := (.code (sub B [1, 0, 1, 0, 1]) :: S0)) fun J => ?_
    exact KR.fi h
  · replace h := iteF c2 h
    refine KR.bb false (vB (bF c2)) ?_
    obtain ⟨a0b, a0o, rfl, h⟩ := h
    refine KR.go 6 [(7, .pointer (some ⟨a0b, a0o, none⟩))] 10 (s' := (.reg (opsAt (sub B [1, 1, 0])) [3, 4, 5] :: S2)) fun J => ?_
    obtain ⟨t8a, t8n, t8k, q3, h⟩ := h
    refine KR.rd (one_ld (by kernel_rfl) q3) ?_
    obtain ⟨t9a, t9n, t9k, H_1, q4, h⟩ := h
    refine KR.se (one_ap 1 1 (by kernel_rfl) q4) ?_
    refine KR.go 2 [(2, .slice t9a t9n t9k)] 10 (s' := (.code (sub B [1, 1, 1]) :: [])) fun J => ?_
    exact KR.fi h
end F42
/-! #### 48 campanile/bits.NewReader -/
namespace F48
noncomputable def B : Code := bodyOf Try.f48
noncomputable def S0 : List It := (.code (sub B [1, 1]) :: [])
theorem call {a0a : Option Addr} {a0n a0k : Nat} {H : Heap} {r : Value × Heap} (h :
    ∃ (t4a : Option Addr) (t4n t4k : Nat) (H_1 : Heap), papp H 1 1 none 0 0 a0a a0n a0k = some ((t4a, t4n, t4k), H_1) ∧
    (∃ (H_2 : Heap), H_2 = H_1.push (.row [.slice t4a t4n t4k, .int .i64 0, .int .i64 0] true) ∧
    (r = (.pointer (some ⟨H_1.next, 0, none⟩), H_2)))) :
    xC Try.prog good 48 [.slice a0a a0n a0k] H = some r := by
  refine KR.enter (fn := Try.f48) (c := B) (by kernel_rfl) (by kernel_rfl) ?_
  refine KR.go 7 [(3, .slice a0a a0n a0k)] 7 (s' := (.reg (opsAt (sub B [1, 0])) [1, 2, 3, 4] :: S0)) fun J => ?_
  obtain ⟨t4a, t4n, t4k, H_1, q1, h⟩ := h
  refine KR.se (one_ap 1 1 (by kernel_rfl) q1) ?_
  refine KR.go 1 [(5, .agg #[.slice t4a t4n t4k, .int .i64 0, .int .i64 0])] 7 (s' := (.reg (opsAt (sub B [1, 0])) [3, 4] :: S0)) fun J => ?_
  obtain ⟨H_2, q2, h⟩ := h
  refine KR.mk (w := pRow [.slice t4a t4n t4k, .int .i64 0, .int .i64 0]) (one_al (by kernel_rfl)) q2 ?_
  refine KR.go 2 [(2, .pointer (some ⟨H_1.next, 0, none⟩))] 7 (s' := (.code (sub B [1, 1]) :: [])) fun J => ?_
  exact KR.fi h
end F48
/-! #### 49 (*campanile/bits.Reader).Take -/
namespace F49
noncomputable def B : Code := bodyOf Try.f49
noncomputable def S0 : List It := (.code (sub B [1, 1]) :: [])
noncomputable def S2 : List It := (.code (sub B [1, 1, 1, 1]) :: [])
noncomputable def S1 : List It := (.code (sub B [1, 0, 1]) :: S0)
noncomputable def S3 : List It := (.blk 0 :: S2)
noncomputable def S4 : List It := (.lp (sub B [1, 1, 1, 0, 1, 0, 0]) :: S3)
noncomputable def S5 : List It := (.code (sub B [1, 1, 1, 0, 1, 0, 0, 1, 1]) :: S4)
noncomputable def S6 : List It := (.code (sub B [1, 1, 1, 0, 1, 0, 0, 1, 1, 1]) :: S4)
noncomputable def S7 : List It := (.blk 1 :: S6)
def L0 (t0 : Option Addr) (t1 : Int) (t14 : Bool) (H : Heap) (r : Value × Heap) : Prop := ∀ J, KR Try.prog good Try.f49 S1 (mat J 25 [(0, .pointer t0), (1, .int .i64 t1), (14, .bool t14)]) H r
def L1 (t0 : Option Addr) (t5 t15 t16 : Int) (H : Heap) (r : Value × Heap) : Prop := ∀ J, KR Try.prog good Try.f49 S4 (mat J 25 [(0, .pointer t0), (5, .int .u64 t5), (15, .int .i64 t15), (16, .int .i64 t16)]) H r
theorem L0_step {t0 : Option Addr} {t1 : Int} {t14 : Bool} {H : Heap} {r : Value × Heap} (h :
    if t14 = true then
    (r = (.int .u64 0, H))
    else
    (L1 t0 0 t1 0 H r)) :
    L0 t0 t1 t14 H r := by
  intro J
  show KR _ _ _ (.code (sub B [1, 0, 1]) :: S0) _ _ _
  by_cases c4 : t14 = true
  · replace h := iteT c4 h
    refine KR.bb true (vB (bT c4)) ?_
    refine KR.go 4 [(4, .int .u64 0)] 25 (s' := (.code (sub B [1, 0, 1, 0, 1]) :: S0)) fun J => ?_
    exact KR.fi h
  · replace h := iteF c4 h
    refine KR.bb false (vB (bF c4)) ?_
    exact KR.go 13 [(0, .pointer t0), (5, .int .u64 0), (15, .int .i64 t1), (16, .int .i64 0)] 25 (s' := (.lp (sub B [1, 1, 1, 0, 1, 0, 0]) :: S3)) h
theorem L1_step {t0 : Option Addr} {t5 t15 t16 : Int} {H : Heap} {r : Value × Heap} (h :
    if t16 < t15 then
    (∃ (t21 : Int) (H_1 : Heap), xC Try.prog good 73 [.pointer t0] H = some (.int .u64 t21, H_1) ∧
    (L1 t0 ((ior .u64 (ishl .u64 t5 1) t21)) t15 ((IntKind.wrap .i64 (t16 + 1))) H_1 r))
    else
    (r = (.int .u64 t5, H))) :
    L1 t0 t5 t15 t16 H r := by
  intro J
  show KR _ _ _ (.lp (sub B [1, 1, 1, 0, 1, 0, 0]) :: S3) _ _ _
  refine KR.go 6 [(0, .pointer t0), (5, .int .u64 t5), (15, .int .i64 t15), (16, .int .i64 t16), (17, .bool (decide (t16 < t15)))] 25 (s' := (.code (sub B [1, 1, 1, 0, 1, 0, 0, 1, 0]) :: S5)) fun J => ?_
  by_cases c5 : t16 < t15
  · replace h := iteT c5 h
    refine KR.bb true (vB (dT c5)) ?_
    refine KR.go 7 [(0, .pointer t0), (15, .int .i64 t15), (16, .int .i64 t16), (19, .int .u64 (ishl .u64 t5 1)), (20, .pointer t0)] 25 (s' := (.reg (opsAt (sub B [1, 1, 1, 0, 1, 0, 0, 1, 1, 0, 0])) [3, 4, 5] :: S7)) fun J => ?_
    obtain ⟨t21, H_1, q6, h⟩ := h
    refine KR.se (one_ca (by kernel_rfl) q6) ?_
    exact KR.go 8 [(0, .pointer t0), (5, .int .u64 (ior .u64 (ishl .u64 t5 1) t21)), (15, .int .i64 t15), (16, .int .i64 (IntKind.wrap .i64 (t16 + 1)))] 25 (s' := (.lp (sub B [1, 1, 1, 0, 1, 0, 0]) :: S3)) h
  · replace h := iteF c5 h
    refine KR.bb false (vB (dF c5)) ?_
    refine KR.go 6 [(4, .int .u64 t5)] 25 (s' := (.code (sub B [1, 1, 1, 1, 1]) :: [])) fun J => ?_
    exact KR.fi h
theorem call {a0 : Option Addr} {a1 : Int} {H : Heap} {r : Value × Heap} (h :
    ∃ (t7 : Bool) (H_1 : Heap), xC Try.prog good 71 [.int .i64 a1] H = some (.bool t7, H_1) ∧
    (if t7 = true then
    (∃ (t12 : Bool) (H_2 : Heap), xC Try.prog good 72 [.pointer a0, .int .i64 a1] H_1 = some (.bool t12, H_2) ∧
    (L0 a0 a1 ((!t12)) H_2 r))
    else
    (L0 a0 a1 true H_1 r))) :
    xC Try.prog good 49 [.pointer a0, .int .i64 a1] H = some r := by
  refine KR.enter (fn := Try.f49) (c := B) (by kernel_rfl) (by kernel_rfl) ?_
  refine KR.go 8 [(0, .pointer a0), (1, .int .i64 a1), (6, .int .i64 a1)] 25 (s' := (.reg (opsAt (sub B [1, 0, 0])) [1, 2, 3, 4, 5, 6, 7, 8] :: S1)) fun J => ?_
  obtain ⟨t7, H_1, q1, h⟩ := h
  refine KR.se (one_ca (by kernel_rfl) q1) ?_
  refine KR.go 2 [(0, .pointer a0), (1, .int .i64 a1), (9, .bool (!t7))] 25 (s' := (.reg (opsAt (sub B [1, 0, 0])) [4, 5, 6, 7, 8] :: S1)) fun J => ?_
  by_cases c2 : t7 = true
  · replace h := iteT c2 h
    refine KR.setV 9 (by kernel_rfl) (nB (bT c2)) ?_
    refine KR.go 2 [(0, .pointer a0), (1, .int .i64 a1), (9, .bool false), (10, .pointer a0), (11, .int .i64 a1)] 25 (s' := (.reg (opsAt (sub B [1, 0, 0])) [6, 7, 8] :: S1)) fun J => ?_
    obtain ⟨t12, H_2, q3, h⟩ := h
    refine KR.se (one_ca (by kernel_rfl) q3) ?_
    exact KR.go 3 [(0, .pointer a0), (1, .int .i64 a1), (14, .bool (!t12))] 25 (s' := (.code (sub B [1, 0, 1]) :: S0)) h
  · replace h := iteF c2 h
    refine KR.setV 9 (by kernel_rfl) (nB (bF c2)) ?_
    exact KR.go 6 [(0, .pointer a0), (1, .int .i64 a1), (14, .bool true)] 25 (s' := (.code (sub B [1, 0, 1]) :: S0)) h
end F49
/-! #### 52 (*campanile/bits.Reader).End -/
namespace F52
noncomputable def B : Code := bodyOf Try.f52
noncomputable def S0 : List It := (.code (sub B [1, 1]) :: [])
noncomputable def S4 : List It := (.code (sub B [1, 1, 1]) :: [])
noncomputable def S1 : List It := (.blk 0 :: S0)
noncomputable def S2 : List It := (.code (sub B [1, 0, 0, 1]) :: S1)
noncomputable def S3 : List It := (.code (sub B [1, 0, 0, 1, 1, 1]) :: S1)
def L0 (t0b t0o : Nat) (t6 : Bool) (H : Heap) (r : Value × Heap) : Prop := ∀ J, KR Try.prog good Try.f52 S3 (mat J 21 [(0, .pointer (some ⟨t0b, t0o, none⟩)), (6, .bool t6)]) H r
theorem L0_step {t0b t0o : Nat} {t6 : Bool} {H : Heap} {r : Value × Heap} (h :
    if t6 = true then
    (r = (.int .i64 3, H))
    else
    (∃ (t20 : Int), ldc H t0b (t0o + 2) = some (.int .i64 t20) ∧
    (r = (.int .i64 t20, H)))) :
    L0 t0b t0o t6 H r := by
  intro J
  show KR _ _ _ (.code (sub B [1, 0, 0, 1, 1, 1]) :: S1) _ _ _
  by_cases c6 : t6 = true
  · replace h := iteT c6 h
    refine KR.bb true (vB (bT c6)) ?_
    refine KR.go 4 [(2, .int .i64 3)] 21 (s' := (.code (sub B [1, 0, 0, 1, 1, 1, 0, 1]) :: S1)) fun J => ?_
    exact KR.fi h
  · replace h := iteF c6 h
    refine KR.bb false (vB (bF c6)) ?_
    refine KR.go 7 [(19, .pointer (some ⟨t0b, (t0o + 2), none⟩))] 21 (s' := (.reg (opsAt (sub B [1, 1, 0])) [3, 4] :: S4)) fun J => ?_
    obtain ⟨t20, q7, h⟩ := h
    refine KR.rd (one_ld (by kernel_rfl) q7) ?_
    refine KR.go 2 [(2, .int .i64 t20)] 21 (s' := (.code (sub B [1, 1, 1]) :: [])) fun J => ?_
    exact KR.fi h
theorem call {a0 : Option Addr} {H : Heap} {r : Value × Heap} (h :
    if (Option.isNone a0) = true then
    (r = (.int .i64 1, H))
    else
    (∃ (a0b a0o : Nat), a0 = some ⟨a0b, a0o, none⟩ ∧
    (∃ (t10 : Int), ldc H a0b (a0o + 2) = some (.int .i64 t10) ∧
    (if t10 = 0 then
    (∃ (t14 : Int) (H_1 : Heap), xC Try.prog good 76 [.pointer (some ⟨a0b, a0o, none⟩)] H = some (.int .i64 t14, H_1) ∧
    (L0 a0b a0o ((decide (t14 > 0))) H_1 r))
    else
    (L0 a0b a0o false H r))))) :
    xC Try.prog good 52 [.pointer a0] H = some r := by
  refine KR.enter (fn := Try.f52) (c := B) (by kernel_rfl) (by kernel_rfl) ?_
  refine KR.go 9 [(0, .pointer a0), (4, .pointer a0)] 21 (s' := (.reg (opsAt (sub B [1, 0, 0, 0])) [1, 2] :: S2)) fun J => ?_
  refine KR.p (one_nl false a0 (by kernel_rfl)) ?_
  refine KR.go 2 [(0, .pointer a0), (3, .bool (Option.isNone a0))] 21 (s' := (.code (sub B [1, 0, 0, 1]) :: S1)) fun J => ?_
  by_cases c2 : (Option.isNone a0) = true
  · replace h := iteT c2 h
    refine KR.bb true (vB (bT c2)) ?_
    refine KR.go 4 [(2, .int .i64 1)] 21 (s' := (.code (sub B [1, 0, 0, 1, 0, 1]) :: S1)) fun J => ?_
    exact KR.fi h
  · replace h := iteF c2 h
    refine KR.bb false (vB (bF c2)) ?_
    obtain ⟨a0b, a0o, rfl, h⟩ := h
    refine KR.go 5 [(0, .pointer (some ⟨a0b, a0o, none⟩)), (9, .pointer (some ⟨a0b, (a0o + 2), none⟩))] 21 (s' := (.reg (opsAt (sub B [1, 0, 0, 1, 1, 0])) [3, 4, 5, 6, 7, 8, 9, 10] :: S3)) fun J => ?_
    obtain ⟨t10, q3, h⟩ := h
    refine KR.rd (one_ld (by kernel_rfl) q3) ?_
    refine KR.go 2 [(0, .pointer (some ⟨a0b, a0o, none⟩)), (12, .bool (t10 == 0))] 21 (s' := (.reg (opsAt (sub B [1, 0, 0, 1, 1, 0])) [6, 7, 8, 9, 10] :: S3)) fun J => ?_
    by_cases c4 : t10 = 0
    · replace h := iteT c4 h
      refine KR.setV 12 (by kernel_rfl) (eT c4) ?_
      refine KR.go 1 [(0, .pointer (some ⟨a0b, a0o, none⟩)), (12, .bool true), (13, .pointer (some ⟨a0b, a0o, none⟩))] 21 (s' := (.reg (opsAt (sub B [1, 0, 0, 1, 1, 0])) [7, 8, 9, 10] :: S3)) fun J => ?_
      obtain ⟨t14, H_1, q5, h⟩ := h
      refine KR.se (one_ca (by kernel_rfl) q5) ?_
      exact KR.go 4 [(0, .pointer (some ⟨a0b, a0o, none⟩)), (6, .bool (decide (t14 > 0)))] 21 (s' := (.code (sub B [1, 0, 0, 1, 1, 1]) :: S1)) h
    · replace h := iteF c4 h
      refine KR.setV 12 (by kernel_rfl) (eF c4) ?_
      exact KR.go 6 [(0, .pointer (some ⟨a0b, a0o, none⟩)), (6, .bool false)] 21 (s' := (.code (sub B [1, 0, 0, 1, 1, 1]) :: S1)) h
end F52
/-! #### 60 (*campanile/bits.Reader).Text -/
namespace F60
noncomputable def B : Code := bodyOf Try.f60
noncomputable def S0 : List It := (.code (sub B [1, 1]) :: [])
noncomputable def S2 : List It := (.code (sub B [1, 1, 1, 1]) :: [])
noncomputable def S1 : List It := (.code (sub B [1, 0, 1]) :: S0)
noncomputable def S3 : List It := (.blk 0 :: S2)
noncomputable def S4 : List It := (.lp (sub B [1, 1, 1, 0, 1, 0, 0]) :: S3)
noncomputable def S5 : List It := (.code (sub B [1, 1, 1, 0, 1, 0, 0, 1, 1]) :: S4)
noncomputable def S6 : List It := (.code (sub B [1, 1, 1, 0, 1, 0, 0, 1, 1, 1]) :: S4)
noncomputable def S7 : List It := (.blk 1 :: S6)
def L0 (t0 : Option Addr) (t1 : Int) (t19 : Bool) (H : Heap) (r : Value × Heap) : Prop := ∀ J, KR Try.prog good Try.f60 S1 (mat J 31 [(0, .pointer t0), (1, .int .i64 t1), (19, .bool t19)]) H r
def L1 (t0 t5a : Option Addr) (t5n t5k : Nat) (t20 t21 : Int) (H : Heap) (r : Value × Heap) : Prop := ∀ J, KR Try.prog good Try.f60 S4 (mat J 31 [(0, .pointer t0), (5, .slice t5a t5n t5k), (20, .int .i64 t20), (21, .int .i64 t21)]) H r
theorem L0_step {t0 : Option Addr} {t1 : Int} {t19 : Bool} {H : Heap} {r : Value × Heap} (h :
    if t19 = true then
    (r = (.slice none 0 0, H))
    else
    (L1 t0 none 0 0 t1 0 H r)) :
    L0 t0 t1 t19 H r := by
  intro J
  show KR _ _ _ (.code (sub B [1, 0, 1]) :: S0) _ _ _
  by_cases c4 : t19 = true
  · replace h := iteT c4 h
    refine KR.bb true (vB (bT c4)) ?_
    refine KR.go 4 [(4, .slice none 0 0)] 31 (s' := (.code (sub B [1, 0, 1, 0, 1]) :: S0)) fun J => ?_
    exact KR.fi h
  · replace h := iteF c4 h
    refine KR.bb false (vB (bF c4)) ?_
    exact KR.go 13 [(0, .pointer t0), (5, .slice none 0 0), (20, .int .i64 t1), (21, .int .i64 0)] 31 (s' := (.lp (sub B [1, 1, 1, 0, 1, 0, 0]) :: S3)) h
theorem L1_step {t0 t5a : Option Addr} {t5n t5k : Nat} {t20 t21 : Int} {H : Heap} {r : Value × Heap} (h :
    if t21 < t20 then
    (∃ (t25 : Int) (H_1 : Heap), xC Try.prog good 49 [.pointer t0, .int .i64 8] H = some (.int .u64 t25, H_1) ∧
    (∃ (H_2 : Heap), H_2 = H_1.push (.row [.int .u8 (IntKind.wrap .u8 t25)] true) ∧
    (∃ (t28a : Option Addr) (t28n t28k : Nat) (H_3 : Heap), papp H_2 1 1 t5a t5n t5k (some ⟨H_1.next, 0, none⟩) 1 (UNK 1) = some ((t28a, t28n, t28k), H_3) ∧
    (L1 t0 t28a t28n t28k t20 ((IntKind.wrap .i64 (t21 + 1))) H_3 r))))
    else
    (r = (.slice t5a t5n t5k, H))) :
    L1 t0 t5a t5n t5k t20 t21 H r := by
  intro J
  show KR _ _ _ (.lp (sub B [1, 1, 1, 0, 1, 0, 0]) :: S3) _ _ _
  refine KR.go 6 [(0, .pointer t0), (5, .slice t5a t5n t5k), (20, .int .i64 t20), (21, .int .i64 t21), (22, .bool (decide (t21 < t20)))] 31 (s' := (.code (sub B [1, 1, 1, 0, 1, 0, 0, 1, 0]) :: S5)) fun J => ?_
  by_cases c5 : t21 < t20
  · replace h := iteT c5 h
    refine KR.bb true (vB (dT c5)) ?_
    refine KR.go 6 [(0, .pointer t0), (20, .int .i64 t20), (21, .int .i64 t21), (23, .slice t5a t5n t5k), (24, .pointer t0)] 31 (s' := (.reg (opsAt (sub B [1, 1, 1, 0, 1, 0, 0, 1, 1, 0, 0])) [2, 3, 4, 5, 6] :: S7)) fun J => ?_
    obtain ⟨t25, H_1, q6, h⟩ := h
    refine KR.se (one_ca (by kernel_rfl) q6) ?_
    refine KR.go 1 [(0, .pointer t0), (20, .int .i64 t20), (21, .int .i64 t21), (23, .slice t5a t5n t5k), (26, .int .u8 (IntKind.wrap .u8 t25))] 31 (s' := (.reg (opsAt (sub B [1, 1, 1, 0, 1, 0, 0, 1, 1, 0, 0])) [4, 5, 6] :: S7)) fun J => ?_
    obtain ⟨H_2, q7, h⟩ := h
    refine KR.mk (w := sRow 1 1 [.int .u8 (IntKind.wrap .u8 t25)]) (one_al (by kernel_rfl)) q7 ?_
    obtain ⟨t28a, t28n, t28k, H_3, q8, h⟩ := h
    refine KR.se (one_ap 1 1 (by kernel_rfl) q8) ?_
    exact KR.go 7 [(0, .pointer t0), (5, .slice t28a t28n t28k), (20, .int .i64 t20), (21, .int .i64 (IntKind.wrap .i64 (t21 + 1)))] 31 (s' := (.lp (sub B [1, 1, 1, 0, 1, 0, 0]) :: S3)) h
  · replace h := iteF c5 h
    refine KR.bb false (vB (dF c5)) ?_
    refine KR.go 6 [(4, .slice t5a t5n t5k)] 31 (s' := (.code (sub B [1, 1, 1, 1, 1]) :: [])) fun J => ?_
    exact KR.fi h
theorem call {a0 : Option Addr} {a1 : Int} {H : Heap} {r : Value × Heap} (h :
    if a1 ≤ 0 then
    (L0 a0 a1 true H r)
    else
    (∃ (t12a : Option Addr) (t12n t12k : Nat) (H_1 : Heap), xC Try.prog good 77 [.pointer a0] H = some (.slice t12a t12n t12k, H_1) ∧
    (∃ (t17 : Bool) (H_2 : Heap), xC Try.prog good 72 [.pointer a0, .int .i64 (IntKind.wrap .i64 ((imin a1 (IntKind.wrap .i64 ((t12n : Int) + 1))) * 8))] H_1 = some (.bool t17, H_2) ∧
    (L0 a0 a1 ((!t17)) H_2 r)))) :
    xC Try.prog good 60 [.pointer a0, .int .i64 a1] H = some r := by
  refine KR.enter (fn := Try.f60) (c := B) (by kernel_rfl) (by kernel_rfl) ?_
  refine KR.go 10 [(0, .pointer a0), (1, .int .i64 a1), (8, .bool (decide (a1 ≤ 0)))] 31 (s' := (.reg (opsAt (sub B [1, 0, 0])) [3, 4, 5, 6, 7, 8, 9, 10, 11, 12, 13] :: S1)) fun J => ?_
  by_cases c1 : a1 ≤ 0
  · replace h := iteT c1 h
    refine KR.setV 8 (by kernel_rfl) (dT c1) ?_
    exact KR.go 12 [(0, .pointer a0), (1, .int .i64 a1), (19, .bool true)] 31 (s' := (.code (sub B [1, 0, 1]) :: S0)) h
  · replace h := iteF c1 h
    refine KR.setV 8 (by kernel_rfl) (dF c1) ?_
    refine KR.go 3 [(0, .pointer a0), (1, .int .i64 a1), (8, .bool false), (9, .pointer a0), (10, .int .i64 a1), (11, .pointer a0)] 31 (s' := (.reg (opsAt (sub B [1, 0, 0])) [6, 7, 8, 9, 10, 11, 12, 13] :: S1)) fun J => ?_
    obtain ⟨t12a, t12n, t12k, H_1, q2, h⟩ := h
    refine KR.se (one_ca (by kernel_rfl) q2) ?_
    refine KR.go 4 [(0, .pointer a0), (1, .int .i64 a1), (8, .bool false), (9, .pointer a0), (16, .int .i64 (IntKind.wrap .i64 ((imin a1 (IntKind.wrap .i64 ((t12n : Int) + 1))) * 8)))] 31 (s' := (.reg (opsAt (sub B [1, 0, 0])) [11, 12, 13] :: S1)) fun J => ?_
    obtain ⟨t17, H_2, q3, h⟩ := h
    refine KR.se (one_ca (by kernel_rfl) q3) ?_
    exact KR.go 3 [(0, .pointer a0), (1, .int .i64 a1), (19, .bool (!t17))] 31 (s' := (.code (sub B [1, 0, 1]) :: S0)) h
end F60
/-! #### 62 (*campanile/bits.Writer).Text -/
namespace F62
noncomputable def B : Code := bodyOf Try.f62
noncomputable def S0 : List It := (.blk 0 :: [])
noncomputable def S1 : List It := (.lp (sub B [1, 0, 0]) :: S0)
noncomputable def S2 : List It := (.code (sub B [1, 0, 0, 1, 1]) :: S1)
noncomputable def S3 : List It := (.code (sub B [1, 0, 0, 1, 1, 1]) :: S1)
noncomputable def S4 : List It := (.blk 1 :: S3)
noncomputable def S5 : List It := (.code (sub B [1, 0, 0, 1, 1, 0, 0, 1]) :: S4)
def L0 (t0 t6a : Option Addr) (t6n t6k : Nat) (t7 t8 : Int) (H : Heap) (r : Value × Heap) : Prop := ∀ J, KR Try.prog good Try.f62 S1 (mat J 17 [(0, .pointer t0), (6, .slice t6a t6n t6k), (7, .int .i64 t7), (8, .int .i64 t8)]) H r
theorem L0_step {t0 t6a : Option Addr} {t6n t6k : Nat} {t7 t8 : Int} {H : Heap} {r : Value × Heap} (h :
    if t8 < t7 then
    (∃ (t6ab t6ao : Nat), t6a = some ⟨t6ab, t6ao, none⟩ ∧
    ((0 : Int) ≤ t8 ∧ t8 < (t6n : Int) ∧
    (∃ (t11 : Int), ldc H t6ab (t6ao + Int.toNat t8 * 1) = some (.int .u8 t11) ∧
    (∃ (H_1 : Heap), xC Try.prog good 41 [.pointer t0, .int .u64 (IntKind.wrap .u64 t11), .int .i64 8] H = some (.tuple #[], H_1) ∧
    (L0 t0 ((some ⟨t6ab, t6ao, none⟩)) t6n t6k t7 ((IntKind.wrap .i64 (t8 + 1))) H_1 r)))))
    else
    (r = (.tuple #[], H))) :
    L0 t0 t6a t6n t6k t7 t8 H r := by
  intro J
  show KR _ _ _ (.lp (sub B [1, 0, 0]) :: S0) _ _ _
  refine KR.go 6 [(0, .pointer t0), (6, .slice t6a t6n t6k), (7, .int .i64 t7), (8, .int .i64 t8), (9, .bool (decide (t8 < t7)))] 17 (s' := (.code (sub B [1, 0, 0, 1, 0]) :: S2)) fun J => ?_
  by_cases c1 : t8 < t7
  · replace h := iteT c1 h
    refine KR.bb true (vB (dT c1)) ?_
    obtain ⟨t6ab, t6ao, rfl, h⟩ := h
    refine KR.go 5 [(0, .pointer t0), (6, .slice (some ⟨t6ab, t6ao, none⟩) t6n t6k), (7, .int .i64 t7), (8, .int .i64 t8)] 17 (s' := (.reg (opsAt (sub B [1, 0, 0, 1, 1, 0, 0, 0])) [0, 1, 2] :: S5)) fun J => ?_
    obtain ⟨q2, q2x, h⟩ := h
    refine KR.p (one_ix 1 t6ab t6ao (by kernel_rfl) q2 q2x) ?_
    obtain ⟨t11, q3, h⟩ := h
    refine KR.rd (one_ld (by kernel_rfl) q3) ?_
    refine KR.go 6 [(0, .pointer t0), (6, .slice (some ⟨t6ab, t6ao, none⟩) t6n t6k), (7, .int .i64 t7), (8, .int .i64 t8), (12, .pointer t0), (14, .int .u64 (IntKind.wrap .u64 t11))] 17 (s' := (.reg (opsAt (sub B [1, 0, 0, 1, 1, 0, 0, 1])) [3] :: S4)) fun J => ?_
    obtain ⟨H_1, q4, h⟩ := h
    refine KR.se (one_ca (by kernel_rfl) q4) ?_
    exact KR.go 6 [(0, .pointer t0), (6, .slice (some ⟨t6ab, t6ao, none⟩) t6n t6k), (7, .int .i64 t7), (8, .int .i64 (IntKind.wrap .i64 (t8 + 1)))] 17 (s' := (.lp (sub B [1, 0, 0]) :: S0)) h
  · replace h := iteF c1 h
    refine KR.bb false (vB (dF c1)) ?_
    refine KR.go 1 [] 17 (s' := []) fun J => ?_
    exact KR.fin0 (by kernel_rfl) h
theorem call {a0 a1a : Option Addr} {a1n a1k : Nat} {H : Heap} {r : Value × Heap} (h :
    L0 a0 a1a a1n a1k ((a1n : Int)) 0 H r) :
    xC Try.prog good 62 [.pointer a0, .slice a1a a1n a1k] H = some r := by
  refine KR.enter (fn := Try.f62) (c := B) (by kernel_rfl) (by kernel_rfl) ?_
  exact KR.go 8 [(0, .pointer a0), (6, .slice a1a a1n a1k), (7, .int .i64 (a1n : Int)), (8, .int .i64 0)] 17 (s' := (.lp (sub B [1, 0, 0]) :: S0)) h
end F62
/-! #### 71 campanile/bits.good -/
namespace F71
noncomputable def B : Code := bodyOf Try.f71
noncomputable def S0 : List It := (.code (sub B [1, 1]) :: [])
theorem call {a0 : Int} {H : Heap} {r : Value × Heap} (h :
    if a0 ≥ 0 then
    (r = (.bool (decide (a0 ≤ 64)), H))
    else
    (r = (.bool false, H))) :
    xC Try.prog good 71 [.int .i64 a0] H = some r := by
  refine KR.enter (fn := Try.f71) (c := B) (by kernel_rfl) (by kernel_rfl) ?_
  refine KR.go 9 [(0, .int .i64 a0), (5, .bool (decide (a0 ≥ 0)))] 9 (s' := (.reg (opsAt (sub B [1, 0])) [3, 4, 5, 6] :: S0)) fun J => ?_
  by_cases c1 : a0 ≥ 0
  · replace h := iteT c1 h
    refine KR.setV 5 (by kernel_rfl) (dT c1) ?_
    refine KR.go 5 [(2, .bool (decide (a0 ≤ 64)))] 9 (s' := (.code (sub B [1, 1]) :: [])) fun J => ?_
    exact KR.fi h
  · replace h := iteF c1 h
    refine KR.setV 5 (by kernel_rfl) (dF c1) ?_
    refine KR.go 5 [(2, .bool false)] 9 (s' := (.code (sub B [1, 1]) :: [])) fun J => ?_
    exact KR.fi h
end F71
/-! #### 72 (*campanile/bits.Reader).ready -/
namespace F72
noncomputable def B : Code := bodyOf Try.f72
noncomputable def S0 : List It := (.code (sub B [1, 1]) :: [])
noncomputable def S2 : List It := (.code (sub B [1, 1, 1]) :: [])
noncomputable def S1 : List It := (.code (sub B [1, 0, 1]) :: S0)
noncomputable def S3 : List It := (.code (sub B [1, 1, 0, 1]) :: S2)
noncomputable def S4 : List It := (.code (sub B [1, 1, 0, 1, 0, 1]) :: S2)
def L0 (t0 : Option Addr) (t1 : Int) (t13 : Bool) (H : Heap) (r : Value × Heap) : Prop := ∀ J, KR Try.prog good Try.f72 S1 (mat J 20 [(0, .pointer t0), (1, .int .i64 t1), (13, .bool t13)]) H r
theorem L0_step {t0 : Option Addr} {t1 : Int} {t13 : Bool} {H : Heap} {r : Value × Heap} (h :
    if t13 = true then
    (r = (.bool false, H))
    else
    (∃ (t16 : Int) (H_1 : Heap), xC Try.prog good 76 [.pointer t0] H = some (.int .i64 t16, H_1) ∧
    (if t1 > t16 then
    (∃ (H_2 : Heap), xC Try.prog good 80 [.pointer t0, .int .i64 2] H_1 = some (.tuple #[], H_2) ∧
    (r = (.bool false, H_2)))
    else
    (r = (.bool true, H_1))))) :
    L0 t0 t1 t13 H r := by
  intro J
  show KR _ _ _ (.code (sub B [1, 0, 1]) :: S0) _ _ _
  by_cases c4 : t13 = true
  · replace h := iteT c4 h
    refine KR.bb true (vB (bT c4)) ?_
    refine KR.go 4 [(4, .bool false)] 20 (s' := (.code (sub B [1, 0, 1, 0, 1]) :: S0)) fun J => ?_
    exact KR.fi h
  · replace h := iteF c4 h
    refine KR.bb false (vB (bF c4)) ?_
    refine KR.go 6 [(0, .pointer t0), (14, .int .i64 t1), (15, .pointer t0)] 20 (s' := (.reg (opsAt (sub B [1, 1, 0, 0])) [2, 3] :: S3)) fun J => ?_
    obtain ⟨t16, H_1, q5, h⟩ := h
    refine KR.se (one_ca (by kernel_rfl) q5) ?_
    refine KR.go 2 [(0, .pointer t0), (17, .bool (decide (t1 > t16)))] 20 (s' := (.code (sub B [1, 1, 0, 1]) :: S2)) fun J => ?_
    by_cases c6 : t1 > t16
    · replace h := iteT c6 h
      refine KR.bb true (vB (dT c6)) ?_
      refine KR.go 3 [(18, .pointer t0)] 20 (s' := (.reg (opsAt (sub B [1, 1, 0, 1, 0, 0])) [1] :: S4)) fun J => ?_
      obtain ⟨H_2, q7, h⟩ := h
      refine KR.se (one_ca (by kernel_rfl) q7) ?_
      refine KR.go 5 [(4, .bool false)] 20 (s' := (.code (sub B [1, 1, 0, 1, 0, 1, 1]) :: S2)) fun J => ?_
      exact KR.fi h
    · replace h := iteF c6 h
      refine KR.bb false (vB (dF c6)) ?_
      refine KR.go 5 [(4, .bool true)] 20 (s' := (.code (sub B [1, 1, 1, 1]) :: [])) fun J => ?_
      exact KR.fi h
theorem call {a0 : Option Addr} {a1 : Int} {H : Heap} {r : Value × Heap} (h :
    if (Option.isNone a0) = true then
    (L0 a0 a1 true H r)
    else
    (∃ (a0b a0o : Nat), a0 = some ⟨a0b, a0o, none⟩ ∧
    (∃ (t11 : Int), ldc H a0b (a0o + 2) = some (.int .i64 t11) ∧
    (L0 ((some ⟨a0b, a0o, none⟩)) a1 ((!(t11 == 0))) H r)))) :
    xC Try.prog good 72 [.pointer a0, .int .i64 a1] H = some r := by
  refine KR.enter (fn := Try.f72) (c := B) (by kernel_rfl) (by kernel_rfl) ?_
  refine KR.go 8 [(0, .pointer a0), (1, .int .i64 a1), (5, .pointer a0)] 20 (s' := (.reg (opsAt (sub B [1, 0, 0])) [1, 2, 3, 4, 5, 6, 7, 8] :: S1)) fun J => ?_
  refine KR.p (one_nl false a0 (by kernel_rfl)) ?_
  refine KR.go 1 [(0, .pointer a0), (1, .int .i64 a1), (7, .bool (Option.isNone a0))] 20 (s' := (.reg (opsAt (sub B [1, 0, 0])) [3, 4, 5, 6, 7, 8] :: S1)) fun J => ?_
  by_cases c2 : (Option.isNone a0) = true
  · replace h := iteT c2 h
    refine KR.setV 7 (by kernel_rfl) (bT c2) ?_
    exact KR.go 7 [(0, .pointer a0), (1, .int .i64 a1), (13, .bool true)] 20 (s' := (.code (sub B [1, 0, 1]) :: S0)) h
  · replace h := iteF c2 h
    refine KR.setV 7 (by kernel_rfl) (bF c2) ?_
    obtain ⟨a0b, a0o, rfl, h⟩ := h
    refine KR.go 3 [(0, .pointer (some ⟨a0b, a0o, none⟩)), (1, .int .i64 a1), (7, .bool false), (10, .pointer (some ⟨a0b, (a0o + 2), none⟩))] 20 (s' := (.reg (opsAt (sub B [1, 0, 0])) [6, 7, 8] :: S1)) fun J => ?_
    obtain ⟨t11, q3, h⟩ := h
    refine KR.rd (one_ld (by kernel_rfl) q3) ?_
    exact KR.go 3 [(0, .pointer (some ⟨a0b, a0o, none⟩)), (1, .int .i64 a1), (13, .bool (!(t11 == 0)))] 20 (s' := (.code (sub B [1, 0, 1]) :: S0)) h
end F72
/-! #### 73 (*campanile/bits.Reader).bit -/
namespace F73
noncomputable def B : Code := bodyOf Try.f73
noncomputable def S0 : List It := (.code (sub B [1, 1]) :: [])
noncomputable def S1 : List It := (.code (sub B [1, 1, 1]) :: [])
theorem call {a0 : Option Addr} {H : Heap} {r : Value × Heap} (h :
    ∃ (a0b a0o : Nat), a0 = some ⟨a0b, a0o, none⟩ ∧
    (∃ (t7a : Option Addr) (t7n t7k : Nat), ldc H a0b a0o = some (.slice t7a t7n t7k) ∧
    (∃ (t11 : Int), ldc H a0b (a0o + 1) = some (.int .i64 t11) ∧
    (∃ (t7ab t7ao : Nat), t7a = some ⟨t7ab, t7ao, none⟩ ∧
    ((0 : Int) ≤ (IntKind.wrap .i64 (Int.tdiv t11 8)) ∧ (IntKind.wrap .i64 (Int.tdiv t11 8)) < (t7n : Int) ∧
    (∃ (t14 : Int), ldc H t7ab (t7ao + Int.toNat (IntKind.wrap .i64 (Int.tdiv t11 8)) * 1) = some (.int .u8 t14) ∧
    (∃ (t18 : Int), ldc H a0b (a0o + 1) = some (.int .i64 t18) ∧
    ((0 : Int) ≤ (IntKind.wrap .i64 (7 - (Int.tmod t18 8))) ∧
    (∃ (t26 : Int), ldc H a0b (a0o + 1) = some (.int .i64 t26) ∧
    (∃ (H_1 : Heap), stc H a0b (a0o + 1) [.int .i64 (IntKind.wrap .i64 (t26 + 1))] = some H_1 ∧
    (r = (.int .u64 (IntKind.wrap .u64 (iand .u8 (ishr .u8 t14 (IntKind.wrap .i64 (7 - (Int.tmod t18 8)))) 1)), H_1)))))))))))) :
    xC Try.prog good 73 [.pointer a0] H = some r := by
  refine KR.enter (fn := Try.f73) (c := B) (by kernel_rfl) (by kernel_rfl) ?_
  refine KR.go 5 [(0, .pointer a0)] 32 (s' := (.code (sub B [1, 0]) :: S0)) fun J => ?_
  refine KR.sd (by kernel_rfl) ?_
  obtain ⟨a0b, a0o, rfl, h⟩ := h
  refine KR.go 3 [(0, .pointer (some ⟨a0b, a0o, none⟩)), (6, .pointer (some ⟨a0b, a0o, none⟩))] 32 (s' := (.reg (opsAt (sub B [1, 0])) [3, 4, 5, 6, 7, 8, 9, 10, 11, 12, 13, 14, 15, 16, 17, 18, 19] :: S0)) fun J => ?_
  obtain ⟨t7a, t7n, t7k, q1, h⟩ := h
  refine KR.rd (one_ld (by kernel_rfl) q1) ?_
  refine KR.go 3 [(0, .pointer (some ⟨a0b, a0o, none⟩)), (7, .slice t7a t7n t7k), (10, .pointer (some ⟨a0b, (a0o + 1), none⟩))] 32 (s' := (.reg (opsAt (sub B [1, 0])) [7, 8, 9, 10, 11, 12, 13, 14, 15, 16, 17, 18, 19] :: S0)) fun J => ?_
  obtain ⟨t11, q2, h⟩ := h
  refine KR.rd (one_ld (by kernel_rfl) q2) ?_
  obtain ⟨t7ab, t7ao, rfl, h⟩ := h
  refine KR.go 1 [(0, .pointer (some ⟨a0b, a0o, none⟩)), (7, .slice (some ⟨t7ab, t7ao, none⟩) t7n t7k), (12, .int .i64 (IntKind.wrap .i64 (Int.tdiv t11 8)))] 32 (s' := (.reg (opsAt (sub B [1, 0])) [9, 10, 11, 12, 13, 14, 15, 16, 17, 18, 19] :: S0)) fun J => ?_
  obtain ⟨q3, q3x, h⟩ := h
  refine KR.p (one_ix 1 t7ab t7ao (by kernel_rfl) q3 q3x) ?_
  obtain ⟨t14, q4, h⟩ := h
  refine KR.rd (one_ld (by kernel_rfl) q4) ?_
  refine KR.go 3 [(0, .pointer (some ⟨a0b, a0o, none⟩)), (14, .int .u8 t14), (17, .pointer (some ⟨a0b, (a0o + 1), none⟩))] 32 (s' := (.reg (opsAt (sub B [1, 0])) [14, 15, 16, 17, 18, 19] :: S0)) fun J => ?_
  obtain ⟨t18, q5, h⟩ := h
  refine KR.rd (one_ld (by kernel_rfl) q5) ?_
  refine KR.go 2 [(0, .pointer (some ⟨a0b, a0o, none⟩)), (14, .int .u8 t14), (20, .int .i64 (IntKind.wrap .i64 (7 - (Int.tmod t18 8))))] 32 (s' := (.reg (opsAt (sub B [1, 0])) [17, 18, 19] :: S0)) fun J => ?_
  obtain ⟨q6, h⟩ := h
  refine KR.p (one_shr .u8 .i64 t14 (by kernel_rfl) q6) ?_
  refine KR.go 8 [(3, .int .u8 (iand .u8 (ishr .u8 t14 (IntKind.wrap .i64 (7 - (Int.tmod t18 8)))) 1)), (23, .pointer (some ⟨a0b, a0o, none⟩)), (25, .pointer (some ⟨a0b, (a0o + 1), none⟩))] 32 (s' := (.reg (opsAt (sub B [1, 1, 0])) [3, 4, 5, 6, 7] :: S1)) fun J => ?_
  obtain ⟨t26, q7, h⟩ := h
  refine KR.rd (one_ld (by kernel_rfl) q7) ?_
  refine KR.go 3 [(3, .int .u8 (iand .u8 (ishr .u8 t14 (IntKind.wrap .i64 (7 - (Int.tmod t18 8)))) 1)), (27, .int .i64 (IntKind.wrap .i64 (t26 + 1))), (29, .pointer (some ⟨a0b, (a0o + 1), none⟩))] 32 (s' := (.reg (opsAt (sub B [1, 1, 0])) [7] :: S1)) fun J => ?_
  obtain ⟨H_1, q8, h⟩ := h
  refine KR.se (one_st (by kernel_rfl) q8) ?_
  refine KR.go 7 [(2, .int .u64 (IntKind.wrap .u64 (iand .u8 (ishr .u8 t14 (IntKind.wrap .i64 (7 - (Int.tmod t18 8)))) 1)))] 32 (s' := (.code (sub B [1, 1, 1, 1]) :: [])) fun J => ?_
  exact KR.fi h
end F73
/-! #### 76 (*campanile/bits.Reader).Left -/
namespace F76
noncomputable def B : Code := bodyOf Try.f76
noncomputable def S0 : List It := (.code (sub B [1, 1]) :: [])
noncomputable def S2 : List It := (.code (sub B [1, 1, 1]) :: [])
noncomputable def S1 : List It := (.code (sub B [1, 0, 1]) :: S0)
theorem call {a0 : Option Addr} {H : Heap} {r : Value × Heap} (h :
    if (Option.isNone a0) = true then
    (r = (.int .i64 0, H))
    else
    (∃ (a0b a0o : Nat), a0 = some ⟨a0b, a0o, none⟩ ∧
    (∃ (t8a : Option Addr) (t8n t8k : Nat), ldc H a0b a0o = some (.slice t8a t8n t8k) ∧
    (∃ (t14 : Int), ldc H a0b (a0o + 1) = some (.int .i64 t14) ∧
    (r = (.int .i64 (IntKind.wrap .i64 ((IntKind.wrap .i64 (8 * (t8n : Int))) - t14)), H)))))) :
    xC Try.prog good 76 [.pointer a0] H = some r := by
  refine KR.enter (fn := Try.f76) (c := B) (by kernel_rfl) (by kernel_rfl) ?_
  refine KR.go 8 [(0, .pointer a0), (3, .pointer a0)] 16 (s' := (.reg (opsAt (sub B [1, 0, 0])) [1] :: S1)) fun J => ?_
  refine KR.p (one_nl false a0 (by kernel_rfl)) ?_
  refine KR.go 1 [(0, .pointer a0), (4, .bool (Option.isNone a0))] 16 (s' := (.code (sub B [1, 0, 1]) :: S0)) fun J => ?_
  by_cases c2 : (Option.isNone a0) = true
  · replace h := iteT c2 h
    refine KR.bb true (vB (bT c2)) ?_
    refine KR.go 4 [(2, .int .i64 0)] 16 (s' := (.code (sub B [1, 0, 1, 0, 1]) :: S0)) fun J => ?_
    exact KR.fi h
  · replace h := iteF c2 h
    refine KR.bb false (vB (bF c2)) ?_
    refine KR.go 2 [(0, .pointer a0)] 16 (s' := (.code (sub B [1, 1, 0]) :: S2)) fun J => ?_
    refine KR.sd (by kernel_rfl) ?_
    obtain ⟨a0b, a0o, rfl, h⟩ := h
    refine KR.go 3 [(0, .pointer (some ⟨a0b, a0o, none⟩)), (7, .pointer (some ⟨a0b, a0o, none⟩))] 16 (s' := (.reg (opsAt (sub B [1, 1, 0])) [3, 4, 5, 6, 7, 8, 9, 10, 11] :: S2)) fun J => ?_
    obtain ⟨t8a, t8n, t8k, q3, h⟩ := h
    refine KR.rd (one_ld (by kernel_rfl) q3) ?_
    refine KR.go 5 [(10, .int .i64 (IntKind.wrap .i64 (8 * (t8n : Int)))), (13, .pointer (some ⟨a0b, (a0o + 1), none⟩))] 16 (s' := (.reg (opsAt (sub B [1, 1, 0])) [9, 10, 11] :: S2)) fun J => ?_
    obtain ⟨t14, q4, h⟩ := h
    refine KR.rd (one_ld (by kernel_rfl) q4) ?_
    refine KR.go 3 [(2, .int .i64 (IntKind.wrap .i64 ((IntKind.wrap .i64 (8 * (t8n : Int))) - t14)))] 16 (s' := (.code (sub B [1, 1, 1]) :: [])) fun J => ?_
    exact KR.fi h
end F76
/-! #### 77 (*campanile/bits.Reader).bytes -/
namespace F77
noncomputable def B : Code := bodyOf Try.f77
noncomputable def S0 : List It := (.code (sub B [1, 1]) :: [])
noncomputable def S2 : List It := (.code (sub B [1, 1, 1]) :: [])
noncomputable def S1 : List It := (.code (sub B [1, 0, 1]) :: S0)
theorem call {a0 : Option Addr} {H : Heap} {r : Value × Heap} (h :
    if (Option.isNone a0) = true then
    (r = (.slice none 0 0, H))
    else
    (∃ (a0b a0o : Nat), a0 = some ⟨a0b, a0o, none⟩ ∧
    (∃ (t8a : Option Addr) (t8n t8k : Nat), ldc H a0b a0o = some (.slice t8a t8n t8k) ∧
    (r = (.slice t8a t8n t8k, H))))) :
    xC Try.prog good 77 [.pointer a0] H = some r := by
  refine KR.enter (fn := Try.f77) (c := B) (by kernel_rfl) (by kernel_rfl) ?_
  refine KR.go 8 [(0, .pointer a0), (3, .pointer a0)] 9 (s' := (.reg (opsAt (sub B [1, 0, 0])) [1] :: S1)) fun J => ?_
  refine KR.p (one_nl false a0 (by kernel_rfl)) ?_
  refine KR.go 1 [(0, .pointer a0), (4, .bool (Option.isNone a0))] 9 (s' := (.code (sub B [1, 0, 1]) :: S0)) fun J => ?_
  by_cases c2 : (Option.isNone a0) = true
  · replace h := iteT c2 h
    refine KR.bb true (vB (bT c2)) ?_
    refine KR.go 4 [(2, .slice none 0 0)] 9 (s' := (.code (sub B [1, 0, 1, 0, 1]) :: S0)) fun J => ?_
    exact KR.fi h
  · replace h := iteF c2 h
    refine KR.bb false (vB (bF c2)) ?_
    obtain ⟨a0b, a0o, rfl, h⟩ := h
    refine KR.go 6 [(7, .pointer (some ⟨a0b, a0o, none⟩))] 9 (s' := (.reg (opsAt (sub B [1, 1, 0])) [3, 4] :: S2)) fun J => ?_
    obtain ⟨t8a, t8n, t8k, q3, h⟩ := h
    refine KR.rd (one_ld (by kernel_rfl) q3) ?_
    refine KR.go 2 [(2, .slice t8a t8n t8k)] 9 (s' := (.code (sub B [1, 1, 1]) :: [])) fun J => ?_
    exact KR.fi h
end F77
/-! #### 80 (*campanile/bits.Reader).fails -/
namespace F80
noncomputable def B : Code := bodyOf Try.f80
theorem call {a0 : Option Addr} {a1 : Int} {H : Heap} {r : Value × Heap} (h :
    ∃ (a0b a0o : Nat), a0 = some ⟨a0b, a0o, none⟩ ∧
    (∃ (H_1 : Heap), stc H a0b (a0o + 2) [.int .i64 a1] = some H_1 ∧
    (∃ (H_2 : Heap), stc H_1 a0b a0o [.slice none 0 0] = some H_2 ∧
    (∃ (H_3 : Heap), stc H_2 a0b (a0o + 1) [.int .i64 0] = some H_3 ∧
    (r = (.tuple #[], H_3)))))) :
    xC Try.prog good 80 [.pointer a0, .int .i64 a1] H = some r := by
  refine KR.enter (fn := Try.f80) (c := B) (by kernel_rfl) (by kernel_rfl) ?_
  obtain ⟨a0b, a0o, rfl, h⟩ := h
  refine KR.go 7 [(5, .pointer (some ⟨a0b, a0o, none⟩)), (6, .pointer (some ⟨a0b, a0o, none⟩)), (7, .int .i64 a1), (9, .pointer (some ⟨a0b, (a0o + 2), none⟩))] 14 (s' := (.reg (opsAt (sub B [])) [6, 7, 8, 9, 10, 11, 12] :: [])) fun J => ?_
  obtain ⟨H_1, q1, h⟩ := h
  refine KR.se (one_st (by kernel_rfl) q1) ?_
  refine KR.go 2 [(6, .pointer (some ⟨a0b, a0o, none⟩)), (11, .pointer (some ⟨a0b, a0o, none⟩))] 14 (s' := (.reg (opsAt (sub B [])) [9, 10, 11, 12] :: [])) fun J => ?_
  obtain ⟨H_2, q2, h⟩ := h
  refine KR.se (one_st (by kernel_rfl) q2) ?_
  refine KR.go 2 [(13, .pointer (some ⟨a0b, (a0o + 1), none⟩))] 14 (s' := (.reg (opsAt (sub B [])) [12] :: [])) fun J => ?_
  obtain ⟨H_3, q3, h⟩ := h
  refine KR.se (one_st (by kernel_rfl) q3) ?_
  refine KR.go 1 [] 14 (s' := []) fun J => ?_
  exact KR.fin0 (by kernel_rfl) h
end F80
end Go.X
