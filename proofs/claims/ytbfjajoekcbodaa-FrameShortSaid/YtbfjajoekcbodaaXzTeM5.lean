/- The walks of the functions: printed. -/
import Derived.Test.YtbfjajoekcbodaaXzGe
set_option linter.unusedVariables false
set_option maxRecDepth 100000
namespace Go.X
open Go Go.RowKit Go.Proofs
/-! #### 11 campanile/campanilelaw7.FrameShort -/
namespace F11
noncomputable def B : Code := bodyOf Try.f11
noncomputable def S0 : List It := (.code (sub B [1]) :: [])
noncomputable def S1 : List It := (.code (sub B [1, 1]) :: [])
noncomputable def S3 : List It := (.code (sub B [1, 1, 1]) :: [])
noncomputable def S4 : List It := (.code (sub B [1, 1, 1, 1]) :: [])
noncomputable def S8 : List It := (.code (sub B [1, 1, 1, 1, 1]) :: [])
noncomputable def S9 : List It := (.code (sub B [1, 1, 1, 1, 1, 1]) :: [])
noncomputable def S10 : List It := (.code (sub B [1, 1, 1, 1, 1, 1, 1]) :: [])
noncomputable def S2 : List It := (.code (sub B [1, 0, 1]) :: S1)
noncomputable def S5 : List It := (.code (sub B [1, 1, 1, 0, 1]) :: S4)
noncomputable def S6 : List It := (.code (sub B [1, 0, 1, 0, 1]) :: S1)
noncomputable def S7 : List It := (.code (sub B [1, 1, 1, 0, 1, 0, 1]) :: S4)
def L0 (t1 : Int) (t2b t2o : Nat) (t5a : Option Addr) (t5n t5k : Nat) (t6 : Int) (t24 : Bool) (H : Heap) (r : Value × Heap) : Prop := ∀ J, KR Try.prog good Try.f11 S5 (mat J 62 [(1, .int .i64 t1), (2, .pointer (some ⟨t2b, t2o, none⟩)), (5, .slice t5a t5n t5k), (6, .int .i64 t6), (24, .bool t24)]) H r
theorem L0_step {t1 : Int} {t2b t2o : Nat} {t5a : Option Addr} {t5n t5k : Nat} {t6 : Int} {t24 : Bool} {H : Heap} {r : Value × Heap} (h :
    if t24 = true then
    (if t6 = 0 then
    (r = (.bool false, H))
    else
    (∃ (t28 : Bool) (H_1 : Heap), xC Try.prog good 27 [] H = some (.bool t28, H_1) ∧
    (r = (.bool t28, H_1))))
    else
    ((IntKind.wrap .u64 (t5n : Int)) ≠ 0 ∧
    (∃ (t40a : Option Addr) (t40n t40k : Nat), psl 1 t5a t5n t5k none (some (IntKind.wrap .i64 (Int.tmod (IntKind.wrap .u64 t1) (IntKind.wrap .u64 (t5n : Int))))) none = some (t40a, t40n, t40k) ∧
    (∃ (t41r0c0 t41r0c1 t41r0c2 t41r0c3 : Int) (t41r0c4a : Option Addr) (t41r0c4n t41r0c4k : Nat) (t41r0c5a : Option Addr) (t41r0c5n t41r0c5k : Nat) (t41r1 : Int) (H_2 : Heap), xC Try.prog good 30 [.slice t40a t40n t40k] H = some (.tuple #[.agg #[.int .i64 t41r0c0, .int .i64 t41r0c1, .int .i64 t41r0c2, .int .i64 t41r0c3, .slice t41r0c4a t41r0c4n t41r0c4k, .slice t41r0c5a t41r0c5n t41r0c5k], .int .i64 t41r1], H_2) ∧
    (∃ (H_3 : Heap), H_3 = H_2.push (.row [.int .i64 0, .int .i64 0, .int .i64 0, .int .i64 0, .slice none 0 0, .slice none 0 0] true) ∧
    (∃ (H_4 : Heap), stc H_3 H_2.next 0 [.int .i64 t41r0c0, .int .i64 t41r0c1, .int .i64 t41r0c2, .int .i64 t41r0c3, .slice t41r0c4a t41r0c4n t41r0c4k, .slice t41r0c5a t41r0c5n t41r0c5k] = some H_4 ∧
    (if ((t41r1 == 2) == (decide ((IntKind.wrap .i64 (Int.tmod (IntKind.wrap .u64 t1) (IntKind.wrap .u64 (t5n : Int)))) < 9))) = true then
    (if t41r1 = 0 then
    (∃ (t53c0 t53c1 t53c2 t53c3 : Int) (t53c4a : Option Addr) (t53c4n t53c4k : Nat) (t53c5a : Option Addr) (t53c5n t53c5k : Nat), ldAll H_4 t2b t2o [.int .i64 t53c0, .int .i64 t53c1, .int .i64 t53c2, .int .i64 t53c3, .slice t53c4a t53c4n t53c4k, .slice t53c5a t53c5n t53c5k] ∧
    (∃ (t54c0 t54c1 t54c2 t54c3 : Int) (t54c4a : Option Addr) (t54c4n t54c4k : Nat) (t54c5a : Option Addr) (t54c5n t54c5k : Nat), ldAll H_4 H_2.next 0 [.int .i64 t54c0, .int .i64 t54c1, .int .i64 t54c2, .int .i64 t54c3, .slice t54c4a t54c4n t54c4k, .slice t54c5a t54c5n t54c5k] ∧
    (∃ (t55 : Bool) (H_5 : Heap), xC Try.prog good 36 [.agg #[.int .i64 t53c0, .int .i64 t53c1, .int .i64 t53c2, .int .i64 t53c3, .slice t53c4a t53c4n t53c4k, .slice t53c5a t53c5n t53c5k], .agg #[.int .i64 t54c0, .int .i64 t54c1, .int .i64 t54c2, .int .i64 t54c3, .slice t54c4a t54c4n t54c4k, .slice t54c5a t54c5n t54c5k]] H_4 = some (.bool t55, H_5) ∧
    (if t55 = true then
    (r = (.bool false, H_5))
    else
    (∃ (t60 : Bool) (H_6 : Heap), xC Try.prog good 27 [] H_5 = some (.bool t60, H_6) ∧
    (r = (.bool t60, H_6)))))))
    else
    (∃ (t60_1 : Bool) (H_7 : Heap), xC Try.prog good 27 [] H_4 = some (.bool t60_1, H_7) ∧
    (r = (.bool t60_1, H_7))))
    else
    (r = (.bool false, H_4))))))))) :
    L0 t1 t2b t2o t5a t5n t5k t6 t24 H r := by
  intro J
  show KR _ _ _ (.code (sub B [1, 1, 1, 0, 1]) :: S4) _ _ _
  by_cases c9 : t24 = true
  · replace h := iteT c9 h
    refine KR.br true (by kernel_rfl) (vB (bT c9)) ?_
    refine KR.go 5 [(27, .bool (!(t6 == 0)))] 62 (s' := (.reg (opsAt (sub B [1, 1, 1, 0, 1, 0, 0])) [3, 4, 5] :: S7)) fun J => ?_
    by_cases c10 : t6 = 0
    · replace h := iteT c10 h
      refine KR.setV 27 (by kernel_rfl) (nB (eT c10)) ?_
      refine KR.go 4 [(4, .bool false)] 62 (s' := (.code (sub B [1, 1, 1, 0, 1, 0, 1]) :: S4)) fun J => ?_
      exact KR.fin (by kernel_rfl) h
    · replace h := iteF c10 h
      refine KR.setV 27 (by kernel_rfl) (nB (eF c10)) ?_
      obtain ⟨t28, H_1, q11, h⟩ := h
      refine KR.se (one_ca (by kernel_rfl) q11) ?_
      refine KR.go 3 [(4, .bool t28)] 62 (s' := (.code (sub B [1, 1, 1, 0, 1, 0, 1]) :: S4)) fun J => ?_
      exact KR.fin (by kernel_rfl) h
  · replace h := iteF c9 h
    refine KR.br false (by kernel_rfl) (vB (bF c9)) ?_
    refine KR.go 8 [(2, .pointer (some ⟨t2b, t2o, none⟩)), (5, .slice t5a t5n t5k), (31, .int .u64 (IntKind.wrap .u64 t1)), (34, .int .u64 (IntKind.wrap .u64 (t5n : Int)))] 62 (s' := (.reg (opsAt (sub B [1, 1, 1, 1, 0])) [5, 6, 7] :: S8)) fun J => ?_
    obtain ⟨q12, h⟩ := h
    refine KR.p (one_rem .u64 (IntKind.wrap .u64 t1) (by kernel_rfl) q12) ?_
    refine KR.go 7 [(1, .int .i64 (IntKind.wrap .i64 (Int.tmod (IntKind.wrap .u64 t1) (IntKind.wrap .u64 (t5n : Int))))), (2, .pointer (some ⟨t2b, t2o, none⟩)), (38, .slice t5a t5n t5k), (39, .int .i64 (IntKind.wrap .i64 (Int.tmod (IntKind.wrap .u64 t1) (IntKind.wrap .u64 (t5n : Int)))))] 62 (s' := (.reg (opsAt (sub B [1, 1, 1, 1, 1, 0])) [2, 3, 4, 5, 6, 7, 8, 9] :: S9)) fun J => ?_
    obtain ⟨t40a, t40n, t40k, q13, h⟩ := h
    refine KR.p (one_sl (by kernel_rfl) q13) ?_
    obtain ⟨t41r0c0, t41r0c1, t41r0c2, t41r0c3, t41r0c4a, t41r0c4n, t41r0c4k, t41r0c5a, t41r0c5n, t41r0c5k, t41r1, H_2, q14, h⟩ := h
    refine KR.se (one_ca (by kernel_rfl) q14) ?_
    refine KR.go 3 [(1, .int .i64 (IntKind.wrap .i64 (Int.tmod (IntKind.wrap .u64 t1) (IntKind.wrap .u64 (t5n : Int))))), (2, .pointer (some ⟨t2b, t2o, none⟩)), (42, .agg #[.int .i64 t41r0c0, .int .i64 t41r0c1, .int .i64 t41r0c2, .int .i64 t41r0c3, .slice t41r0c4a t41r0c4n t41r0c4k, .slice t41r0c5a t41r0c5n t41r0c5k]), (43, .int .i64 t41r1)] 62 (s' := (.reg (opsAt (sub B [1, 1, 1, 1, 1, 0])) [7, 8, 9] :: S9)) fun J => ?_
    obtain ⟨H_3, q15, h⟩ := h
    refine KR.mk (w := pRow [.int .i64 0, .int .i64 0, .int .i64 0, .int .i64 0, .slice none 0 0, .slice none 0 0]) (one_al (by kernel_rfl)) q15 ?_
    obtain ⟨H_4, q16, h⟩ := h
    refine KR.se (one_st (by kernel_rfl) q16) ?_
    refine KR.go 10 [(2, .pointer (some ⟨t2b, t2o, none⟩)), (7, .pointer (some ⟨H_2.next, 0, none⟩)), (8, .int .i64 t41r1), (49, .bool ((t41r1 == 2) == (decide ((IntKind.wrap .i64 (Int.tmod (IntKind.wrap .u64 t1) (IntKind.wrap .u64 (t5n : Int)))) < 9))))] 62 (s' := (.reg (opsAt (sub B [1, 1, 1, 1, 1, 1, 0])) [6, 7, 8, 9, 10, 11, 12, 13, 14, 15, 16, 17, 18] :: S10)) fun J => ?_
    by_cases c17 : ((t41r1 == 2) == (decide ((IntKind.wrap .i64 (Int.tmod (IntKind.wrap .u64 t1) (IntKind.wrap .u64 (t5n : Int)))) < 9))) = true
    · replace h := iteT c17 h
      refine KR.setV 49 (by kernel_rfl) (bT c17) ?_
      refine KR.go 3 [(2, .pointer (some ⟨t2b, t2o, none⟩)), (7, .pointer (some ⟨H_2.next, 0, none⟩)), (49, .bool true), (52, .bool (!(t41r1 == 0)))] 62 (s' := (.reg (opsAt (sub B [1, 1, 1, 1, 1, 1, 0])) [9, 10, 11, 12, 13, 14, 15, 16, 17, 18] :: S10)) fun J => ?_
      by_cases c18 : t41r1 = 0
      · replace h := iteT c18 h
        refine KR.setV 52 (by kernel_rfl) (nB (eT c18)) ?_
        obtain ⟨t53c0, t53c1, t53c2, t53c3, t53c4a, t53c4n, t53c4k, t53c5a, t53c5n, t53c5k, q19, h⟩ := h
        refine KR.rd (one_ldA (by kernel_rfl) q19) ?_
        obtain ⟨t54c0, t54c1, t54c2, t54c3, t54c4a, t54c4n, t54c4k, t54c5a, t54c5n, t54c5k, q20, h⟩ := h
        refine KR.rd (one_ldA (by kernel_rfl) q20) ?_
        obtain ⟨t55, H_5, q21, h⟩ := h
        refine KR.se (one_ca (by kernel_rfl) q21) ?_
        refine KR.go 4 [(59, .bool (!t55))] 62 (s' := (.reg (opsAt (sub B [1, 1, 1, 1, 1, 1, 0])) [16, 17, 18] :: S10)) fun J => ?_
        by_cases c22 : t55 = true
        · replace h := iteT c22 h
          refine KR.setV 59 (by kernel_rfl) (nB (bT c22)) ?_
          refine KR.go 4 [(4, .bool false)] 62 (s' := (.code (sub B [1, 1, 1, 1, 1, 1, 1]) :: [])) fun J => ?_
          exact KR.fin (by kernel_rfl) h
        · replace h := iteF c22 h
          refine KR.setV 59 (by kernel_rfl) (nB (bF c22)) ?_
          obtain ⟨t60, H_6, q23, h⟩ := h
          refine KR.se (one_ca (by kernel_rfl) q23) ?_
          refine KR.go 3 [(4, .bool t60)] 62 (s' := (.code (sub B [1, 1, 1, 1, 1, 1, 1]) :: [])) fun J => ?_
          exact KR.fin (by kernel_rfl) h
      · replace h := iteF c18 h
        refine KR.setV 52 (by kernel_rfl) (nB (eF c18)) ?_
        refine KR.go 7 [(59, .bool true)] 62 (s' := (.reg (opsAt (sub B [1, 1, 1, 1, 1, 1, 0])) [16, 17, 18] :: S10)) fun J => ?_
        obtain ⟨t60_1, H_7, q24, h⟩ := h
        refine KR.se (one_ca (by kernel_rfl) q24) ?_
        refine KR.go 3 [(4, .bool t60_1)] 62 (s' := (.code (sub B [1, 1, 1, 1, 1, 1, 1]) :: [])) fun J => ?_
        exact KR.fin (by kernel_rfl) h
    · replace h := iteF c17 h
      refine KR.setV 49 (by kernel_rfl) (bF c17) ?_
      refine KR.go 14 [(4, .bool false)] 62 (s' := (.code (sub B [1, 1, 1, 1, 1, 1, 1]) :: [])) fun J => ?_
      exact KR.fin (by kernel_rfl) h
theorem call {a0c0 a0c1 a0c2 a0c3 : Int} {a0c4a : Option Addr} {a0c4n a0c4k : Nat} {a0c5a : Option Addr} {a0c5n a0c5k : Nat} {a1 : Int} {H : Heap} {r : Value × Heap} (h :
    ∃ (H_1 : Heap), H_1 = H.push (.row [.int .i64 a0c0, .int .i64 a0c1, .int .i64 a0c2, .int .i64 a0c3, .slice a0c4a a0c4n a0c4k, .slice a0c5a a0c5n a0c5k] true) ∧
    (∃ (t9c0 t9c1 t9c2 t9c3 : Int) (t9c4a : Option Addr) (t9c4n t9c4k : Nat) (t9c5a : Option Addr) (t9c5n t9c5k : Nat), ldAll H_1 H.next 0 [.int .i64 t9c0, .int .i64 t9c1, .int .i64 t9c2, .int .i64 t9c3, .slice t9c4a t9c4n t9c4k, .slice t9c5a t9c5n t9c5k] ∧
    (∃ (t10 : Bool) (H_2 : Heap), xC Try.prog good 26 [.agg #[.int .i64 t9c0, .int .i64 t9c1, .int .i64 t9c2, .int .i64 t9c3, .slice t9c4a t9c4n t9c4k, .slice t9c5a t9c5n t9c5k]] H_1 = some (.bool t10, H_2) ∧
    (if t10 = true then
    (∃ (t14c0 t14c1 t14c2 t14c3 : Int) (t14c4a : Option Addr) (t14c4n t14c4k : Nat) (t14c5a : Option Addr) (t14c5n t14c5k : Nat), ldAll H_2 H.next 0 [.int .i64 t14c0, .int .i64 t14c1, .int .i64 t14c2, .int .i64 t14c3, .slice t14c4a t14c4n t14c4k, .slice t14c5a t14c5n t14c5k] ∧
    (∃ (t15r0a : Option Addr) (t15r0n t15r0k : Nat) (t15r1 : Int) (H_3 : Heap), xC Try.prog good 33 [.agg #[.int .i64 t14c0, .int .i64 t14c1, .int .i64 t14c2, .int .i64 t14c3, .slice t14c4a t14c4n t14c4k, .slice t14c5a t14c5n t14c5k]] H_2 = some (.tuple #[.slice t15r0a t15r0n t15r0k, .int .i64 t15r1], H_3) ∧
    (if t15r1 = 0 then
    (L0 a1 (H.next) 0 t15r0a t15r0n t15r0k t15r1 ((decide ((t15r0n : Int) < 10))) H_3 r)
    else
    (L0 a1 (H.next) 0 t15r0a t15r0n t15r0k t15r1 true H_3 r))))
    else
    (∃ (t12 : Bool) (H_4 : Heap), xC Try.prog good 27 [] H_2 = some (.bool t12, H_4) ∧
    (r = (.bool t12, H_4))))))) :
    xC Try.prog good 11 [.agg #[.int .i64 a0c0, .int .i64 a0c1, .int .i64 a0c2, .int .i64 a0c3, .slice a0c4a a0c4n a0c4k, .slice a0c5a a0c5n a0c5k], .int .i64 a1] H = some r := by
  refine KR.enter (fn := Try.f11) (c := B) (by kernel_rfl) (by kernel_rfl) ?_
  refine KR.go 2 [(0, .agg #[.int .i64 a0c0, .int .i64 a0c1, .int .i64 a0c2, .int .i64 a0c3, .slice a0c4a a0c4n a0c4k, .slice a0c5a a0c5n a0c5k]), (1, .int .i64 a1)] 62 (s' := (.reg (opsAt (sub B [0])) [0, 1] :: S0)) fun J => ?_
  obtain ⟨H_1, q1, h⟩ := h
  refine KR.mk (w := pRow [.int .i64 a0c0, .int .i64 a0c1, .int .i64 a0c2, .int .i64 a0c3, .slice a0c4a a0c4n a0c4k, .slice a0c5a a0c5n a0c5k]) (one_al (by kernel_rfl)) q1 ?_
  refine KR.go 5 [(1, .int .i64 a1), (2, .pointer (some ⟨H.next, 0, none⟩))] 62 (s' := (.reg (opsAt (sub B [1, 0, 0])) [0, 1, 2] :: S2)) fun J => ?_
  obtain ⟨t9c0, t9c1, t9c2, t9c3, t9c4a, t9c4n, t9c4k, t9c5a, t9c5n, t9c5k, q2, h⟩ := h
  refine KR.rd (one_ldA (by kernel_rfl) q2) ?_
  obtain ⟨t10, H_2, q3, h⟩ := h
  refine KR.se (one_ca (by kernel_rfl) q3) ?_
  refine KR.go 2 [(1, .int .i64 a1), (2, .pointer (some ⟨H.next, 0, none⟩)), (11, .bool (!t10))] 62 (s' := (.code (sub B [1, 0, 1]) :: S1)) fun J => ?_
  by_cases c4 : t10 = true
  · replace h := iteT c4 h
    refine KR.br false (by kernel_rfl) (vB (nB (bT c4))) ?_
    refine KR.go 3 [(1, .int .i64 a1), (2, .pointer (some ⟨H.next, 0, none⟩))] 62 (s' := (.reg (opsAt (sub B [1, 1, 0])) [0, 1, 2, 3, 4, 5, 6] :: S3)) fun J => ?_
    obtain ⟨t14c0, t14c1, t14c2, t14c3, t14c4a, t14c4n, t14c4k, t14c5a, t14c5n, t14c5k, q5, h⟩ := h
    refine KR.rd (one_ldA (by kernel_rfl) q5) ?_
    obtain ⟨t15r0a, t15r0n, t15r0k, t15r1, H_3, q6, h⟩ := h
    refine KR.se (one_ca (by kernel_rfl) q6) ?_
    refine KR.go 12 [(1, .int .i64 a1), (2, .pointer (some ⟨H.next, 0, none⟩)), (5, .slice t15r0a t15r0n t15r0k), (6, .int .i64 t15r1), (20, .bool (!(t15r1 == 0)))] 62 (s' := (.reg (opsAt (sub B [1, 1, 1, 0, 0])) [3, 4, 5, 6] :: S5)) fun J => ?_
    by_cases c7 : t15r1 = 0
    · replace h := iteT c7 h
      refine KR.setV 20 (by kernel_rfl) (nB (eT c7)) ?_
      exact KR.go 5 [(1, .int .i64 a1), (2, .pointer (some ⟨H.next, 0, none⟩)), (5, .slice t15r0a t15r0n t15r0k), (6, .int .i64 t15r1), (24, .bool (decide ((t15r0n : Int) < 10)))] 62 (s' := (.code (sub B [1, 1, 1, 0, 1]) :: S4)) h
    · replace h := iteF c7 h
      refine KR.setV 20 (by kernel_rfl) (nB (eF c7)) ?_
      exact KR.go 5 [(1, .int .i64 a1), (2, .pointer (some ⟨H.next, 0, none⟩)), (5, .slice t15r0a t15r0n t15r0k), (6, .int .i64 t15r1), (24, .bool true)] 62 (s' := (.code (sub B [1, 1, 1, 0, 1]) :: S4)) h
  · replace h := iteF c4 h
    refine KR.br true (by kernel_rfl) (vB (nB (bF c4))) ?_
    refine KR.go 2 [] 62 (s' := (.reg (opsAt (sub B [1, 0, 1, 0, 0])) [0, 1] :: S6)) fun J => ?_
    obtain ⟨t12, H_4, q8, h⟩ := h
    refine KR.se (one_ca (by kernel_rfl) q8) ?_
    refine KR.go 2 [(4, .bool t12)] 62 (s' := (.code (sub B [1, 0, 1, 0, 1]) :: S1)) fun J => ?_
    exact KR.fin (by kernel_rfl) h
end F11
end Go.X
