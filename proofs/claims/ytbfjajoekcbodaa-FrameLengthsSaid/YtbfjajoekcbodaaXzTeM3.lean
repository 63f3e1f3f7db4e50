/- The walks of the functions: printed. -/
import Derived.Test.YtbfjajoekcbodaaXzGe
set_option linter.unusedVariables false
set_option maxRecDepth 100000
namespace Go.X
open Go Go.RowKit Go.Proofs
/-! #### 9 campanile/campanilelaw7.FrameLengths -/
namespace F9
noncomputable def B : Code := bodyOf Try.f9
noncomputable def S0 : List It := (.code (sub B [1]) :: [])
noncomputable def S1 : List It := (.code (sub B [1, 1]) :: [])
noncomputable def S3 : List It := (.code (sub B [1, 1, 1]) :: [])
noncomputable def S4 : List It := (.code (sub B [1, 1, 1, 1]) :: [])
noncomputable def S5 : List It := (.code (sub B [1, 1, 1, 1, 1]) :: [])
noncomputable def S6 : List It := (.code (sub B [1, 1, 1, 1, 1, 1]) :: [])
noncomputable def S2 : List It := (.code (sub B [1, 0, 1]) :: S1)
noncomputable def S7 : List It := (.code (sub B [1, 1, 1, 0, 1, 0, 1]) :: S4)
noncomputable def S8 : List It := (.code (sub B [1, 0, 1, 0, 1]) :: S1)
theorem call {a0c0 a0c1 a0c2 a0c3 : Int} {a0c4a : Option Addr} {a0c4n a0c4k : Nat} {a0c5a : Option Addr} {a0c5n a0c5k : Nat} {H : Heap} {r : Value × Heap} (h :
    ∃ (H_1 : Heap), H_1 = H.push (.row [.int .i64 a0c0, .int .i64 a0c1, .int .i64 a0c2, .int .i64 a0c3, .slice a0c4a a0c4n a0c4k, .slice a0c5a a0c5n a0c5k] true) ∧
    (∃ (t7c0 t7c1 t7c2 t7c3 : Int) (t7c4a : Option Addr) (t7c4n t7c4k : Nat) (t7c5a : Option Addr) (t7c5n t7c5k : Nat), ldAll H_1 H.next 0 [.int .i64 t7c0, .int .i64 t7c1, .int .i64 t7c2, .int .i64 t7c3, .slice t7c4a t7c4n t7c4k, .slice t7c5a t7c5n t7c5k] ∧
    (∃ (t8 : Bool) (H_2 : Heap), xC Try.prog good 26 [.agg #[.int .i64 t7c0, .int .i64 t7c1, .int .i64 t7c2, .int .i64 t7c3, .slice t7c4a t7c4n t7c4k, .slice t7c5a t7c5n t7c5k]] H_1 = some (.bool t8, H_2) ∧
    (if t8 = true then
    (∃ (t12c0 t12c1 t12c2 t12c3 : Int) (t12c4a : Option Addr) (t12c4n t12c4k : Nat) (t12c5a : Option Addr) (t12c5n t12c5k : Nat), ldAll H_2 H.next 0 [.int .i64 t12c0, .int .i64 t12c1, .int .i64 t12c2, .int .i64 t12c3, .slice t12c4a t12c4n t12c4k, .slice t12c5a t12c5n t12c5k] ∧
    (∃ (t13r0a : Option Addr) (t13r0n t13r0k : Nat) (t13r1 : Int) (H_3 : Heap), xC Try.prog good 33 [.agg #[.int .i64 t12c0, .int .i64 t12c1, .int .i64 t12c2, .int .i64 t12c3, .slice t12c4a t12c4n t12c4k, .slice t12c5a t12c5n t12c5k]] H_2 = some (.tuple #[.slice t13r0a t13r0n t13r0k, .int .i64 t13r1], H_3) ∧
    (if t13r1 = 0 then
    (∃ (t26a : Option Addr) (t26n t26k : Nat), ldc H_3 H.next 4 = some (.slice t26a t26n t26k) ∧
    (∃ (t27r0a : Option Addr) (t27r0n t27r0k : Nat) (t27r1 : Int) (H_4 : Heap), xC Try.prog good 20 [.slice t26a t26n t26k] H_3 = some (.tuple #[.slice t27r0a t27r0n t27r0k, .int .i64 t27r1], H_4) ∧
    (∃ (t36a : Option Addr) (t36n t36k : Nat), ldc H_4 H.next 5 = some (.slice t36a t36n t36k) ∧
    (if (t13r0n : Int) = (IntKind.wrap .i64 ((IntKind.wrap .i64 (9 + (t27r0n : Int))) + (t36n : Int))) then
    (∃ (t13r0ab t13r0ao : Nat), t13r0a = some ⟨t13r0ab, t13r0ao, none⟩ ∧
    ((0 : Int) ≤ 1 ∧ 1 < (t13r0n : Int) ∧
    (∃ (t43 : Int), ldc H_4 t13r0ab (t13r0ao + 1) = some (.int .u8 t43) ∧
    (∃ (t46 : Int), ldc H_4 H.next 0 = some (.int .i64 t46) ∧
    (if (IntKind.wrap .i64 t43) = t46 then
    ((0 : Int) ≤ 2 ∧ 2 < (t13r0n : Int) ∧
    (∃ (t52 : Int), ldc H_4 t13r0ab (t13r0ao + 2) = some (.int .u8 t52) ∧
    (∃ (t55 : Int), ldc H_4 H.next 1 = some (.int .i64 t55) ∧
    (if (IntKind.wrap .i64 t52) = t55 then
    ((0 : Int) ≤ 3 ∧ 3 < (t13r0n : Int) ∧
    (∃ (t61 : Int), ldc H_4 t13r0ab (t13r0ao + 3) = some (.int .u8 t61) ∧
    (∃ (t64 : Int), ldc H_4 H.next 2 = some (.int .i64 t64) ∧
    (if (IntKind.wrap .i64 t61) = t64 then
    ((0 : Int) ≤ 4 ∧ 4 < (t13r0n : Int) ∧
    (∃ (t70 : Int), ldc H_4 t13r0ab (t13r0ao + 4) = some (.int .u8 t70) ∧
    (∃ (t73 : Int), ldc H_4 H.next 3 = some (.int .i64 t73) ∧
    (if (IntKind.wrap .i64 t70) = t73 then
    (∃ (t77 : Bool) (H_5 : Heap), xC Try.prog good 27 [] H_4 = some (.bool t77, H_5) ∧
    (r = (.bool t77, H_5)))
    else
    (r = (.bool false, H_4))))))
    else
    (r = (.bool false, H_4))))))
    else
    (r = (.bool false, H_4))))))
    else
    (r = (.bool false, H_4)))))))
    else
    (r = (.bool false, H_4))))))
    else
    (if (t13r0n : Int) = 0 then
    (∃ (t22 : Bool) (H_6 : Heap), xC Try.prog good 27 [] H_3 = some (.bool t22, H_6) ∧
    (r = (.bool t22, H_6)))
    else
    (r = (.bool false, H_3))))))
    else
    (∃ (t10 : Bool) (H_7 : Heap), xC Try.prog good 27 [] H_2 = some (.bool t10, H_7) ∧
    (r = (.bool t10, H_7))))))) :
    xC Try.prog good 9 [.agg #[.int .i64 a0c0, .int .i64 a0c1, .int .i64 a0c2, .int .i64 a0c3, .slice a0c4a a0c4n a0c4k, .slice a0c5a a0c5n a0c5k]] H = some r := by
  refine KR.enter (fn := Try.f9) (c := B) (by kernel_rfl) (by kernel_rfl) ?_
  refine KR.go 2 [(0, .agg #[.int .i64 a0c0, .int .i64 a0c1, .int .i64 a0c2, .int .i64 a0c3, .slice a0c4a a0c4n a0c4k, .slice a0c5a a0c5n a0c5k])] 79 (s' := (.reg (opsAt (sub B [0])) [0, 1] :: S0)) fun J => ?_
  obtain ⟨H_1, q1, h⟩ := h
  refine KR.mk (w := pRow [.int .i64 a0c0, .int .i64 a0c1, .int .i64 a0c2, .int .i64 a0c3, .slice a0c4a a0c4n a0c4k, .slice a0c5a a0c5n a0c5k]) (one_al (by kernel_rfl)) q1 ?_
  refine KR.go 5 [(1, .pointer (some ⟨H.next, 0, none⟩))] 79 (s' := (.reg (opsAt (sub B [1, 0, 0])) [0, 1, 2] :: S2)) fun J => ?_
  obtain ⟨t7c0, t7c1, t7c2, t7c3, t7c4a, t7c4n, t7c4k, t7c5a, t7c5n, t7c5k, q2, h⟩ := h
  refine KR.rd (one_ldA (by kernel_rfl) q2) ?_
  obtain ⟨t8, H_2, q3, h⟩ := h
  refine KR.se (one_ca (by kernel_rfl) q3) ?_
  refine KR.go 2 [(1, .pointer (some ⟨H.next, 0, none⟩)), (9, .bool (!t8))] 79 (s' := (.code (sub B [1, 0, 1]) :: S1)) fun J => ?_
  by_cases c4 : t8 = true
  · replace h := iteT c4 h
    refine KR.br false (by kernel_rfl) (vB (nB (bT c4))) ?_
    refine KR.go 3 [(1, .pointer (some ⟨H.next, 0, none⟩))] 79 (s' := (.reg (opsAt (sub B [1, 1, 0])) [0, 1, 2, 3, 4, 5, 6] :: S3)) fun J => ?_
    obtain ⟨t12c0, t12c1, t12c2, t12c3, t12c4a, t12c4n, t12c4k, t12c5a, t12c5n, t12c5k, q5, h⟩ := h
    refine KR.rd (one_ldA (by kernel_rfl) q5) ?_
    obtain ⟨t13r0a, t13r0n, t13r0k, t13r1, H_3, q6, h⟩ := h
    refine KR.se (one_ca (by kernel_rfl) q6) ?_
    refine KR.go 12 [(1, .pointer (some ⟨H.next, 0, none⟩)), (3, .slice t13r0a t13r0n t13r0k), (17, .bool (!(t13r1 == 0)))] 79 (s' := (.code (sub B [1, 1, 1, 0, 1]) :: S4)) fun J => ?_
    by_cases c7 : t13r1 = 0
    · replace h := iteT c7 h
      refine KR.br false (by kernel_rfl) (vB (nB (eT c7))) ?_
      refine KR.go 4 [(1, .pointer (some ⟨H.next, 0, none⟩)), (3, .slice t13r0a t13r0n t13r0k), (25, .pointer (some ⟨H.next, 4, none⟩))] 79 (s' := (.reg (opsAt (sub B [1, 1, 1, 1, 0])) [1, 2, 3, 4, 5, 6, 7] :: S5)) fun J => ?_
      obtain ⟨t26a, t26n, t26k, q8, h⟩ := h
      refine KR.rd (one_ld (by kernel_rfl) q8) ?_
      obtain ⟨t27r0a, t27r0n, t27r0k, t27r1, H_4, q9, h⟩ := h
      refine KR.se (one_ca (by kernel_rfl) q9) ?_
      refine KR.go 7 [(1, .pointer (some ⟨H.next, 0, none⟩)), (3, .slice t13r0a t13r0n t13r0k), (5, .slice t27r0a t27r0n t27r0k)] 79 (s' := (.code (sub B [1, 1, 1, 1, 1, 0]) :: S6)) fun J => ?_
      refine KR.sd (by kernel_rfl) ?_
      refine KR.go 6 [(1, .pointer (some ⟨H.next, 0, none⟩)), (3, .slice t13r0a t13r0n t13r0k), (31, .int .i64 (t13r0n : Int)), (34, .int .i64 (IntKind.wrap .i64 (9 + (t27r0n : Int)))), (35, .pointer (some ⟨H.next, 5, none⟩))] 79 (s' := (.reg (opsAt (sub B [1, 1, 1, 1, 1, 0])) [6, 7, 8, 9, 10, 11, 12, 13, 14, 15, 16, 17, 18, 19, 20, 21, 22, 23, 24, 25, 26, 27, 28, 29, 30, 31, 32, 33, 34, 35, 36, 37, 38, 39, 40, 41, 42, 43, 44, 45, 46, 47, 48, 49] :: S6)) fun J => ?_
      obtain ⟨t36a, t36n, t36k, q10, h⟩ := h
      refine KR.rd (one_ld (by kernel_rfl) q10) ?_
      refine KR.go 4 [(1, .pointer (some ⟨H.next, 0, none⟩)), (3, .slice t13r0a t13r0n t13r0k), (40, .bool ((t13r0n : Int) == (IntKind.wrap .i64 ((IntKind.wrap .i64 (9 + (t27r0n : Int))) + (t36n : Int)))))] 79 (s' := (.reg (opsAt (sub B [1, 1, 1, 1, 1, 0])) [11, 12, 13, 14, 15, 16, 17, 18, 19, 20, 21, 22, 23, 24, 25, 26, 27, 28, 29, 30, 31, 32, 33, 34, 35, 36, 37, 38, 39, 40, 41, 42, 43, 44, 45, 46, 47, 48, 49] :: S6)) fun J => ?_
      by_cases c11 : (t13r0n : Int) = (IntKind.wrap .i64 ((IntKind.wrap .i64 (9 + (t27r0n : Int))) + (t36n : Int)))
      · replace h := iteT c11 h
        refine KR.setV 40 (by kernel_rfl) (eT c11) ?_
        obtain ⟨t13r0ab, t13r0ao, rfl, h⟩ := h
        refine KR.go 1 [(1, .pointer (some ⟨H.next, 0, none⟩)), (3, .slice (some ⟨t13r0ab, t13r0ao, none⟩) t13r0n t13r0k), (40, .bool true), (41, .slice (some ⟨t13r0ab, t13r0ao, none⟩) t13r0n t13r0k)] 79 (s' := (.reg (opsAt (sub B [1, 1, 1, 1, 1, 0])) [12, 13, 14, 15, 16, 17, 18, 19, 20, 21, 22, 23, 24, 25, 26, 27, 28, 29, 30, 31, 32, 33, 34, 35, 36, 37, 38, 39, 40, 41, 42, 43, 44, 45, 46, 47, 48, 49] :: S6)) fun J => ?_
        obtain ⟨q12, q12x, h⟩ := h
        refine KR.p (one_ix 1 t13r0ab t13r0ao (by kernel_rfl) q12 q12x) ?_
        obtain ⟨t43, q13, h⟩ := h
        refine KR.rd (one_ld (by kernel_rfl) q13) ?_
        refine KR.go 2 [(1, .pointer (some ⟨H.next, 0, none⟩)), (3, .slice (some ⟨t13r0ab, t13r0ao, none⟩) t13r0n t13r0k), (40, .bool true), (44, .int .i64 (IntKind.wrap .i64 t43)), (45, .pointer (some ⟨H.next, 0, none⟩))] 79 (s' := (.reg (opsAt (sub B [1, 1, 1, 1, 1, 0])) [16, 17, 18, 19, 20, 21, 22, 23, 24, 25, 26, 27, 28, 29, 30, 31, 32, 33, 34, 35, 36, 37, 38, 39, 40, 41, 42, 43, 44, 45, 46, 47, 48, 49] :: S6)) fun J => ?_
        obtain ⟨t46, q14, h⟩ := h
        refine KR.rd (one_ld (by kernel_rfl) q14) ?_
        refine KR.go 3 [(1, .pointer (some ⟨H.next, 0, none⟩)), (3, .slice (some ⟨t13r0ab, t13r0ao, none⟩) t13r0n t13r0k), (49, .bool ((IntKind.wrap .i64 t43) == t46))] 79 (s' := (.reg (opsAt (sub B [1, 1, 1, 1, 1, 0])) [20, 21, 22, 23, 24, 25, 26, 27, 28, 29, 30, 31, 32, 33, 34, 35, 36, 37, 38, 39, 40, 41, 42, 43, 44, 45, 46, 47, 48, 49] :: S6)) fun J => ?_
        by_cases c15 : (IntKind.wrap .i64 t43) = t46
        · replace h := iteT c15 h
          refine KR.setV 49 (by kernel_rfl) (eT c15) ?_
          refine KR.go 1 [(1, .pointer (some ⟨H.next, 0, none⟩)), (3, .slice (some ⟨t13r0ab, t13r0ao, none⟩) t13r0n t13r0k), (49, .bool true), (50, .slice (some ⟨t13r0ab, t13r0ao, none⟩) t13r0n t13r0k)] 79 (s' := (.reg (opsAt (sub B [1, 1, 1, 1, 1, 0])) [21, 22, 23, 24, 25, 26, 27, 28, 29, 30, 31, 32, 33, 34, 35, 36, 37, 38, 39, 40, 41, 42, 43, 44, 45, 46, 47, 48, 49] :: S6)) fun J => ?_
          obtain ⟨q16, q16x, h⟩ := h
          refine KR.p (one_ix 1 t13r0ab t13r0ao (by kernel_rfl) q16 q16x) ?_
          obtain ⟨t52, q17, h⟩ := h
          refine KR.rd (one_ld (by kernel_rfl) q17) ?_
          refine KR.go 2 [(1, .pointer (some ⟨H.next, 0, none⟩)), (3, .slice (some ⟨t13r0ab, t13r0ao, none⟩) t13r0n t13r0k), (49, .bool true), (53, .int .i64 (IntKind.wrap .i64 t52)), (54, .pointer (some ⟨H.next, 1, none⟩))] 79 (s' := (.reg (opsAt (sub B [1, 1, 1, 1, 1, 0])) [25, 26, 27, 28, 29, 30, 31, 32, 33, 34, 35, 36, 37, 38, 39, 40, 41, 42, 43, 44, 45, 46, 47, 48, 49] :: S6)) fun J => ?_
          obtain ⟨t55, q18, h⟩ := h
          refine KR.rd (one_ld (by kernel_rfl) q18) ?_
          refine KR.go 3 [(1, .pointer (some ⟨H.next, 0, none⟩)), (3, .slice (some ⟨t13r0ab, t13r0ao, none⟩) t13r0n t13r0k), (58, .bool ((IntKind.wrap .i64 t52) == t55))] 79 (s' := (.reg (opsAt (sub B [1, 1, 1, 1, 1, 0])) [29, 30, 31, 32, 33, 34, 35, 36, 37, 38, 39, 40, 41, 42, 43, 44, 45, 46, 47, 48, 49] :: S6)) fun J => ?_
          by_cases c19 : (IntKind.wrap .i64 t52) = t55
          · replace h := iteT c19 h
            refine KR.setV 58 (by kernel_rfl) (eT c19) ?_
            refine KR.go 1 [(1, .pointer (some ⟨H.next, 0, none⟩)), (3, .slice (some ⟨t13r0ab, t13r0ao, none⟩) t13r0n t13r0k), (58, .bool true), (59, .slice (some ⟨t13r0ab, t13r0ao, none⟩) t13r0n t13r0k)] 79 (s' := (.reg (opsAt (sub B [1, 1, 1, 1, 1, 0])) [30, 31, 32, 33, 34, 35, 36, 37, 38, 39, 40, 41, 42, 43, 44, 45, 46, 47, 48, 49] :: S6)) fun J => ?_
            obtain ⟨q20, q20x, h⟩ := h
            refine KR.p (one_ix 1 t13r0ab t13r0ao (by kernel_rfl) q20 q20x) ?_
            obtain ⟨t61, q21, h⟩ := h
            refine KR.rd (one_ld (by kernel_rfl) q21) ?_
            refine KR.go 2 [(1, .pointer (some ⟨H.next, 0, none⟩)), (3, .slice (some ⟨t13r0ab, t13r0ao, none⟩) t13r0n t13r0k), (58, .bool true), (62, .int .i64 (IntKind.wrap .i64 t61)), (63, .pointer (some ⟨H.next, 2, none⟩))] 79 (s' := (.reg (opsAt (sub B [1, 1, 1, 1, 1, 0])) [34, 35, 36, 37, 38, 39, 40, 41, 42, 43, 44, 45, 46, 47, 48, 49] :: S6)) fun J => ?_
            obtain ⟨t64, q22, h⟩ := h
            refine KR.rd (one_ld (by kernel_rfl) q22) ?_
            refine KR.go 3 [(1, .pointer (some ⟨H.next, 0, none⟩)), (3, .slice (some ⟨t13r0ab, t13r0ao, none⟩) t13r0n t13r0k), (67, .bool ((IntKind.wrap .i64 t61) == t64))] 79 (s' := (.reg (opsAt (sub B [1, 1, 1, 1, 1, 0])) [38, 39, 40, 41, 42, 43, 44, 45, 46, 47, 48, 49] :: S6)) fun J => ?_
            by_cases c23 : (IntKind.wrap .i64 t61) = t64
            · replace h := iteT c23 h
              refine KR.setV 67 (by kernel_rfl) (eT c23) ?_
              refine KR.go 1 [(1, .pointer (some ⟨H.next, 0, none⟩)), (67, .bool true), (68, .slice (some ⟨t13r0ab, t13r0ao, none⟩) t13r0n t13r0k)] 79 (s' := (.reg (opsAt (sub B [1, 1, 1, 1, 1, 0])) [39, 40, 41, 42, 43, 44, 45, 46, 47, 48, 49] :: S6)) fun J => ?_
              obtain ⟨q24, q24x, h⟩ := h
              refine KR.p (one_ix 1 t13r0ab t13r0ao (by kernel_rfl) q24 q24x) ?_
              obtain ⟨t70, q25, h⟩ := h
              refine KR.rd (one_ld (by kernel_rfl) q25) ?_
              refine KR.go 2 [(67, .bool true), (71, .int .i64 (IntKind.wrap .i64 t70)), (72, .pointer (some ⟨H.next, 3, none⟩))] 79 (s' := (.reg (opsAt (sub B [1, 1, 1, 1, 1, 0])) [43, 44, 45, 46, 47, 48, 49] :: S6)) fun J => ?_
              obtain ⟨t73, q26, h⟩ := h
              refine KR.rd (one_ld (by kernel_rfl) q26) ?_
              refine KR.go 3 [(76, .bool ((IntKind.wrap .i64 t70) == t73))] 79 (s' := (.reg (opsAt (sub B [1, 1, 1, 1, 1, 0])) [47, 48, 49] :: S6)) fun J => ?_
              by_cases c27 : (IntKind.wrap .i64 t70) = t73
              · replace h := iteT c27 h
                refine KR.setV 76 (by kernel_rfl) (eT c27) ?_
                obtain ⟨t77, H_5, q28, h⟩ := h
                refine KR.se (one_ca (by kernel_rfl) q28) ?_
                refine KR.go 3 [(2, .bool t77)] 79 (s' := (.code (sub B [1, 1, 1, 1, 1, 1]) :: [])) fun J => ?_
                exact KR.fin (by kernel_rfl) h
              · replace h := iteF c27 h
                refine KR.setV 76 (by kernel_rfl) (eF c27) ?_
                refine KR.go 4 [(2, .bool false)] 79 (s' := (.code (sub B [1, 1, 1, 1, 1, 1]) :: [])) fun J => ?_
                exact KR.fin (by kernel_rfl) h
            · replace h := iteF c23 h
              refine KR.setV 67 (by kernel_rfl) (eF c23) ?_
              refine KR.go 13 [(2, .bool false)] 79 (s' := (.code (sub B [1, 1, 1, 1, 1, 1]) :: [])) fun J => ?_
              exact KR.fin (by kernel_rfl) h
          · replace h := iteF c19 h
            refine KR.setV 58 (by kernel_rfl) (eF c19) ?_
            refine KR.go 22 [(2, .bool false)] 79 (s' := (.code (sub B [1, 1, 1, 1, 1, 1]) :: [])) fun J => ?_
            exact KR.fin (by kernel_rfl) h
        · replace h := iteF c15 h
          refine KR.setV 49 (by kernel_rfl) (eF c15) ?_
          refine KR.go 31 [(2, .bool false)] 79 (s' := (.code (sub B [1, 1, 1, 1, 1, 1]) :: [])) fun J => ?_
          exact KR.fin (by kernel_rfl) h
      · replace h := iteF c11 h
        refine KR.setV 40 (by kernel_rfl) (eF c11) ?_
        refine KR.go 40 [(2, .bool false)] 79 (s' := (.code (sub B [1, 1, 1, 1, 1, 1]) :: [])) fun J => ?_
        exact KR.fin (by kernel_rfl) h
    · replace h := iteF c7 h
      refine KR.br true (by kernel_rfl) (vB (nB (eF c7))) ?_
      refine KR.go 6 [(21, .bool ((t13r0n : Int) == 0))] 79 (s' := (.reg (opsAt (sub B [1, 1, 1, 0, 1, 0, 0])) [4, 5, 6] :: S7)) fun J => ?_
      by_cases c29 : (t13r0n : Int) = 0
      · replace h := iteT c29 h
        refine KR.setV 21 (by kernel_rfl) (eT c29) ?_
        obtain ⟨t22, H_6, q30, h⟩ := h
        refine KR.se (one_ca (by kernel_rfl) q30) ?_
        refine KR.go 3 [(2, .bool t22)] 79 (s' := (.code (sub B [1, 1, 1, 0, 1, 0, 1]) :: S4)) fun J => ?_
        exact KR.fin (by kernel_rfl) h
      · replace h := iteF c29 h
        refine KR.setV 21 (by kernel_rfl) (eF c29) ?_
        refine KR.go 4 [(2, .bool false)] 79 (s' := (.code (sub B [1, 1, 1, 0, 1, 0, 1]) :: S4)) fun J => ?_
        exact KR.fin (by kernel_rfl) h
  · replace h := iteF c4 h
    refine KR.br true (by kernel_rfl) (vB (nB (bF c4))) ?_
    refine KR.go 2 [] 79 (s' := (.reg (opsAt (sub B [1, 0, 1, 0, 0])) [0, 1] :: S8)) fun J => ?_
    obtain ⟨t10, H_7, q31, h⟩ := h
    refine KR.se (one_ca (by kernel_rfl) q31) ?_
    refine KR.go 2 [(2, .bool t10)] 79 (s' := (.code (sub B [1, 0, 1, 0, 1]) :: S1)) fun J => ?_
    exact KR.fin (by kernel_rfl) h
end F9
end Go.X
