/- The walks of the functions: printed. -/
import Derived.Test.YtgcodmnajbcoaaaXzGf
set_option linter.unusedVariables false
set_option maxRecDepth 100000
namespace Go.X
open Go Go.RowKit Go.Proofs
/-! #### 3 campanile/campanilelaw18.JoinForms -/
/-! #### 4 campanile/campanilelaw18.JoinOnce -/
/-! #### 5 campanile/campanilelaw18.JoinKeys -/
/-! #### 6 campanile/campanilelaw18.JoinCounts -/
/-! #### 7 campanile/campanilelaw18.light -/
namespace F7
noncomputable def B : Code := bodyOf Try.f7
noncomputable def S0 : List It := (.code (sub B [1]) :: [])
noncomputable def S1 : List It := (.code (sub B [1, 1]) :: [])
theorem call {a0c0 : Int} {a0c1 : Int} {a0c2 : Int} {a0c3a : Option Addr} {a0c3n : Nat} {a0c3k : Nat} {a0c4 : Int} {H : Heap} {r : Value × Heap} (h :
    ∃ (H_1 : Heap), H_1 = H.push (.row [.int .i64 a0c0, .int .i64 a0c1, .int .u32 a0c2, .slice a0c3a a0c3n a0c3k, .int .u32 a0c4] true) ∧
    (∃ (t4a : Option Addr) (t4n : Nat) (t4k : Nat), ldc H_1 H.next 3 = some (.slice t4a t4n t4k) ∧
    (r = (.bool (decide (((t4n : Nat) : Int) ≤ 40)), H_1)))) :
    xC Try.prog good 7 [.agg #[.int .i64 a0c0, .int .i64 a0c1, .int .u32 a0c2, .slice a0c3a a0c3n a0c3k, .int .u32 a0c4]] H = some r := by
  refine KR.enter (fn := Try.f7) (c := B) (by kernel_rfl) (by kernel_rfl) ?_
  refine KR.run 2 [(0, .agg #[.int .i64 a0c0, .int .i64 a0c1, .int .u32 a0c2, .slice a0c3a a0c3n a0c3k, .int .u32 a0c4])] 7 (s' := (.reg (opsAt (sub B [0])) [0, 1] :: S0)) (by kernel_rfl) fun J => ?_
  obtain ⟨H_1, q1, h⟩ := h
  refine KR.mk (w := pRow [.int .i64 a0c0, .int .i64 a0c1, .int .u32 a0c2, .slice a0c3a a0c3n a0c3k, .int .u32 a0c4]) (one_al (by kernel_rfl)) q1 ?_
  refine KR.run 5 [(3, .pointer (some ⟨H.next, 3, none⟩))] 7 (s' := (.reg (opsAt (sub B [1, 0])) [1, 2, 3, 4] :: S1)) (by kernel_rfl) fun J => ?_
  obtain ⟨t4a, t4n, t4k, q2, h⟩ := h
  refine KR.rd (one_ld (by kernel_rfl) q2) ?_
  refine KR.run 4 [(2, .bool (decide (((t4n : Nat) : Int) ≤ 40)))] 7 (s' := (.code (sub B [1, 1]) :: [])) (by kernel_rfl) fun J => ?_
  exact KR.fin (by kernel_rfl) h
end F7
/-! #### 8 campanile/campanilelaw18.awake -/
namespace F8
noncomputable def B : Code := bodyOf Try.f8
noncomputable def S0 : List It := (.code (sub B [1, 1]) :: [])
noncomputable def S1 : List It := (.code (sub B [1, 1, 1]) :: [])
noncomputable def S2 : List It := (.code (sub B [1, 1, 1, 1]) :: [])
noncomputable def S3 : List It := (.code (sub B [1, 1, 1, 1, 1]) :: [])
noncomputable def S4 : List It := (.code (sub B [1, 1, 1, 1, 1, 1]) :: [])
noncomputable def S5 : List It := (.code (sub B [1, 1, 1, 1, 1, 1, 1]) :: [])
noncomputable def S6 : List It := (.code (sub B [1, 1, 1, 1, 1, 1, 1, 1]) :: [])
theorem call  {H : Heap} {r : Value × Heap} (h :
    ∃ (H_1 : Heap), H_1 = H.push (.row [.int .u64 0, .int .u64 7] true) ∧
    (∃ (t12 : Option Addr) (H_2 : Heap), xC Try.prog good 19 [.slice (some ⟨H.next, 0, none⟩) 2 (UNK 1)] H_1 = some (.pointer t12, H_2) ∧
    (∃ (t13 : Option Addr) (H_3 : Heap), xC Try.prog good 20 [.int .i64 1, .int .u64 7] H_2 = some (.pointer t13, H_3) ∧
    (∃ (t16r0a : Option Addr) (t16r0n : Nat) (t16r0k : Nat) (t16r1 : Int) (H_4 : Heap), xC Try.prog good 21 [.pointer t13, .int .i64 0, .int .u32 99] H_3 = some (.tuple #[.slice t16r0a t16r0n t16r0k, .int .i64 t16r1], H_4) ∧
    (∃ (H_5 : Heap), H_5 = H_4.push (.row [.int .i64 0, .int .i64 3, .int .i64 0, .int .i64 1, .int .i64 0] true) ∧
    (∃ (t24r0c0 : Int) (t24r0c1 : Int) (t24r0c2 : Int) (t24r0c3a : Option Addr) (t24r0c3n : Nat) (t24r0c3k : Nat) (t24r0c4 : Int) (t24r1 : Int) (H_6 : Heap), xC Try.prog good 22 [.pointer t12, .slice t16r0a t16r0n t16r0k, .slice (some ⟨H_4.next, 0, none⟩) 1 (UNK 5)] H_5 = some (.tuple #[.agg #[.int .i64 t24r0c0, .int .i64 t24r0c1, .int .u32 t24r0c2, .slice t24r0c3a t24r0c3n t24r0c3k, .int .u32 t24r0c4], .int .i64 t24r1], H_6) ∧
    (∃ (H_7 : Heap), H_7 = H_6.push (.row [.int .i64 0, .int .i64 0, .int .u32 0, .slice none 0 0, .int .u32 0] true) ∧
    (∃ (H_8 : Heap), stc H_7 H_6.next 0 [.int .i64 t24r0c0, .int .i64 t24r0c1, .int .u32 t24r0c2, .slice t24r0c3a t24r0c3n t24r0c3k, .int .u32 t24r0c4] = some H_8 ∧
    (∃ (t28c0 : Int) (t28c1 : Int) (t28c2 : Int) (t28c3a : Option Addr) (t28c3n : Nat) (t28c3k : Nat) (t28c4 : Int), ldAll H_8 H_6.next 0 [.int .i64 t28c0, .int .i64 t28c1, .int .u32 t28c2, .slice t28c3a t28c3n t28c3k, .int .u32 t28c4] ∧
    (∃ (t29r0a : Option Addr) (t29r0n : Nat) (t29r0k : Nat) (t29r1 : Int) (H_9 : Heap), xC Try.prog good 11 [.int .u64 7, .agg #[.int .i64 t28c0, .int .i64 t28c1, .int .u32 t28c2, .slice t28c3a t28c3n t28c3k, .int .u32 t28c4]] H_8 = some (.tuple #[.slice t29r0a t29r0n t29r0k, .int .i64 t29r1], H_9) ∧
    (∃ (t35r0c0 : Int) (t35r0c1 : Int) (t35r0c2 : Int) (t35r0c3a : Option Addr) (t35r0c3n : Nat) (t35r0c3k : Nat) (t35r0c4 : Int) (t35r1 : Int) (H_10 : Heap), xC Try.prog good 26 [.pointer t13, .slice t29r0a t29r0n t29r0k] H_9 = some (.tuple #[.agg #[.int .i64 t35r0c0, .int .i64 t35r0c1, .int .u32 t35r0c2, .slice t35r0c3a t35r0c3n t35r0c3k, .int .u32 t35r0c4], .int .i64 t35r1], H_10) ∧
    (∃ (H_11 : Heap), H_11 = H_10.push (.row [.int .i64 0, .int .i64 0, .int .u32 0, .slice none 0 0, .int .u32 0] true) ∧
    (∃ (H_12 : Heap), stc H_11 H_10.next 0 [.int .i64 t35r0c0, .int .i64 t35r0c1, .int .u32 t35r0c2, .slice t35r0c3a t35r0c3n t35r0c3k, .int .u32 t35r0c4] = some H_12 ∧
    (if t16r1 = 0 then
    (if t24r1 = 0 then
    (if t29r1 = 0 then
    (if t35r1 = 0 then
    (if ((t16r0n : Nat) : Int) = 15 then
    (∃ (t59 : Int), ldc H_12 H_10.next 0 = some (.int .i64 t59) ∧
    (if t59 = 1 then
    (∃ (t64 : Int), ldc H_12 H_10.next 2 = some (.int .u32 t64) ∧
    (if t64 = 99 then
    (∃ (t69a : Option Addr) (t69n : Nat) (t69k : Nat), ldc H_12 H_10.next 3 = some (.slice t69a t69n t69k) ∧
    (r = (.bool (((t69n : Nat) : Int) == 1), H_12)))
    else
    (r = (.bool false, H_12))))
    else
    (r = (.bool false, H_12))))
    else
    (r = (.bool false, H_12)))
    else
    (r = (.bool false, H_12)))
    else
    (r = (.bool false, H_12)))
    else
    (r = (.bool false, H_12)))
    else
    (r = (.bool false, H_12)))))))))))))))) :
    xC Try.prog good 8 [] H = some r := by
  refine KR.enter (fn := Try.f8) (c := B) (by kernel_rfl) (by kernel_rfl) ?_
  refine KR.run 6 [] 73 (s' := (.reg (opsAt (sub B [1, 0])) [0, 1, 2] :: S0)) (by kernel_rfl) fun J => ?_
  obtain ⟨H_1, q1, h⟩ := h
  refine KR.mk (w := sRow 2 1 [.int .u64 0, .int .u64 7]) (one_al (by kernel_rfl)) q1 ?_
  obtain ⟨t12, H_2, q2, h⟩ := h
  refine KR.se (one_ca (by kernel_rfl) q2) ?_
  refine KR.run 4 [(1, .pointer t12)] 73 (s' := (.reg (opsAt (sub B [1, 1, 0])) [0, 1] :: S1)) (by kernel_rfl) fun J => ?_
  obtain ⟨t13, H_3, q3, h⟩ := h
  refine KR.se (one_ca (by kernel_rfl) q3) ?_
  refine KR.run 5 [(1, .pointer t12), (2, .pointer t13), (15, .pointer t13)] 73 (s' := (.reg (opsAt (sub B [1, 1, 1, 0])) [1, 2, 3, 4, 5, 6] :: S2)) (by kernel_rfl) fun J => ?_
  obtain ⟨t16r0a, t16r0n, t16r0k, t16r1, H_4, q4, h⟩ := h
  refine KR.se (one_ca (by kernel_rfl) q4) ?_
  refine KR.run 11 [(2, .pointer t13), (3, .slice t16r0a t16r0n t16r0k), (4, .int .i64 t16r1), (20, .pointer t12), (21, .slice t16r0a t16r0n t16r0k), (22, .agg #[.int .i64 0, .int .i64 3, .int .i64 0, .int .i64 1, .int .i64 0])] 73 (s' := (.reg (opsAt (sub B [1, 1, 1, 1, 0])) [3, 4, 5, 6, 7, 8, 9, 10] :: S3)) (by kernel_rfl) fun J => ?_
  obtain ⟨H_5, q5, h⟩ := h
  refine KR.mk (w := sRow 1 5 [.int .i64 0, .int .i64 3, .int .i64 0, .int .i64 1, .int .i64 0]) (one_al (by kernel_rfl)) q5 ?_
  obtain ⟨t24r0c0, t24r0c1, t24r0c2, t24r0c3a, t24r0c3n, t24r0c3k, t24r0c4, t24r1, H_6, q6, h⟩ := h
  refine KR.se (one_ca (by kernel_rfl) q6) ?_
  refine KR.run 3 [(2, .pointer t13), (3, .slice t16r0a t16r0n t16r0k), (4, .int .i64 t16r1), (25, .agg #[.int .i64 t24r0c0, .int .i64 t24r0c1, .int .u32 t24r0c2, .slice t24r0c3a t24r0c3n t24r0c3k, .int .u32 t24r0c4]), (26, .int .i64 t24r1)] 73 (s' := (.reg (opsAt (sub B [1, 1, 1, 1, 0])) [8, 9, 10] :: S3)) (by kernel_rfl) fun J => ?_
  obtain ⟨H_7, q7, h⟩ := h
  refine KR.mk (w := pRow [.int .i64 0, .int .i64 0, .int .u32 0, .slice none 0 0, .int .u32 0]) (one_al (by kernel_rfl)) q7 ?_
  obtain ⟨H_8, q8, h⟩ := h
  refine KR.se (one_st (by kernel_rfl) q8) ?_
  refine KR.run 4 [(2, .pointer t13), (3, .slice t16r0a t16r0n t16r0k), (4, .int .i64 t16r1), (5, .pointer (some ⟨H_6.next, 0, none⟩)), (6, .int .i64 t24r1)] 73 (s' := (.reg (opsAt (sub B [1, 1, 1, 1, 1, 0])) [0, 1, 2, 3, 4, 5, 6] :: S4)) (by kernel_rfl) fun J => ?_
  obtain ⟨t28c0, t28c1, t28c2, t28c3a, t28c3n, t28c3k, t28c4, q9, h⟩ := h
  refine KR.rd (one_ldA (by kernel_rfl) q9) ?_
  obtain ⟨t29r0a, t29r0n, t29r0k, t29r1, H_9, q10, h⟩ := h
  refine KR.se (one_ca (by kernel_rfl) q10) ?_
  refine KR.run 10 [(3, .slice t16r0a t16r0n t16r0k), (4, .int .i64 t16r1), (6, .int .i64 t24r1), (8, .int .i64 t29r1), (33, .pointer t13), (34, .slice t29r0a t29r0n t29r0k)] 73 (s' := (.reg (opsAt (sub B [1, 1, 1, 1, 1, 1, 0])) [2, 3, 4, 5, 6, 7, 8] :: S5)) (by kernel_rfl) fun J => ?_
  obtain ⟨t35r0c0, t35r0c1, t35r0c2, t35r0c3a, t35r0c3n, t35r0c3k, t35r0c4, t35r1, H_10, q11, h⟩ := h
  refine KR.se (one_ca (by kernel_rfl) q11) ?_
  refine KR.run 3 [(3, .slice t16r0a t16r0n t16r0k), (4, .int .i64 t16r1), (6, .int .i64 t24r1), (8, .int .i64 t29r1), (36, .agg #[.int .i64 t35r0c0, .int .i64 t35r0c1, .int .u32 t35r0c2, .slice t35r0c3a t35r0c3n t35r0c3k, .int .u32 t35r0c4]), (37, .int .i64 t35r1)] 73 (s' := (.reg (opsAt (sub B [1, 1, 1, 1, 1, 1, 0])) [6, 7, 8] :: S5)) (by kernel_rfl) fun J => ?_
  obtain ⟨H_11, q12, h⟩ := h
  refine KR.mk (w := pRow [.int .i64 0, .int .i64 0, .int .u32 0, .slice none 0 0, .int .u32 0]) (one_al (by kernel_rfl)) q12 ?_
  obtain ⟨H_12, q13, h⟩ := h
  refine KR.se (one_st (by kernel_rfl) q13) ?_
  refine KR.run 7 [(3, .slice t16r0a t16r0n t16r0k), (6, .int .i64 t24r1), (8, .int .i64 t29r1), (9, .pointer (some ⟨H_10.next, 0, none⟩)), (10, .int .i64 t35r1), (40, .bool (t16r1 == 0))] 73 (s' := (.reg (opsAt (sub B [1, 1, 1, 1, 1, 1, 1, 0])) [3, 4, 5, 6, 7, 8, 9, 10, 11, 12, 13, 14, 15, 16, 17, 18, 19, 20, 21, 22, 23, 24, 25, 26, 27, 28, 29, 30, 31, 32, 33, 34, 35] :: S6)) (by kernel_rfl) fun J => ?_
  by_cases c14 : t16r1 = 0
  · replace h := iteT c14 h
    refine KR.setV 40 (by kernel_rfl) (eT c14) ?_
    refine KR.run 4 [(3, .slice t16r0a t16r0n t16r0k), (8, .int .i64 t29r1), (9, .pointer (some ⟨H_10.next, 0, none⟩)), (10, .int .i64 t35r1), (44, .bool (t24r1 == 0))] 73 (s' := (.reg (opsAt (sub B [1, 1, 1, 1, 1, 1, 1, 0])) [7, 8, 9, 10, 11, 12, 13, 14, 15, 16, 17, 18, 19, 20, 21, 22, 23, 24, 25, 26, 27, 28, 29, 30, 31, 32, 33, 34, 35] :: S6)) (by kernel_rfl) fun J => ?_
    by_cases c15 : t24r1 = 0
    · replace h := iteT c15 h
      refine KR.setV 44 (by kernel_rfl) (eT c15) ?_
      refine KR.run 4 [(3, .slice t16r0a t16r0n t16r0k), (9, .pointer (some ⟨H_10.next, 0, none⟩)), (10, .int .i64 t35r1), (48, .bool (t29r1 == 0))] 73 (s' := (.reg (opsAt (sub B [1, 1, 1, 1, 1, 1, 1, 0])) [11, 12, 13, 14, 15, 16, 17, 18, 19, 20, 21, 22, 23, 24, 25, 26, 27, 28, 29, 30, 31, 32, 33, 34, 35] :: S6)) (by kernel_rfl) fun J => ?_
      by_cases c16 : t29r1 = 0
      · replace h := iteT c16 h
        refine KR.setV 48 (by kernel_rfl) (eT c16) ?_
        refine KR.run 4 [(3, .slice t16r0a t16r0n t16r0k), (9, .pointer (some ⟨H_10.next, 0, none⟩)), (52, .bool (t35r1 == 0))] 73 (s' := (.reg (opsAt (sub B [1, 1, 1, 1, 1, 1, 1, 0])) [15, 16, 17, 18, 19, 20, 21, 22, 23, 24, 25, 26, 27, 28, 29, 30, 31, 32, 33, 34, 35] :: S6)) (by kernel_rfl) fun J => ?_
        by_cases c17 : t35r1 = 0
        · replace h := iteT c17 h
          refine KR.setV 52 (by kernel_rfl) (eT c17) ?_
          refine KR.run 5 [(9, .pointer (some ⟨H_10.next, 0, none⟩)), (57, .bool (((t16r0n : Nat) : Int) == 15))] 73 (s' := (.reg (opsAt (sub B [1, 1, 1, 1, 1, 1, 1, 0])) [20, 21, 22, 23, 24, 25, 26, 27, 28, 29, 30, 31, 32, 33, 34, 35] :: S6)) (by kernel_rfl) fun J => ?_
          by_cases c18 : ((t16r0n : Nat) : Int) = 15
          · replace h := iteT c18 h
            refine KR.setV 57 (by kernel_rfl) (eT c18) ?_
            refine KR.run 1 [(9, .pointer (some ⟨H_10.next, 0, none⟩)), (57, .bool true), (58, .pointer (some ⟨H_10.next, 0, none⟩))] 73 (s' := (.reg (opsAt (sub B [1, 1, 1, 1, 1, 1, 1, 0])) [21, 22, 23, 24, 25, 26, 27, 28, 29, 30, 31, 32, 33, 34, 35] :: S6)) (by kernel_rfl) fun J => ?_
            obtain ⟨t59, q19, h⟩ := h
            refine KR.rd (one_ld (by kernel_rfl) q19) ?_
            refine KR.run 3 [(9, .pointer (some ⟨H_10.next, 0, none⟩)), (62, .bool (t59 == 1))] 73 (s' := (.reg (opsAt (sub B [1, 1, 1, 1, 1, 1, 1, 0])) [25, 26, 27, 28, 29, 30, 31, 32, 33, 34, 35] :: S6)) (by kernel_rfl) fun J => ?_
            by_cases c20 : t59 = 1
            · replace h := iteT c20 h
              refine KR.setV 62 (by kernel_rfl) (eT c20) ?_
              refine KR.run 1 [(9, .pointer (some ⟨H_10.next, 0, none⟩)), (62, .bool true), (63, .pointer (some ⟨H_10.next, 2, none⟩))] 73 (s' := (.reg (opsAt (sub B [1, 1, 1, 1, 1, 1, 1, 0])) [26, 27, 28, 29, 30, 31, 32, 33, 34, 35] :: S6)) (by kernel_rfl) fun J => ?_
              obtain ⟨t64, q21, h⟩ := h
              refine KR.rd (one_ld (by kernel_rfl) q21) ?_
              refine KR.run 3 [(9, .pointer (some ⟨H_10.next, 0, none⟩)), (67, .bool (t64 == 99))] 73 (s' := (.reg (opsAt (sub B [1, 1, 1, 1, 1, 1, 1, 0])) [30, 31, 32, 33, 34, 35] :: S6)) (by kernel_rfl) fun J => ?_
              by_cases c22 : t64 = 99
              · replace h := iteT c22 h
                refine KR.setV 67 (by kernel_rfl) (eT c22) ?_
                refine KR.run 1 [(67, .bool true), (68, .pointer (some ⟨H_10.next, 3, none⟩))] 73 (s' := (.reg (opsAt (sub B [1, 1, 1, 1, 1, 1, 1, 0])) [31, 32, 33, 34, 35] :: S6)) (by kernel_rfl) fun J => ?_
                obtain ⟨t69a, t69n, t69k, q23, h⟩ := h
                refine KR.rd (one_ld (by kernel_rfl) q23) ?_
                refine KR.run 5 [(0, .bool (((t69n : Nat) : Int) == 1))] 73 (s' := (.code (sub B [1, 1, 1, 1, 1, 1, 1, 1]) :: [])) (by kernel_rfl) fun J => ?_
                exact KR.fin (by kernel_rfl) h
              · replace h := iteF c22 h
                refine KR.setV 67 (by kernel_rfl) (eF c22) ?_
                refine KR.run 7 [(0, .bool false)] 73 (s' := (.code (sub B [1, 1, 1, 1, 1, 1, 1, 1]) :: [])) (by kernel_rfl) fun J => ?_
                exact KR.fin (by kernel_rfl) h
            · replace h := iteF c20 h
              refine KR.setV 62 (by kernel_rfl) (eF c20) ?_
              refine KR.run 12 [(0, .bool false)] 73 (s' := (.code (sub B [1, 1, 1, 1, 1, 1, 1, 1]) :: [])) (by kernel_rfl) fun J => ?_
              exact KR.fin (by kernel_rfl) h
          · replace h := iteF c18 h
            refine KR.setV 57 (by kernel_rfl) (eF c18) ?_
            refine KR.run 17 [(0, .bool false)] 73 (s' := (.code (sub B [1, 1, 1, 1, 1, 1, 1, 1]) :: [])) (by kernel_rfl) fun J => ?_
            exact KR.fin (by kernel_rfl) h
        · replace h := iteF c17 h
          refine KR.setV 52 (by kernel_rfl) (eF c17) ?_
          refine KR.run 22 [(0, .bool false)] 73 (s' := (.code (sub B [1, 1, 1, 1, 1, 1, 1, 1]) :: [])) (by kernel_rfl) fun J => ?_
          exact KR.fin (by kernel_rfl) h
      · replace h := iteF c16 h
        refine KR.setV 48 (by kernel_rfl) (eF c16) ?_
        refine KR.run 26 [(0, .bool false)] 73 (s' := (.code (sub B [1, 1, 1, 1, 1, 1, 1, 1]) :: [])) (by kernel_rfl) fun J => ?_
        exact KR.fin (by kernel_rfl) h
    · replace h := iteF c15 h
      refine KR.setV 44 (by kernel_rfl) (eF c15) ?_
      refine KR.run 30 [(0, .bool false)] 73 (s' := (.code (sub B [1, 1, 1, 1, 1, 1, 1, 1]) :: [])) (by kernel_rfl) fun J => ?_
      exact KR.fin (by kernel_rfl) h
  · replace h := iteF c14 h
    refine KR.setV 40 (by kernel_rfl) (eF c14) ?_
    refine KR.run 34 [(0, .bool false)] 73 (s' := (.code (sub B [1, 1, 1, 1, 1, 1, 1, 1]) :: [])) (by kernel_rfl) fun J => ?_
    exact KR.fin (by kernel_rfl) h
end F8
/-! #### 9 campanile/join.Ask -/
namespace F9
noncomputable def B : Code := bodyOf Try.f9
noncomputable def S0 : List It := (.code (sub B [1]) :: [])
noncomputable def S1 : List It := (.code (sub B [1, 1]) :: [])
theorem call {a0 : Int} {a1c0 : Int} {a1c1 : Int} {a1c2 : Int} {a1c3 : Int} {a1c4 : Int} {H : Heap} {r : Value × Heap} (h :
    ∃ (H_1 : Heap), H_1 = H.push (.row [.int .i64 a1c0, .int .i64 a1c1, .int .u32 a1c2, .int .u32 a1c3, .int .u32 a1c4] true) ∧
    (∃ (t7c0 : Int) (t7c1 : Int) (t7c2 : Int) (t7c3 : Int) (t7c4 : Int), ldAll H_1 H.next 0 [.int .i64 t7c0, .int .i64 t7c1, .int .u32 t7c2, .int .u32 t7c3, .int .u32 t7c4] ∧
    (∃ (t10r0a : Option Addr) (t10r0n : Nat) (t10r0k : Nat) (t10r1 : Int) (H_2 : Heap), xC Try.prog good 28 [.int .u64 a0, .iface 65 (.agg #[.int .i64 t7c0, .int .i64 t7c1, .int .u32 t7c2, .int .u32 t7c3, .int .u32 t7c4])] H_1 = some (.tuple #[.slice t10r0a t10r0n t10r0k, .int .i64 t10r1], H_2) ∧
    (r = (.tuple #[.slice t10r0a t10r0n t10r0k, .int .i64 t10r1], H_2))))) :
    xC Try.prog good 9 [.int .u64 a0, .agg #[.int .i64 a1c0, .int .i64 a1c1, .int .u32 a1c2, .int .u32 a1c3, .int .u32 a1c4]] H = some r := by
  refine KR.enter (fn := Try.f9) (c := B) (by kernel_rfl) (by kernel_rfl) ?_
  refine KR.run 2 [(0, .int .u64 a0), (1, .agg #[.int .i64 a1c0, .int .i64 a1c1, .int .u32 a1c2, .int .u32 a1c3, .int .u32 a1c4])] 13 (s' := (.reg (opsAt (sub B [0])) [0, 1, 2] :: S0)) (by kernel_rfl) fun J => ?_
  obtain ⟨H_1, q1, h⟩ := h
  refine KR.mk (w := pRow [.int .i64 a1c0, .int .i64 a1c1, .int .u32 a1c2, .int .u32 a1c3, .int .u32 a1c4]) (one_al (by kernel_rfl)) q1 ?_
  refine KR.run 6 [(3, .pointer (some ⟨H.next, 0, none⟩)), (6, .int .u64 a0)] 13 (s' := (.reg (opsAt (sub B [1, 0])) [1, 2, 3, 4, 5, 6, 7, 8] :: S1)) (by kernel_rfl) fun J => ?_
  obtain ⟨t7c0, t7c1, t7c2, t7c3, t7c4, q2, h⟩ := h
  refine KR.rd (one_ldA (by kernel_rfl) q2) ?_
  refine KR.run 2 [(6, .int .u64 a0), (9, .iface 65 (.agg #[.int .i64 t7c0, .int .i64 t7c1, .int .u32 t7c2, .int .u32 t7c3, .int .u32 t7c4]))] 13 (s' := (.reg (opsAt (sub B [1, 0])) [4, 5, 6, 7, 8] :: S1)) (by kernel_rfl) fun J => ?_
  obtain ⟨t10r0a, t10r0n, t10r0k, t10r1, H_2, q3, h⟩ := h
  refine KR.se (one_ca (by kernel_rfl) q3) ?_
  refine KR.run 5 [(4, .slice t10r0a t10r0n t10r0k), (5, .int .i64 t10r1)] 13 (s' := (.code (sub B [1, 1]) :: [])) (by kernel_rfl) fun J => ?_
  exact KR.fin (by kernel_rfl) h
end F9
/-! #### 10 campanile/campanileref18.Ask -/
namespace F10
noncomputable def B : Code := bodyOf Try.f10
noncomputable def S0 : List It := (.code (sub B [1]) :: [])
noncomputable def S1 : List It := (.code (sub B [1, 1]) :: [])
noncomputable def S3 : List It := (.code (sub B [1, 1, 1]) :: [])
noncomputable def S2 : List It := (.code (sub B [1, 0, 1]) :: S1)
theorem call {a0 : Int} {a1c0 : Int} {a1c1 : Int} {a1c2 : Int} {a1c3 : Int} {a1c4 : Int} {H : Heap} {r : Value × Heap} (h :
    ∃ (H_1 : Heap), H_1 = H.push (.row [.int .i64 a1c0, .int .i64 a1c1, .int .u32 a1c2, .int .u32 a1c3, .int .u32 a1c4] true) ∧
    (∃ (t6c0 : Int) (t6c1 : Int) (t6c2 : Int) (t6c3 : Int) (t6c4 : Int), ldAll H_1 H.next 0 [.int .i64 t6c0, .int .i64 t6c1, .int .u32 t6c2, .int .u32 t6c3, .int .u32 t6c4] ∧
    (∃ (t7 : Bool) (H_2 : Heap), xC Try.prog good 29 [.agg #[.int .i64 t6c0, .int .i64 t6c1, .int .u32 t6c2, .int .u32 t6c3, .int .u32 t6c4]] H_1 = some (.bool t7, H_2) ∧
    (if t7 = true then
    (∃ (t11 : Int), ldc (reserve H_2 21) H.next 0 = some (.int .i64 t11) ∧
    (∃ (t14 : Int), ldc (reserve H_2 21) H.next 1 = some (.int .i64 t14) ∧
    (∃ (t18 : Int), ldc (reserve H_2 21) H.next 2 = some (.int .u32 t18) ∧
    (∃ (t20a : Option Addr) (t20n : Nat) (t20k : Nat) (H_4 : Heap), xC Try.prog good 32 [.int .u64 (IntKind.wrap .u64 t18), .int .i64 4] (reserve H_2 21) = some (.slice t20a t20n t20k, H_4) ∧
    (∃ (t22 : Int), ldc (reserve H_2 21) H.next 3 = some (.int .u32 t22) ∧
    (∃ (t24a : Option Addr) (t24n : Nat) (t24k : Nat) (H_5 : Heap), xC Try.prog good 32 [.int .u64 (IntKind.wrap .u64 t22), .int .i64 4] H_4 = some (.slice t24a t24n t24k, H_5) ∧
    (∃ (H_6 : Heap), H_6 = (H_5.set (H_2.next + 7) (.row [.int .u8 74, .int .u8 (IntKind.wrap .u8 t11), .int .u8 (IntKind.wrap .u8 t14)] true)).push (.row [.slice (some ⟨(H_2.next + 7), 0, none⟩) 3 (UNK 1), .slice t20a t20n t20k, .slice t24a t24n t24k] true) ∧
    (∃ (t26a : Option Addr) (t26n : Nat) (t26k : Nat) (H_7 : Heap), xC Try.prog good 31 [.slice (some ⟨(H_5.set (H_2.next + 7) (.row [.int .u8 74, .int .u8 (IntKind.wrap .u8 t11), .int .u8 (IntKind.wrap .u8 t14)] true)).next, 0, none⟩) 3 (UNK 1)] H_6 = some (.slice t26a t26n t26k, H_7) ∧
    (∃ (t27a : Option Addr) (t27n : Nat) (t27k : Nat) (H_8 : Heap), xC Try.prog good 30 [.int .u64 a0, .slice t26a t26n t26k] H_7 = some (.slice t27a t27n t27k, H_8) ∧
    (ldc H_4 H.next 0 = some (.int .i64 t11) ∧
    ldc H_5 H.next 0 = some (.int .i64 t11) ∧
    ldc H_4 H.next 1 = some (.int .i64 t14) ∧
    ldc H_5 H.next 1 = some (.int .i64 t14) ∧
    ldc H_4 H.next 3 = some (.int .u32 t22) ∧
    (r = (.tuple #[.slice t27a t27n t27k, .int .i64 0], H_8))))))))))))
    else
    (r = (.tuple #[.slice none 0 0, .int .i64 1], H_2)))))) :
    xC Try.prog good 10 [.int .u64 a0, .agg #[.int .i64 a1c0, .int .i64 a1c1, .int .u32 a1c2, .int .u32 a1c3, .int .u32 a1c4]] H = some r := by
  refine KR.enter (fn := Try.f10) (c := B) (by kernel_rfl) (by kernel_rfl) ?_
  refine KR.run 2 [(0, .int .u64 a0), (1, .agg #[.int .i64 a1c0, .int .i64 a1c1, .int .u32 a1c2, .int .u32 a1c3, .int .u32 a1c4])] 28 (s' := (.reg (opsAt (sub B [0])) [0, 1, 2] :: S0)) (by kernel_rfl) fun J => ?_
  obtain ⟨H_1, q1, h⟩ := h
  refine KR.mk (w := pRow [.int .i64 a1c0, .int .i64 a1c1, .int .u32 a1c2, .int .u32 a1c3, .int .u32 a1c4]) (one_al (by kernel_rfl)) q1 ?_
  refine KR.run 6 [(0, .int .u64 a0), (3, .pointer (some ⟨H.next, 0, none⟩))] 28 (s' := (.reg (opsAt (sub B [1, 0, 0])) [0, 1, 2] :: S2)) (by kernel_rfl) fun J => ?_
  obtain ⟨t6c0, t6c1, t6c2, t6c3, t6c4, q2, h⟩ := h
  refine KR.rd (one_ldA (by kernel_rfl) q2) ?_
  obtain ⟨t7, H_2, q3, h⟩ := h
  refine KR.se (one_ca (by kernel_rfl) q3) ?_
  refine KR.run 2 [(0, .int .u64 a0), (3, .pointer (some ⟨H.next, 0, none⟩)), (8, .bool (!t7))] 28 (s' := (.code (sub B [1, 0, 1]) :: S1)) (by kernel_rfl) fun J => ?_
  by_cases c4 : t7 = true
  · replace h := iteT c4 h
    refine KR.br false (by kernel_rfl) (vB (nB (bT c4))) ?_
    refine KR.run 2 [(0, .int .u64 a0), (3, .pointer (some ⟨H.next, 0, none⟩))] 28 (s' := (.code (sub B [1, 1, 0]) :: S3)) (by kernel_rfl) fun J => ?_
    refine KE.start (reserve H_2 21) (by kernel_rfl) (by kernel_rfl) ?_
    refine KE.run 2 [(3, .pointer (some ⟨H.next, 0, none⟩)), (9, .int .u64 a0), (10, .pointer (some ⟨H.next, 0, none⟩))] 28 2 (by kernel_rfl) fun J => ?_
    obtain ⟨t11, q5, h⟩ := h
    refine KE.rdF (one_ld (by kernel_rfl) q5) (by kernel_rfl) ?_
    refine KE.run 2 [(3, .pointer (some ⟨H.next, 0, none⟩)), (9, .int .u64 a0), (12, .int .u8 (IntKind.wrap .u8 t11)), (13, .pointer (some ⟨H.next, 1, none⟩))] 28 5 (by kernel_rfl) fun J => ?_
    obtain ⟨t14, q6, h⟩ := h
    refine KE.rdF (one_ld (by kernel_rfl) q6) (by kernel_rfl) ?_
    refine KE.run 1 [(3, .pointer (some ⟨H.next, 0, none⟩)), (9, .int .u64 a0), (12, .int .u8 (IntKind.wrap .u8 t11)), (15, .int .u8 (IntKind.wrap .u8 t14))] 28 7 (by kernel_rfl) fun J => ?_
    refine KE.al (w := sRow 3 1 [.int .u8 74, .int .u8 (IntKind.wrap .u8 t11), .int .u8 (IntKind.wrap .u8 t14)]) (one_al (by kernel_rfl)) (by kernel_rfl) ?_
    refine KE.run 1 [(3, .pointer (some ⟨H.next, 0, none⟩)), (9, .int .u64 a0), (16, .slice (some ⟨(H_2.next + 7), 0, none⟩) 3 (UNK 1)), (17, .pointer (some ⟨H.next, 2, none⟩))] 28 9 (by kernel_rfl) fun J => ?_
    obtain ⟨t18, q8, h⟩ := h
    refine KE.rdN (one_ld (by kernel_rfl) q8) (by kernel_rfl) ?_
    refine KE.run 1 [(3, .pointer (some ⟨H.next, 0, none⟩)), (9, .int .u64 a0), (16, .slice (some ⟨(H_2.next + 7), 0, none⟩) 3 (UNK 1)), (19, .int .u64 (IntKind.wrap .u64 t18))] 28 11 (by kernel_rfl) fun J => ?_
    obtain ⟨t20a, t20n, t20k, H_4, q9, h⟩ := h
    refine KE.se (one_ca (by kernel_rfl) q9) (by kernel_rfl) ?_
    refine KE.run 1 [(9, .int .u64 a0), (16, .slice (some ⟨(H_2.next + 7), 0, none⟩) 3 (UNK 1)), (20, .slice t20a t20n t20k), (21, .pointer (some ⟨H.next, 3, none⟩))] 28 13 (by kernel_rfl) fun J => ?_
    obtain ⟨t22, q10, h⟩ := h
    refine KE.rdF (one_ld (by kernel_rfl) q10) (by kernel_rfl) ?_
    refine KE.run 1 [(9, .int .u64 a0), (16, .slice (some ⟨(H_2.next + 7), 0, none⟩) 3 (UNK 1)), (20, .slice t20a t20n t20k), (23, .int .u64 (IntKind.wrap .u64 t22))] 28 15 (by kernel_rfl) fun J => ?_
    obtain ⟨t24a, t24n, t24k, H_5, q11, h⟩ := h
    refine KE.se (one_ca (by kernel_rfl) q11) (by kernel_rfl) ?_
    obtain ⟨H_6, q12, h⟩ := h
    refine KE.mk (w := sRow 3 1 [.slice (some ⟨(H_2.next + 7), 0, none⟩) 3 (UNK 1), .slice t20a t20n t20k, .slice t24a t24n t24k]) (one_al (by kernel_rfl)) (by kernel_rfl) (by kernel_rfl) q12 ?_
    obtain ⟨t26a, t26n, t26k, H_7, q13, h⟩ := h
    refine KE.se (one_ca (by kernel_rfl) q13) (by kernel_rfl) ?_
    obtain ⟨t27a, t27n, t27k, H_8, q14, h⟩ := h
    refine KE.se (one_ca (by kernel_rfl) q14) (by kernel_rfl) ?_
    refine KE.run 2 [(4, .slice t27a t27n t27k), (5, .int .i64 0)] 28 21 (by kernel_rfl) fun J => ?_
    obtain ⟨q15, q16, q17, q18, q19, h⟩ := h
    refine KE.fin (H' := H_8) (by kernel_rfl) (rdsS (rdsS (rdsS (rfl) (rd_ok (Hs := [H_4, H_5]) (by kernel_rfl) (by kernel_rfl) ⟨one_ld (by kernel_rfl) q15, ⟨one_ld (by kernel_rfl) q16, trivial⟩⟩)) (rd_ok (Hs := [H_4, H_5]) (by kernel_rfl) (by kernel_rfl) ⟨one_ld (by kernel_rfl) q17, ⟨one_ld (by kernel_rfl) q18, trivial⟩⟩)) (rd_ok (Hs := [H_4]) (by kernel_rfl) (by kernel_rfl) ⟨one_ld (by kernel_rfl) q19, trivial⟩)) (by kernel_rfl) ?_
    refine KR.run 0 [(4, .slice t27a t27n t27k), (5, .int .i64 0)] 28 (s' := (.code (sub B [1, 1, 1]) :: [])) (by kernel_rfl) fun J => ?_
    exact KR.fin (by kernel_rfl) h
  · replace h := iteF c4 h
    refine KR.br true (by kernel_rfl) (vB (nB (bF c4))) ?_
    refine KR.run 5 [(4, .slice none 0 0), (5, .int .i64 1)] 28 (s' := (.code (sub B [1, 0, 1, 0, 1]) :: S1)) (by kernel_rfl) fun J => ?_
    exact KR.fin (by kernel_rfl) h
end F10
/-! #### 11 campanile/join.Give -/
namespace F11
noncomputable def B : Code := bodyOf Try.f11
noncomputable def S0 : List It := (.code (sub B [1]) :: [])
noncomputable def S1 : List It := (.code (sub B [1, 1]) :: [])
theorem call {a0 : Int} {a1c0 : Int} {a1c1 : Int} {a1c2 : Int} {a1c3a : Option Addr} {a1c3n : Nat} {a1c3k : Nat} {a1c4 : Int} {H : Heap} {r : Value × Heap} (h :
    ∃ (H_1 : Heap), H_1 = H.push (.row [.int .i64 a1c0, .int .i64 a1c1, .int .u32 a1c2, .slice a1c3a a1c3n a1c3k, .int .u32 a1c4] true) ∧
    (∃ (t7c0 : Int) (t7c1 : Int) (t7c2 : Int) (t7c3a : Option Addr) (t7c3n : Nat) (t7c3k : Nat) (t7c4 : Int), ldAll H_1 H.next 0 [.int .i64 t7c0, .int .i64 t7c1, .int .u32 t7c2, .slice t7c3a t7c3n t7c3k, .int .u32 t7c4] ∧
    (∃ (t10r0a : Option Addr) (t10r0n : Nat) (t10r0k : Nat) (t10r1 : Int) (H_2 : Heap), xC Try.prog good 28 [.int .u64 a0, .iface 71 (.agg #[.int .i64 t7c0, .int .i64 t7c1, .int .u32 t7c2, .slice t7c3a t7c3n t7c3k, .int .u32 t7c4])] H_1 = some (.tuple #[.slice t10r0a t10r0n t10r0k, .int .i64 t10r1], H_2) ∧
    (r = (.tuple #[.slice t10r0a t10r0n t10r0k, .int .i64 t10r1], H_2))))) :
    xC Try.prog good 11 [.int .u64 a0, .agg #[.int .i64 a1c0, .int .i64 a1c1, .int .u32 a1c2, .slice a1c3a a1c3n a1c3k, .int .u32 a1c4]] H = some r := by
  refine KR.enter (fn := Try.f11) (c := B) (by kernel_rfl) (by kernel_rfl) ?_
  refine KR.run 2 [(0, .int .u64 a0), (1, .agg #[.int .i64 a1c0, .int .i64 a1c1, .int .u32 a1c2, .slice a1c3a a1c3n a1c3k, .int .u32 a1c4])] 13 (s' := (.reg (opsAt (sub B [0])) [0, 1, 2] :: S0)) (by kernel_rfl) fun J => ?_
  obtain ⟨H_1, q1, h⟩ := h
  refine KR.mk (w := pRow [.int .i64 a1c0, .int .i64 a1c1, .int .u32 a1c2, .slice a1c3a a1c3n a1c3k, .int .u32 a1c4]) (one_al (by kernel_rfl)) q1 ?_
  refine KR.run 6 [(3, .pointer (some ⟨H.next, 0, none⟩)), (6, .int .u64 a0)] 13 (s' := (.reg (opsAt (sub B [1, 0])) [1, 2, 3, 4, 5, 6, 7, 8] :: S1)) (by kernel_rfl) fun J => ?_
  obtain ⟨t7c0, t7c1, t7c2, t7c3a, t7c3n, t7c3k, t7c4, q2, h⟩ := h
  refine KR.rd (one_ldA (by kernel_rfl) q2) ?_
  refine KR.run 2 [(6, .int .u64 a0), (9, .iface 71 (.agg #[.int .i64 t7c0, .int .i64 t7c1, .int .u32 t7c2, .slice t7c3a t7c3n t7c3k, .int .u32 t7c4]))] 13 (s' := (.reg (opsAt (sub B [1, 0])) [4, 5, 6, 7, 8] :: S1)) (by kernel_rfl) fun J => ?_
  obtain ⟨t10r0a, t10r0n, t10r0k, t10r1, H_2, q3, h⟩ := h
  refine KR.se (one_ca (by kernel_rfl) q3) ?_
  refine KR.run 5 [(4, .slice t10r0a t10r0n t10r0k), (5, .int .i64 t10r1)] 13 (s' := (.code (sub B [1, 1]) :: [])) (by kernel_rfl) fun J => ?_
  exact KR.fin (by kernel_rfl) h
end F11
/-! #### 12 campanile/campanileref18.Give -/
namespace F12
noncomputable def B : Code := bodyOf Try.f12
noncomputable def S0 : List It := (.code (sub B [1]) :: [])
noncomputable def S1 : List It := (.code (sub B [1, 1]) :: [])
noncomputable def S3 : List It := (.code (sub B [1, 1, 1]) :: [])
noncomputable def S2 : List It := (.code (sub B [1, 0, 1]) :: S1)
def L0 (t0 : Int) (t3b : Nat) (t3o : Nat) (t25 : Bool) (H : Heap) (r : Value × Heap) : Prop := ∀ J, KR Try.prog good Try.f12 S2 (mat J 30 [(0, .int .u64 t0), (3, .pointer (some ⟨t3b, t3o, none⟩)), (25, .bool t25)]) H r
theorem L0_step {t0 : Int} {t3b : Nat} {t3o : Nat} {t25 : Bool} {H : Heap} {r : Value × Heap} (h :
    if t25 = true then
    (r = (.tuple #[.slice none 0 0, .int .i64 1], H))
    else
    (∃ (t27c0 : Int) (t27c1 : Int) (t27c2 : Int) (t27c3a : Option Addr) (t27c3n : Nat) (t27c3k : Nat) (t27c4 : Int), ldAll H t3b t3o [.int .i64 t27c0, .int .i64 t27c1, .int .u32 t27c2, .slice t27c3a t27c3n t27c3k, .int .u32 t27c4] ∧
    (∃ (t28a : Option Addr) (t28n : Nat) (t28k : Nat) (H_1 : Heap), xC Try.prog good 34 [.agg #[.int .i64 t27c0, .int .i64 t27c1, .int .u32 t27c2, .slice t27c3a t27c3n t27c3k, .int .u32 t27c4]] H = some (.slice t28a t28n t28k, H_1) ∧
    (∃ (t29a : Option Addr) (t29n : Nat) (t29k : Nat) (H_2 : Heap), xC Try.prog good 30 [.int .u64 t0, .slice t28a t28n t28k] H_1 = some (.slice t29a t29n t29k, H_2) ∧
    (r = (.tuple #[.slice t29a t29n t29k, .int .i64 0], H_2)))))) :
    L0 t0 t3b t3o t25 H r := by
  intro J
  show KR _ _ _ (.code (sub B [1, 0, 1]) :: S1) _ _ _
  by_cases c11 : t25 = true
  · replace h := iteT c11 h
    refine KR.br true (by kernel_rfl) (vB (bT c11)) ?_
    refine KR.run 5 [(4, .slice none 0 0), (5, .int .i64 1)] 30 (s' := (.code (sub B [1, 0, 1, 0, 1]) :: S1)) (by kernel_rfl) fun J => ?_
    exact KR.fin (by kernel_rfl) h
  · replace h := iteF c11 h
    refine KR.br false (by kernel_rfl) (vB (bF c11)) ?_
    refine KR.run 4 [(3, .pointer (some ⟨t3b, t3o, none⟩)), (26, .int .u64 t0)] 30 (s' := (.reg (opsAt (sub B [1, 1, 0])) [1, 2, 3, 4, 5] :: S3)) (by kernel_rfl) fun J => ?_
    obtain ⟨t27c0, t27c1, t27c2, t27c3a, t27c3n, t27c3k, t27c4, q12, h⟩ := h
    refine KR.rd (one_ldA (by kernel_rfl) q12) ?_
    obtain ⟨t28a, t28n, t28k, H_1, q13, h⟩ := h
    refine KR.se (one_ca (by kernel_rfl) q13) ?_
    obtain ⟨t29a, t29n, t29k, H_2, q14, h⟩ := h
    refine KR.se (one_ca (by kernel_rfl) q14) ?_
    refine KR.run 3 [(4, .slice t29a t29n t29k), (5, .int .i64 0)] 30 (s' := (.code (sub B [1, 1, 1]) :: [])) (by kernel_rfl) fun J => ?_
    exact KR.fin (by kernel_rfl) h
theorem call {a0 : Int} {a1c0 : Int} {a1c1 : Int} {a1c2 : Int} {a1c3a : Option Addr} {a1c3n : Nat} {a1c3k : Nat} {a1c4 : Int} {H : Heap} {r : Value × Heap} (h :
    ∃ (H_1 : Heap), H_1 = H.push (.row [.int .i64 a1c0, .int .i64 a1c1, .int .u32 a1c2, .slice a1c3a a1c3n a1c3k, .int .u32 a1c4] true) ∧
    (∃ (t7 : Int), ldc H_1 H.next 0 = some (.int .i64 t7) ∧
    (∃ (t8 : Bool) (H_2 : Heap), xC Try.prog good 33 [.int .i64 t7] H_1 = some (.bool t8, H_2) ∧
    (if t8 = true then
    (∃ (t12 : Int), ldc H_2 H.next 1 = some (.int .i64 t12) ∧
    (if t12 < 0 then
    (L0 (a0) (H.next) (0) (true) H_2 r)
    else
    (∃ (t17 : Int), ldc H_2 H.next 1 = some (.int .i64 t17) ∧
    (if t17 > 255 then
    (L0 (a0) (H.next) (0) (true) H_2 r)
    else
    (∃ (t22a : Option Addr) (t22n : Nat) (t22k : Nat), ldc H_2 H.next 3 = some (.slice t22a t22n t22k) ∧
    (∃ (t23 : Bool) (H_3 : Heap), xC Try.prog good 23 [.slice t22a t22n t22k] H_2 = some (.bool t23, H_3) ∧
    (L0 (a0) (H.next) (0) ((!t23)) H_3 r)))))))
    else
    (L0 (a0) (H.next) (0) (true) H_2 r))))) :
    xC Try.prog good 12 [.int .u64 a0, .agg #[.int .i64 a1c0, .int .i64 a1c1, .int .u32 a1c2, .slice a1c3a a1c3n a1c3k, .int .u32 a1c4]] H = some r := by
  refine KR.enter (fn := Try.f12) (c := B) (by kernel_rfl) (by kernel_rfl) ?_
  refine KR.run 2 [(0, .int .u64 a0), (1, .agg #[.int .i64 a1c0, .int .i64 a1c1, .int .u32 a1c2, .slice a1c3a a1c3n a1c3k, .int .u32 a1c4])] 30 (s' := (.reg (opsAt (sub B [0])) [0, 1, 2] :: S0)) (by kernel_rfl) fun J => ?_
  obtain ⟨H_1, q1, h⟩ := h
  refine KR.mk (w := pRow [.int .i64 a1c0, .int .i64 a1c1, .int .u32 a1c2, .slice a1c3a a1c3n a1c3k, .int .u32 a1c4]) (one_al (by kernel_rfl)) q1 ?_
  refine KR.run 7 [(0, .int .u64 a0), (3, .pointer (some ⟨H.next, 0, none⟩)), (6, .pointer (some ⟨H.next, 0, none⟩))] 30 (s' := (.reg (opsAt (sub B [1, 0, 0])) [1, 2, 3, 4, 5, 6, 7, 8, 9, 10, 11, 12, 13, 14, 15, 16, 17, 18, 19] :: S2)) (by kernel_rfl) fun J => ?_
  obtain ⟨t7, q2, h⟩ := h
  refine KR.rd (one_ld (by kernel_rfl) q2) ?_
  obtain ⟨t8, H_2, q3, h⟩ := h
  refine KR.se (one_ca (by kernel_rfl) q3) ?_
  refine KR.run 2 [(0, .int .u64 a0), (3, .pointer (some ⟨H.next, 0, none⟩)), (10, .bool (!t8))] 30 (s' := (.reg (opsAt (sub B [1, 0, 0])) [5, 6, 7, 8, 9, 10, 11, 12, 13, 14, 15, 16, 17, 18, 19] :: S2)) (by kernel_rfl) fun J => ?_
  by_cases c4 : t8 = true
  · replace h := iteT c4 h
    refine KR.setV 10 (by kernel_rfl) (nB (bT c4)) ?_
    refine KR.run 1 [(0, .int .u64 a0), (3, .pointer (some ⟨H.next, 0, none⟩)), (10, .bool false), (11, .pointer (some ⟨H.next, 1, none⟩))] 30 (s' := (.reg (opsAt (sub B [1, 0, 0])) [6, 7, 8, 9, 10, 11, 12, 13, 14, 15, 16, 17, 18, 19] :: S2)) (by kernel_rfl) fun J => ?_
    obtain ⟨t12, q5, h⟩ := h
    refine KR.rd (one_ld (by kernel_rfl) q5) ?_
    refine KR.run 3 [(0, .int .u64 a0), (3, .pointer (some ⟨H.next, 0, none⟩)), (15, .bool (decide (t12 < 0)))] 30 (s' := (.reg (opsAt (sub B [1, 0, 0])) [10, 11, 12, 13, 14, 15, 16, 17, 18, 19] :: S2)) (by kernel_rfl) fun J => ?_
    by_cases c6 : t12 < 0
    · replace h := iteT c6 h
      refine KR.setV 15 (by kernel_rfl) (dT c6) ?_
      exact KR.run 11 [(0, .int .u64 a0), (3, .pointer (some ⟨H.next, 0, none⟩)), (25, .bool true)] 30 (s' := (.code (sub B [1, 0, 1]) :: S1)) (by kernel_rfl) h
    · replace h := iteF c6 h
      refine KR.setV 15 (by kernel_rfl) (dF c6) ?_
      refine KR.run 1 [(0, .int .u64 a0), (3, .pointer (some ⟨H.next, 0, none⟩)), (15, .bool false), (16, .pointer (some ⟨H.next, 1, none⟩))] 30 (s' := (.reg (opsAt (sub B [1, 0, 0])) [11, 12, 13, 14, 15, 16, 17, 18, 19] :: S2)) (by kernel_rfl) fun J => ?_
      obtain ⟨t17, q7, h⟩ := h
      refine KR.rd (one_ld (by kernel_rfl) q7) ?_
      refine KR.run 3 [(0, .int .u64 a0), (3, .pointer (some ⟨H.next, 0, none⟩)), (20, .bool (decide (t17 > 255)))] 30 (s' := (.reg (opsAt (sub B [1, 0, 0])) [15, 16, 17, 18, 19] :: S2)) (by kernel_rfl) fun J => ?_
      by_cases c8 : t17 > 255
      · replace h := iteT c8 h
        refine KR.setV 20 (by kernel_rfl) (dT c8) ?_
        exact KR.run 6 [(0, .int .u64 a0), (3, .pointer (some ⟨H.next, 0, none⟩)), (25, .bool true)] 30 (s' := (.code (sub B [1, 0, 1]) :: S1)) (by kernel_rfl) h
      · replace h := iteF c8 h
        refine KR.setV 20 (by kernel_rfl) (dF c8) ?_
        refine KR.run 1 [(0, .int .u64 a0), (3, .pointer (some ⟨H.next, 0, none⟩)), (20, .bool false), (21, .pointer (some ⟨H.next, 3, none⟩))] 30 (s' := (.reg (opsAt (sub B [1, 0, 0])) [16, 17, 18, 19] :: S2)) (by kernel_rfl) fun J => ?_
        obtain ⟨t22a, t22n, t22k, q9, h⟩ := h
        refine KR.rd (one_ld (by kernel_rfl) q9) ?_
        obtain ⟨t23, H_3, q10, h⟩ := h
        refine KR.se (one_ca (by kernel_rfl) q10) ?_
        exact KR.run 3 [(0, .int .u64 a0), (3, .pointer (some ⟨H.next, 0, none⟩)), (25, .bool (!t23))] 30 (s' := (.code (sub B [1, 0, 1]) :: S1)) (by kernel_rfl) h
  · replace h := iteF c4 h
    refine KR.setV 10 (by kernel_rfl) (nB (bF c4)) ?_
    exact KR.run 16 [(0, .int .u64 a0), (3, .pointer (some ⟨H.next, 0, none⟩)), (25, .bool true)] 30 (s' := (.code (sub B [1, 0, 1]) :: S1)) (by kernel_rfl) h
end F12
/-! #### 13 campanile/campanilelaw18.bent -/
namespace F13
noncomputable def B : Code := bodyOf Try.f13
noncomputable def S0 : List It := (.code (sub B [1, 1]) :: [])
noncomputable def S1 : List It := (.code (sub B [1, 1, 1]) :: [])
noncomputable def S2 : List It := (.code (sub B [1, 1, 0, 1, 1, 0, 1]) :: S1)
noncomputable def S3 : List It := (.blk 0 :: S2)
noncomputable def S4 : List It := (.lp (sub B [1, 1, 0, 1, 1, 0, 0, 1, 0, 0]) :: S3)
noncomputable def S5 : List It := (.code (sub B [1, 1, 0, 1, 1, 0, 0, 1, 0, 0, 1, 1]) :: S4)
noncomputable def S6 : List It := (.code (sub B [1, 1, 0, 1, 1, 0, 0, 1, 0, 0, 1, 1, 1]) :: S4)
noncomputable def S7 : List It := (.blk 1 :: S6)
noncomputable def S8 : List It := (.code (sub B [1, 1, 0, 1, 1, 0, 0, 1, 0, 0, 1, 1, 0, 0, 1]) :: S7)
def L0 (t0a : Option Addr) (t0n : Nat) (t0k : Nat) (t2 : Int) (t3 : Int) (t9 : Int) (t19a : Option Addr) (t19n : Nat) (t19k : Nat) (t20 : Int) (t21 : Int) (H : Heap) (r : Value × Heap) : Prop := ∀ J, KR Try.prog good Try.f13 S4 (mat J 52 [(0, .slice t0a t0n t0k), (2, .int .u8 t2), (3, .int .i64 t3), (9, .int .i64 t9), (19, .slice t19a t19n t19k), (20, .int .i64 t20), (21, .int .i64 t21)]) H r
theorem L0_step {t0a : Option Addr} {t0n : Nat} {t0k : Nat} {t2 : Int} {t3 : Int} {t9 : Int} {t19a : Option Addr} {t19n : Nat} {t19k : Nat} {t20 : Int} {t21 : Int} {H : Heap} {r : Value × Heap} (h :
    if t21 < t20 then
    (∃ (t19ab t19ao : Nat), t19a = some ⟨t19ab, t19ao, none⟩ ∧
    ((0 : Int) ≤ t21 ∧ t21 < ((t19n : Nat) : Int) ∧
    (∃ (t25 : Int), ldc H t19ab (t19ao + Int.toNat t21 * 1) = some (.int .i64 t25) ∧
    (if t21 < 3 then
    ((IntKind.wrap .u64 t9) ≠ 0 ∧
    (∃ (t0ab t0ao : Nat), t0a = some ⟨t0ab, t0ao, none⟩ ∧
    ((0 : Int) ≤ (IntKind.wrap .i64 (Int.tmod (IntKind.wrap .u64 t25) (IntKind.wrap .u64 t9))) ∧ (IntKind.wrap .i64 (Int.tmod (IntKind.wrap .u64 t25) (IntKind.wrap .u64 t9))) < ((t0n : Nat) : Int) ∧
    (∃ (t36 : Int), ldc H t0ab (t0ao + Int.toNat (IntKind.wrap .i64 (Int.tmod (IntKind.wrap .u64 t25) (IntKind.wrap .u64 t9))) * 1) = some (.int .u8 t36) ∧
    ((0 : Int) ≤ (IntKind.wrap .i64 (Int.tmod (IntKind.wrap .u64 t25) (IntKind.wrap .u64 t9))) ∧ (IntKind.wrap .i64 (Int.tmod (IntKind.wrap .u64 t25) (IntKind.wrap .u64 t9))) < ((t0n : Nat) : Int) ∧
    (∃ (H_1 : Heap), stc H t0ab (t0ao + Int.toNat (IntKind.wrap .i64 (Int.tmod (IntKind.wrap .u64 t25) (IntKind.wrap .u64 t9))) * 1) [.int .u8 (ixor .u8 t36 t2)] = some H_1 ∧
    (L0 ((some ⟨t0ab, t0ao, none⟩)) (t0n) (t0k) (t2) (t3) (t9) ((some ⟨t19ab, t19ao, none⟩)) (t19n) (t19k) (t20) ((IntKind.wrap .i64 (t21 + 1))) H_1 r)))))))
    else
    (L0 (t0a) (t0n) (t0k) (t2) (t3) (t9) ((some ⟨t19ab, t19ao, none⟩)) (t19n) (t19k) (t20) ((IntKind.wrap .i64 (t21 + 1))) H r)))))
    else
    ((IntKind.wrap .u64 t9) ≠ 0 ∧
    (∃ (t50a : Option Addr) (t50n : Nat) (t50k : Nat), psl 1 t0a t0n t0k none (some (IntKind.wrap .i64 (t9 - (IntKind.wrap .i64 (Int.tmod (IntKind.wrap .u64 t3) (IntKind.wrap .u64 t9)))))) none = some (t50a, t50n, t50k) ∧
    (r = (.slice t50a t50n t50k, H))))) :
    L0 t0a t0n t0k t2 t3 t9 t19a t19n t19k t20 t21 H r := by
  intro J
  show KR _ _ _ (.lp (sub B [1, 1, 0, 1, 1, 0, 0, 1, 0, 0]) :: S3) _ _ _
  refine KR.run 6 [(0, .slice t0a t0n t0k), (2, .int .u8 t2), (3, .int .i64 t3), (9, .int .i64 t9), (19, .slice t19a t19n t19k), (20, .int .i64 t20), (21, .int .i64 t21), (22, .bool (decide (t21 < t20)))] 52 (s' := (.code (sub B [1, 1, 0, 1, 1, 0, 0, 1, 0, 0, 1, 0]) :: S5)) (by kernel_rfl) fun J => ?_
  by_cases c4 : t21 < t20
  · replace h := iteT c4 h
    refine KR.br true (by kernel_rfl) (vB (dT c4)) ?_
    obtain ⟨t19ab, t19ao, rfl, h⟩ := h
    refine KR.run 6 [(0, .slice t0a t0n t0k), (2, .int .u8 t2), (3, .int .i64 t3), (9, .int .i64 t9), (19, .slice (some ⟨t19ab, t19ao, none⟩) t19n t19k), (20, .int .i64 t20), (21, .int .i64 t21), (23, .int .i64 t21)] 52 (s' := (.reg (opsAt (sub B [1, 1, 0, 1, 1, 0, 0, 1, 0, 0, 1, 1, 0, 0, 0])) [1, 2, 3, 4] :: S8)) (by kernel_rfl) fun J => ?_
    obtain ⟨q5, q5x, h⟩ := h
    refine KR.p (one_ix 1 t19ab t19ao (by kernel_rfl) q5 q5x) ?_
    obtain ⟨t25, q6, h⟩ := h
    refine KR.rd (one_ld (by kernel_rfl) q6) ?_
    refine KR.run 8 [(0, .slice t0a t0n t0k), (2, .int .u8 t2), (3, .int .i64 t3), (9, .int .i64 t9), (11, .int .i64 t25), (19, .slice (some ⟨t19ab, t19ao, none⟩) t19n t19k), (20, .int .i64 t20), (21, .int .i64 t21), (27, .bool (decide (t21 < 3)))] 52 (s' := (.code (sub B [1, 1, 0, 1, 1, 0, 0, 1, 0, 0, 1, 1, 0, 0, 1, 1]) :: S7)) (by kernel_rfl) fun J => ?_
    by_cases c7 : t21 < 3
    · replace h := iteT c7 h
      refine KR.br true (by kernel_rfl) (vB (dT c7)) ?_
      refine KR.run 6 [(0, .slice t0a t0n t0k), (2, .int .u8 t2), (3, .int .i64 t3), (9, .int .i64 t9), (19, .slice (some ⟨t19ab, t19ao, none⟩) t19n t19k), (20, .int .i64 t20), (21, .int .i64 t21), (28, .slice t0a t0n t0k), (30, .int .u64 (IntKind.wrap .u64 t25)), (32, .int .u64 (IntKind.wrap .u64 t9))] 52 (s' := (.reg (opsAt (sub B [1, 1, 0, 1, 1, 0, 0, 1, 0, 0, 1, 1, 0, 0, 1, 1, 0])) [5, 6, 7, 8, 9, 10, 11, 12] :: S7)) (by kernel_rfl) fun J => ?_
      obtain ⟨q8, h⟩ := h
      refine KR.p (one_rem .u64 (IntKind.wrap .u64 t25) (by kernel_rfl) q8) ?_
      obtain ⟨t0ab, t0ao, rfl, h⟩ := h
      refine KR.run 1 [(0, .slice (some ⟨t0ab, t0ao, none⟩) t0n t0k), (2, .int .u8 t2), (3, .int .i64 t3), (9, .int .i64 t9), (19, .slice (some ⟨t19ab, t19ao, none⟩) t19n t19k), (20, .int .i64 t20), (21, .int .i64 t21), (28, .slice (some ⟨t0ab, t0ao, none⟩) t0n t0k), (34, .int .i64 (IntKind.wrap .i64 (Int.tmod (IntKind.wrap .u64 t25) (IntKind.wrap .u64 t9))))] 52 (s' := (.reg (opsAt (sub B [1, 1, 0, 1, 1, 0, 0, 1, 0, 0, 1, 1, 0, 0, 1, 1, 0])) [7, 8, 9, 10, 11, 12] :: S7)) (by kernel_rfl) fun J => ?_
      obtain ⟨q9, q9x, h⟩ := h
      refine KR.p (one_ix 1 t0ab t0ao (by kernel_rfl) q9 q9x) ?_
      obtain ⟨t36, q10, h⟩ := h
      refine KR.rd (one_ld (by kernel_rfl) q10) ?_
      refine KR.run 2 [(0, .slice (some ⟨t0ab, t0ao, none⟩) t0n t0k), (2, .int .u8 t2), (3, .int .i64 t3), (9, .int .i64 t9), (19, .slice (some ⟨t19ab, t19ao, none⟩) t19n t19k), (20, .int .i64 t20), (21, .int .i64 t21), (28, .slice (some ⟨t0ab, t0ao, none⟩) t0n t0k), (34, .int .i64 (IntKind.wrap .i64 (Int.tmod (IntKind.wrap .u64 t25) (IntKind.wrap .u64 t9)))), (38, .int .u8 (ixor .u8 t36 t2))] 52 (s' := (.reg (opsAt (sub B [1, 1, 0, 1, 1, 0, 0, 1, 0, 0, 1, 1, 0, 0, 1, 1, 0])) [11, 12] :: S7)) (by kernel_rfl) fun J => ?_
      obtain ⟨q11, q11x, h⟩ := h
      refine KR.p (one_ix 1 t0ab t0ao (by kernel_rfl) q11 q11x) ?_
      obtain ⟨H_1, q12, h⟩ := h
      refine KR.se (one_st (by kernel_rfl) q12) ?_
      exact KR.run 6 [(0, .slice (some ⟨t0ab, t0ao, none⟩) t0n t0k), (2, .int .u8 t2), (3, .int .i64 t3), (9, .int .i64 t9), (19, .slice (some ⟨t19ab, t19ao, none⟩) t19n t19k), (20, .int .i64 t20), (21, .int .i64 (IntKind.wrap .i64 (t21 + 1)))] 52 (s' := (.lp (sub B [1, 1, 0, 1, 1, 0, 0, 1, 0, 0]) :: S3)) (by kernel_rfl) h
    · replace h := iteF c7 h
      refine KR.br false (by kernel_rfl) (vB (dF c7)) ?_
      exact KR.run 6 [(0, .slice t0a t0n t0k), (2, .int .u8 t2), (3, .int .i64 t3), (9, .int .i64 t9), (19, .slice (some ⟨t19ab, t19ao, none⟩) t19n t19k), (20, .int .i64 t20), (21, .int .i64 (IntKind.wrap .i64 (t21 + 1)))] 52 (s' := (.lp (sub B [1, 1, 0, 1, 1, 0, 0, 1, 0, 0]) :: S3)) (by kernel_rfl) h
  · replace h := iteF c4 h
    refine KR.br false (by kernel_rfl) (vB (dF c4)) ?_
    refine KR.run 8 [(41, .slice t0a t0n t0k), (42, .int .i64 t9), (44, .int .u64 (IntKind.wrap .u64 t3)), (46, .int .u64 (IntKind.wrap .u64 t9))] 52 (s' := (.reg (opsAt (sub B [1, 1, 0, 1, 1, 0, 1])) [6, 7, 8, 9, 10] :: S1)) (by kernel_rfl) fun J => ?_
    obtain ⟨q13, h⟩ := h
    refine KR.p (one_rem .u64 (IntKind.wrap .u64 t3) (by kernel_rfl) q13) ?_
    refine KR.run 2 [(41, .slice t0a t0n t0k), (49, .int .i64 (IntKind.wrap .i64 (t9 - (IntKind.wrap .i64 (Int.tmod (IntKind.wrap .u64 t3) (IntKind.wrap .u64 t9))))))] 52 (s' := (.reg (opsAt (sub B [1, 1, 0, 1, 1, 0, 1])) [9, 10] :: S1)) (by kernel_rfl) fun J => ?_
    obtain ⟨t50a, t50n, t50k, q14, h⟩ := h
    refine KR.p (one_sl (by kernel_rfl) q14) ?_
    refine KR.run 7 [(8, .slice t50a t50n t50k)] 52 (s' := (.code (sub B [1, 1, 1, 1]) :: [])) (by kernel_rfl) fun J => ?_
    exact KR.fin (by kernel_rfl) h
theorem call {a0a : Option Addr} {a0n : Nat} {a0k : Nat} {a1a : Option Addr} {a1n : Nat} {a1k : Nat} {a2 : Int} {a3 : Int} {H : Heap} {r : Value × Heap} (h :
    ∃ (H_1 : Heap), H_1 = H.push (.row [] true) ∧
    (∃ (t14a : Option Addr) (t14n : Nat) (t14k : Nat) (H_2 : Heap), papp H_1 1 1 (some ⟨H.next, 0, none⟩) 0 (UNK 1) a0a a0n a0k = some ((t14a, t14n, t14k), H_2) ∧
    (if ((t14n : Nat) : Int) > 0 then
    (L0 (t14a) (t14n) (t14k) (a2) (a3) (((t14n : Nat) : Int)) (a1a) (a1n) (a1k) (((a1n : Nat) : Int)) 0 H_2 r)
    else
    (r = (.slice t14a t14n t14k, H_2))))) :
    xC Try.prog good 13 [.slice a0a a0n a0k, .slice a1a a1n a1k, .int .u8 a2, .int .i64 a3] H = some r := by
  refine KR.enter (fn := Try.f13) (c := B) (by kernel_rfl) (by kernel_rfl) ?_
  refine KR.run 6 [(0, .slice a0a a0n a0k), (1, .slice a1a a1n a1k), (2, .int .u8 a2), (3, .int .i64 a3)] 52 (s' := (.reg (opsAt (sub B [1, 0])) [0, 1, 2, 3] :: S0)) (by kernel_rfl) fun J => ?_
  obtain ⟨H_1, q1, h⟩ := h
  refine KR.mk (w := sRow 0 1 []) (one_al (by kernel_rfl)) q1 ?_
  refine KR.run 1 [(1, .slice a1a a1n a1k), (2, .int .u8 a2), (3, .int .i64 a3), (12, .slice (some ⟨H.next, 0, none⟩) 0 (UNK 1)), (13, .slice a0a a0n a0k)] 52 (s' := (.reg (opsAt (sub B [1, 0])) [2, 3] :: S0)) (by kernel_rfl) fun J => ?_
  obtain ⟨t14a, t14n, t14k, H_2, q2, h⟩ := h
  refine KR.se (one_ap 1 1 (by kernel_rfl) q2) ?_
  refine KR.run 14 [(0, .slice t14a t14n t14k), (1, .slice a1a a1n a1k), (2, .int .u8 a2), (3, .int .i64 a3), (9, .int .i64 ((t14n : Nat) : Int)), (18, .bool (decide (((t14n : Nat) : Int) > 0)))] 52 (s' := (.code (sub B [1, 1, 0, 1, 1]) :: S1)) (by kernel_rfl) fun J => ?_
  by_cases c3 : ((t14n : Nat) : Int) > 0
  · replace h := iteT c3 h
    refine KR.br true (by kernel_rfl) (vB (dT c3)) ?_
    exact KR.run 9 [(0, .slice t14a t14n t14k), (2, .int .u8 a2), (3, .int .i64 a3), (9, .int .i64 ((t14n : Nat) : Int)), (19, .slice a1a a1n a1k), (20, .int .i64 ((a1n : Nat) : Int)), (21, .int .i64 0)] 52 (s' := (.lp (sub B [1, 1, 0, 1, 1, 0, 0, 1, 0, 0]) :: S3)) (by kernel_rfl) h
  · replace h := iteF c3 h
    refine KR.br false (by kernel_rfl) (vB (dF c3)) ?_
    refine KR.run 6 [(8, .slice t14a t14n t14k)] 52 (s' := (.code (sub B [1, 1, 1, 1]) :: [])) (by kernel_rfl) fun J => ?_
    exact KR.fin (by kernel_rfl) h
end F13
/-! #### 14 campanile/join.Asked -/
namespace F14
noncomputable def B : Code := bodyOf Try.f14
noncomputable def S0 : List It := (.code (sub B [1]) :: [])
noncomputable def S1 : List It := (.code (sub B [1, 1]) :: [])
noncomputable def S2 : List It := (.code (sub B [1, 1, 1]) :: [])
noncomputable def S5 : List It := (.code (sub B [1, 1, 1, 1]) :: [])
noncomputable def S3 : List It := (.code (sub B [1, 1, 0, 1]) :: S2)
noncomputable def S4 : List It := (.code (sub B [1, 1, 0, 1, 1, 0, 1]) :: S2)
noncomputable def S6 : List It := (.code (sub B [1, 1, 0, 1, 1]) :: S2)
def L0 (t2b : Nat) (t2o : Nat) (t5 : Int) (t6b : Nat) (t6o : Nat) (t22 : Bool) (H : Heap) (r : Value × Heap) : Prop := ∀ J, KR Try.prog good Try.f14 S6 (mat J 27 [(2, .pointer (some ⟨t2b, t2o, none⟩)), (5, .int .i64 t5), (6, .pointer (some ⟨t6b, t6o, none⟩)), (22, .bool t22)]) H r
theorem L0_step {t2b : Nat} {t2o : Nat} {t5 : Int} {t6b : Nat} {t6o : Nat} {t22 : Bool} {H : Heap} {r : Value × Heap} (h :
    if t22 = true then
    (∃ (t24c0 : Int) (t24c1 : Int) (t24c2 : Int) (t24c3 : Int) (t24c4 : Int), ldAll H t6b t6o [.int .i64 t24c0, .int .i64 t24c1, .int .u32 t24c2, .int .u32 t24c3, .int .u32 t24c4] ∧
    (∃ (H_1 : Heap), stc H t2b t2o [.int .i64 t24c0, .int .i64 t24c1, .int .u32 t24c2, .int .u32 t24c3, .int .u32 t24c4] = some H_1 ∧
    (∃ (r2c0 : Int) (r2c1 : Int) (r2c2 : Int) (r2c3 : Int) (r2c4 : Int), ldAll H_1 t2b t2o [.int .i64 r2c0, .int .i64 r2c1, .int .u32 r2c2, .int .u32 r2c3, .int .u32 r2c4] ∧
    (r = (.tuple #[.agg #[.int .i64 r2c0, .int .i64 r2c1, .int .u32 r2c2, .int .u32 r2c3, .int .u32 r2c4], .int .i64 0], H_1)))))
    else
    (∃ (H_2 : Heap), stc H t2b t2o [.int .i64 0, .int .i64 0, .int .u32 0, .int .u32 0, .int .u32 0] = some H_2 ∧
    (∃ (r2c0_1 : Int) (r2c1_1 : Int) (r2c2_1 : Int) (r2c3_1 : Int) (r2c4_1 : Int), ldAll H_2 t2b t2o [.int .i64 r2c0_1, .int .i64 r2c1_1, .int .u32 r2c2_1, .int .u32 r2c3_1, .int .u32 r2c4_1] ∧
    (r = (.tuple #[.agg #[.int .i64 r2c0_1, .int .i64 r2c1_1, .int .u32 r2c2_1, .int .u32 r2c3_1, .int .u32 r2c4_1], .int .i64 t5], H_2))))) :
    L0 t2b t2o t5 t6b t6o t22 H r := by
  intro J
  show KR _ _ _ (.code (sub B [1, 1, 0, 1, 1]) :: S2) _ _ _
  by_cases c11 : t22 = true
  · replace h := iteT c11 h
    refine KR.br true (by kernel_rfl) (vB (bT c11)) ?_
    refine KR.run 3 [(2, .pointer (some ⟨t2b, t2o, none⟩)), (23, .pointer (some ⟨t6b, t6o, none⟩))] 27 (s' := (.reg (opsAt (sub B [1, 1, 0, 1, 1, 0, 0])) [1, 2, 3] :: S4)) (by kernel_rfl) fun J => ?_
    obtain ⟨t24c0, t24c1, t24c2, t24c3, t24c4, q12, h⟩ := h
    refine KR.rd (one_ldA (by kernel_rfl) q12) ?_
    obtain ⟨H_1, q13, h⟩ := h
    refine KR.se (one_st (by kernel_rfl) q13) ?_
    refine KR.run 2 [(2, .pointer (some ⟨t2b, t2o, none⟩)), (3, .int .i64 0)] 27 (s' := (.code (sub B [1, 1, 0, 1, 1, 0, 1]) :: S2)) (by kernel_rfl) fun J => ?_
    obtain ⟨r2c0, r2c1, r2c2, r2c3, r2c4, q14, h⟩ := h
    exact KR.finR (l := [.cell 2 25, .tmp 3]) (vs := [.agg #[.int .i64 r2c0, .int .i64 r2c1, .int .u32 r2c2, .int .u32 r2c3, .int .u32 r2c4], .int .i64 0]) (by kernel_rfl) (Res.cellA (by kernel_rfl) q14 (Res.tmp (by kernel_rfl) Res.nil)) (by kernel_rfl) h
  · replace h := iteF c11 h
    refine KR.br false (by kernel_rfl) (vB (bF c11)) ?_
    refine KR.run 5 [(2, .pointer (some ⟨t2b, t2o, none⟩)), (25, .agg #[.int .i64 0, .int .i64 0, .int .u32 0, .int .u32 0, .int .u32 0]), (26, .int .i64 t5)] 27 (s' := (.reg (opsAt (sub B [1, 1, 1, 0])) [2, 3] :: S5)) (by kernel_rfl) fun J => ?_
    obtain ⟨H_2, q15, h⟩ := h
    refine KR.se (one_st (by kernel_rfl) q15) ?_
    refine KR.run 2 [(2, .pointer (some ⟨t2b, t2o, none⟩)), (3, .int .i64 t5)] 27 (s' := (.code (sub B [1, 1, 1, 1]) :: [])) (by kernel_rfl) fun J => ?_
    obtain ⟨r2c0_1, r2c1_1, r2c2_1, r2c3_1, r2c4_1, q16, h⟩ := h
    exact KR.finR (l := [.cell 2 25, .tmp 3]) (vs := [.agg #[.int .i64 r2c0_1, .int .i64 r2c1_1, .int .u32 r2c2_1, .int .u32 r2c3_1, .int .u32 r2c4_1], .int .i64 t5]) (by kernel_rfl) (Res.cellA (by kernel_rfl) q16 (Res.tmp (by kernel_rfl) Res.nil)) (by kernel_rfl) h
theorem call {a0a : Option Addr} {a0n : Nat} {a0k : Nat} {H : Heap} {r : Value × Heap} (h :
    ∃ (H_1 : Heap), H_1 = H.push (.row [.int .i64 0, .int .i64 0, .int .u32 0, .int .u32 0, .int .u32 0] true) ∧
    (∃ (t10r0 : Value) (t10r1 : Int) (H_2 : Heap), xC Try.prog good 35 [.slice a0a a0n a0k, .int .u8 74] H_1 = some (.tuple #[t10r0, .int .i64 t10r1], H_2) ∧
    ((t10r0 = .nilIface ∧
    (∃ (H_3 : Heap), H_3 = H_2.push (.row [.int .i64 0, .int .i64 0, .int .u32 0, .int .u32 0, .int .u32 0] true) ∧
    (∃ (H_4 : Heap), stc H_3 H_2.next 0 [.int .i64 0, .int .i64 0, .int .u32 0, .int .u32 0, .int .u32 0] = some H_4 ∧
    (L0 (H.next) (0) (t10r1) (H_2.next) (0) (false) H_4 r)))) ∨
    (∃ (t10r0t : Nat) (t10r0v : Value), t10r0 = .iface t10r0t t10r0v ∧
    (if t10r0t = 65 then
    (∃ (t15yc0 : Int) (t15yc1 : Int) (t15yc2 : Int) (t15yc3 : Int) (t15yc4 : Int), t10r0v = .agg #[.int .i64 t15yc0, .int .i64 t15yc1, .int .u32 t15yc2, .int .u32 t15yc3, .int .u32 t15yc4] ∧
    (∃ (H_5 : Heap), H_5 = H_2.push (.row [.int .i64 0, .int .i64 0, .int .u32 0, .int .u32 0, .int .u32 0] true) ∧
    (∃ (H_6 : Heap), stc H_5 H_2.next 0 [.int .i64 t15yc0, .int .i64 t15yc1, .int .u32 t15yc2, .int .u32 t15yc3, .int .u32 t15yc4] = some H_6 ∧
    (L0 (H.next) (0) (t10r1) (H_2.next) (0) ((t10r1 == 0)) H_6 r))))
    else
    (∃ (H_7 : Heap), H_7 = H_2.push (.row [.int .i64 0, .int .i64 0, .int .u32 0, .int .u32 0, .int .u32 0] true) ∧
    (∃ (H_8 : Heap), stc H_7 H_2.next 0 [.int .i64 0, .int .i64 0, .int .u32 0, .int .u32 0, .int .u32 0] = some H_8 ∧
    (L0 (H.next) (0) (t10r1) (H_2.next) (0) (false) H_8 r)))))))) :
    xC Try.prog good 14 [.slice a0a a0n a0k] H = some r := by
  refine KR.enter (fn := Try.f14) (c := B) (by kernel_rfl) (by kernel_rfl) ?_
  refine KR.run 2 [(0, .slice a0a a0n a0k)] 27 (s' := (.reg (opsAt (sub B [0])) [0, 1] :: S0)) (by kernel_rfl) fun J => ?_
  obtain ⟨H_1, q1, h⟩ := h
  refine KR.mk (w := pRow [.int .i64 0, .int .i64 0, .int .u32 0, .int .u32 0, .int .u32 0]) (one_al (by kernel_rfl)) q1 ?_
  refine KR.run 5 [(2, .pointer (some ⟨H.next, 0, none⟩)), (9, .slice a0a a0n a0k)] 27 (s' := (.reg (opsAt (sub B [1, 0])) [1, 2, 3, 4, 5, 6] :: S1)) (by kernel_rfl) fun J => ?_
  obtain ⟨t10r0, t10r1, H_2, q2, h⟩ := h
  refine KR.se (one_ca (by kernel_rfl) q2) ?_
  rcases h with ⟨rfl, h⟩ | ⟨t10r0t, t10r0v, rfl, h⟩
  · refine KR.run 14 [(2, .pointer (some ⟨H.next, 0, none⟩)), (5, .int .i64 t10r1), (16, .agg #[.int .i64 0, .int .i64 0, .int .u32 0, .int .u32 0, .int .u32 0]), (17, .bool false)] 27 (s' := (.reg (opsAt (sub B [1, 1, 0, 0])) [5, 6, 7] :: S3)) (by kernel_rfl) fun J => ?_
    obtain ⟨H_3, q3, h⟩ := h
    refine KR.mk (w := pRow [.int .i64 0, .int .i64 0, .int .u32 0, .int .u32 0, .int .u32 0]) (one_al (by kernel_rfl)) q3 ?_
    obtain ⟨H_4, q4, h⟩ := h
    refine KR.se (one_st (by kernel_rfl) q4) ?_
    exact KR.run 10 [(2, .pointer (some ⟨H.next, 0, none⟩)), (5, .int .i64 t10r1), (6, .pointer (some ⟨H_2.next, 0, none⟩)), (22, .bool false)] 27 (s' := (.code (sub B [1, 1, 0, 1, 1]) :: S2)) (by kernel_rfl) h
  · refine KR.run 10 [(2, .pointer (some ⟨H.next, 0, none⟩)), (5, .int .i64 t10r1), (14, .iface t10r0t (t10r0v))] 27 (s' := (.reg (opsAt (sub B [1, 1, 0, 0])) [1, 2, 3, 4, 5, 6, 7] :: S3)) (by kernel_rfl) fun J => ?_
    by_cases c6 : t10r0t = 65
    · replace h := iteT c6 h
      subst c6
      obtain ⟨t15yc0, t15yc1, t15yc2, t15yc3, t15yc4, rfl, h⟩ := h
      refine KR.run 4 [(2, .pointer (some ⟨H.next, 0, none⟩)), (5, .int .i64 t10r1), (16, .agg #[.int .i64 t15yc0, .int .i64 t15yc1, .int .u32 t15yc2, .int .u32 t15yc3, .int .u32 t15yc4]), (17, .bool true)] 27 (s' := (.reg (opsAt (sub B [1, 1, 0, 0])) [5, 6, 7] :: S3)) (by kernel_rfl) fun J => ?_
      obtain ⟨H_5, q7, h⟩ := h
      refine KR.mk (w := pRow [.int .i64 0, .int .i64 0, .int .u32 0, .int .u32 0, .int .u32 0]) (one_al (by kernel_rfl)) q7 ?_
      obtain ⟨H_6, q8, h⟩ := h
      refine KR.se (one_st (by kernel_rfl) q8) ?_
      exact KR.run 10 [(2, .pointer (some ⟨H.next, 0, none⟩)), (5, .int .i64 t10r1), (6, .pointer (some ⟨H_2.next, 0, none⟩)), (22, .bool (t10r1 == 0))] 27 (s' := (.code (sub B [1, 1, 0, 1, 1]) :: S2)) (by kernel_rfl) h
    · replace h := iteF c6 h
      refine KR.p (one_ta (t := 65) (v := .tuple #[.agg #[.int .i64 0, .int .i64 0, .int .u32 0, .int .u32 0, .int .u32 0], .bool false]) (by kernel_rfl) c6) ?_
      refine KR.run 3 [(2, .pointer (some ⟨H.next, 0, none⟩)), (5, .int .i64 t10r1), (16, .agg #[.int .i64 0, .int .i64 0, .int .u32 0, .int .u32 0, .int .u32 0]), (17, .bool false)] 27 (s' := (.reg (opsAt (sub B [1, 1, 0, 0])) [5, 6, 7] :: S3)) (by kernel_rfl) fun J => ?_
      obtain ⟨H_7, q9, h⟩ := h
      refine KR.mk (w := pRow [.int .i64 0, .int .i64 0, .int .u32 0, .int .u32 0, .int .u32 0]) (one_al (by kernel_rfl)) q9 ?_
      obtain ⟨H_8, q10, h⟩ := h
      refine KR.se (one_st (by kernel_rfl) q10) ?_
      exact KR.run 10 [(2, .pointer (some ⟨H.next, 0, none⟩)), (5, .int .i64 t10r1), (6, .pointer (some ⟨H_2.next, 0, none⟩)), (22, .bool false)] 27 (s' := (.code (sub B [1, 1, 0, 1, 1]) :: S2)) (by kernel_rfl) h
end F14
end Go.X
