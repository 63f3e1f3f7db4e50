/- The walks of the functions: printed. -/
import Derived.Test.YtbfjajoekcbodaaXzGe
set_option linter.unusedVariables false
set_option maxRecDepth 100000
namespace Go.X
open Go Go.RowKit Go.Proofs
/-! #### 10 campanile/campanilelaw7.FrameForms -/
namespace F10
noncomputable def B : Code := bodyOf Try.f10
noncomputable def S0 : List It := (.code (sub B [1]) :: [])
noncomputable def S1 : List It := (.code (sub B [1, 1]) :: [])
noncomputable def S4 : List It := (.code (sub B [1, 1, 1]) :: [])
noncomputable def S5 : List It := (.code (sub B [1, 1, 1, 1]) :: [])
noncomputable def S6 : List It := (.code (sub B [1, 1, 1, 1, 1]) :: [])
noncomputable def S2 : List It := (.code (sub B [1, 0, 1]) :: S1)
noncomputable def S3 : List It := (.code (sub B [1, 0, 1, 0, 1]) :: S1)
def L0 (t2b t2o t3b t3o : Nat) (t16 : Bool) (H : Heap) (r : Value × Heap) : Prop := ∀ J, KR Try.prog good Try.f10 S2 (mat J 57 [(2, .pointer (some ⟨t2b, t2o, none⟩)), (3, .pointer (some ⟨t3b, t3o, none⟩)), (16, .bool t16)]) H r
theorem L0_step {t2b t2o t3b t3o : Nat} {t16 : Bool} {H : Heap} {r : Value × Heap} (h :
    if t16 = true then
    (∃ (t17 : Bool) (H_1 : Heap), xC Try.prog good 27 [] H = some (.bool t17, H_1) ∧
    (r = (.bool t17, H_1)))
    else
    (∃ (t19c0 t19c1 t19c2 t19c3 : Int) (t19c4a : Option Addr) (t19c4n t19c4k : Nat) (t19c5a : Option Addr) (t19c5n t19c5k : Nat), ldAll H t2b t2o [.int .i64 t19c0, .int .i64 t19c1, .int .i64 t19c2, .int .i64 t19c3, .slice t19c4a t19c4n t19c4k, .slice t19c5a t19c5n t19c5k] ∧
    (∃ (t20r0a : Option Addr) (t20r0n t20r0k : Nat) (t20r1 : Int) (H_2 : Heap), xC Try.prog good 33 [.agg #[.int .i64 t19c0, .int .i64 t19c1, .int .i64 t19c2, .int .i64 t19c3, .slice t19c4a t19c4n t19c4k, .slice t19c5a t19c5n t19c5k]] H = some (.tuple #[.slice t20r0a t20r0n t20r0k, .int .i64 t20r1], H_2) ∧
    (∃ (t24c0 t24c1 t24c2 t24c3 : Int) (t24c4a : Option Addr) (t24c4n t24c4k : Nat) (t24c5a : Option Addr) (t24c5n t24c5k : Nat), ldAll H_2 t2b t2o [.int .i64 t24c0, .int .i64 t24c1, .int .i64 t24c2, .int .i64 t24c3, .slice t24c4a t24c4n t24c4k, .slice t24c5a t24c5n t24c5k] ∧
    (∃ (t25r0a : Option Addr) (t25r0n t25r0k : Nat) (t25r1 : Int) (H_3 : Heap), xC Try.prog good 28 [.agg #[.int .i64 t24c0, .int .i64 t24c1, .int .i64 t24c2, .int .i64 t24c3, .slice t24c4a t24c4n t24c4k, .slice t24c5a t24c5n t24c5k]] H_2 = some (.tuple #[.slice t25r0a t25r0n t25r0k, .int .i64 t25r1], H_3) ∧
    (∃ (t28c0 t28c1 t28c2 t28c3 : Int) (t28c4a : Option Addr) (t28c4n t28c4k : Nat) (t28c5a : Option Addr) (t28c5n t28c5k : Nat), ldAll H_3 t2b t2o [.int .i64 t28c0, .int .i64 t28c1, .int .i64 t28c2, .int .i64 t28c3, .slice t28c4a t28c4n t28c4k, .slice t28c5a t28c5n t28c5k] ∧
    (∃ (t29 : Bool) (H_4 : Heap), xC Try.prog good 34 [.agg #[.int .i64 t28c0, .int .i64 t28c1, .int .i64 t28c2, .int .i64 t28c3, .slice t28c4a t28c4n t28c4k, .slice t28c5a t28c5n t28c5k]] H_3 = some (.bool t29, H_4) ∧
    (∃ (t30c0 t30c1 t30c2 t30c3 : Int) (t30c4a : Option Addr) (t30c4n t30c4k : Nat) (t30c5a : Option Addr) (t30c5n t30c5k : Nat), ldAll H_3 t2b t2o [.int .i64 t30c0, .int .i64 t30c1, .int .i64 t30c2, .int .i64 t30c3, .slice t30c4a t30c4n t30c4k, .slice t30c5a t30c5n t30c5k] ∧
    (∃ (t31 : Bool) (H_5 : Heap), xC Try.prog good 35 [.agg #[.int .i64 t30c0, .int .i64 t30c1, .int .i64 t30c2, .int .i64 t30c3, .slice t30c4a t30c4n t30c4k, .slice t30c5a t30c5n t30c5k]] H_4 = some (.bool t31, H_5) ∧
    (if (t29 == t31) = true then
    (∃ (t35 : ByteArray), pstrb H_5 t20r0a t20r0n = some t35 ∧
    (∃ (t37 : ByteArray), pstrb H_5 t25r0a t25r0n = some t37 ∧
    (if t35.toList = t37.toList then
    (if t20r1 = t25r1 then
    (∃ (t46c0 t46c1 t46c2 t46c3 : Int) (t46c4a : Option Addr) (t46c4n t46c4k : Nat) (t46c5a : Option Addr) (t46c5n t46c5k : Nat), ldAll H_5 t2b t2o [.int .i64 t46c0, .int .i64 t46c1, .int .i64 t46c2, .int .i64 t46c3, .slice t46c4a t46c4n t46c4k, .slice t46c5a t46c5n t46c5k] ∧
    (∃ (t47c0 t47c1 t47c2 t47c3 : Int) (t47c4a : Option Addr) (t47c4n t47c4k : Nat) (t47c5a : Option Addr) (t47c5n t47c5k : Nat), ldAll H_5 t3b t3o [.int .i64 t47c0, .int .i64 t47c1, .int .i64 t47c2, .int .i64 t47c3, .slice t47c4a t47c4n t47c4k, .slice t47c5a t47c5n t47c5k] ∧
    (∃ (t48 : Bool) (H_6 : Heap), xC Try.prog good 36 [.agg #[.int .i64 t46c0, .int .i64 t46c1, .int .i64 t46c2, .int .i64 t46c3, .slice t46c4a t46c4n t46c4k, .slice t46c5a t46c5n t46c5k], .agg #[.int .i64 t47c0, .int .i64 t47c1, .int .i64 t47c2, .int .i64 t47c3, .slice t47c4a t47c4n t47c4k, .slice t47c5a t47c5n t47c5k]] H_5 = some (.bool t48, H_6) ∧
    (∃ (t49c0 t49c1 t49c2 t49c3 : Int) (t49c4a : Option Addr) (t49c4n t49c4k : Nat) (t49c5a : Option Addr) (t49c5n t49c5k : Nat), ldAll H_5 t2b t2o [.int .i64 t49c0, .int .i64 t49c1, .int .i64 t49c2, .int .i64 t49c3, .slice t49c4a t49c4n t49c4k, .slice t49c5a t49c5n t49c5k] ∧
    (∃ (t50c0 t50c1 t50c2 t50c3 : Int) (t50c4a : Option Addr) (t50c4n t50c4k : Nat) (t50c5a : Option Addr) (t50c5n t50c5k : Nat), ldAll H_5 t3b t3o [.int .i64 t50c0, .int .i64 t50c1, .int .i64 t50c2, .int .i64 t50c3, .slice t50c4a t50c4n t50c4k, .slice t50c5a t50c5n t50c5k] ∧
    (∃ (t51 : Bool) (H_7 : Heap), xC Try.prog good 32 [.agg #[.int .i64 t49c0, .int .i64 t49c1, .int .i64 t49c2, .int .i64 t49c3, .slice t49c4a t49c4n t49c4k, .slice t49c5a t49c5n t49c5k], .agg #[.int .i64 t50c0, .int .i64 t50c1, .int .i64 t50c2, .int .i64 t50c3, .slice t50c4a t50c4n t50c4k, .slice t50c5a t50c5n t50c5k]] H_6 = some (.bool t51, H_7) ∧
    (if (t48 == t51) = true then
    (∃ (t55 : Bool) (H_8 : Heap), xC Try.prog good 27 [] H_7 = some (.bool t55, H_8) ∧
    (ldAll H_4 t2b t2o [.int .i64 t30c0, .int .i64 t30c1, .int .i64 t30c2, .int .i64 t30c3, .slice t30c4a t30c4n t30c4k, .slice t30c5a t30c5n t30c5k] ∧
    ldAll H_6 t2b t2o [.int .i64 t49c0, .int .i64 t49c1, .int .i64 t49c2, .int .i64 t49c3, .slice t49c4a t49c4n t49c4k, .slice t49c5a t49c5n t49c5k] ∧
    ldAll H_6 t3b t3o [.int .i64 t50c0, .int .i64 t50c1, .int .i64 t50c2, .int .i64 t50c3, .slice t50c4a t50c4n t50c4k, .slice t50c5a t50c5n t50c5k] ∧
    (r = (.bool t55, H_8))))
    else
    (ldAll H_4 t2b t2o [.int .i64 t30c0, .int .i64 t30c1, .int .i64 t30c2, .int .i64 t30c3, .slice t30c4a t30c4n t30c4k, .slice t30c5a t30c5n t30c5k] ∧
    ldAll H_6 t2b t2o [.int .i64 t49c0, .int .i64 t49c1, .int .i64 t49c2, .int .i64 t49c3, .slice t49c4a t49c4n t49c4k, .slice t49c5a t49c5n t49c5k] ∧
    ldAll H_6 t3b t3o [.int .i64 t50c0, .int .i64 t50c1, .int .i64 t50c2, .int .i64 t50c3, .slice t50c4a t50c4n t50c4k, .slice t50c5a t50c5n t50c5k] ∧
    (r = (.bool false, H_7))))))))))
    else
    (ldAll H_4 t2b t2o [.int .i64 t30c0, .int .i64 t30c1, .int .i64 t30c2, .int .i64 t30c3, .slice t30c4a t30c4n t30c4k, .slice t30c5a t30c5n t30c5k] ∧
    (r = (.bool false, H_5))))
    else
    (ldAll H_4 t2b t2o [.int .i64 t30c0, .int .i64 t30c1, .int .i64 t30c2, .int .i64 t30c3, .slice t30c4a t30c4n t30c4k, .slice t30c5a t30c5n t30c5k] ∧
    (r = (.bool false, H_5))))))
    else
    (ldAll H_4 t2b t2o [.int .i64 t30c0, .int .i64 t30c1, .int .i64 t30c2, .int .i64 t30c3, .slice t30c4a t30c4n t30c4k, .slice t30c5a t30c5n t30c5k] ∧
    (r = (.bool false, H_5))))))))))))) :
    L0 t2b t2o t3b t3o t16 H r := by
  intro J
  show KR _ _ _ (.code (sub B [1, 0, 1]) :: S1) _ _ _
  by_cases c8 : t16 = true
  · replace h := iteT c8 h
    refine KR.br true (by kernel_rfl) (vB (bT c8)) ?_
    refine KR.go 2 [] 57 (s' := (.reg (opsAt (sub B [1, 0, 1, 0, 0])) [0, 1] :: S3)) fun J => ?_
    obtain ⟨t17, H_1, q9, h⟩ := h
    refine KR.se (one_ca (by kernel_rfl) q9) ?_
    refine KR.go 2 [(4, .bool t17)] 57 (s' := (.code (sub B [1, 0, 1, 0, 1]) :: S1)) fun J => ?_
    exact KR.fin (by kernel_rfl) h
  · replace h := iteF c8 h
    refine KR.br false (by kernel_rfl) (vB (bF c8)) ?_
    refine KR.go 3 [(2, .pointer (some ⟨t2b, t2o, none⟩)), (3, .pointer (some ⟨t3b, t3o, none⟩))] 57 (s' := (.reg (opsAt (sub B [1, 1, 0])) [0, 1, 2, 3, 4, 5, 6] :: S4)) fun J => ?_
    obtain ⟨t19c0, t19c1, t19c2, t19c3, t19c4a, t19c4n, t19c4k, t19c5a, t19c5n, t19c5k, q10, h⟩ := h
    refine KR.rd (one_ldA (by kernel_rfl) q10) ?_
    obtain ⟨t20r0a, t20r0n, t20r0k, t20r1, H_2, q11, h⟩ := h
    refine KR.se (one_ca (by kernel_rfl) q11) ?_
    refine KR.go 8 [(2, .pointer (some ⟨t2b, t2o, none⟩)), (3, .pointer (some ⟨t3b, t3o, none⟩)), (5, .slice t20r0a t20r0n t20r0k), (6, .int .i64 t20r1)] 57 (s' := (.reg (opsAt (sub B [1, 1, 1, 0])) [0, 1, 2, 3, 4, 5, 6] :: S5)) fun J => ?_
    obtain ⟨t24c0, t24c1, t24c2, t24c3, t24c4a, t24c4n, t24c4k, t24c5a, t24c5n, t24c5k, q12, h⟩ := h
    refine KR.rd (one_ldA (by kernel_rfl) q12) ?_
    obtain ⟨t25r0a, t25r0n, t25r0k, t25r1, H_3, q13, h⟩ := h
    refine KR.se (one_ca (by kernel_rfl) q13) ?_
    refine KR.go 7 [(2, .pointer (some ⟨t2b, t2o, none⟩)), (3, .pointer (some ⟨t3b, t3o, none⟩)), (5, .slice t20r0a t20r0n t20r0k), (6, .int .i64 t20r1), (7, .slice t25r0a t25r0n t25r0k), (8, .int .i64 t25r1)] 57 (s' := (.code (sub B [1, 1, 1, 1, 0]) :: S6)) fun J => ?_
    refine KE.start H_3 (by kernel_rfl) (by kernel_rfl) ?_
    obtain ⟨t28c0, t28c1, t28c2, t28c3, t28c4a, t28c4n, t28c4k, t28c5a, t28c5n, t28c5k, q14, h⟩ := h
    refine KE.rdN (one_ldA (by kernel_rfl) q14) (by kernel_rfl) ?_
    obtain ⟨t29, H_4, q15, h⟩ := h
    refine KE.se (one_ca (by kernel_rfl) q15) (by kernel_rfl) ?_
    obtain ⟨t30c0, t30c1, t30c2, t30c3, t30c4a, t30c4n, t30c4k, t30c5a, t30c5n, t30c5k, q16, h⟩ := h
    refine KE.rdF (one_ldA (by kernel_rfl) q16) (by kernel_rfl) ?_
    obtain ⟨t31, H_5, q17, h⟩ := h
    refine KE.se (one_ca (by kernel_rfl) q17) (by kernel_rfl) ?_
    refine KE.run 2 [(2, .pointer (some ⟨t2b, t2o, none⟩)), (3, .pointer (some ⟨t3b, t3o, none⟩)), (5, .slice t20r0a t20r0n t20r0k), (6, .int .i64 t20r1), (7, .slice t25r0a t25r0n t25r0k), (8, .int .i64 t25r1), (33, .bool (t29 == t31))] 57 6 (by kernel_rfl) fun J => ?_
    by_cases c18 : (t29 == t31) = true
    · replace h := iteT c18 h
      refine KE.setV 33 (by kernel_rfl) (bT c18) ?_
      refine KE.run 1 [(2, .pointer (some ⟨t2b, t2o, none⟩)), (3, .pointer (some ⟨t3b, t3o, none⟩)), (6, .int .i64 t20r1), (7, .slice t25r0a t25r0n t25r0k), (8, .int .i64 t25r1), (33, .bool true), (34, .slice t20r0a t20r0n t20r0k)] 57 7 (by kernel_rfl) fun J => ?_
      obtain ⟨t35, q19, h⟩ := h
      refine KE.rdN (one_str (by kernel_rfl) q19) (by kernel_rfl) ?_
      refine KE.run 1 [(2, .pointer (some ⟨t2b, t2o, none⟩)), (3, .pointer (some ⟨t3b, t3o, none⟩)), (6, .int .i64 t20r1), (8, .int .i64 t25r1), (33, .bool true), (35, .string t35), (36, .slice t25r0a t25r0n t25r0k)] 57 9 (by kernel_rfl) fun J => ?_
      obtain ⟨t37, q20, h⟩ := h
      refine KE.rdN (one_str (by kernel_rfl) q20) (by kernel_rfl) ?_
      refine KE.run 3 [(2, .pointer (some ⟨t2b, t2o, none⟩)), (3, .pointer (some ⟨t3b, t3o, none⟩)), (6, .int .i64 t20r1), (8, .int .i64 t25r1), (40, .bool (t35.toList == t37.toList))] 57 13 (by kernel_rfl) fun J => ?_
      by_cases c21 : t35.toList = t37.toList
      · replace h := iteT c21 h
        refine KE.setV 40 (by kernel_rfl) (eT c21) ?_
        refine KE.run 5 [(2, .pointer (some ⟨t2b, t2o, none⟩)), (3, .pointer (some ⟨t3b, t3o, none⟩)), (45, .bool (t20r1 == t25r1))] 57 18 (by kernel_rfl) fun J => ?_
        by_cases c22 : t20r1 = t25r1
        · replace h := iteT c22 h
          refine KE.setV 45 (by kernel_rfl) (eT c22) ?_
          obtain ⟨t46c0, t46c1, t46c2, t46c3, t46c4a, t46c4n, t46c4k, t46c5a, t46c5n, t46c5k, q23, h⟩ := h
          refine KE.rdN (one_ldA (by kernel_rfl) q23) (by kernel_rfl) ?_
          obtain ⟨t47c0, t47c1, t47c2, t47c3, t47c4a, t47c4n, t47c4k, t47c5a, t47c5n, t47c5k, q24, h⟩ := h
          refine KE.rdN (one_ldA (by kernel_rfl) q24) (by kernel_rfl) ?_
          obtain ⟨t48, H_6, q25, h⟩ := h
          refine KE.se (one_ca (by kernel_rfl) q25) (by kernel_rfl) ?_
          obtain ⟨t49c0, t49c1, t49c2, t49c3, t49c4a, t49c4n, t49c4k, t49c5a, t49c5n, t49c5k, q26, h⟩ := h
          refine KE.rdF (one_ldA (by kernel_rfl) q26) (by kernel_rfl) ?_
          obtain ⟨t50c0, t50c1, t50c2, t50c3, t50c4a, t50c4n, t50c4k, t50c5a, t50c5n, t50c5k, q27, h⟩ := h
          refine KE.rdF (one_ldA (by kernel_rfl) q27) (by kernel_rfl) ?_
          obtain ⟨t51, H_7, q28, h⟩ := h
          refine KE.se (one_ca (by kernel_rfl) q28) (by kernel_rfl) ?_
          refine KE.run 3 [(54, .bool (t48 == t51))] 57 27 (by kernel_rfl) fun J => ?_
          by_cases c29 : (t48 == t51) = true
          · replace h := iteT c29 h
            refine KE.setV 54 (by kernel_rfl) (bT c29) ?_
            obtain ⟨t55, H_8, q30, h⟩ := h
            refine KE.se (one_ca (by kernel_rfl) q30) (by kernel_rfl) ?_
            refine KE.run 2 [(4, .bool t55)] 57 30 (by kernel_rfl) fun J => ?_
            obtain ⟨q31, q32, q33, h⟩ := h
            refine KE.fin (H' := H_8) (by kernel_rfl) (rdsS (rdsS (rdsS rfl (rd_ok (Hs := [H_4]) (by kernel_rfl) (by kernel_rfl) ⟨one_ldA (by kernel_rfl) q31, trivial⟩)) (rd_ok (Hs := [H_6]) (by kernel_rfl) (by kernel_rfl) ⟨one_ldA (by kernel_rfl) q32, trivial⟩)) (rd_ok (Hs := [H_6]) (by kernel_rfl) (by kernel_rfl) ⟨one_ldA (by kernel_rfl) q33, trivial⟩)) (by kernel_rfl) ?_
            refine KR.go 0 [(4, .bool t55)] 57 (s' := (.code (sub B [1, 1, 1, 1, 1]) :: [])) fun J => ?_
            exact KR.fin (by kernel_rfl) h
          · replace h := iteF c29 h
            refine KE.setV 54 (by kernel_rfl) (bF c29) ?_
            refine KE.no (Gc := H_7) (by kernel_rfl) (by kernel_rfl) (by kernel_rfl) ?_
            refine KE.run 2 [(4, .bool false)] 57 30 (by kernel_rfl) fun J => ?_
            obtain ⟨q34, q35, q36, h⟩ := h
            refine KE.fin (H' := H_7) (by kernel_rfl) (rdsS (rdsS (rdsS rfl (rd_ok (Hs := [H_4]) (by kernel_rfl) (by kernel_rfl) ⟨one_ldA (by kernel_rfl) q34, trivial⟩)) (rd_ok (Hs := [H_6]) (by kernel_rfl) (by kernel_rfl) ⟨one_ldA (by kernel_rfl) q35, trivial⟩)) (rd_ok (Hs := [H_6]) (by kernel_rfl) (by kernel_rfl) ⟨one_ldA (by kernel_rfl) q36, trivial⟩)) (by kernel_rfl) ?_
            refine KR.go 0 [(4, .bool false)] 57 (s' := (.code (sub B [1, 1, 1, 1, 1]) :: [])) fun J => ?_
            exact KR.fin (by kernel_rfl) h
        · replace h := iteF c22 h
          refine KE.setV 45 (by kernel_rfl) (eF c22) ?_
          refine KE.run 2 [(2, .pointer (some ⟨t2b, t2o, none⟩)), (3, .pointer (some ⟨t3b, t3o, none⟩)), (45, .bool false), (46, undef), (47, undef)] 57 20 (by kernel_rfl) fun J => ?_
          refine KE.no (Gc := H_5) (by kernel_rfl) (by kernel_rfl) (by kernel_rfl) ?_
          refine KE.run 2 [(45, .bool false), (48, undef), (49, undef), (50, undef)] 57 23 (by kernel_rfl) fun J => ?_
          refine KE.no (Gc := H_5) (by kernel_rfl) (by kernel_rfl) (by kernel_rfl) ?_
          refine KE.run 3 [(54, .bool false)] 57 27 (by kernel_rfl) fun J => ?_
          refine KE.no (Gc := H_5) (by kernel_rfl) (by kernel_rfl) (by kernel_rfl) ?_
          refine KE.run 2 [(4, .bool false)] 57 30 (by kernel_rfl) fun J => ?_
          obtain ⟨q37, h⟩ := h
          refine KE.fin (H' := H_5) (by kernel_rfl) (rdsS rfl (rd_ok (Hs := [H_4]) (by kernel_rfl) (by kernel_rfl) ⟨one_ldA (by kernel_rfl) q37, trivial⟩)) (by kernel_rfl) ?_
          refine KR.go 0 [(4, .bool false)] 57 (s' := (.code (sub B [1, 1, 1, 1, 1]) :: [])) fun J => ?_
          exact KR.fin (by kernel_rfl) h
      · replace h := iteF c21 h
        refine KE.setV 40 (by kernel_rfl) (eF c21) ?_
        refine KE.run 7 [(2, .pointer (some ⟨t2b, t2o, none⟩)), (3, .pointer (some ⟨t3b, t3o, none⟩)), (45, .bool false), (46, undef), (47, undef)] 57 20 (by kernel_rfl) fun J => ?_
        refine KE.no (Gc := H_5) (by kernel_rfl) (by kernel_rfl) (by kernel_rfl) ?_
        refine KE.run 2 [(45, .bool false), (48, undef), (49, undef), (50, undef)] 57 23 (by kernel_rfl) fun J => ?_
        refine KE.no (Gc := H_5) (by kernel_rfl) (by kernel_rfl) (by kernel_rfl) ?_
        refine KE.run 3 [(54, .bool false)] 57 27 (by kernel_rfl) fun J => ?_
        refine KE.no (Gc := H_5) (by kernel_rfl) (by kernel_rfl) (by kernel_rfl) ?_
        refine KE.run 2 [(4, .bool false)] 57 30 (by kernel_rfl) fun J => ?_
        obtain ⟨q38, h⟩ := h
        refine KE.fin (H' := H_5) (by kernel_rfl) (rdsS rfl (rd_ok (Hs := [H_4]) (by kernel_rfl) (by kernel_rfl) ⟨one_ldA (by kernel_rfl) q38, trivial⟩)) (by kernel_rfl) ?_
        refine KR.go 0 [(4, .bool false)] 57 (s' := (.code (sub B [1, 1, 1, 1, 1]) :: [])) fun J => ?_
        exact KR.fin (by kernel_rfl) h
    · replace h := iteF c18 h
      refine KE.setV 33 (by kernel_rfl) (bF c18) ?_
      refine KE.run 14 [(2, .pointer (some ⟨t2b, t2o, none⟩)), (3, .pointer (some ⟨t3b, t3o, none⟩)), (45, .bool false), (46, undef), (47, undef)] 57 20 (by kernel_rfl) fun J => ?_
      refine KE.no (Gc := H_5) (by kernel_rfl) (by kernel_rfl) (by kernel_rfl) ?_
      refine KE.run 2 [(45, .bool false), (48, undef), (49, undef), (50, undef)] 57 23 (by kernel_rfl) fun J => ?_
      refine KE.no (Gc := H_5) (by kernel_rfl) (by kernel_rfl) (by kernel_rfl) ?_
      refine KE.run 3 [(54, .bool false)] 57 27 (by kernel_rfl) fun J => ?_
      refine KE.no (Gc := H_5) (by kernel_rfl) (by kernel_rfl) (by kernel_rfl) ?_
      refine KE.run 2 [(4, .bool false)] 57 30 (by kernel_rfl) fun J => ?_
      obtain ⟨q39, h⟩ := h
      refine KE.fin (H' := H_5) (by kernel_rfl) (rdsS rfl (rd_ok (Hs := [H_4]) (by kernel_rfl) (by kernel_rfl) ⟨one_ldA (by kernel_rfl) q39, trivial⟩)) (by kernel_rfl) ?_
      refine KR.go 0 [(4, .bool false)] 57 (s' := (.code (sub B [1, 1, 1, 1, 1]) :: [])) fun J => ?_
      exact KR.fin (by kernel_rfl) h
theorem call {a0c0 a0c1 a0c2 a0c3 : Int} {a0c4a : Option Addr} {a0c4n a0c4k : Nat} {a0c5a : Option Addr} {a0c5n a0c5k : Nat} {a1c0 a1c1 a1c2 a1c3 : Int} {a1c4a : Option Addr} {a1c4n a1c4k : Nat} {a1c5a : Option Addr} {a1c5n a1c5k : Nat} {H : Heap} {r : Value × Heap} (h :
    ∃ (H_1 : Heap), H_1 = H.push (.row [.int .i64 a0c0, .int .i64 a0c1, .int .i64 a0c2, .int .i64 a0c3, .slice a0c4a a0c4n a0c4k, .slice a0c5a a0c5n a0c5k] true) ∧
    (∃ (H_2 : Heap), H_2 = H_1.push (.row [.int .i64 a1c0, .int .i64 a1c1, .int .i64 a1c2, .int .i64 a1c3, .slice a1c4a a1c4n a1c4k, .slice a1c5a a1c5n a1c5k] true) ∧
    (∃ (t9c0 t9c1 t9c2 t9c3 : Int) (t9c4a : Option Addr) (t9c4n t9c4k : Nat) (t9c5a : Option Addr) (t9c5n t9c5k : Nat), ldAll H_2 H.next 0 [.int .i64 t9c0, .int .i64 t9c1, .int .i64 t9c2, .int .i64 t9c3, .slice t9c4a t9c4n t9c4k, .slice t9c5a t9c5n t9c5k] ∧
    (∃ (t10 : Bool) (H_3 : Heap), xC Try.prog good 26 [.agg #[.int .i64 t9c0, .int .i64 t9c1, .int .i64 t9c2, .int .i64 t9c3, .slice t9c4a t9c4n t9c4k, .slice t9c5a t9c5n t9c5k]] H_2 = some (.bool t10, H_3) ∧
    (if t10 = true then
    (∃ (t13c0 t13c1 t13c2 t13c3 : Int) (t13c4a : Option Addr) (t13c4n t13c4k : Nat) (t13c5a : Option Addr) (t13c5n t13c5k : Nat), ldAll H_3 H_1.next 0 [.int .i64 t13c0, .int .i64 t13c1, .int .i64 t13c2, .int .i64 t13c3, .slice t13c4a t13c4n t13c4k, .slice t13c5a t13c5n t13c5k] ∧
    (∃ (t14 : Bool) (H_4 : Heap), xC Try.prog good 26 [.agg #[.int .i64 t13c0, .int .i64 t13c1, .int .i64 t13c2, .int .i64 t13c3, .slice t13c4a t13c4n t13c4k, .slice t13c5a t13c5n t13c5k]] H_3 = some (.bool t14, H_4) ∧
    (L0 (H.next) 0 (H_1.next) 0 ((!t14)) H_4 r)))
    else
    (L0 (H.next) 0 (H_1.next) 0 true H_3 r)))))) :
    xC Try.prog good 10 [.agg #[.int .i64 a0c0, .int .i64 a0c1, .int .i64 a0c2, .int .i64 a0c3, .slice a0c4a a0c4n a0c4k, .slice a0c5a a0c5n a0c5k], .agg #[.int .i64 a1c0, .int .i64 a1c1, .int .i64 a1c2, .int .i64 a1c3, .slice a1c4a a1c4n a1c4k, .slice a1c5a a1c5n a1c5k]] H = some r := by
  refine KR.enter (fn := Try.f10) (c := B) (by kernel_rfl) (by kernel_rfl) ?_
  refine KR.go 2 [(0, .agg #[.int .i64 a0c0, .int .i64 a0c1, .int .i64 a0c2, .int .i64 a0c3, .slice a0c4a a0c4n a0c4k, .slice a0c5a a0c5n a0c5k]), (1, .agg #[.int .i64 a1c0, .int .i64 a1c1, .int .i64 a1c2, .int .i64 a1c3, .slice a1c4a a1c4n a1c4k, .slice a1c5a a1c5n a1c5k])] 57 (s' := (.reg (opsAt (sub B [0])) [0, 1, 2] :: S0)) fun J => ?_
  obtain ⟨H_1, q1, h⟩ := h
  refine KR.mk (w := pRow [.int .i64 a0c0, .int .i64 a0c1, .int .i64 a0c2, .int .i64 a0c3, .slice a0c4a a0c4n a0c4k, .slice a0c5a a0c5n a0c5k]) (one_al (by kernel_rfl)) q1 ?_
  obtain ⟨H_2, q2, h⟩ := h
  refine KR.mk (w := pRow [.int .i64 a1c0, .int .i64 a1c1, .int .i64 a1c2, .int .i64 a1c3, .slice a1c4a a1c4n a1c4k, .slice a1c5a a1c5n a1c5k]) (one_al (by kernel_rfl)) q2 ?_
  refine KR.go 5 [(2, .pointer (some ⟨H.next, 0, none⟩)), (3, .pointer (some ⟨H_1.next, 0, none⟩))] 57 (s' := (.reg (opsAt (sub B [1, 0, 0])) [0, 1, 2, 3, 4, 5, 6, 7] :: S2)) fun J => ?_
  obtain ⟨t9c0, t9c1, t9c2, t9c3, t9c4a, t9c4n, t9c4k, t9c5a, t9c5n, t9c5k, q3, h⟩ := h
  refine KR.rd (one_ldA (by kernel_rfl) q3) ?_
  obtain ⟨t10, H_3, q4, h⟩ := h
  refine KR.se (one_ca (by kernel_rfl) q4) ?_
  refine KR.go 2 [(2, .pointer (some ⟨H.next, 0, none⟩)), (3, .pointer (some ⟨H_1.next, 0, none⟩)), (12, .bool (!t10))] 57 (s' := (.reg (opsAt (sub B [1, 0, 0])) [4, 5, 6, 7] :: S2)) fun J => ?_
  by_cases c5 : t10 = true
  · replace h := iteT c5 h
    refine KR.setV 12 (by kernel_rfl) (nB (bT c5)) ?_
    obtain ⟨t13c0, t13c1, t13c2, t13c3, t13c4a, t13c4n, t13c4k, t13c5a, t13c5n, t13c5k, q6, h⟩ := h
    refine KR.rd (one_ldA (by kernel_rfl) q6) ?_
    obtain ⟨t14, H_4, q7, h⟩ := h
    refine KR.se (one_ca (by kernel_rfl) q7) ?_
    exact KR.go 3 [(2, .pointer (some ⟨H.next, 0, none⟩)), (3, .pointer (some ⟨H_1.next, 0, none⟩)), (16, .bool (!t14))] 57 (s' := (.code (sub B [1, 0, 1]) :: S1)) h
  · replace h := iteF c5 h
    refine KR.setV 12 (by kernel_rfl) (nB (bF c5)) ?_
    exact KR.go 5 [(2, .pointer (some ⟨H.next, 0, none⟩)), (3, .pointer (some ⟨H_1.next, 0, none⟩)), (16, .bool true)] 57 (s' := (.code (sub B [1, 0, 1]) :: S1)) h
end F10
end Go.X
