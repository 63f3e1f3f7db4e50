/- The walks of the functions: printed. -/
import Derived.Test.YtbfjajoekcbodaaXzGe
set_option linter.unusedVariables false
set_option maxRecDepth 100000
namespace Go.X
open Go Go.RowKit Go.Proofs
/-! #### 8 campanile/campanilelaw7.FrameBack -/
namespace F8
noncomputable def B : Code := bodyOf Try.f8
noncomputable def S0 : List It := (.code (sub B [1]) :: [])
noncomputable def S1 : List It := (.code (sub B [1, 1]) :: [])
noncomputable def S4 : List It := (.code (sub B [1, 1, 1]) :: [])
noncomputable def S5 : List It := (.code (sub B [1, 1, 1, 1]) :: [])
noncomputable def S8 : List It := (.code (sub B [1, 1, 1, 1, 1]) :: [])
noncomputable def S9 : List It := (.code (sub B [1, 1, 1, 1, 1, 1]) :: [])
noncomputable def S10 : List It := (.code (sub B [1, 1, 1, 1, 1, 1, 1]) :: [])
noncomputable def S11 : List It := (.code (sub B [1, 1, 1, 1, 1, 1, 1, 1]) :: [])
noncomputable def S14 : List It := (.code (sub B [1, 1, 1, 1, 1, 1, 1, 1, 1]) :: [])
noncomputable def S17 : List It := (.code (sub B [1, 1, 1, 1, 1, 1, 1, 1, 1, 1]) :: [])
noncomputable def S18 : List It := (.code (sub B [1, 1, 1, 1, 1, 1, 1, 1, 1, 1, 1]) :: [])
noncomputable def S19 : List It := (.code (sub B [1, 1, 1, 1, 1, 1, 1, 1, 1, 1, 1, 1]) :: [])
noncomputable def S20 : List It := (.code (sub B [1, 1, 1, 1, 1, 1, 1, 1, 1, 1, 1, 1, 1]) :: [])
noncomputable def S21 : List It := (.code (sub B [1, 1, 1, 1, 1, 1, 1, 1, 1, 1, 1, 1, 1, 1]) :: [])
noncomputable def S2 : List It := (.code (sub B [1, 0, 1]) :: S1)
noncomputable def S3 : List It := (.code (sub B [1, 0, 1, 0, 1]) :: S1)
noncomputable def S6 : List It := (.code (sub B [1, 1, 1, 0, 1, 0, 1]) :: S5)
noncomputable def S7 : List It := (.code (sub B [1, 1, 1, 0, 1, 0, 1, 1]) :: S5)
noncomputable def S12 : List It := (.code (sub B [1, 1, 1, 1, 1, 1, 1, 0, 1]) :: S11)
noncomputable def S13 : List It := (.code (sub B [1, 1, 1, 1, 1, 0, 1, 0, 1]) :: S9)
noncomputable def S15 : List It := (.code (sub B [1, 1, 1, 1, 1, 1, 1, 1, 0, 1]) :: S14)
noncomputable def S16 : List It := (.code (sub B [1, 1, 1, 1, 1, 1, 1, 1, 0, 1, 0, 1]) :: S14)
noncomputable def S22 : List It := (.reg (opsAt (sub B [1, 1, 1, 1, 0])) [0, 1, 2, 3, 4, 5, 6] :: S8)
def L0 (t1 t2 t3 : Int) (t4a : Option Addr) (t4n t4k t5b t5o : Nat) (t28 : Bool) (H : Heap) (r : Value × Heap) : Prop := ∀ J, KR Try.prog good Try.f8 S2 (mat J 132 [(1, .int .i64 t1), (2, .int .u8 t2), (3, .int .u8 t3), (4, .slice t4a t4n t4k), (5, .pointer (some ⟨t5b, t5o, none⟩)), (28, .bool t28)]) H r
def L1 (t1 t2 t3 : Int) (t5b t5o : Nat) (t55 : Bool) (H : Heap) (r : Value × Heap) : Prop := ∀ J, KR Try.prog good Try.f8 S7 (mat J 132 [(1, .int .i64 t1), (2, .int .u8 t2), (3, .int .u8 t3), (5, .pointer (some ⟨t5b, t5o, none⟩)), (55, .bool t55)]) H r
def L2 (t1 t2 t3 : Int) (t5b t5o : Nat) (H : Heap) (r : Value × Heap) : Prop := ∀ J, KR Try.prog good Try.f8 S22 (mat J 132 [(1, .int .i64 t1), (2, .int .u8 t2), (3, .int .u8 t3), (5, .pointer (some ⟨t5b, t5o, none⟩))]) H r
def L3 (t1 t2 t3 : Int) (t15a : Option Addr) (t15n t15k : Nat) (t91 : Bool) (H : Heap) (r : Value × Heap) : Prop := ∀ J, KR Try.prog good Try.f8 S12 (mat J 132 [(1, .int .i64 t1), (2, .int .u8 t2), (3, .int .u8 t3), (15, .slice t15a t15n t15k), (91, .bool t91)]) H r
def L4 (t1 t2 t3 : Int) (t15a : Option Addr) (t15n t15k : Nat) (t97 : Bool) (H : Heap) (r : Value × Heap) : Prop := ∀ J, KR Try.prog good Try.f8 S15 (mat J 132 [(1, .int .i64 t1), (2, .int .u8 t2), (3, .int .u8 t3), (15, .slice t15a t15n t15k), (97, .bool t97)]) H r
theorem L0_step {t1 t2 t3 : Int} {t4a : Option Addr} {t4n t4k t5b t5o : Nat} {t28 : Bool} {H : Heap} {r : Value × Heap} (h :
    if t28 = true then
    (∃ (t29 : Bool) (H_1 : Heap), xC Try.prog good 27 [] H = some (.bool t29, H_1) ∧
    (r = (.bool t29, H_1)))
    else
    (∃ (t32r0c0 t32r0c1 t32r0c2 t32r0c3 : Int) (t32r0c4a : Option Addr) (t32r0c4n t32r0c4k : Nat) (t32r0c5a : Option Addr) (t32r0c5n t32r0c5k : Nat) (t32r1 : Int) (H_2 : Heap), xC Try.prog good 30 [.slice t4a t4n t4k] H = some (.tuple #[.agg #[.int .i64 t32r0c0, .int .i64 t32r0c1, .int .i64 t32r0c2, .int .i64 t32r0c3, .slice t32r0c4a t32r0c4n t32r0c4k, .slice t32r0c5a t32r0c5n t32r0c5k], .int .i64 t32r1], H_2) ∧
    (∃ (H_3 : Heap), H_3 = H_2.push (.row [.int .i64 0, .int .i64 0, .int .i64 0, .int .i64 0, .slice none 0 0, .slice none 0 0] true) ∧
    (∃ (H_4 : Heap), stc H_3 H_2.next 0 [.int .i64 t32r0c0, .int .i64 t32r0c1, .int .i64 t32r0c2, .int .i64 t32r0c3, .slice t32r0c4a t32r0c4n t32r0c4k, .slice t32r0c5a t32r0c5n t32r0c5k] = some H_4 ∧
    (if t32r1 = 0 then
    (∃ (t38c0 t38c1 t38c2 t38c3 : Int) (t38c4a : Option Addr) (t38c4n t38c4k : Nat) (t38c5a : Option Addr) (t38c5n t38c5k : Nat), ldAll H_4 H_2.next 0 [.int .i64 t38c0, .int .i64 t38c1, .int .i64 t38c2, .int .i64 t38c3, .slice t38c4a t38c4n t38c4k, .slice t38c5a t38c5n t38c5k] ∧
    (∃ (t39r0a : Option Addr) (t39r0n t39r0k : Nat) (t39r1 : Int) (H_5 : Heap), xC Try.prog good 33 [.agg #[.int .i64 t38c0, .int .i64 t38c1, .int .i64 t38c2, .int .i64 t38c3, .slice t38c4a t38c4n t38c4k, .slice t38c5a t38c5n t38c5k]] H_4 = some (.tuple #[.slice t39r0a t39r0n t39r0k, .int .i64 t39r1], H_5) ∧
    (if t39r1 = 0 then
    (∃ (t46 : ByteArray), pstrb H_5 t39r0a t39r0n = some t46 ∧
    (∃ (t48 : ByteArray), pstrb H_5 t4a t4n = some t48 ∧
    (if t46.toList = t48.toList then
    (∃ (t52c0 t52c1 t52c2 t52c3 : Int) (t52c4a : Option Addr) (t52c4n t52c4k : Nat) (t52c5a : Option Addr) (t52c5n t52c5k : Nat), ldAll H_5 H_2.next 0 [.int .i64 t52c0, .int .i64 t52c1, .int .i64 t52c2, .int .i64 t52c3, .slice t52c4a t52c4n t52c4k, .slice t52c5a t52c5n t52c5k] ∧
    (∃ (t53 : Bool) (H_6 : Heap), xC Try.prog good 34 [.agg #[.int .i64 t52c0, .int .i64 t52c1, .int .i64 t52c2, .int .i64 t52c3, .slice t52c4a t52c4n t52c4k, .slice t52c5a t52c5n t52c5k]] H_5 = some (.bool t53, H_6) ∧
    (L1 t1 t2 t3 t5b t5o ((!t53)) H_6 r)))
    else
    (L1 t1 t2 t3 t5b t5o true H_5 r))))
    else
    (L1 t1 t2 t3 t5b t5o true H_5 r))))
    else
    (L2 t1 t2 t3 t5b t5o H_4 r)))))) :
    L0 t1 t2 t3 t4a t4n t4k t5b t5o t28 H r := by
  intro J
  show KR _ _ _ (.code (sub B [1, 0, 1]) :: S1) _ _ _
  by_cases c5 : t28 = true
  · replace h := iteT c5 h
    refine KR.br true (by kernel_rfl) (vB (bT c5)) ?_
    refine KR.go 2 [] 132 (s' := (.reg (opsAt (sub B [1, 0, 1, 0, 0])) [0, 1] :: S3)) fun J => ?_
    obtain ⟨t29, H_1, q6, h⟩ := h
    refine KR.se (one_ca (by kernel_rfl) q6) ?_
    refine KR.go 2 [(10, .bool t29)] 132 (s' := (.code (sub B [1, 0, 1, 0, 1]) :: S1)) fun J => ?_
    exact KR.fin (by kernel_rfl) h
  · replace h := iteF c5 h
    refine KR.br false (by kernel_rfl) (vB (bF c5)) ?_
    refine KR.go 4 [(1, .int .i64 t1), (2, .int .u8 t2), (3, .int .u8 t3), (4, .slice t4a t4n t4k), (5, .pointer (some ⟨t5b, t5o, none⟩)), (31, .slice t4a t4n t4k)] 132 (s' := (.reg (opsAt (sub B [1, 1, 0])) [1, 2, 3, 4, 5, 6, 7] :: S4)) fun J => ?_
    obtain ⟨t32r0c0, t32r0c1, t32r0c2, t32r0c3, t32r0c4a, t32r0c4n, t32r0c4k, t32r0c5a, t32r0c5n, t32r0c5k, t32r1, H_2, q7, h⟩ := h
    refine KR.se (one_ca (by kernel_rfl) q7) ?_
    refine KR.go 3 [(1, .int .i64 t1), (2, .int .u8 t2), (3, .int .u8 t3), (4, .slice t4a t4n t4k), (5, .pointer (some ⟨t5b, t5o, none⟩)), (33, .agg #[.int .i64 t32r0c0, .int .i64 t32r0c1, .int .i64 t32r0c2, .int .i64 t32r0c3, .slice t32r0c4a t32r0c4n t32r0c4k, .slice t32r0c5a t32r0c5n t32r0c5k]), (34, .int .i64 t32r1)] 132 (s' := (.reg (opsAt (sub B [1, 1, 0])) [5, 6, 7] :: S4)) fun J => ?_
    obtain ⟨H_3, q8, h⟩ := h
    refine KR.mk (w := pRow [.int .i64 0, .int .i64 0, .int .i64 0, .int .i64 0, .slice none 0 0, .slice none 0 0]) (one_al (by kernel_rfl)) q8 ?_
    obtain ⟨H_4, q9, h⟩ := h
    refine KR.se (one_st (by kernel_rfl) q9) ?_
    refine KR.go 8 [(1, .int .i64 t1), (2, .int .u8 t2), (3, .int .u8 t3), (4, .slice t4a t4n t4k), (5, .pointer (some ⟨t5b, t5o, none⟩)), (11, .pointer (some ⟨H_2.next, 0, none⟩)), (36, .bool (t32r1 == 0))] 132 (s' := (.code (sub B [1, 1, 1, 0, 1]) :: S5)) fun J => ?_
    by_cases c10 : t32r1 = 0
    · replace h := iteT c10 h
      refine KR.br true (by kernel_rfl) (vB (eT c10)) ?_
      refine KR.go 2 [(1, .int .i64 t1), (2, .int .u8 t2), (3, .int .u8 t3), (4, .slice t4a t4n t4k), (5, .pointer (some ⟨t5b, t5o, none⟩)), (11, .pointer (some ⟨H_2.next, 0, none⟩))] 132 (s' := (.reg (opsAt (sub B [1, 1, 1, 0, 1, 0, 0])) [0, 1, 2, 3, 4, 5, 6] :: S6)) fun J => ?_
      obtain ⟨t38c0, t38c1, t38c2, t38c3, t38c4a, t38c4n, t38c4k, t38c5a, t38c5n, t38c5k, q11, h⟩ := h
      refine KR.rd (one_ldA (by kernel_rfl) q11) ?_
      obtain ⟨t39r0a, t39r0n, t39r0k, t39r1, H_5, q12, h⟩ := h
      refine KR.se (one_ca (by kernel_rfl) q12) ?_
      refine KR.go 11 [(1, .int .i64 t1), (2, .int .u8 t2), (3, .int .u8 t3), (4, .slice t4a t4n t4k), (5, .pointer (some ⟨t5b, t5o, none⟩)), (11, .pointer (some ⟨H_2.next, 0, none⟩)), (13, .slice t39r0a t39r0n t39r0k), (44, .bool (!(t39r1 == 0)))] 132 (s' := (.reg (opsAt (sub B [1, 1, 1, 0, 1, 0, 1, 0])) [3, 4, 5, 6, 7, 8, 9, 10, 11, 12, 13] :: S7)) fun J => ?_
      by_cases c13 : t39r1 = 0
      · replace h := iteT c13 h
        refine KR.setV 44 (by kernel_rfl) (nB (eT c13)) ?_
        refine KR.go 1 [(1, .int .i64 t1), (2, .int .u8 t2), (3, .int .u8 t3), (4, .slice t4a t4n t4k), (5, .pointer (some ⟨t5b, t5o, none⟩)), (11, .pointer (some ⟨H_2.next, 0, none⟩)), (44, .bool false), (45, .slice t39r0a t39r0n t39r0k)] 132 (s' := (.reg (opsAt (sub B [1, 1, 1, 0, 1, 0, 1, 0])) [4, 5, 6, 7, 8, 9, 10, 11, 12, 13] :: S7)) fun J => ?_
        obtain ⟨t46, q14, h⟩ := h
        refine KR.rd (one_str (by kernel_rfl) q14) ?_
        refine KR.go 1 [(1, .int .i64 t1), (2, .int .u8 t2), (3, .int .u8 t3), (5, .pointer (some ⟨t5b, t5o, none⟩)), (11, .pointer (some ⟨H_2.next, 0, none⟩)), (44, .bool false), (46, .string t46), (47, .slice t4a t4n t4k)] 132 (s' := (.reg (opsAt (sub B [1, 1, 1, 0, 1, 0, 1, 0])) [6, 7, 8, 9, 10, 11, 12, 13] :: S7)) fun J => ?_
        obtain ⟨t48, q15, h⟩ := h
        refine KR.rd (one_str (by kernel_rfl) q15) ?_
        refine KR.go 3 [(1, .int .i64 t1), (2, .int .u8 t2), (3, .int .u8 t3), (5, .pointer (some ⟨t5b, t5o, none⟩)), (11, .pointer (some ⟨H_2.next, 0, none⟩)), (51, .bool (!(t46.toList == t48.toList)))] 132 (s' := (.reg (opsAt (sub B [1, 1, 1, 0, 1, 0, 1, 0])) [10, 11, 12, 13] :: S7)) fun J => ?_
        by_cases c16 : t46.toList = t48.toList
        · replace h := iteT c16 h
          refine KR.setV 51 (by kernel_rfl) (nB (eT c16)) ?_
          obtain ⟨t52c0, t52c1, t52c2, t52c3, t52c4a, t52c4n, t52c4k, t52c5a, t52c5n, t52c5k, q17, h⟩ := h
          refine KR.rd (one_ldA (by kernel_rfl) q17) ?_
          obtain ⟨t53, H_6, q18, h⟩ := h
          refine KR.se (one_ca (by kernel_rfl) q18) ?_
          exact KR.go 3 [(1, .int .i64 t1), (2, .int .u8 t2), (3, .int .u8 t3), (5, .pointer (some ⟨t5b, t5o, none⟩)), (55, .bool (!t53))] 132 (s' := (.code (sub B [1, 1, 1, 0, 1, 0, 1, 1]) :: S5)) h
        · replace h := iteF c16 h
          refine KR.setV 51 (by kernel_rfl) (nB (eF c16)) ?_
          exact KR.go 5 [(1, .int .i64 t1), (2, .int .u8 t2), (3, .int .u8 t3), (5, .pointer (some ⟨t5b, t5o, none⟩)), (55, .bool true)] 132 (s' := (.code (sub B [1, 1, 1, 0, 1, 0, 1, 1]) :: S5)) h
      · replace h := iteF c13 h
        refine KR.setV 44 (by kernel_rfl) (nB (eF c13)) ?_
        exact KR.go 12 [(1, .int .i64 t1), (2, .int .u8 t2), (3, .int .u8 t3), (5, .pointer (some ⟨t5b, t5o, none⟩)), (55, .bool true)] 132 (s' := (.code (sub B [1, 1, 1, 0, 1, 0, 1, 1]) :: S5)) h
    · replace h := iteF c10 h
      refine KR.br false (by kernel_rfl) (vB (eF c10)) ?_
      exact KR.go 3 [(1, .int .i64 t1), (2, .int .u8 t2), (3, .int .u8 t3), (5, .pointer (some ⟨t5b, t5o, none⟩))] 132 (s' := (.reg (opsAt (sub B [1, 1, 1, 1, 0])) [0, 1, 2, 3, 4, 5, 6] :: S8)) h
theorem L1_step {t1 t2 t3 : Int} {t5b t5o : Nat} {t55 : Bool} {H : Heap} {r : Value × Heap} (h :
    if t55 = true then
    (r = (.bool false, H))
    else
    (L2 t1 t2 t3 t5b t5o H r)) :
    L1 t1 t2 t3 t5b t5o t55 H r := by
  intro J
  show KR _ _ _ (.code (sub B [1, 1, 1, 0, 1, 0, 1, 1]) :: S5) _ _ _
  by_cases c19 : t55 = true
  · replace h := iteT c19 h
    refine KR.br true (by kernel_rfl) (vB (bT c19)) ?_
    refine KR.go 4 [(10, .bool false)] 132 (s' := (.code (sub B [1, 1, 1, 0, 1, 0, 1, 1, 0, 1]) :: S5)) fun J => ?_
    exact KR.fin (by kernel_rfl) h
  · replace h := iteF c19 h
    refine KR.br false (by kernel_rfl) (vB (bF c19)) ?_
    exact KR.go 3 [(1, .int .i64 t1), (2, .int .u8 t2), (3, .int .u8 t3), (5, .pointer (some ⟨t5b, t5o, none⟩))] 132 (s' := (.reg (opsAt (sub B [1, 1, 1, 1, 0])) [0, 1, 2, 3, 4, 5, 6] :: S8)) h
theorem L2_step {t1 t2 t3 : Int} {t5b t5o : Nat} {H : Heap} {r : Value × Heap} (h :
    ∃ (t57c0 t57c1 t57c2 t57c3 : Int) (t57c4a : Option Addr) (t57c4n t57c4k : Nat) (t57c5a : Option Addr) (t57c5n t57c5k : Nat), ldAll H t5b t5o [.int .i64 t57c0, .int .i64 t57c1, .int .i64 t57c2, .int .i64 t57c3, .slice t57c4a t57c4n t57c4k, .slice t57c5a t57c5n t57c5k] ∧
    (∃ (t58r0a : Option Addr) (t58r0n t58r0k : Nat) (t58r1 : Int) (H_1 : Heap), xC Try.prog good 33 [.agg #[.int .i64 t57c0, .int .i64 t57c1, .int .i64 t57c2, .int .i64 t57c3, .slice t57c4a t57c4n t57c4k, .slice t57c5a t57c5n t57c5k]] H = some (.tuple #[.slice t58r0a t58r0n t58r0k, .int .i64 t58r1], H_1) ∧
    (if t58r1 = 0 then
    (∃ (t76r0c0 t76r0c1 t76r0c2 t76r0c3 : Int) (t76r0c4a : Option Addr) (t76r0c4n t76r0c4k : Nat) (t76r0c5a : Option Addr) (t76r0c5n t76r0c5k : Nat) (t76r1 : Int) (H_2 : Heap), xC Try.prog good 30 [.slice t58r0a t58r0n t58r0k] H_1 = some (.tuple #[.agg #[.int .i64 t76r0c0, .int .i64 t76r0c1, .int .i64 t76r0c2, .int .i64 t76r0c3, .slice t76r0c4a t76r0c4n t76r0c4k, .slice t76r0c5a t76r0c5n t76r0c5k], .int .i64 t76r1], H_2) ∧
    (∃ (H_3 : Heap), H_3 = H_2.push (.row [.int .i64 0, .int .i64 0, .int .i64 0, .int .i64 0, .slice none 0 0, .slice none 0 0] true) ∧
    (∃ (H_4 : Heap), stc H_3 H_2.next 0 [.int .i64 t76r0c0, .int .i64 t76r0c1, .int .i64 t76r0c2, .int .i64 t76r0c3, .slice t76r0c4a t76r0c4n t76r0c4k, .slice t76r0c5a t76r0c5n t76r0c5k] = some H_4 ∧
    (if t76r1 = 0 then
    (∃ (t82c0 t82c1 t82c2 t82c3 : Int) (t82c4a : Option Addr) (t82c4n t82c4k : Nat) (t82c5a : Option Addr) (t82c5n t82c5k : Nat), ldAll H_4 H_2.next 0 [.int .i64 t82c0, .int .i64 t82c1, .int .i64 t82c2, .int .i64 t82c3, .slice t82c4a t82c4n t82c4k, .slice t82c5a t82c5n t82c5k] ∧
    (∃ (t83c0 t83c1 t83c2 t83c3 : Int) (t83c4a : Option Addr) (t83c4n t83c4k : Nat) (t83c5a : Option Addr) (t83c5n t83c5k : Nat), ldAll H_4 t5b t5o [.int .i64 t83c0, .int .i64 t83c1, .int .i64 t83c2, .int .i64 t83c3, .slice t83c4a t83c4n t83c4k, .slice t83c5a t83c5n t83c5k] ∧
    (∃ (t84 : Bool) (H_5 : Heap), xC Try.prog good 32 [.agg #[.int .i64 t82c0, .int .i64 t82c1, .int .i64 t82c2, .int .i64 t82c3, .slice t82c4a t82c4n t82c4k, .slice t82c5a t82c5n t82c5k], .agg #[.int .i64 t83c0, .int .i64 t83c1, .int .i64 t83c2, .int .i64 t83c3, .slice t83c4a t83c4n t83c4k, .slice t83c5a t83c5n t83c5k]] H_4 = some (.bool t84, H_5) ∧
    (if t84 = true then
    (L3 t1 t2 t3 t58r0a t58r0n t58r0k ((decide ((t58r0n : Int) < 10))) H_5 r)
    else
    (L3 t1 t2 t3 t58r0a t58r0n t58r0k true H_5 r)))))
    else
    (L3 t1 t2 t3 t58r0a t58r0n t58r0k true H_4 r)))))
    else
    (∃ (t63c0 t63c1 t63c2 t63c3 : Int) (t63c4a : Option Addr) (t63c4n t63c4k : Nat) (t63c5a : Option Addr) (t63c5n t63c5k : Nat), ldAll H_1 t5b t5o [.int .i64 t63c0, .int .i64 t63c1, .int .i64 t63c2, .int .i64 t63c3, .slice t63c4a t63c4n t63c4k, .slice t63c5a t63c5n t63c5k] ∧
    (∃ (t64 : Bool) (H_6 : Heap), xC Try.prog good 34 [.agg #[.int .i64 t63c0, .int .i64 t63c1, .int .i64 t63c2, .int .i64 t63c3, .slice t63c4a t63c4n t63c4k, .slice t63c5a t63c5n t63c5k]] H_1 = some (.bool t64, H_6) ∧
    (if t64 = true then
    (r = (.bool false, H_6))
    else
    (if (t58r0n : Int) = 0 then
    (∃ (t72 : Bool) (H_7 : Heap), xC Try.prog good 27 [] H_6 = some (.bool t72, H_7) ∧
    (r = (.bool t72, H_7)))
    else
    (r = (.bool false, H_6))))))))) :
    L2 t1 t2 t3 t5b t5o H r := by
  intro J
  show KR _ _ _ (.reg (opsAt (sub B [1, 1, 1, 1, 0])) [0, 1, 2, 3, 4, 5, 6] :: S8) _ _ _
  obtain ⟨t57c0, t57c1, t57c2, t57c3, t57c4a, t57c4n, t57c4k, t57c5a, t57c5n, t57c5k, q20, h⟩ := h
  refine KR.rd (one_ldA (by kernel_rfl) q20) ?_
  obtain ⟨t58r0a, t58r0n, t58r0k, t58r1, H_1, q21, h⟩ := h
  refine KR.se (one_ca (by kernel_rfl) q21) ?_
  refine KR.go 12 [(1, .int .i64 t1), (2, .int .u8 t2), (3, .int .u8 t3), (5, .pointer (some ⟨t5b, t5o, none⟩)), (15, .slice t58r0a t58r0n t58r0k), (62, .bool (!(t58r1 == 0)))] 132 (s' := (.code (sub B [1, 1, 1, 1, 1, 0, 1]) :: S9)) fun J => ?_
  by_cases c22 : t58r1 = 0
  · replace h := iteT c22 h
    refine KR.br false (by kernel_rfl) (vB (nB (eT c22))) ?_
    refine KR.go 4 [(1, .int .i64 t1), (2, .int .u8 t2), (3, .int .u8 t3), (5, .pointer (some ⟨t5b, t5o, none⟩)), (15, .slice t58r0a t58r0n t58r0k), (75, .slice t58r0a t58r0n t58r0k)] 132 (s' := (.reg (opsAt (sub B [1, 1, 1, 1, 1, 1, 0])) [1, 2, 3, 4, 5, 6, 7] :: S10)) fun J => ?_
    obtain ⟨t76r0c0, t76r0c1, t76r0c2, t76r0c3, t76r0c4a, t76r0c4n, t76r0c4k, t76r0c5a, t76r0c5n, t76r0c5k, t76r1, H_2, q23, h⟩ := h
    refine KR.se (one_ca (by kernel_rfl) q23) ?_
    refine KR.go 3 [(1, .int .i64 t1), (2, .int .u8 t2), (3, .int .u8 t3), (5, .pointer (some ⟨t5b, t5o, none⟩)), (15, .slice t58r0a t58r0n t58r0k), (77, .agg #[.int .i64 t76r0c0, .int .i64 t76r0c1, .int .i64 t76r0c2, .int .i64 t76r0c3, .slice t76r0c4a t76r0c4n t76r0c4k, .slice t76r0c5a t76r0c5n t76r0c5k]), (78, .int .i64 t76r1)] 132 (s' := (.reg (opsAt (sub B [1, 1, 1, 1, 1, 1, 0])) [5, 6, 7] :: S10)) fun J => ?_
    obtain ⟨H_3, q24, h⟩ := h
    refine KR.mk (w := pRow [.int .i64 0, .int .i64 0, .int .i64 0, .int .i64 0, .slice none 0 0, .slice none 0 0]) (one_al (by kernel_rfl)) q24 ?_
    obtain ⟨H_4, q25, h⟩ := h
    refine KR.se (one_st (by kernel_rfl) q25) ?_
    refine KR.go 8 [(1, .int .i64 t1), (2, .int .u8 t2), (3, .int .u8 t3), (5, .pointer (some ⟨t5b, t5o, none⟩)), (15, .slice t58r0a t58r0n t58r0k), (17, .pointer (some ⟨H_2.next, 0, none⟩)), (81, .bool (!(t76r1 == 0)))] 132 (s' := (.reg (opsAt (sub B [1, 1, 1, 1, 1, 1, 1, 0, 0])) [3, 4, 5, 6, 7, 8, 9, 10, 11, 12] :: S12)) fun J => ?_
    by_cases c26 : t76r1 = 0
    · replace h := iteT c26 h
      refine KR.setV 81 (by kernel_rfl) (nB (eT c26)) ?_
      obtain ⟨t82c0, t82c1, t82c2, t82c3, t82c4a, t82c4n, t82c4k, t82c5a, t82c5n, t82c5k, q27, h⟩ := h
      refine KR.rd (one_ldA (by kernel_rfl) q27) ?_
      obtain ⟨t83c0, t83c1, t83c2, t83c3, t83c4a, t83c4n, t83c4k, t83c5a, t83c5n, t83c5k, q28, h⟩ := h
      refine KR.rd (one_ldA (by kernel_rfl) q28) ?_
      obtain ⟨t84, H_5, q29, h⟩ := h
      refine KR.se (one_ca (by kernel_rfl) q29) ?_
      refine KR.go 3 [(1, .int .i64 t1), (2, .int .u8 t2), (3, .int .u8 t3), (15, .slice t58r0a t58r0n t58r0k), (87, .bool (!t84))] 132 (s' := (.reg (opsAt (sub B [1, 1, 1, 1, 1, 1, 1, 0, 0])) [9, 10, 11, 12] :: S12)) fun J => ?_
      by_cases c30 : t84 = true
      · replace h := iteT c30 h
        refine KR.setV 87 (by kernel_rfl) (nB (bT c30)) ?_
        exact KR.go 5 [(1, .int .i64 t1), (2, .int .u8 t2), (3, .int .u8 t3), (15, .slice t58r0a t58r0n t58r0k), (91, .bool (decide ((t58r0n : Int) < 10)))] 132 (s' := (.code (sub B [1, 1, 1, 1, 1, 1, 1, 0, 1]) :: S11)) h
      · replace h := iteF c30 h
        refine KR.setV 87 (by kernel_rfl) (nB (bF c30)) ?_
        exact KR.go 5 [(1, .int .i64 t1), (2, .int .u8 t2), (3, .int .u8 t3), (15, .slice t58r0a t58r0n t58r0k), (91, .bool true)] 132 (s' := (.code (sub B [1, 1, 1, 1, 1, 1, 1, 0, 1]) :: S11)) h
    · replace h := iteF c26 h
      refine KR.setV 81 (by kernel_rfl) (nB (eF c26)) ?_
      exact KR.go 11 [(1, .int .i64 t1), (2, .int .u8 t2), (3, .int .u8 t3), (15, .slice t58r0a t58r0n t58r0k), (91, .bool true)] 132 (s' := (.code (sub B [1, 1, 1, 1, 1, 1, 1, 0, 1]) :: S11)) h
  · replace h := iteF c22 h
    refine KR.br true (by kernel_rfl) (vB (nB (eF c22))) ?_
    refine KR.go 2 [(5, .pointer (some ⟨t5b, t5o, none⟩)), (15, .slice t58r0a t58r0n t58r0k)] 132 (s' := (.reg (opsAt (sub B [1, 1, 1, 1, 1, 0, 1, 0, 0])) [0, 1, 2, 3, 4, 5, 6, 7, 8, 9, 10, 11] :: S13)) fun J => ?_
    obtain ⟨t63c0, t63c1, t63c2, t63c3, t63c4a, t63c4n, t63c4k, t63c5a, t63c5n, t63c5k, q31, h⟩ := h
    refine KR.rd (one_ldA (by kernel_rfl) q31) ?_
    obtain ⟨t64, H_6, q32, h⟩ := h
    refine KR.se (one_ca (by kernel_rfl) q32) ?_
    refine KR.go 2 [(15, .slice t58r0a t58r0n t58r0k), (66, .bool (!t64))] 132 (s' := (.reg (opsAt (sub B [1, 1, 1, 1, 1, 0, 1, 0, 0])) [4, 5, 6, 7, 8, 9, 10, 11] :: S13)) fun J => ?_
    by_cases c33 : t64 = true
    · replace h := iteT c33 h
      refine KR.setV 66 (by kernel_rfl) (nB (bT c33)) ?_
      refine KR.go 9 [(10, .bool false)] 132 (s' := (.code (sub B [1, 1, 1, 1, 1, 0, 1, 0, 1]) :: S9)) fun J => ?_
      exact KR.fin (by kernel_rfl) h
    · replace h := iteF c33 h
      refine KR.setV 66 (by kernel_rfl) (nB (bF c33)) ?_
      refine KR.go 5 [(71, .bool ((t58r0n : Int) == 0))] 132 (s' := (.reg (opsAt (sub B [1, 1, 1, 1, 1, 0, 1, 0, 0])) [9, 10, 11] :: S13)) fun J => ?_
      by_cases c34 : (t58r0n : Int) = 0
      · replace h := iteT c34 h
        refine KR.setV 71 (by kernel_rfl) (eT c34) ?_
        obtain ⟨t72, H_7, q35, h⟩ := h
        refine KR.se (one_ca (by kernel_rfl) q35) ?_
        refine KR.go 3 [(10, .bool t72)] 132 (s' := (.code (sub B [1, 1, 1, 1, 1, 0, 1, 0, 1]) :: S9)) fun J => ?_
        exact KR.fin (by kernel_rfl) h
      · replace h := iteF c34 h
        refine KR.setV 71 (by kernel_rfl) (eF c34) ?_
        refine KR.go 4 [(10, .bool false)] 132 (s' := (.code (sub B [1, 1, 1, 1, 1, 0, 1, 0, 1]) :: S9)) fun J => ?_
        exact KR.fin (by kernel_rfl) h
theorem L3_step {t1 t2 t3 : Int} {t15a : Option Addr} {t15n t15k : Nat} {t91 : Bool} {H : Heap} {r : Value × Heap} (h :
    if t91 = true then
    (r = (.bool false, H))
    else
    (if t2 = 0 then
    (L4 t1 t2 t3 t15a t15n t15k ((t3 == 0)) H r)
    else
    (L4 t1 t2 t3 t15a t15n t15k false H r))) :
    L3 t1 t2 t3 t15a t15n t15k t91 H r := by
  intro J
  show KR _ _ _ (.code (sub B [1, 1, 1, 1, 1, 1, 1, 0, 1]) :: S11) _ _ _
  by_cases c36 : t91 = true
  · replace h := iteT c36 h
    refine KR.br true (by kernel_rfl) (vB (bT c36)) ?_
    refine KR.go 4 [(10, .bool false)] 132 (s' := (.code (sub B [1, 1, 1, 1, 1, 1, 1, 0, 1, 0, 1]) :: S11)) fun J => ?_
    exact KR.fin (by kernel_rfl) h
  · replace h := iteF c36 h
    refine KR.br false (by kernel_rfl) (vB (bF c36)) ?_
    refine KR.go 7 [(1, .int .i64 t1), (2, .int .u8 t2), (3, .int .u8 t3), (15, .slice t15a t15n t15k), (94, .bool (t2 == 0))] 132 (s' := (.reg (opsAt (sub B [1, 1, 1, 1, 1, 1, 1, 1, 0, 0])) [3, 4, 5] :: S15)) fun J => ?_
    by_cases c37 : t2 = 0
    · replace h := iteT c37 h
      refine KR.setV 94 (by kernel_rfl) (eT c37) ?_
      exact KR.go 4 [(1, .int .i64 t1), (2, .int .u8 t2), (3, .int .u8 t3), (15, .slice t15a t15n t15k), (97, .bool (t3 == 0))] 132 (s' := (.code (sub B [1, 1, 1, 1, 1, 1, 1, 1, 0, 1]) :: S14)) h
    · replace h := iteF c37 h
      refine KR.setV 94 (by kernel_rfl) (eF c37) ?_
      exact KR.go 4 [(1, .int .i64 t1), (2, .int .u8 t2), (3, .int .u8 t3), (15, .slice t15a t15n t15k), (97, .bool false)] 132 (s' := (.code (sub B [1, 1, 1, 1, 1, 1, 1, 1, 0, 1]) :: S14)) h
theorem L4_step {t1 t2 t3 : Int} {t15a : Option Addr} {t15n t15k : Nat} {t97 : Bool} {H : Heap} {r : Value × Heap} (h :
    if t97 = true then
    (∃ (t98 : Bool) (H_1 : Heap), xC Try.prog good 27 [] H = some (.bool t98, H_1) ∧
    (r = (.bool t98, H_1)))
    else
    ((IntKind.wrap .u64 (IntKind.wrap .i64 ((t15n : Int) - 1))) ≠ 0 ∧
    (∃ (t15ab t15ao : Nat), t15a = some ⟨t15ab, t15ao, none⟩ ∧
    ((0 : Int) ≤ (IntKind.wrap .i64 (Int.tmod (IntKind.wrap .u64 t1) (IntKind.wrap .u64 (IntKind.wrap .i64 ((t15n : Int) - 1))))) ∧ (IntKind.wrap .i64 (Int.tmod (IntKind.wrap .u64 t1) (IntKind.wrap .u64 (IntKind.wrap .i64 ((t15n : Int) - 1))))) < (t15n : Int) ∧
    (∃ (t110 : Int), ldc H t15ab (t15ao + Int.toNat (IntKind.wrap .i64 (Int.tmod (IntKind.wrap .u64 t1) (IntKind.wrap .u64 (IntKind.wrap .i64 ((t15n : Int) - 1))))) * 1) = some (.int .u8 t110) ∧
    ((0 : Int) ≤ (IntKind.wrap .i64 (Int.tmod (IntKind.wrap .u64 t1) (IntKind.wrap .u64 (IntKind.wrap .i64 ((t15n : Int) - 1))))) ∧ (IntKind.wrap .i64 (Int.tmod (IntKind.wrap .u64 t1) (IntKind.wrap .u64 (IntKind.wrap .i64 ((t15n : Int) - 1))))) < (t15n : Int) ∧
    (∃ (H_2 : Heap), stc H t15ab (t15ao + Int.toNat (IntKind.wrap .i64 (Int.tmod (IntKind.wrap .u64 t1) (IntKind.wrap .u64 (IntKind.wrap .i64 ((t15n : Int) - 1))))) * 1) [.int .u8 (ixor .u8 t110 t2)] = some H_2 ∧
    ((0 : Int) ≤ (IntKind.wrap .i64 ((IntKind.wrap .i64 (Int.tmod (IntKind.wrap .u64 t1) (IntKind.wrap .u64 (IntKind.wrap .i64 ((t15n : Int) - 1))))) + 1)) ∧ (IntKind.wrap .i64 ((IntKind.wrap .i64 (Int.tmod (IntKind.wrap .u64 t1) (IntKind.wrap .u64 (IntKind.wrap .i64 ((t15n : Int) - 1))))) + 1)) < (t15n : Int) ∧
    (∃ (t118 : Int), ldc H_2 t15ab (t15ao + Int.toNat (IntKind.wrap .i64 ((IntKind.wrap .i64 (Int.tmod (IntKind.wrap .u64 t1) (IntKind.wrap .u64 (IntKind.wrap .i64 ((t15n : Int) - 1))))) + 1)) * 1) = some (.int .u8 t118) ∧
    ((0 : Int) ≤ (IntKind.wrap .i64 ((IntKind.wrap .i64 (Int.tmod (IntKind.wrap .u64 t1) (IntKind.wrap .u64 (IntKind.wrap .i64 ((t15n : Int) - 1))))) + 1)) ∧ (IntKind.wrap .i64 ((IntKind.wrap .i64 (Int.tmod (IntKind.wrap .u64 t1) (IntKind.wrap .u64 (IntKind.wrap .i64 ((t15n : Int) - 1))))) + 1)) < (t15n : Int) ∧
    (∃ (H_3 : Heap), stc H_2 t15ab (t15ao + Int.toNat (IntKind.wrap .i64 ((IntKind.wrap .i64 (Int.tmod (IntKind.wrap .u64 t1) (IntKind.wrap .u64 (IntKind.wrap .i64 ((t15n : Int) - 1))))) + 1)) * 1) [.int .u8 (ixor .u8 t118 t3)] = some H_3 ∧
    (∃ (t124r0c0 t124r0c1 t124r0c2 t124r0c3 : Int) (t124r0c4a : Option Addr) (t124r0c4n t124r0c4k : Nat) (t124r0c5a : Option Addr) (t124r0c5n t124r0c5k : Nat) (t124r1 : Int) (H_4 : Heap), xC Try.prog good 30 [.slice (some ⟨t15ab, t15ao, none⟩) t15n t15k] H_3 = some (.tuple #[.agg #[.int .i64 t124r0c0, .int .i64 t124r0c1, .int .i64 t124r0c2, .int .i64 t124r0c3, .slice t124r0c4a t124r0c4n t124r0c4k, .slice t124r0c5a t124r0c5n t124r0c5k], .int .i64 t124r1], H_4) ∧
    (∃ (H_5 : Heap), H_5 = H_4.push (.row [.int .i64 0, .int .i64 0, .int .i64 0, .int .i64 0, .slice none 0 0, .slice none 0 0] true) ∧
    (∃ (H_6 : Heap), stc H_5 H_4.next 0 [.int .i64 t124r0c0, .int .i64 t124r0c1, .int .i64 t124r0c2, .int .i64 t124r0c3, .slice t124r0c4a t124r0c4n t124r0c4k, .slice t124r0c5a t124r0c5n t124r0c5k] = some H_6 ∧
    (if t124r1 = 4 then
    (∃ (t130 : Bool) (H_7 : Heap), xC Try.prog good 27 [] H_6 = some (.bool t130, H_7) ∧
    (r = (.bool t130, H_7)))
    else
    (r = (.bool false, H_6))))))))))))))))) :
    L4 t1 t2 t3 t15a t15n t15k t97 H r := by
  intro J
  show KR _ _ _ (.code (sub B [1, 1, 1, 1, 1, 1, 1, 1, 0, 1]) :: S14) _ _ _
  by_cases c38 : t97 = true
  · replace h := iteT c38 h
    refine KR.br true (by kernel_rfl) (vB (bT c38)) ?_
    refine KR.go 2 [] 132 (s' := (.reg (opsAt (sub B [1, 1, 1, 1, 1, 1, 1, 1, 0, 1, 0, 0])) [0, 1] :: S16)) fun J => ?_
    obtain ⟨t98, H_1, q39, h⟩ := h
    refine KR.se (one_ca (by kernel_rfl) q39) ?_
    refine KR.go 2 [(10, .bool t98)] 132 (s' := (.code (sub B [1, 1, 1, 1, 1, 1, 1, 1, 0, 1, 0, 1]) :: S14)) fun J => ?_
    exact KR.fin (by kernel_rfl) h
  · replace h := iteF c38 h
    refine KR.br false (by kernel_rfl) (vB (bF c38)) ?_
    refine KR.go 9 [(2, .int .u8 t2), (3, .int .u8 t3), (15, .slice t15a t15n t15k), (100, .int .u64 (IntKind.wrap .u64 t1)), (104, .int .u64 (IntKind.wrap .u64 (IntKind.wrap .i64 ((t15n : Int) - 1))))] 132 (s' := (.reg (opsAt (sub B [1, 1, 1, 1, 1, 1, 1, 1, 1, 0])) [6, 7, 8] :: S17)) fun J => ?_
    obtain ⟨q40, h⟩ := h
    refine KR.p (one_rem .u64 (IntKind.wrap .u64 t1) (by kernel_rfl) q40) ?_
    obtain ⟨t15ab, t15ao, rfl, h⟩ := h
    refine KR.go 7 [(1, .int .i64 (IntKind.wrap .i64 (Int.tmod (IntKind.wrap .u64 t1) (IntKind.wrap .u64 (IntKind.wrap .i64 ((t15n : Int) - 1)))))), (2, .int .u8 t2), (3, .int .u8 t3), (15, .slice (some ⟨t15ab, t15ao, none⟩) t15n t15k), (107, .slice (some ⟨t15ab, t15ao, none⟩) t15n t15k), (108, .int .i64 (IntKind.wrap .i64 (Int.tmod (IntKind.wrap .u64 t1) (IntKind.wrap .u64 (IntKind.wrap .i64 ((t15n : Int) - 1))))))] 132 (s' := (.reg (opsAt (sub B [1, 1, 1, 1, 1, 1, 1, 1, 1, 1, 0])) [2, 3, 4, 5, 6, 7] :: S18)) fun J => ?_
    obtain ⟨q41, q41x, h⟩ := h
    refine KR.p (one_ix 1 t15ab t15ao (by kernel_rfl) q41 q41x) ?_
    obtain ⟨t110, q42, h⟩ := h
    refine KR.rd (one_ld (by kernel_rfl) q42) ?_
    refine KR.go 2 [(1, .int .i64 (IntKind.wrap .i64 (Int.tmod (IntKind.wrap .u64 t1) (IntKind.wrap .u64 (IntKind.wrap .i64 ((t15n : Int) - 1)))))), (3, .int .u8 t3), (15, .slice (some ⟨t15ab, t15ao, none⟩) t15n t15k), (107, .slice (some ⟨t15ab, t15ao, none⟩) t15n t15k), (108, .int .i64 (IntKind.wrap .i64 (Int.tmod (IntKind.wrap .u64 t1) (IntKind.wrap .u64 (IntKind.wrap .i64 ((t15n : Int) - 1)))))), (112, .int .u8 (ixor .u8 t110 t2))] 132 (s' := (.reg (opsAt (sub B [1, 1, 1, 1, 1, 1, 1, 1, 1, 1, 0])) [6, 7] :: S18)) fun J => ?_
    obtain ⟨q43, q43x, h⟩ := h
    refine KR.p (one_ix 1 t15ab t15ao (by kernel_rfl) q43 q43x) ?_
    obtain ⟨H_2, q44, h⟩ := h
    refine KR.se (one_st (by kernel_rfl) q44) ?_
    refine KR.go 6 [(3, .int .u8 t3), (15, .slice (some ⟨t15ab, t15ao, none⟩) t15n t15k), (114, .slice (some ⟨t15ab, t15ao, none⟩) t15n t15k), (116, .int .i64 (IntKind.wrap .i64 ((IntKind.wrap .i64 (Int.tmod (IntKind.wrap .u64 t1) (IntKind.wrap .u64 (IntKind.wrap .i64 ((t15n : Int) - 1))))) + 1)))] 132 (s' := (.reg (opsAt (sub B [1, 1, 1, 1, 1, 1, 1, 1, 1, 1, 1, 0])) [3, 4, 5, 6, 7, 8] :: S19)) fun J => ?_
    obtain ⟨q45, q45x, h⟩ := h
    refine KR.p (one_ix 1 t15ab t15ao (by kernel_rfl) q45 q45x) ?_
    obtain ⟨t118, q46, h⟩ := h
    refine KR.rd (one_ld (by kernel_rfl) q46) ?_
    refine KR.go 2 [(15, .slice (some ⟨t15ab, t15ao, none⟩) t15n t15k), (114, .slice (some ⟨t15ab, t15ao, none⟩) t15n t15k), (116, .int .i64 (IntKind.wrap .i64 ((IntKind.wrap .i64 (Int.tmod (IntKind.wrap .u64 t1) (IntKind.wrap .u64 (IntKind.wrap .i64 ((t15n : Int) - 1))))) + 1))), (120, .int .u8 (ixor .u8 t118 t3))] 132 (s' := (.reg (opsAt (sub B [1, 1, 1, 1, 1, 1, 1, 1, 1, 1, 1, 0])) [7, 8] :: S19)) fun J => ?_
    obtain ⟨q47, q47x, h⟩ := h
    refine KR.p (one_ix 1 t15ab t15ao (by kernel_rfl) q47 q47x) ?_
    obtain ⟨H_3, q48, h⟩ := h
    refine KR.se (one_st (by kernel_rfl) q48) ?_
    refine KR.go 4 [(123, .slice (some ⟨t15ab, t15ao, none⟩) t15n t15k)] 132 (s' := (.reg (opsAt (sub B [1, 1, 1, 1, 1, 1, 1, 1, 1, 1, 1, 1, 0])) [1, 2, 3, 4, 5, 6, 7] :: S20)) fun J => ?_
    obtain ⟨t124r0c0, t124r0c1, t124r0c2, t124r0c3, t124r0c4a, t124r0c4n, t124r0c4k, t124r0c5a, t124r0c5n, t124r0c5k, t124r1, H_4, q49, h⟩ := h
    refine KR.se (one_ca (by kernel_rfl) q49) ?_
    refine KR.go 3 [(125, .agg #[.int .i64 t124r0c0, .int .i64 t124r0c1, .int .i64 t124r0c2, .int .i64 t124r0c3, .slice t124r0c4a t124r0c4n t124r0c4k, .slice t124r0c5a t124r0c5n t124r0c5k]), (126, .int .i64 t124r1)] 132 (s' := (.reg (opsAt (sub B [1, 1, 1, 1, 1, 1, 1, 1, 1, 1, 1, 1, 0])) [5, 6, 7] :: S20)) fun J => ?_
    obtain ⟨H_5, q50, h⟩ := h
    refine KR.mk (w := pRow [.int .i64 0, .int .i64 0, .int .i64 0, .int .i64 0, .slice none 0 0, .slice none 0 0]) (one_al (by kernel_rfl)) q50 ?_
    obtain ⟨H_6, q51, h⟩ := h
    refine KR.se (one_st (by kernel_rfl) q51) ?_
    refine KR.go 7 [(129, .bool (t124r1 == 4))] 132 (s' := (.reg (opsAt (sub B [1, 1, 1, 1, 1, 1, 1, 1, 1, 1, 1, 1, 1, 0])) [3, 4, 5] :: S21)) fun J => ?_
    by_cases c52 : t124r1 = 4
    · replace h := iteT c52 h
      refine KR.setV 129 (by kernel_rfl) (eT c52) ?_
      obtain ⟨t130, H_7, q53, h⟩ := h
      refine KR.se (one_ca (by kernel_rfl) q53) ?_
      refine KR.go 3 [(10, .bool t130)] 132 (s' := (.code (sub B [1, 1, 1, 1, 1, 1, 1, 1, 1, 1, 1, 1, 1, 1]) :: [])) fun J => ?_
      exact KR.fin (by kernel_rfl) h
    · replace h := iteF c52 h
      refine KR.setV 129 (by kernel_rfl) (eF c52) ?_
      refine KR.go 4 [(10, .bool false)] 132 (s' := (.code (sub B [1, 1, 1, 1, 1, 1, 1, 1, 1, 1, 1, 1, 1, 1]) :: [])) fun J => ?_
      exact KR.fin (by kernel_rfl) h
theorem call {a0c0 a0c1 a0c2 a0c3 : Int} {a0c4a : Option Addr} {a0c4n a0c4k : Nat} {a0c5a : Option Addr} {a0c5n a0c5k : Nat} {a1 a2 a3 : Int} {a4a : Option Addr} {a4n a4k : Nat} {H : Heap} {r : Value × Heap} (h :
    ∃ (H_1 : Heap), H_1 = H.push (.row [.int .i64 a0c0, .int .i64 a0c1, .int .i64 a0c2, .int .i64 a0c3, .slice a0c4a a0c4n a0c4k, .slice a0c5a a0c5n a0c5k] true) ∧
    (∃ (t21c0 t21c1 t21c2 t21c3 : Int) (t21c4a : Option Addr) (t21c4n t21c4k : Nat) (t21c5a : Option Addr) (t21c5n t21c5k : Nat), ldAll H_1 H.next 0 [.int .i64 t21c0, .int .i64 t21c1, .int .i64 t21c2, .int .i64 t21c3, .slice t21c4a t21c4n t21c4k, .slice t21c5a t21c5n t21c5k] ∧
    (∃ (t22 : Bool) (H_2 : Heap), xC Try.prog good 26 [.agg #[.int .i64 t21c0, .int .i64 t21c1, .int .i64 t21c2, .int .i64 t21c3, .slice t21c4a t21c4n t21c4k, .slice t21c5a t21c5n t21c5k]] H_1 = some (.bool t22, H_2) ∧
    (if t22 = true then
    (L0 a1 a2 a3 a4a a4n a4k (H.next) 0 ((decide ((a4n : Int) > 300))) H_2 r)
    else
    (L0 a1 a2 a3 a4a a4n a4k (H.next) 0 true H_2 r))))) :
    xC Try.prog good 8 [.agg #[.int .i64 a0c0, .int .i64 a0c1, .int .i64 a0c2, .int .i64 a0c3, .slice a0c4a a0c4n a0c4k, .slice a0c5a a0c5n a0c5k], .int .i64 a1, .int .u8 a2, .int .u8 a3, .slice a4a a4n a4k] H = some r := by
  refine KR.enter (fn := Try.f8) (c := B) (by kernel_rfl) (by kernel_rfl) ?_
  refine KR.go 2 [(0, .agg #[.int .i64 a0c0, .int .i64 a0c1, .int .i64 a0c2, .int .i64 a0c3, .slice a0c4a a0c4n a0c4k, .slice a0c5a a0c5n a0c5k]), (1, .int .i64 a1), (2, .int .u8 a2), (3, .int .u8 a3), (4, .slice a4a a4n a4k)] 132 (s' := (.reg (opsAt (sub B [0])) [0, 1] :: S0)) fun J => ?_
  obtain ⟨H_1, q1, h⟩ := h
  refine KR.mk (w := pRow [.int .i64 a0c0, .int .i64 a0c1, .int .i64 a0c2, .int .i64 a0c3, .slice a0c4a a0c4n a0c4k, .slice a0c5a a0c5n a0c5k]) (one_al (by kernel_rfl)) q1 ?_
  refine KR.go 5 [(1, .int .i64 a1), (2, .int .u8 a2), (3, .int .u8 a3), (4, .slice a4a a4n a4k), (5, .pointer (some ⟨H.next, 0, none⟩))] 132 (s' := (.reg (opsAt (sub B [1, 0, 0])) [0, 1, 2, 3, 4, 5, 6, 7] :: S2)) fun J => ?_
  obtain ⟨t21c0, t21c1, t21c2, t21c3, t21c4a, t21c4n, t21c4k, t21c5a, t21c5n, t21c5k, q2, h⟩ := h
  refine KR.rd (one_ldA (by kernel_rfl) q2) ?_
  obtain ⟨t22, H_2, q3, h⟩ := h
  refine KR.se (one_ca (by kernel_rfl) q3) ?_
  refine KR.go 2 [(1, .int .i64 a1), (2, .int .u8 a2), (3, .int .u8 a3), (4, .slice a4a a4n a4k), (5, .pointer (some ⟨H.next, 0, none⟩)), (24, .bool (!t22))] 132 (s' := (.reg (opsAt (sub B [1, 0, 0])) [4, 5, 6, 7] :: S2)) fun J => ?_
  by_cases c4 : t22 = true
  · replace h := iteT c4 h
    refine KR.setV 24 (by kernel_rfl) (nB (bT c4)) ?_
    exact KR.go 5 [(1, .int .i64 a1), (2, .int .u8 a2), (3, .int .u8 a3), (4, .slice a4a a4n a4k), (5, .pointer (some ⟨H.next, 0, none⟩)), (28, .bool (decide ((a4n : Int) > 300)))] 132 (s' := (.code (sub B [1, 0, 1]) :: S1)) h
  · replace h := iteF c4 h
    refine KR.setV 24 (by kernel_rfl) (nB (bF c4)) ?_
    exact KR.go 5 [(1, .int .i64 a1), (2, .int .u8 a2), (3, .int .u8 a3), (4, .slice a4a a4n a4k), (5, .pointer (some ⟨H.next, 0, none⟩)), (28, .bool true)] 132 (s' := (.code (sub B [1, 0, 1]) :: S1)) h
end F8
end Go.X
