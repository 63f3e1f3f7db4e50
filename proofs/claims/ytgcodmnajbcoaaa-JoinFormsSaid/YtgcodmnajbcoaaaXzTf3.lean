/- The walks of the functions: printed. -/
import Derived.Test.YtgcodmnajbcoaaaXzGf
set_option linter.unusedVariables false
set_option maxRecDepth 100000
namespace Go.X
open Go Go.RowKit Go.Proofs
/-! #### 3 campanile/campanilelaw18.JoinForms -/
namespace F3
noncomputable def B : Code := bodyOf Try.f3
noncomputable def S0 : List It := (.code (sub B [1]) :: [])
noncomputable def S1 : List It := (.code (sub B [1, 1]) :: [])
noncomputable def S4 : List It := (.code (sub B [1, 1, 1]) :: [])
noncomputable def S5 : List It := (.code (sub B [1, 1, 1, 1]) :: [])
noncomputable def S6 : List It := (.code (sub B [1, 1, 1, 1, 1]) :: [])
noncomputable def S7 : List It := (.code (sub B [1, 1, 1, 1, 1, 1]) :: [])
noncomputable def S8 : List It := (.code (sub B [1, 1, 1, 1, 1, 1, 1]) :: [])
noncomputable def S10 : List It := (.code (sub B [1, 1, 1, 1, 1, 1, 1, 1]) :: [])
noncomputable def S23 : List It := (.code (sub B [1, 1, 1, 1, 1, 1, 1, 1, 1]) :: [])
noncomputable def S2 : List It := (.code (sub B [1, 0, 1]) :: S1)
noncomputable def S3 : List It := (.code (sub B [1, 0, 1, 0, 1]) :: S1)
noncomputable def S9 : List It := (.code (sub B [1, 1, 1, 1, 1, 1, 0, 1]) :: S8)
noncomputable def S11 : List It := (.code (sub B [1, 1, 1, 1, 1, 1, 1, 0, 1]) :: S10)
noncomputable def S12 : List It := (.blk 0 :: S10)
noncomputable def S13 : List It := (.lp (sub B [1, 1, 1, 1, 1, 1, 1, 0, 1, 0, 0]) :: S12)
noncomputable def S14 : List It := (.code (sub B [1, 1, 1, 1, 1, 1, 1, 0, 1, 0, 0, 1, 1]) :: S13)
noncomputable def S15 : List It := (.code (sub B [1, 1, 1, 1, 1, 1, 1, 0, 1, 0, 0, 1, 1, 1]) :: S13)
noncomputable def S16 : List It := (.blk 1 :: S15)
noncomputable def S17 : List It := (.code (sub B [1, 1, 1, 1, 1, 1, 1, 0, 1, 0, 0, 1, 1, 0, 0, 1]) :: S16)
noncomputable def S18 : List It := (.code (sub B [1, 1, 1, 1, 1, 1, 1, 0, 1, 0, 0, 1, 1, 0, 0, 1, 1]) :: S16)
noncomputable def S19 : List It := (.code (sub B [1, 1, 1, 1, 1, 1, 1, 0, 1, 0, 0, 1, 1, 0, 0, 1, 1, 1]) :: S16)
noncomputable def S20 : List It := (.code (sub B [1, 1, 1, 1, 1, 1, 1, 0, 1, 0, 0, 1, 1, 0, 0, 1, 1, 1, 1]) :: S16)
noncomputable def S21 : List It := (.code (sub B [1, 1, 1, 1, 1, 1, 1, 0, 1, 0, 0, 1, 1, 0, 0, 1, 1, 1, 1, 1]) :: S16)
noncomputable def S22 : List It := (.code (sub B [1, 1, 1, 1, 1, 1, 1, 0, 1, 0, 0, 1, 1, 0, 0, 1, 1, 1, 1, 1, 1]) :: S16)
def L0 (t0 : Int) (t3a : Option Addr) (t3n : Nat) (t3k : Nat) (t4 : Int) (t5 : Int) (t6a : Option Addr) (t6n : Nat) (t6k : Nat) (t8b : Nat) (t8o : Nat) (t9b : Nat) (t9o : Nat) (t40 : Bool) (H : Heap) (r : Value × Heap) : Prop := ∀ J, KR Try.prog good Try.f3 S2 (mat J 144 [(0, .int .u64 t0), (3, .slice t3a t3n t3k), (4, .int .u8 t4), (5, .int .i64 t5), (6, .slice t6a t6n t6k), (8, .pointer (some ⟨t8b, t8o, none⟩)), (9, .pointer (some ⟨t9b, t9o, none⟩)), (40, .bool t40)]) H r
def L1 (t3a : Option Addr) (t3n : Nat) (t3k : Nat) (t4 : Int) (t5 : Int) (t6a : Option Addr) (t6n : Nat) (t6k : Nat) (t17a : Option Addr) (t17n : Nat) (t17k : Nat) (t21a : Option Addr) (t21n : Nat) (t21k : Nat) (t87 : Bool) (H : Heap) (r : Value × Heap) : Prop := ∀ J, KR Try.prog good Try.f3 S9 (mat J 144 [(3, .slice t3a t3n t3k), (4, .int .u8 t4), (5, .int .i64 t5), (6, .slice t6a t6n t6k), (17, .slice t17a t17n t17k), (21, .slice t21a t21n t21k), (87, .bool t87)]) H r
def L2 (t99c0a : Option Addr) (t99c0n : Nat) (t99c0k : Nat) (t99c1a : Option Addr) (t99c1n : Nat) (t99c1k : Nat) (t99c2a : Option Addr) (t99c2n : Nat) (t99c2k : Nat) (t100 : Int) (H : Heap) (r : Value × Heap) : Prop := ∀ J, KR Try.prog good Try.f3 S13 (mat J 144 [(99, .agg #[.slice t99c0a t99c0n t99c0k, .slice t99c1a t99c1n t99c1k, .slice t99c2a t99c2n t99c2k]), (100, .int .i64 t100)]) H r
def L3 (t99c0a : Option Addr) (t99c0n : Nat) (t99c0k : Nat) (t99c1a : Option Addr) (t99c1n : Nat) (t99c1k : Nat) (t99c2a : Option Addr) (t99c2n : Nat) (t99c2k : Nat) (t100 : Int) (t141 : Bool) (H : Heap) (r : Value × Heap) : Prop := ∀ J, KR Try.prog good Try.f3 S22 (mat J 144 [(99, .agg #[.slice t99c0a t99c0n t99c0k, .slice t99c1a t99c1n t99c1k, .slice t99c2a t99c2n t99c2k]), (100, .int .i64 t100), (141, .bool t141)]) H r
theorem L0_step {t0 : Int} {t3a : Option Addr} {t3n : Nat} {t3k : Nat} {t4 : Int} {t5 : Int} {t6a : Option Addr} {t6n : Nat} {t6k : Nat} {t8b : Nat} {t8o : Nat} {t9b : Nat} {t9o : Nat} {t40 : Bool} {H : Heap} {r : Value × Heap} (h :
    if t40 = true then
    (∃ (t41 : Bool) (H_1 : Heap), xC Try.prog good 8 [] H = some (.bool t41, H_1) ∧
    (r = (.bool t41, H_1)))
    else
    (∃ (t44c0 : Int) (t44c1 : Int) (t44c2 : Int) (t44c3 : Int) (t44c4 : Int), ldAll H t8b t8o [.int .i64 t44c0, .int .i64 t44c1, .int .u32 t44c2, .int .u32 t44c3, .int .u32 t44c4] ∧
    (∃ (t45r0a : Option Addr) (t45r0n : Nat) (t45r0k : Nat) (t45r1 : Int) (H_2 : Heap), xC Try.prog good 9 [.int .u64 t0, .agg #[.int .i64 t44c0, .int .i64 t44c1, .int .u32 t44c2, .int .u32 t44c3, .int .u32 t44c4]] H = some (.tuple #[.slice t45r0a t45r0n t45r0k, .int .i64 t45r1], H_2) ∧
    (∃ (t50c0 : Int) (t50c1 : Int) (t50c2 : Int) (t50c3 : Int) (t50c4 : Int), ldAll H_2 t8b t8o [.int .i64 t50c0, .int .i64 t50c1, .int .u32 t50c2, .int .u32 t50c3, .int .u32 t50c4] ∧
    (∃ (t51r0a : Option Addr) (t51r0n : Nat) (t51r0k : Nat) (t51r1 : Int) (H_3 : Heap), xC Try.prog good 10 [.int .u64 t0, .agg #[.int .i64 t50c0, .int .i64 t50c1, .int .u32 t50c2, .int .u32 t50c3, .int .u32 t50c4]] H_2 = some (.tuple #[.slice t51r0a t51r0n t51r0k, .int .i64 t51r1], H_3) ∧
    (∃ (t56c0 : Int) (t56c1 : Int) (t56c2 : Int) (t56c3a : Option Addr) (t56c3n : Nat) (t56c3k : Nat) (t56c4 : Int), ldAll H_3 t9b t9o [.int .i64 t56c0, .int .i64 t56c1, .int .u32 t56c2, .slice t56c3a t56c3n t56c3k, .int .u32 t56c4] ∧
    (∃ (t57r0a : Option Addr) (t57r0n : Nat) (t57r0k : Nat) (t57r1 : Int) (H_4 : Heap), xC Try.prog good 11 [.int .u64 t0, .agg #[.int .i64 t56c0, .int .i64 t56c1, .int .u32 t56c2, .slice t56c3a t56c3n t56c3k, .int .u32 t56c4]] H_3 = some (.tuple #[.slice t57r0a t57r0n t57r0k, .int .i64 t57r1], H_4) ∧
    (∃ (t62c0 : Int) (t62c1 : Int) (t62c2 : Int) (t62c3a : Option Addr) (t62c3n : Nat) (t62c3k : Nat) (t62c4 : Int), ldAll H_4 t9b t9o [.int .i64 t62c0, .int .i64 t62c1, .int .u32 t62c2, .slice t62c3a t62c3n t62c3k, .int .u32 t62c4] ∧
    (∃ (t63r0a : Option Addr) (t63r0n : Nat) (t63r0k : Nat) (t63r1 : Int) (H_5 : Heap), xC Try.prog good 12 [.int .u64 t0, .agg #[.int .i64 t62c0, .int .i64 t62c1, .int .u32 t62c2, .slice t62c3a t62c3n t62c3k, .int .u32 t62c4]] H_4 = some (.tuple #[.slice t63r0a t63r0n t63r0k, .int .i64 t63r1], H_5) ∧
    (∃ (t67 : ByteArray), pstrb H_5 t45r0a t45r0n = some t67 ∧
    (∃ (t69 : ByteArray), pstrb H_5 t51r0a t51r0n = some t69 ∧
    (if t67.toList = t69.toList then
    (if t45r1 = t51r1 then
    (∃ (t78 : ByteArray), pstrb H_5 t57r0a t57r0n = some t78 ∧
    (∃ (t80 : ByteArray), pstrb H_5 t63r0a t63r0n = some t80 ∧
    (if t78.toList = t80.toList then
    (L1 (t3a) (t3n) (t3k) (t4) (t5) (t6a) (t6n) (t6k) (t51r0a) (t51r0n) (t51r0k) (t63r0a) (t63r0n) (t63r0k) ((!(t57r1 == t63r1))) H_5 r)
    else
    (L1 (t3a) (t3n) (t3k) (t4) (t5) (t6a) (t6n) (t6k) (t51r0a) (t51r0n) (t51r0k) (t63r0a) (t63r0n) (t63r0k) (true) H_5 r))))
    else
    (L1 (t3a) (t3n) (t3k) (t4) (t5) (t6a) (t6n) (t6k) (t51r0a) (t51r0n) (t51r0k) (t63r0a) (t63r0n) (t63r0k) (true) H_5 r))
    else
    (L1 (t3a) (t3n) (t3k) (t4) (t5) (t6a) (t6n) (t6k) (t51r0a) (t51r0n) (t51r0k) (t63r0a) (t63r0n) (t63r0k) (true) H_5 r))))))))))))) :
    L0 t0 t3a t3n t3k t4 t5 t6a t6n t6k t8b t8o t9b t9o t40 H r := by
  intro J
  show KR _ _ _ (.code (sub B [1, 0, 1]) :: S1) _ _ _
  by_cases c6 : t40 = true
  · replace h := iteT c6 h
    refine KR.br true (by kernel_rfl) (vB (bT c6)) ?_
    refine KR.run 2 [] 144 (s' := (.reg (opsAt (sub B [1, 0, 1, 0, 0])) [0, 1] :: S3)) (by kernel_rfl) fun J => ?_
    obtain ⟨t41, H_1, q7, h⟩ := h
    refine KR.se (one_ca (by kernel_rfl) q7) ?_
    refine KR.run 2 [(14, .bool t41)] 144 (s' := (.code (sub B [1, 0, 1, 0, 1]) :: S1)) (by kernel_rfl) fun J => ?_
    exact KR.fin (by kernel_rfl) h
  · replace h := iteF c6 h
    refine KR.br false (by kernel_rfl) (vB (bF c6)) ?_
    refine KR.run 4 [(0, .int .u64 t0), (3, .slice t3a t3n t3k), (4, .int .u8 t4), (5, .int .i64 t5), (6, .slice t6a t6n t6k), (8, .pointer (some ⟨t8b, t8o, none⟩)), (9, .pointer (some ⟨t9b, t9o, none⟩)), (43, .int .u64 t0)] 144 (s' := (.reg (opsAt (sub B [1, 1, 0])) [1, 2, 3, 4, 5, 6, 7] :: S4)) (by kernel_rfl) fun J => ?_
    obtain ⟨t44c0, t44c1, t44c2, t44c3, t44c4, q8, h⟩ := h
    refine KR.rd (one_ldA (by kernel_rfl) q8) ?_
    obtain ⟨t45r0a, t45r0n, t45r0k, t45r1, H_2, q9, h⟩ := h
    refine KR.se (one_ca (by kernel_rfl) q9) ?_
    refine KR.run 9 [(0, .int .u64 t0), (3, .slice t3a t3n t3k), (4, .int .u8 t4), (5, .int .i64 t5), (6, .slice t6a t6n t6k), (8, .pointer (some ⟨t8b, t8o, none⟩)), (9, .pointer (some ⟨t9b, t9o, none⟩)), (15, .slice t45r0a t45r0n t45r0k), (16, .int .i64 t45r1), (49, .int .u64 t0)] 144 (s' := (.reg (opsAt (sub B [1, 1, 1, 0])) [1, 2, 3, 4, 5, 6, 7] :: S5)) (by kernel_rfl) fun J => ?_
    obtain ⟨t50c0, t50c1, t50c2, t50c3, t50c4, q10, h⟩ := h
    refine KR.rd (one_ldA (by kernel_rfl) q10) ?_
    obtain ⟨t51r0a, t51r0n, t51r0k, t51r1, H_3, q11, h⟩ := h
    refine KR.se (one_ca (by kernel_rfl) q11) ?_
    refine KR.run 9 [(0, .int .u64 t0), (3, .slice t3a t3n t3k), (4, .int .u8 t4), (5, .int .i64 t5), (6, .slice t6a t6n t6k), (9, .pointer (some ⟨t9b, t9o, none⟩)), (15, .slice t45r0a t45r0n t45r0k), (16, .int .i64 t45r1), (17, .slice t51r0a t51r0n t51r0k), (18, .int .i64 t51r1), (55, .int .u64 t0)] 144 (s' := (.reg (opsAt (sub B [1, 1, 1, 1, 0])) [1, 2, 3, 4, 5, 6, 7] :: S6)) (by kernel_rfl) fun J => ?_
    obtain ⟨t56c0, t56c1, t56c2, t56c3a, t56c3n, t56c3k, t56c4, q12, h⟩ := h
    refine KR.rd (one_ldA (by kernel_rfl) q12) ?_
    obtain ⟨t57r0a, t57r0n, t57r0k, t57r1, H_4, q13, h⟩ := h
    refine KR.se (one_ca (by kernel_rfl) q13) ?_
    refine KR.run 9 [(3, .slice t3a t3n t3k), (4, .int .u8 t4), (5, .int .i64 t5), (6, .slice t6a t6n t6k), (9, .pointer (some ⟨t9b, t9o, none⟩)), (15, .slice t45r0a t45r0n t45r0k), (16, .int .i64 t45r1), (17, .slice t51r0a t51r0n t51r0k), (18, .int .i64 t51r1), (19, .slice t57r0a t57r0n t57r0k), (20, .int .i64 t57r1), (61, .int .u64 t0)] 144 (s' := (.reg (opsAt (sub B [1, 1, 1, 1, 1, 0])) [1, 2, 3, 4, 5, 6, 7] :: S7)) (by kernel_rfl) fun J => ?_
    obtain ⟨t62c0, t62c1, t62c2, t62c3a, t62c3n, t62c3k, t62c4, q14, h⟩ := h
    refine KR.rd (one_ldA (by kernel_rfl) q14) ?_
    obtain ⟨t63r0a, t63r0n, t63r0k, t63r1, H_5, q15, h⟩ := h
    refine KR.se (one_ca (by kernel_rfl) q15) ?_
    refine KR.run 10 [(3, .slice t3a t3n t3k), (4, .int .u8 t4), (5, .int .i64 t5), (6, .slice t6a t6n t6k), (16, .int .i64 t45r1), (17, .slice t51r0a t51r0n t51r0k), (18, .int .i64 t51r1), (19, .slice t57r0a t57r0n t57r0k), (20, .int .i64 t57r1), (21, .slice t63r0a t63r0n t63r0k), (22, .int .i64 t63r1), (66, .slice t45r0a t45r0n t45r0k)] 144 (s' := (.reg (opsAt (sub B [1, 1, 1, 1, 1, 1, 0, 0])) [1, 2, 3, 4, 5, 6, 7, 8, 9, 10, 11, 12, 13, 14, 15, 16, 17, 18, 19, 20, 21] :: S9)) (by kernel_rfl) fun J => ?_
    obtain ⟨t67, q16, h⟩ := h
    refine KR.rd (one_str (by kernel_rfl) q16) ?_
    refine KR.run 1 [(3, .slice t3a t3n t3k), (4, .int .u8 t4), (5, .int .i64 t5), (6, .slice t6a t6n t6k), (16, .int .i64 t45r1), (17, .slice t51r0a t51r0n t51r0k), (18, .int .i64 t51r1), (19, .slice t57r0a t57r0n t57r0k), (20, .int .i64 t57r1), (21, .slice t63r0a t63r0n t63r0k), (22, .int .i64 t63r1), (67, .string t67), (68, .slice t51r0a t51r0n t51r0k)] 144 (s' := (.reg (opsAt (sub B [1, 1, 1, 1, 1, 1, 0, 0])) [3, 4, 5, 6, 7, 8, 9, 10, 11, 12, 13, 14, 15, 16, 17, 18, 19, 20, 21] :: S9)) (by kernel_rfl) fun J => ?_
    obtain ⟨t69, q17, h⟩ := h
    refine KR.rd (one_str (by kernel_rfl) q17) ?_
    refine KR.run 2 [(3, .slice t3a t3n t3k), (4, .int .u8 t4), (5, .int .i64 t5), (6, .slice t6a t6n t6k), (16, .int .i64 t45r1), (17, .slice t51r0a t51r0n t51r0k), (18, .int .i64 t51r1), (19, .slice t57r0a t57r0n t57r0k), (20, .int .i64 t57r1), (21, .slice t63r0a t63r0n t63r0k), (22, .int .i64 t63r1), (71, .bool (!(t67.toList == t69.toList)))] 144 (s' := (.reg (opsAt (sub B [1, 1, 1, 1, 1, 1, 0, 0])) [6, 7, 8, 9, 10, 11, 12, 13, 14, 15, 16, 17, 18, 19, 20, 21] :: S9)) (by kernel_rfl) fun J => ?_
    by_cases c18 : t67.toList = t69.toList
    · replace h := iteT c18 h
      refine KR.setV 71 (by kernel_rfl) (nB (eT c18)) ?_
      refine KR.run 5 [(3, .slice t3a t3n t3k), (4, .int .u8 t4), (5, .int .i64 t5), (6, .slice t6a t6n t6k), (17, .slice t51r0a t51r0n t51r0k), (19, .slice t57r0a t57r0n t57r0k), (20, .int .i64 t57r1), (21, .slice t63r0a t63r0n t63r0k), (22, .int .i64 t63r1), (76, .bool (!(t45r1 == t51r1)))] 144 (s' := (.reg (opsAt (sub B [1, 1, 1, 1, 1, 1, 0, 0])) [11, 12, 13, 14, 15, 16, 17, 18, 19, 20, 21] :: S9)) (by kernel_rfl) fun J => ?_
      by_cases c19 : t45r1 = t51r1
      · replace h := iteT c19 h
        refine KR.setV 76 (by kernel_rfl) (nB (eT c19)) ?_
        refine KR.run 1 [(3, .slice t3a t3n t3k), (4, .int .u8 t4), (5, .int .i64 t5), (6, .slice t6a t6n t6k), (17, .slice t51r0a t51r0n t51r0k), (20, .int .i64 t57r1), (21, .slice t63r0a t63r0n t63r0k), (22, .int .i64 t63r1), (76, .bool false), (77, .slice t57r0a t57r0n t57r0k)] 144 (s' := (.reg (opsAt (sub B [1, 1, 1, 1, 1, 1, 0, 0])) [12, 13, 14, 15, 16, 17, 18, 19, 20, 21] :: S9)) (by kernel_rfl) fun J => ?_
        obtain ⟨t78, q20, h⟩ := h
        refine KR.rd (one_str (by kernel_rfl) q20) ?_
        refine KR.run 1 [(3, .slice t3a t3n t3k), (4, .int .u8 t4), (5, .int .i64 t5), (6, .slice t6a t6n t6k), (17, .slice t51r0a t51r0n t51r0k), (20, .int .i64 t57r1), (21, .slice t63r0a t63r0n t63r0k), (22, .int .i64 t63r1), (76, .bool false), (78, .string t78), (79, .slice t63r0a t63r0n t63r0k)] 144 (s' := (.reg (opsAt (sub B [1, 1, 1, 1, 1, 1, 0, 0])) [14, 15, 16, 17, 18, 19, 20, 21] :: S9)) (by kernel_rfl) fun J => ?_
        obtain ⟨t80, q21, h⟩ := h
        refine KR.rd (one_str (by kernel_rfl) q21) ?_
        refine KR.run 3 [(3, .slice t3a t3n t3k), (4, .int .u8 t4), (5, .int .i64 t5), (6, .slice t6a t6n t6k), (17, .slice t51r0a t51r0n t51r0k), (20, .int .i64 t57r1), (21, .slice t63r0a t63r0n t63r0k), (22, .int .i64 t63r1), (83, .bool (!(t78.toList == t80.toList)))] 144 (s' := (.reg (opsAt (sub B [1, 1, 1, 1, 1, 1, 0, 0])) [18, 19, 20, 21] :: S9)) (by kernel_rfl) fun J => ?_
        by_cases c22 : t78.toList = t80.toList
        · replace h := iteT c22 h
          refine KR.setV 83 (by kernel_rfl) (nB (eT c22)) ?_
          exact KR.run 5 [(3, .slice t3a t3n t3k), (4, .int .u8 t4), (5, .int .i64 t5), (6, .slice t6a t6n t6k), (17, .slice t51r0a t51r0n t51r0k), (21, .slice t63r0a t63r0n t63r0k), (87, .bool (!(t57r1 == t63r1)))] 144 (s' := (.code (sub B [1, 1, 1, 1, 1, 1, 0, 1]) :: S8)) (by kernel_rfl) h
        · replace h := iteF c22 h
          refine KR.setV 83 (by kernel_rfl) (nB (eF c22)) ?_
          exact KR.run 5 [(3, .slice t3a t3n t3k), (4, .int .u8 t4), (5, .int .i64 t5), (6, .slice t6a t6n t6k), (17, .slice t51r0a t51r0n t51r0k), (21, .slice t63r0a t63r0n t63r0k), (87, .bool true)] 144 (s' := (.code (sub B [1, 1, 1, 1, 1, 1, 0, 1]) :: S8)) (by kernel_rfl) h
      · replace h := iteF c19 h
        refine KR.setV 76 (by kernel_rfl) (nB (eF c19)) ?_
        exact KR.run 12 [(3, .slice t3a t3n t3k), (4, .int .u8 t4), (5, .int .i64 t5), (6, .slice t6a t6n t6k), (17, .slice t51r0a t51r0n t51r0k), (21, .slice t63r0a t63r0n t63r0k), (87, .bool true)] 144 (s' := (.code (sub B [1, 1, 1, 1, 1, 1, 0, 1]) :: S8)) (by kernel_rfl) h
    · replace h := iteF c18 h
      refine KR.setV 71 (by kernel_rfl) (nB (eF c18)) ?_
      exact KR.run 17 [(3, .slice t3a t3n t3k), (4, .int .u8 t4), (5, .int .i64 t5), (6, .slice t6a t6n t6k), (17, .slice t51r0a t51r0n t51r0k), (21, .slice t63r0a t63r0n t63r0k), (87, .bool true)] 144 (s' := (.code (sub B [1, 1, 1, 1, 1, 1, 0, 1]) :: S8)) (by kernel_rfl) h
theorem L1_step {t3a : Option Addr} {t3n : Nat} {t3k : Nat} {t4 : Int} {t5 : Int} {t6a : Option Addr} {t6n : Nat} {t6k : Nat} {t17a : Option Addr} {t17n : Nat} {t17k : Nat} {t21a : Option Addr} {t21n : Nat} {t21k : Nat} {t87 : Bool} {H : Heap} {r : Value × Heap} (h :
    if t87 = true then
    (r = (.bool false, H))
    else
    (∃ (t92a : Option Addr) (t92n : Nat) (t92k : Nat) (H_1 : Heap), xC Try.prog good 13 [.slice t17a t17n t17k, .slice t3a t3n t3k, .int .u8 t4, .int .i64 t5] H = some (.slice t92a t92n t92k, H_1) ∧
    (∃ (t97a : Option Addr) (t97n : Nat) (t97k : Nat) (H_2 : Heap), xC Try.prog good 13 [.slice t21a t21n t21k, .slice t3a t3n t3k, .int .u8 t4, .int .i64 t5] H_1 = some (.slice t97a t97n t97k, H_2) ∧
    (L2 (t92a) (t92n) (t92k) (t97a) (t97n) (t97k) (t6a) (t6n) (t6k) 0 H_2 r)))) :
    L1 t3a t3n t3k t4 t5 t6a t6n t6k t17a t17n t17k t21a t21n t21k t87 H r := by
  intro J
  show KR _ _ _ (.code (sub B [1, 1, 1, 1, 1, 1, 0, 1]) :: S8) _ _ _
  by_cases c23 : t87 = true
  · replace h := iteT c23 h
    refine KR.br true (by kernel_rfl) (vB (bT c23)) ?_
    refine KR.run 4 [(14, .bool false)] 144 (s' := (.code (sub B [1, 1, 1, 1, 1, 1, 0, 1, 0, 1]) :: S8)) (by kernel_rfl) fun J => ?_
    exact KR.fin (by kernel_rfl) h
  · replace h := iteF c23 h
    refine KR.br false (by kernel_rfl) (vB (bF c23)) ?_
    refine KR.run 8 [(3, .slice t3a t3n t3k), (4, .int .u8 t4), (5, .int .i64 t5), (6, .slice t6a t6n t6k), (21, .slice t21a t21n t21k), (88, .slice t17a t17n t17k), (89, .slice t3a t3n t3k), (90, .int .u8 t4), (91, .int .i64 t5)] 144 (s' := (.reg (opsAt (sub B [1, 1, 1, 1, 1, 1, 1, 0, 0])) [4, 5, 6, 7, 8, 9, 10, 11, 12] :: S11)) (by kernel_rfl) fun J => ?_
    obtain ⟨t92a, t92n, t92k, H_1, q24, h⟩ := h
    refine KR.se (one_ca (by kernel_rfl) q24) ?_
    refine KR.run 4 [(6, .slice t6a t6n t6k), (92, .slice t92a t92n t92k), (93, .slice t21a t21n t21k), (94, .slice t3a t3n t3k), (95, .int .u8 t4), (96, .int .i64 t5)] 144 (s' := (.reg (opsAt (sub B [1, 1, 1, 1, 1, 1, 1, 0, 0])) [9, 10, 11, 12] :: S11)) (by kernel_rfl) fun J => ?_
    obtain ⟨t97a, t97n, t97k, H_2, q25, h⟩ := h
    refine KR.se (one_ca (by kernel_rfl) q25) ?_
    exact KR.run 6 [(99, .agg #[.slice t92a t92n t92k, .slice t97a t97n t97k, .slice t6a t6n t6k]), (100, .int .i64 0)] 144 (s' := (.lp (sub B [1, 1, 1, 1, 1, 1, 1, 0, 1, 0, 0]) :: S12)) (by kernel_rfl) h
theorem L2_step {t99c0a : Option Addr} {t99c0n : Nat} {t99c0k : Nat} {t99c1a : Option Addr} {t99c1n : Nat} {t99c1k : Nat} {t99c2a : Option Addr} {t99c2n : Nat} {t99c2k : Nat} {t100 : Int} {H : Heap} {r : Value × Heap} (h :
    if t100 < 3 then
    (∃ (t102a : Option Addr) (t102n : Nat) (t102k : Nat), pag [.slice t99c0a t99c0n t99c0k, .slice t99c1a t99c1n t99c1k, .slice t99c2a t99c2n t99c2k] t100 = some (.slice t102a t102n t102k) ∧
    (∃ (t105r0c0 : Int) (t105r0c1 : Int) (t105r0c2 : Int) (t105r0c3 : Int) (t105r0c4 : Int) (t105r1 : Int) (H_1 : Heap), xC Try.prog good 14 [.slice t102a t102n t102k] H = some (.tuple #[.agg #[.int .i64 t105r0c0, .int .i64 t105r0c1, .int .u32 t105r0c2, .int .u32 t105r0c3, .int .u32 t105r0c4], .int .i64 t105r1], H_1) ∧
    (∃ (H_2 : Heap), H_2 = H_1.push (.row [.int .i64 0, .int .i64 0, .int .u32 0, .int .u32 0, .int .u32 0] true) ∧
    (∃ (H_3 : Heap), stc H_2 H_1.next 0 [.int .i64 t105r0c0, .int .i64 t105r0c1, .int .u32 t105r0c2, .int .u32 t105r0c3, .int .u32 t105r0c4] = some H_3 ∧
    (∃ (t110r0c0 : Int) (t110r0c1 : Int) (t110r0c2 : Int) (t110r0c3 : Int) (t110r0c4 : Int) (t110r1 : Int) (H_4 : Heap), xC Try.prog good 15 [.slice t102a t102n t102k] H_3 = some (.tuple #[.agg #[.int .i64 t110r0c0, .int .i64 t110r0c1, .int .u32 t110r0c2, .int .u32 t110r0c3, .int .u32 t110r0c4], .int .i64 t110r1], H_4) ∧
    (∃ (H_5 : Heap), H_5 = H_4.push (.row [.int .i64 0, .int .i64 0, .int .u32 0, .int .u32 0, .int .u32 0] true) ∧
    (∃ (H_6 : Heap), stc H_5 H_4.next 0 [.int .i64 t110r0c0, .int .i64 t110r0c1, .int .u32 t110r0c2, .int .u32 t110r0c3, .int .u32 t110r0c4] = some H_6 ∧
    (∃ (t115r0c0 : Int) (t115r0c1 : Int) (t115r0c2 : Int) (t115r0c3a : Option Addr) (t115r0c3n : Nat) (t115r0c3k : Nat) (t115r0c4 : Int) (t115r1 : Int) (H_7 : Heap), xC Try.prog good 16 [.slice t102a t102n t102k] H_6 = some (.tuple #[.agg #[.int .i64 t115r0c0, .int .i64 t115r0c1, .int .u32 t115r0c2, .slice t115r0c3a t115r0c3n t115r0c3k, .int .u32 t115r0c4], .int .i64 t115r1], H_7) ∧
    (∃ (H_8 : Heap), H_8 = H_7.push (.row [.int .i64 0, .int .i64 0, .int .u32 0, .slice none 0 0, .int .u32 0] true) ∧
    (∃ (H_9 : Heap), stc H_8 H_7.next 0 [.int .i64 t115r0c0, .int .i64 t115r0c1, .int .u32 t115r0c2, .slice t115r0c3a t115r0c3n t115r0c3k, .int .u32 t115r0c4] = some H_9 ∧
    (∃ (t120r0c0 : Int) (t120r0c1 : Int) (t120r0c2 : Int) (t120r0c3a : Option Addr) (t120r0c3n : Nat) (t120r0c3k : Nat) (t120r0c4 : Int) (t120r1 : Int) (H_10 : Heap), xC Try.prog good 17 [.slice t102a t102n t102k] H_9 = some (.tuple #[.agg #[.int .i64 t120r0c0, .int .i64 t120r0c1, .int .u32 t120r0c2, .slice t120r0c3a t120r0c3n t120r0c3k, .int .u32 t120r0c4], .int .i64 t120r1], H_10) ∧
    (∃ (H_11 : Heap), H_11 = H_10.push (.row [.int .i64 0, .int .i64 0, .int .u32 0, .slice none 0 0, .int .u32 0] true) ∧
    (∃ (H_12 : Heap), stc H_11 H_10.next 0 [.int .i64 t120r0c0, .int .i64 t120r0c1, .int .u32 t120r0c2, .slice t120r0c3a t120r0c3n t120r0c3k, .int .u32 t120r0c4] = some H_12 ∧
    (∃ (t123c0 : Int) (t123c1 : Int) (t123c2 : Int) (t123c3 : Int) (t123c4 : Int), ldAll H_12 H_1.next 0 [.int .i64 t123c0, .int .i64 t123c1, .int .u32 t123c2, .int .u32 t123c3, .int .u32 t123c4] ∧
    (∃ (t124c0 : Int) (t124c1 : Int) (t124c2 : Int) (t124c3 : Int) (t124c4 : Int), ldAll H_12 H_4.next 0 [.int .i64 t124c0, .int .i64 t124c1, .int .u32 t124c2, .int .u32 t124c3, .int .u32 t124c4] ∧
    (if ((t123c0 == t124c0) && ((t123c1 == t124c1) && ((t123c2 == t124c2) && ((t123c3 == t124c3) && ((t123c4 == t124c4) && true))))) = true then
    (if t105r1 = t110r1 then
    (∃ (t132c0 : Int) (t132c1 : Int) (t132c2 : Int) (t132c3a : Option Addr) (t132c3n : Nat) (t132c3k : Nat) (t132c4 : Int), ldAll H_12 H_7.next 0 [.int .i64 t132c0, .int .i64 t132c1, .int .u32 t132c2, .slice t132c3a t132c3n t132c3k, .int .u32 t132c4] ∧
    (∃ (t133c0 : Int) (t133c1 : Int) (t133c2 : Int) (t133c3a : Option Addr) (t133c3n : Nat) (t133c3k : Nat) (t133c4 : Int), ldAll H_12 H_10.next 0 [.int .i64 t133c0, .int .i64 t133c1, .int .u32 t133c2, .slice t133c3a t133c3n t133c3k, .int .u32 t133c4] ∧
    (∃ (t134 : Bool) (H_13 : Heap), xC Try.prog good 18 [.agg #[.int .i64 t132c0, .int .i64 t132c1, .int .u32 t132c2, .slice t132c3a t132c3n t132c3k, .int .u32 t132c4], .agg #[.int .i64 t133c0, .int .i64 t133c1, .int .u32 t133c2, .slice t133c3a t133c3n t133c3k, .int .u32 t133c4]] H_12 = some (.bool t134, H_13) ∧
    (if t134 = true then
    (L3 (t99c0a) (t99c0n) (t99c0k) (t99c1a) (t99c1n) (t99c1k) (t99c2a) (t99c2n) (t99c2k) (t100) ((!(t115r1 == t120r1))) H_13 r)
    else
    (L3 (t99c0a) (t99c0n) (t99c0k) (t99c1a) (t99c1n) (t99c1k) (t99c2a) (t99c2n) (t99c2k) (t100) (true) H_13 r)))))
    else
    (L3 (t99c0a) (t99c0n) (t99c0k) (t99c1a) (t99c1n) (t99c1k) (t99c2a) (t99c2n) (t99c2k) (t100) (true) H_12 r))
    else
    (L3 (t99c0a) (t99c0n) (t99c0k) (t99c1a) (t99c1n) (t99c1k) (t99c2a) (t99c2n) (t99c2k) (t100) (true) H_12 r)))))))))))))))))
    else
    (∃ (t143 : Bool) (H_14 : Heap), xC Try.prog good 8 [] H = some (.bool t143, H_14) ∧
    (r = (.bool t143, H_14)))) :
    L2 t99c0a t99c0n t99c0k t99c1a t99c1n t99c1k t99c2a t99c2n t99c2k t100 H r := by
  intro J
  show KR _ _ _ (.lp (sub B [1, 1, 1, 1, 1, 1, 1, 0, 1, 0, 0]) :: S12) _ _ _
  refine KR.run 6 [(99, .agg #[.slice t99c0a t99c0n t99c0k, .slice t99c1a t99c1n t99c1k, .slice t99c2a t99c2n t99c2k]), (100, .int .i64 t100), (101, .bool (decide (t100 < 3)))] 144 (s' := (.code (sub B [1, 1, 1, 1, 1, 1, 1, 0, 1, 0, 0, 1, 0]) :: S14)) (by kernel_rfl) fun J => ?_
  by_cases c26 : t100 < 3
  · replace h := iteT c26 h
    refine KR.br true (by kernel_rfl) (vB (dT c26)) ?_
    refine KR.run 5 [(99, .agg #[.slice t99c0a t99c0n t99c0k, .slice t99c1a t99c1n t99c1k, .slice t99c2a t99c2n t99c2k]), (100, .int .i64 t100)] 144 (s' := (.reg (opsAt (sub B [1, 1, 1, 1, 1, 1, 1, 0, 1, 0, 0, 1, 1, 0, 0, 0])) [0, 1] :: S17)) (by kernel_rfl) fun J => ?_
    obtain ⟨t102a, t102n, t102k, q27, h⟩ := h
    refine KR.p (one_ag (by kernel_rfl) q27) ?_
    refine KR.run 5 [(24, .slice t102a t102n t102k), (99, .agg #[.slice t99c0a t99c0n t99c0k, .slice t99c1a t99c1n t99c1k, .slice t99c2a t99c2n t99c2k]), (100, .int .i64 t100), (104, .slice t102a t102n t102k)] 144 (s' := (.reg (opsAt (sub B [1, 1, 1, 1, 1, 1, 1, 0, 1, 0, 0, 1, 1, 0, 0, 1, 0])) [1, 2, 3, 4, 5, 6, 7] :: S18)) (by kernel_rfl) fun J => ?_
    obtain ⟨t105r0c0, t105r0c1, t105r0c2, t105r0c3, t105r0c4, t105r1, H_1, q28, h⟩ := h
    refine KR.se (one_ca (by kernel_rfl) q28) ?_
    refine KR.run 3 [(24, .slice t102a t102n t102k), (99, .agg #[.slice t99c0a t99c0n t99c0k, .slice t99c1a t99c1n t99c1k, .slice t99c2a t99c2n t99c2k]), (100, .int .i64 t100), (106, .agg #[.int .i64 t105r0c0, .int .i64 t105r0c1, .int .u32 t105r0c2, .int .u32 t105r0c3, .int .u32 t105r0c4]), (107, .int .i64 t105r1)] 144 (s' := (.reg (opsAt (sub B [1, 1, 1, 1, 1, 1, 1, 0, 1, 0, 0, 1, 1, 0, 0, 1, 0])) [5, 6, 7] :: S18)) (by kernel_rfl) fun J => ?_
    obtain ⟨H_2, q29, h⟩ := h
    refine KR.mk (w := pRow [.int .i64 0, .int .i64 0, .int .u32 0, .int .u32 0, .int .u32 0]) (one_al (by kernel_rfl)) q29 ?_
    obtain ⟨H_3, q30, h⟩ := h
    refine KR.se (one_st (by kernel_rfl) q30) ?_
    refine KR.run 5 [(24, .slice t102a t102n t102k), (25, .pointer (some ⟨H_1.next, 0, none⟩)), (26, .int .i64 t105r1), (99, .agg #[.slice t99c0a t99c0n t99c0k, .slice t99c1a t99c1n t99c1k, .slice t99c2a t99c2n t99c2k]), (100, .int .i64 t100), (109, .slice t102a t102n t102k)] 144 (s' := (.reg (opsAt (sub B [1, 1, 1, 1, 1, 1, 1, 0, 1, 0, 0, 1, 1, 0, 0, 1, 1, 0])) [1, 2, 3, 4, 5, 6, 7] :: S19)) (by kernel_rfl) fun J => ?_
    obtain ⟨t110r0c0, t110r0c1, t110r0c2, t110r0c3, t110r0c4, t110r1, H_4, q31, h⟩ := h
    refine KR.se (one_ca (by kernel_rfl) q31) ?_
    refine KR.run 3 [(24, .slice t102a t102n t102k), (25, .pointer (some ⟨H_1.next, 0, none⟩)), (26, .int .i64 t105r1), (99, .agg #[.slice t99c0a t99c0n t99c0k, .slice t99c1a t99c1n t99c1k, .slice t99c2a t99c2n t99c2k]), (100, .int .i64 t100), (111, .agg #[.int .i64 t110r0c0, .int .i64 t110r0c1, .int .u32 t110r0c2, .int .u32 t110r0c3, .int .u32 t110r0c4]), (112, .int .i64 t110r1)] 144 (s' := (.reg (opsAt (sub B [1, 1, 1, 1, 1, 1, 1, 0, 1, 0, 0, 1, 1, 0, 0, 1, 1, 0])) [5, 6, 7] :: S19)) (by kernel_rfl) fun J => ?_
    obtain ⟨H_5, q32, h⟩ := h
    refine KR.mk (w := pRow [.int .i64 0, .int .i64 0, .int .u32 0, .int .u32 0, .int .u32 0]) (one_al (by kernel_rfl)) q32 ?_
    obtain ⟨H_6, q33, h⟩ := h
    refine KR.se (one_st (by kernel_rfl) q33) ?_
    refine KR.run 5 [(24, .slice t102a t102n t102k), (25, .pointer (some ⟨H_1.next, 0, none⟩)), (26, .int .i64 t105r1), (27, .pointer (some ⟨H_4.next, 0, none⟩)), (28, .int .i64 t110r1), (99, .agg #[.slice t99c0a t99c0n t99c0k, .slice t99c1a t99c1n t99c1k, .slice t99c2a t99c2n t99c2k]), (100, .int .i64 t100), (114, .slice t102a t102n t102k)] 144 (s' := (.reg (opsAt (sub B [1, 1, 1, 1, 1, 1, 1, 0, 1, 0, 0, 1, 1, 0, 0, 1, 1, 1, 0])) [1, 2, 3, 4, 5, 6, 7] :: S20)) (by kernel_rfl) fun J => ?_
    obtain ⟨t115r0c0, t115r0c1, t115r0c2, t115r0c3a, t115r0c3n, t115r0c3k, t115r0c4, t115r1, H_7, q34, h⟩ := h
    refine KR.se (one_ca (by kernel_rfl) q34) ?_
    refine KR.run 3 [(24, .slice t102a t102n t102k), (25, .pointer (some ⟨H_1.next, 0, none⟩)), (26, .int .i64 t105r1), (27, .pointer (some ⟨H_4.next, 0, none⟩)), (28, .int .i64 t110r1), (99, .agg #[.slice t99c0a t99c0n t99c0k, .slice t99c1a t99c1n t99c1k, .slice t99c2a t99c2n t99c2k]), (100, .int .i64 t100), (116, .agg #[.int .i64 t115r0c0, .int .i64 t115r0c1, .int .u32 t115r0c2, .slice t115r0c3a t115r0c3n t115r0c3k, .int .u32 t115r0c4]), (117, .int .i64 t115r1)] 144 (s' := (.reg (opsAt (sub B [1, 1, 1, 1, 1, 1, 1, 0, 1, 0, 0, 1, 1, 0, 0, 1, 1, 1, 0])) [5, 6, 7] :: S20)) (by kernel_rfl) fun J => ?_
    obtain ⟨H_8, q35, h⟩ := h
    refine KR.mk (w := pRow [.int .i64 0, .int .i64 0, .int .u32 0, .slice none 0 0, .int .u32 0]) (one_al (by kernel_rfl)) q35 ?_
    obtain ⟨H_9, q36, h⟩ := h
    refine KR.se (one_st (by kernel_rfl) q36) ?_
    refine KR.run 5 [(25, .pointer (some ⟨H_1.next, 0, none⟩)), (26, .int .i64 t105r1), (27, .pointer (some ⟨H_4.next, 0, none⟩)), (28, .int .i64 t110r1), (29, .pointer (some ⟨H_7.next, 0, none⟩)), (30, .int .i64 t115r1), (99, .agg #[.slice t99c0a t99c0n t99c0k, .slice t99c1a t99c1n t99c1k, .slice t99c2a t99c2n t99c2k]), (100, .int .i64 t100), (119, .slice t102a t102n t102k)] 144 (s' := (.reg (opsAt (sub B [1, 1, 1, 1, 1, 1, 1, 0, 1, 0, 0, 1, 1, 0, 0, 1, 1, 1, 1, 0])) [1, 2, 3, 4, 5, 6, 7] :: S21)) (by kernel_rfl) fun J => ?_
    obtain ⟨t120r0c0, t120r0c1, t120r0c2, t120r0c3a, t120r0c3n, t120r0c3k, t120r0c4, t120r1, H_10, q37, h⟩ := h
    refine KR.se (one_ca (by kernel_rfl) q37) ?_
    refine KR.run 3 [(25, .pointer (some ⟨H_1.next, 0, none⟩)), (26, .int .i64 t105r1), (27, .pointer (some ⟨H_4.next, 0, none⟩)), (28, .int .i64 t110r1), (29, .pointer (some ⟨H_7.next, 0, none⟩)), (30, .int .i64 t115r1), (99, .agg #[.slice t99c0a t99c0n t99c0k, .slice t99c1a t99c1n t99c1k, .slice t99c2a t99c2n t99c2k]), (100, .int .i64 t100), (121, .agg #[.int .i64 t120r0c0, .int .i64 t120r0c1, .int .u32 t120r0c2, .slice t120r0c3a t120r0c3n t120r0c3k, .int .u32 t120r0c4]), (122, .int .i64 t120r1)] 144 (s' := (.reg (opsAt (sub B [1, 1, 1, 1, 1, 1, 1, 0, 1, 0, 0, 1, 1, 0, 0, 1, 1, 1, 1, 0])) [5, 6, 7] :: S21)) (by kernel_rfl) fun J => ?_
    obtain ⟨H_11, q38, h⟩ := h
    refine KR.mk (w := pRow [.int .i64 0, .int .i64 0, .int .u32 0, .slice none 0 0, .int .u32 0]) (one_al (by kernel_rfl)) q38 ?_
    obtain ⟨H_12, q39, h⟩ := h
    refine KR.se (one_st (by kernel_rfl) q39) ?_
    refine KR.run 4 [(25, .pointer (some ⟨H_1.next, 0, none⟩)), (26, .int .i64 t105r1), (27, .pointer (some ⟨H_4.next, 0, none⟩)), (28, .int .i64 t110r1), (29, .pointer (some ⟨H_7.next, 0, none⟩)), (30, .int .i64 t115r1), (31, .pointer (some ⟨H_10.next, 0, none⟩)), (32, .int .i64 t120r1), (99, .agg #[.slice t99c0a t99c0n t99c0k, .slice t99c1a t99c1n t99c1k, .slice t99c2a t99c2n t99c2k]), (100, .int .i64 t100)] 144 (s' := (.reg (opsAt (sub B [1, 1, 1, 1, 1, 1, 1, 0, 1, 0, 0, 1, 1, 0, 0, 1, 1, 1, 1, 1, 0])) [0, 1, 2, 3, 4, 5, 6, 7, 8, 9, 10, 11, 12, 13, 14, 15, 16, 17, 18] :: S22)) (by kernel_rfl) fun J => ?_
    obtain ⟨t123c0, t123c1, t123c2, t123c3, t123c4, q40, h⟩ := h
    refine KR.rd (one_ldA (by kernel_rfl) q40) ?_
    obtain ⟨t124c0, t124c1, t124c2, t124c3, t124c4, q41, h⟩ := h
    refine KR.rd (one_ldA (by kernel_rfl) q41) ?_
    refine KR.run 2 [(26, .int .i64 t105r1), (28, .int .i64 t110r1), (29, .pointer (some ⟨H_7.next, 0, none⟩)), (30, .int .i64 t115r1), (31, .pointer (some ⟨H_10.next, 0, none⟩)), (32, .int .i64 t120r1), (99, .agg #[.slice t99c0a t99c0n t99c0k, .slice t99c1a t99c1n t99c1k, .slice t99c2a t99c2n t99c2k]), (100, .int .i64 t100), (126, .bool (!((t123c0 == t124c0) && ((t123c1 == t124c1) && ((t123c2 == t124c2) && ((t123c3 == t124c3) && ((t123c4 == t124c4) && true)))))))] 144 (s' := (.reg (opsAt (sub B [1, 1, 1, 1, 1, 1, 1, 0, 1, 0, 0, 1, 1, 0, 0, 1, 1, 1, 1, 1, 0])) [4, 5, 6, 7, 8, 9, 10, 11, 12, 13, 14, 15, 16, 17, 18] :: S22)) (by kernel_rfl) fun J => ?_
    by_cases c42 : ((t123c0 == t124c0) && ((t123c1 == t124c1) && ((t123c2 == t124c2) && ((t123c3 == t124c3) && ((t123c4 == t124c4) && true))))) = true
    · replace h := iteT c42 h
      refine KR.setV 126 (by kernel_rfl) (nB (bT c42)) ?_
      refine KR.run 5 [(29, .pointer (some ⟨H_7.next, 0, none⟩)), (30, .int .i64 t115r1), (31, .pointer (some ⟨H_10.next, 0, none⟩)), (32, .int .i64 t120r1), (99, .agg #[.slice t99c0a t99c0n t99c0k, .slice t99c1a t99c1n t99c1k, .slice t99c2a t99c2n t99c2k]), (100, .int .i64 t100), (131, .bool (!(t105r1 == t110r1)))] 144 (s' := (.reg (opsAt (sub B [1, 1, 1, 1, 1, 1, 1, 0, 1, 0, 0, 1, 1, 0, 0, 1, 1, 1, 1, 1, 0])) [9, 10, 11, 12, 13, 14, 15, 16, 17, 18] :: S22)) (by kernel_rfl) fun J => ?_
      by_cases c43 : t105r1 = t110r1
      · replace h := iteT c43 h
        refine KR.setV 131 (by kernel_rfl) (nB (eT c43)) ?_
        obtain ⟨t132c0, t132c1, t132c2, t132c3a, t132c3n, t132c3k, t132c4, q44, h⟩ := h
        refine KR.rd (one_ldA (by kernel_rfl) q44) ?_
        obtain ⟨t133c0, t133c1, t133c2, t133c3a, t133c3n, t133c3k, t133c4, q45, h⟩ := h
        refine KR.rd (one_ldA (by kernel_rfl) q45) ?_
        obtain ⟨t134, H_13, q46, h⟩ := h
        refine KR.se (one_ca (by kernel_rfl) q46) ?_
        refine KR.run 3 [(30, .int .i64 t115r1), (32, .int .i64 t120r1), (99, .agg #[.slice t99c0a t99c0n t99c0k, .slice t99c1a t99c1n t99c1k, .slice t99c2a t99c2n t99c2k]), (100, .int .i64 t100), (137, .bool (!t134))] 144 (s' := (.reg (opsAt (sub B [1, 1, 1, 1, 1, 1, 1, 0, 1, 0, 0, 1, 1, 0, 0, 1, 1, 1, 1, 1, 0])) [15, 16, 17, 18] :: S22)) (by kernel_rfl) fun J => ?_
        by_cases c47 : t134 = true
        · replace h := iteT c47 h
          refine KR.setV 137 (by kernel_rfl) (nB (bT c47)) ?_
          exact KR.run 5 [(99, .agg #[.slice t99c0a t99c0n t99c0k, .slice t99c1a t99c1n t99c1k, .slice t99c2a t99c2n t99c2k]), (100, .int .i64 t100), (141, .bool (!(t115r1 == t120r1)))] 144 (s' := (.code (sub B [1, 1, 1, 1, 1, 1, 1, 0, 1, 0, 0, 1, 1, 0, 0, 1, 1, 1, 1, 1, 1]) :: S16)) (by kernel_rfl) h
        · replace h := iteF c47 h
          refine KR.setV 137 (by kernel_rfl) (nB (bF c47)) ?_
          exact KR.run 5 [(99, .agg #[.slice t99c0a t99c0n t99c0k, .slice t99c1a t99c1n t99c1k, .slice t99c2a t99c2n t99c2k]), (100, .int .i64 t100), (141, .bool true)] 144 (s' := (.code (sub B [1, 1, 1, 1, 1, 1, 1, 0, 1, 0, 0, 1, 1, 0, 0, 1, 1, 1, 1, 1, 1]) :: S16)) (by kernel_rfl) h
      · replace h := iteF c43 h
        refine KR.setV 131 (by kernel_rfl) (nB (eF c43)) ?_
        exact KR.run 11 [(99, .agg #[.slice t99c0a t99c0n t99c0k, .slice t99c1a t99c1n t99c1k, .slice t99c2a t99c2n t99c2k]), (100, .int .i64 t100), (141, .bool true)] 144 (s' := (.code (sub B [1, 1, 1, 1, 1, 1, 1, 0, 1, 0, 0, 1, 1, 0, 0, 1, 1, 1, 1, 1, 1]) :: S16)) (by kernel_rfl) h
    · replace h := iteF c42 h
      refine KR.setV 126 (by kernel_rfl) (nB (bF c42)) ?_
      exact KR.run 16 [(99, .agg #[.slice t99c0a t99c0n t99c0k, .slice t99c1a t99c1n t99c1k, .slice t99c2a t99c2n t99c2k]), (100, .int .i64 t100), (141, .bool true)] 144 (s' := (.code (sub B [1, 1, 1, 1, 1, 1, 1, 0, 1, 0, 0, 1, 1, 0, 0, 1, 1, 1, 1, 1, 1]) :: S16)) (by kernel_rfl) h
  · replace h := iteF c26 h
    refine KR.br false (by kernel_rfl) (vB (dF c26)) ?_
    refine KR.run 3 [] 144 (s' := (.reg (opsAt (sub B [1, 1, 1, 1, 1, 1, 1, 1, 0])) [0, 1] :: S23)) (by kernel_rfl) fun J => ?_
    obtain ⟨t143, H_14, q48, h⟩ := h
    refine KR.se (one_ca (by kernel_rfl) q48) ?_
    refine KR.run 2 [(14, .bool t143)] 144 (s' := (.code (sub B [1, 1, 1, 1, 1, 1, 1, 1, 1]) :: [])) (by kernel_rfl) fun J => ?_
    exact KR.fin (by kernel_rfl) h
theorem L3_step {t99c0a : Option Addr} {t99c0n : Nat} {t99c0k : Nat} {t99c1a : Option Addr} {t99c1n : Nat} {t99c1k : Nat} {t99c2a : Option Addr} {t99c2n : Nat} {t99c2k : Nat} {t100 : Int} {t141 : Bool} {H : Heap} {r : Value × Heap} (h :
    if t141 = true then
    (r = (.bool false, H))
    else
    (L2 (t99c0a) (t99c0n) (t99c0k) (t99c1a) (t99c1n) (t99c1k) (t99c2a) (t99c2n) (t99c2k) ((IntKind.wrap .i64 (t100 + 1))) H r)) :
    L3 t99c0a t99c0n t99c0k t99c1a t99c1n t99c1k t99c2a t99c2n t99c2k t100 t141 H r := by
  intro J
  show KR _ _ _ (.code (sub B [1, 1, 1, 1, 1, 1, 1, 0, 1, 0, 0, 1, 1, 0, 0, 1, 1, 1, 1, 1, 1]) :: S16) _ _ _
  by_cases c49 : t141 = true
  · replace h := iteT c49 h
    refine KR.br true (by kernel_rfl) (vB (bT c49)) ?_
    refine KR.run 4 [(14, .bool false)] 144 (s' := (.code (sub B [1, 1, 1, 1, 1, 1, 1, 0, 1, 0, 0, 1, 1, 0, 0, 1, 1, 1, 1, 1, 1, 0, 1]) :: S16)) (by kernel_rfl) fun J => ?_
    exact KR.fin (by kernel_rfl) h
  · replace h := iteF c49 h
    refine KR.br false (by kernel_rfl) (vB (bF c49)) ?_
    exact KR.run 6 [(99, .agg #[.slice t99c0a t99c0n t99c0k, .slice t99c1a t99c1n t99c1k, .slice t99c2a t99c2n t99c2k]), (100, .int .i64 (IntKind.wrap .i64 (t100 + 1)))] 144 (s' := (.lp (sub B [1, 1, 1, 1, 1, 1, 1, 0, 1, 0, 0]) :: S12)) (by kernel_rfl) h
theorem call {a0 : Int} {a1c0 : Int} {a1c1 : Int} {a1c2 : Int} {a1c3 : Int} {a1c4 : Int} {a2c0 : Int} {a2c1 : Int} {a2c2 : Int} {a2c3a : Option Addr} {a2c3n : Nat} {a2c3k : Nat} {a2c4 : Int} {a3a : Option Addr} {a3n : Nat} {a3k : Nat} {a4 : Int} {a5 : Int} {a6a : Option Addr} {a6n : Nat} {a6k : Nat} {H : Heap} {r : Value × Heap} (h :
    ∃ (H_1 : Heap), H_1 = H.push (.row [.int .i64 a1c0, .int .i64 a1c1, .int .u32 a1c2, .int .u32 a1c3, .int .u32 a1c4] true) ∧
    (∃ (H_2 : Heap), H_2 = H_1.push (.row [.int .i64 a2c0, .int .i64 a2c1, .int .u32 a2c2, .slice a2c3a a2c3n a2c3k, .int .u32 a2c4] true) ∧
    (∃ (t33c0 : Int) (t33c1 : Int) (t33c2 : Int) (t33c3a : Option Addr) (t33c3n : Nat) (t33c3k : Nat) (t33c4 : Int), ldAll H_2 H_1.next 0 [.int .i64 t33c0, .int .i64 t33c1, .int .u32 t33c2, .slice t33c3a t33c3n t33c3k, .int .u32 t33c4] ∧
    (∃ (t34 : Bool) (H_3 : Heap), xC Try.prog good 7 [.agg #[.int .i64 t33c0, .int .i64 t33c1, .int .u32 t33c2, .slice t33c3a t33c3n t33c3k, .int .u32 t33c4]] H_2 = some (.bool t34, H_3) ∧
    (if t34 = true then
    (L0 (a0) (a3a) (a3n) (a3k) (a4) (a5) (a6a) (a6n) (a6k) (H.next) (0) (H_1.next) (0) ((decide (((a6n : Nat) : Int) > 200))) H_3 r)
    else
    (L0 (a0) (a3a) (a3n) (a3k) (a4) (a5) (a6a) (a6n) (a6k) (H.next) (0) (H_1.next) (0) (true) H_3 r)))))) :
    xC Try.prog good 3 [.int .u64 a0, .agg #[.int .i64 a1c0, .int .i64 a1c1, .int .u32 a1c2, .int .u32 a1c3, .int .u32 a1c4], .agg #[.int .i64 a2c0, .int .i64 a2c1, .int .u32 a2c2, .slice a2c3a a2c3n a2c3k, .int .u32 a2c4], .slice a3a a3n a3k, .int .u8 a4, .int .i64 a5, .slice a6a a6n a6k] H = some r := by
  refine KR.enter (fn := Try.f3) (c := B) (by kernel_rfl) (by kernel_rfl) ?_
  refine KR.run 2 [(0, .int .u64 a0), (1, .agg #[.int .i64 a1c0, .int .i64 a1c1, .int .u32 a1c2, .int .u32 a1c3, .int .u32 a1c4]), (2, .agg #[.int .i64 a2c0, .int .i64 a2c1, .int .u32 a2c2, .slice a2c3a a2c3n a2c3k, .int .u32 a2c4]), (3, .slice a3a a3n a3k), (4, .int .u8 a4), (5, .int .i64 a5), (6, .slice a6a a6n a6k)] 144 (s' := (.reg (opsAt (sub B [0])) [0, 1, 2] :: S0)) (by kernel_rfl) fun J => ?_
  obtain ⟨H_1, q1, h⟩ := h
  refine KR.mk (w := pRow [.int .i64 a1c0, .int .i64 a1c1, .int .u32 a1c2, .int .u32 a1c3, .int .u32 a1c4]) (one_al (by kernel_rfl)) q1 ?_
  obtain ⟨H_2, q2, h⟩ := h
  refine KR.mk (w := pRow [.int .i64 a2c0, .int .i64 a2c1, .int .u32 a2c2, .slice a2c3a a2c3n a2c3k, .int .u32 a2c4]) (one_al (by kernel_rfl)) q2 ?_
  refine KR.run 5 [(0, .int .u64 a0), (3, .slice a3a a3n a3k), (4, .int .u8 a4), (5, .int .i64 a5), (6, .slice a6a a6n a6k), (8, .pointer (some ⟨H.next, 0, none⟩)), (9, .pointer (some ⟨H_1.next, 0, none⟩))] 144 (s' := (.reg (opsAt (sub B [1, 0, 0])) [0, 1, 2, 3, 4, 5, 6, 7] :: S2)) (by kernel_rfl) fun J => ?_
  obtain ⟨t33c0, t33c1, t33c2, t33c3a, t33c3n, t33c3k, t33c4, q3, h⟩ := h
  refine KR.rd (one_ldA (by kernel_rfl) q3) ?_
  obtain ⟨t34, H_3, q4, h⟩ := h
  refine KR.se (one_ca (by kernel_rfl) q4) ?_
  refine KR.run 2 [(0, .int .u64 a0), (3, .slice a3a a3n a3k), (4, .int .u8 a4), (5, .int .i64 a5), (6, .slice a6a a6n a6k), (8, .pointer (some ⟨H.next, 0, none⟩)), (9, .pointer (some ⟨H_1.next, 0, none⟩)), (36, .bool (!t34))] 144 (s' := (.reg (opsAt (sub B [1, 0, 0])) [4, 5, 6, 7] :: S2)) (by kernel_rfl) fun J => ?_
  by_cases c5 : t34 = true
  · replace h := iteT c5 h
    refine KR.setV 36 (by kernel_rfl) (nB (bT c5)) ?_
    exact KR.run 5 [(0, .int .u64 a0), (3, .slice a3a a3n a3k), (4, .int .u8 a4), (5, .int .i64 a5), (6, .slice a6a a6n a6k), (8, .pointer (some ⟨H.next, 0, none⟩)), (9, .pointer (some ⟨H_1.next, 0, none⟩)), (40, .bool (decide (((a6n : Nat) : Int) > 200)))] 144 (s' := (.code (sub B [1, 0, 1]) :: S1)) (by kernel_rfl) h
  · replace h := iteF c5 h
    refine KR.setV 36 (by kernel_rfl) (nB (bF c5)) ?_
    exact KR.run 5 [(0, .int .u64 a0), (3, .slice a3a a3n a3k), (4, .int .u8 a4), (5, .int .i64 a5), (6, .slice a6a a6n a6k), (8, .pointer (some ⟨H.next, 0, none⟩)), (9, .pointer (some ⟨H_1.next, 0, none⟩)), (40, .bool true)] 144 (s' := (.code (sub B [1, 0, 1]) :: S1)) (by kernel_rfl) h
end F3
end Go.X
