/- The walks of the functions: printed. -/
import Derived.Test.YtbfjajoekcbodaaXzGe
set_option linter.unusedVariables false
set_option maxRecDepth 100000
namespace Go.X
open Go Go.RowKit Go.Proofs
/-! #### 6 campanile/campanilelaw6.IeDecodes -/
namespace F6
noncomputable def B : Code := bodyOf Try.f6
noncomputable def S0 : List It := (.code (sub B [1, 1]) :: [])
noncomputable def S3 : List It := (.code (sub B [1, 1, 1]) :: [])
noncomputable def S4 : List It := (.code (sub B [1, 1, 1, 1]) :: [])
noncomputable def S7 : List It := (.code (sub B [1, 1, 1, 1, 1]) :: [])
noncomputable def S13 : List It := (.code (sub B [1, 1, 1, 1, 1, 1]) :: [])
noncomputable def S14 : List It := (.code (sub B [1, 1, 1, 1, 1, 1, 1]) :: [])
noncomputable def S15 : List It := (.code (sub B [1, 1, 1, 1, 1, 1, 1, 1]) :: [])
noncomputable def S1 : List It := (.code (sub B [1, 0, 1]) :: S0)
noncomputable def S2 : List It := (.code (sub B [1, 0, 1, 0, 1]) :: S0)
noncomputable def S5 : List It := (.code (sub B [1, 1, 1, 0, 1, 1, 0, 1]) :: S4)
noncomputable def S16 : List It := (.reg (opsAt (sub B [1, 1, 1, 1, 0])) [0, 1, 2, 3] :: S7)
noncomputable def S6 : List It := (.blk 0 :: S5)
noncomputable def S8 : List It := (.lp (sub B [1, 1, 1, 0, 1, 1, 0, 0, 1, 0, 0]) :: S6)
noncomputable def S9 : List It := (.code (sub B [1, 1, 1, 0, 1, 1, 0, 0, 1, 0, 0, 1, 1]) :: S8)
noncomputable def S10 : List It := (.code (sub B [1, 1, 1, 0, 1, 1, 0, 0, 1, 0, 0, 1, 1, 1]) :: S8)
noncomputable def S11 : List It := (.blk 1 :: S10)
noncomputable def S12 : List It := (.code (sub B [1, 1, 1, 0, 1, 1, 0, 0, 1, 0, 0, 1, 1, 0, 0, 1]) :: S11)
def L0 (t0a : Option Addr) (t0n : Nat) (t0k : Nat) (t1a : Option Addr) (t1n : Nat) (t1k : Nat) (t2 : Int) (t3 : Int) (t4a : Option Addr) (t4n : Nat) (t4k : Nat) (t27 : Bool) (H : Heap) (r : Value × Heap) : Prop := ∀ J, KR Try.prog good Try.f6 S1 (mat J 94 [(0, .slice t0a t0n t0k), (1, .slice t1a t1n t1k), (2, .int .u8 t2), (3, .int .i64 t3), (4, .slice t4a t4n t4k), (27, .bool t27)]) H r
def L1 (t2 : Int) (t3 : Int) (t4a : Option Addr) (t4n : Nat) (t4k : Nat) (t11a : Option Addr) (t11n : Nat) (t11k : Nat) (t13 : Int) (t38a : Option Addr) (t38n : Nat) (t38k : Nat) (t39 : Int) (t40 : Int) (H : Heap) (r : Value × Heap) : Prop := ∀ J, KR Try.prog good Try.f6 S8 (mat J 94 [(2, .int .u8 t2), (3, .int .i64 t3), (4, .slice t4a t4n t4k), (11, .slice t11a t11n t11k), (13, .int .i64 t13), (38, .slice t38a t38n t38k), (39, .int .i64 t39), (40, .int .i64 t40)]) H r
def L2 (t4a : Option Addr) (t4n : Nat) (t4k : Nat) (t11a : Option Addr) (t11n : Nat) (t11k : Nat) (H : Heap) (r : Value × Heap) : Prop := ∀ J, KR Try.prog good Try.f6 S16 (mat J 94 [(4, .slice t4a t4n t4k), (11, .slice t11a t11n t11k)]) H r
theorem L0_step {t0a : Option Addr} {t0n : Nat} {t0k : Nat} {t1a : Option Addr} {t1n : Nat} {t1k : Nat} {t2 : Int} {t3 : Int} {t4a : Option Addr} {t4n : Nat} {t4k : Nat} {t27 : Bool} {H : Heap} {r : Value × Heap} (h :
    if t27 = true then
    (∃ (t28 : Bool) (H_1 : Heap), xC Try.prog good 15 [] H = some (.bool t28, H_1) ∧
    (r = (.bool t28, H_1)))
    else
    (∃ (t31r0a : Option Addr) (t31r0n : Nat) (t31r0k : Nat) (t31r1 : Int) (H_2 : Heap), xC Try.prog good 20 [.slice t0a t0n t0k] H = some (.tuple #[.slice t31r0a t31r0n t31r0k, .int .i64 t31r1], H_2) ∧
    (if ((t31r0n : Nat) : Int) > 0 then
    (L1 (t2) (t3) (t4a) (t4n) (t4k) (t31r0a) (t31r0n) (t31r0k) (((t31r0n : Nat) : Int)) (t1a) (t1n) (t1k) (((t1n : Nat) : Int)) 0 H_2 r)
    else
    (L2 (t4a) (t4n) (t4k) (t31r0a) (t31r0n) (t31r0k) H_2 r)))) :
    L0 t0a t0n t0k t1a t1n t1k t2 t3 t4a t4n t4k t27 H r := by
  intro J
  show KR _ _ _ (.code (sub B [1, 0, 1]) :: S0) _ _ _
  by_cases c3 : t27 = true
  · replace h := iteT c3 h
    refine KR.br true (by kernel_rfl) (vB (bT c3)) ?_
    refine KR.run 2 [] 94 (s' := (.reg (opsAt (sub B [1, 0, 1, 0, 0])) [0, 1] :: S2)) (by kernel_rfl) fun J => ?_
    obtain ⟨t28, H_1, q4, h⟩ := h
    refine KR.se (one_ca (by kernel_rfl) q4) ?_
    refine KR.run 2 [(10, .bool t28)] 94 (s' := (.code (sub B [1, 0, 1, 0, 1]) :: S0)) (by kernel_rfl) fun J => ?_
    exact KR.fin (by kernel_rfl) h
  · replace h := iteF c3 h
    refine KR.br false (by kernel_rfl) (vB (bF c3)) ?_
    refine KR.run 4 [(1, .slice t1a t1n t1k), (2, .int .u8 t2), (3, .int .i64 t3), (4, .slice t4a t4n t4k), (30, .slice t0a t0n t0k)] 94 (s' := (.reg (opsAt (sub B [1, 1, 0])) [1, 2, 3, 4, 5, 6] :: S3)) (by kernel_rfl) fun J => ?_
    obtain ⟨t31r0a, t31r0n, t31r0k, t31r1, H_2, q5, h⟩ := h
    refine KR.se (one_ca (by kernel_rfl) q5) ?_
    refine KR.run 18 [(1, .slice t1a t1n t1k), (2, .int .u8 t2), (3, .int .i64 t3), (4, .slice t4a t4n t4k), (11, .slice t31r0a t31r0n t31r0k), (13, .int .i64 ((t31r0n : Nat) : Int)), (37, .bool (decide (((t31r0n : Nat) : Int) > 0)))] 94 (s' := (.code (sub B [1, 1, 1, 0, 1, 1]) :: S4)) (by kernel_rfl) fun J => ?_
    by_cases c6 : ((t31r0n : Nat) : Int) > 0
    · replace h := iteT c6 h
      refine KR.br true (by kernel_rfl) (vB (dT c6)) ?_
      exact KR.run 9 [(2, .int .u8 t2), (3, .int .i64 t3), (4, .slice t4a t4n t4k), (11, .slice t31r0a t31r0n t31r0k), (13, .int .i64 ((t31r0n : Nat) : Int)), (38, .slice t1a t1n t1k), (39, .int .i64 ((t1n : Nat) : Int)), (40, .int .i64 0)] 94 (s' := (.lp (sub B [1, 1, 1, 0, 1, 1, 0, 0, 1, 0, 0]) :: S6)) (by kernel_rfl) h
    · replace h := iteF c6 h
      refine KR.br false (by kernel_rfl) (vB (dF c6)) ?_
      exact KR.run 3 [(4, .slice t4a t4n t4k), (11, .slice t31r0a t31r0n t31r0k)] 94 (s' := (.reg (opsAt (sub B [1, 1, 1, 1, 0])) [0, 1, 2, 3] :: S7)) (by kernel_rfl) h
theorem L1_step {t2 : Int} {t3 : Int} {t4a : Option Addr} {t4n : Nat} {t4k : Nat} {t11a : Option Addr} {t11n : Nat} {t11k : Nat} {t13 : Int} {t38a : Option Addr} {t38n : Nat} {t38k : Nat} {t39 : Int} {t40 : Int} {H : Heap} {r : Value × Heap} (h :
    if t40 < t39 then
    (∃ (t38ab t38ao : Nat), t38a = some ⟨t38ab, t38ao, none⟩ ∧
    ((0 : Int) ≤ t40 ∧ t40 < ((t38n : Nat) : Int) ∧
    (∃ (t44 : Int), ldc H t38ab (t38ao + Int.toNat t40 * 1) = some (.int .i64 t44) ∧
    (if t40 < 3 then
    ((IntKind.wrap .u64 t13) ≠ 0 ∧
    (∃ (t11ab t11ao : Nat), t11a = some ⟨t11ab, t11ao, none⟩ ∧
    ((0 : Int) ≤ (IntKind.wrap .i64 (Int.tmod (IntKind.wrap .u64 t44) (IntKind.wrap .u64 t13))) ∧ (IntKind.wrap .i64 (Int.tmod (IntKind.wrap .u64 t44) (IntKind.wrap .u64 t13))) < ((t11n : Nat) : Int) ∧
    (∃ (t55 : Int), ldc H t11ab (t11ao + Int.toNat (IntKind.wrap .i64 (Int.tmod (IntKind.wrap .u64 t44) (IntKind.wrap .u64 t13))) * 1) = some (.int .u8 t55) ∧
    ((0 : Int) ≤ (IntKind.wrap .i64 (Int.tmod (IntKind.wrap .u64 t44) (IntKind.wrap .u64 t13))) ∧ (IntKind.wrap .i64 (Int.tmod (IntKind.wrap .u64 t44) (IntKind.wrap .u64 t13))) < ((t11n : Nat) : Int) ∧
    (∃ (H_1 : Heap), stc H t11ab (t11ao + Int.toNat (IntKind.wrap .i64 (Int.tmod (IntKind.wrap .u64 t44) (IntKind.wrap .u64 t13))) * 1) [.int .u8 (ixor .u8 t55 t2)] = some H_1 ∧
    (L1 (t2) (t3) (t4a) (t4n) (t4k) ((some ⟨t11ab, t11ao, none⟩)) (t11n) (t11k) (t13) ((some ⟨t38ab, t38ao, none⟩)) (t38n) (t38k) (t39) ((IntKind.wrap .i64 (t40 + 1))) H_1 r)))))))
    else
    (L1 (t2) (t3) (t4a) (t4n) (t4k) (t11a) (t11n) (t11k) (t13) ((some ⟨t38ab, t38ao, none⟩)) (t38n) (t38k) (t39) ((IntKind.wrap .i64 (t40 + 1))) H r)))))
    else
    ((IntKind.wrap .u64 t13) ≠ 0 ∧
    (∃ (t69a : Option Addr) (t69n : Nat) (t69k : Nat), psl 1 t11a t11n t11k none (some (IntKind.wrap .i64 (t13 - (IntKind.wrap .i64 (Int.tmod (IntKind.wrap .u64 t3) (IntKind.wrap .u64 t13)))))) none = some (t69a, t69n, t69k) ∧
    (L2 (t4a) (t4n) (t4k) (t69a) (t69n) (t69k) H r)))) :
    L1 t2 t3 t4a t4n t4k t11a t11n t11k t13 t38a t38n t38k t39 t40 H r := by
  intro J
  show KR _ _ _ (.lp (sub B [1, 1, 1, 0, 1, 1, 0, 0, 1, 0, 0]) :: S6) _ _ _
  refine KR.run 6 [(2, .int .u8 t2), (3, .int .i64 t3), (4, .slice t4a t4n t4k), (11, .slice t11a t11n t11k), (13, .int .i64 t13), (38, .slice t38a t38n t38k), (39, .int .i64 t39), (40, .int .i64 t40), (41, .bool (decide (t40 < t39)))] 94 (s' := (.code (sub B [1, 1, 1, 0, 1, 1, 0, 0, 1, 0, 0, 1, 0]) :: S9)) (by kernel_rfl) fun J => ?_
  by_cases c7 : t40 < t39
  · replace h := iteT c7 h
    refine KR.br true (by kernel_rfl) (vB (dT c7)) ?_
    obtain ⟨t38ab, t38ao, rfl, h⟩ := h
    refine KR.run 6 [(2, .int .u8 t2), (3, .int .i64 t3), (4, .slice t4a t4n t4k), (11, .slice t11a t11n t11k), (13, .int .i64 t13), (38, .slice (some ⟨t38ab, t38ao, none⟩) t38n t38k), (39, .int .i64 t39), (40, .int .i64 t40), (42, .int .i64 t40)] 94 (s' := (.reg (opsAt (sub B [1, 1, 1, 0, 1, 1, 0, 0, 1, 0, 0, 1, 1, 0, 0, 0])) [1, 2, 3, 4] :: S12)) (by kernel_rfl) fun J => ?_
    obtain ⟨q8, q8x, h⟩ := h
    refine KR.p (one_ix 1 t38ab t38ao (by kernel_rfl) q8 q8x) ?_
    obtain ⟨t44, q9, h⟩ := h
    refine KR.rd (one_ld (by kernel_rfl) q9) ?_
    refine KR.run 8 [(2, .int .u8 t2), (3, .int .i64 t3), (4, .slice t4a t4n t4k), (11, .slice t11a t11n t11k), (13, .int .i64 t13), (15, .int .i64 t44), (38, .slice (some ⟨t38ab, t38ao, none⟩) t38n t38k), (39, .int .i64 t39), (40, .int .i64 t40), (46, .bool (decide (t40 < 3)))] 94 (s' := (.code (sub B [1, 1, 1, 0, 1, 1, 0, 0, 1, 0, 0, 1, 1, 0, 0, 1, 1]) :: S11)) (by kernel_rfl) fun J => ?_
    by_cases c10 : t40 < 3
    · replace h := iteT c10 h
      refine KR.br true (by kernel_rfl) (vB (dT c10)) ?_
      refine KR.run 6 [(2, .int .u8 t2), (3, .int .i64 t3), (4, .slice t4a t4n t4k), (11, .slice t11a t11n t11k), (13, .int .i64 t13), (38, .slice (some ⟨t38ab, t38ao, none⟩) t38n t38k), (39, .int .i64 t39), (40, .int .i64 t40), (47, .slice t11a t11n t11k), (49, .int .u64 (IntKind.wrap .u64 t44)), (51, .int .u64 (IntKind.wrap .u64 t13))] 94 (s' := (.reg (opsAt (sub B [1, 1, 1, 0, 1, 1, 0, 0, 1, 0, 0, 1, 1, 0, 0, 1, 1, 0])) [5, 6, 7, 8, 9, 10, 11, 12] :: S11)) (by kernel_rfl) fun J => ?_
      obtain ⟨q11, h⟩ := h
      refine KR.p (one_rem .u64 (IntKind.wrap .u64 t44) (by kernel_rfl) q11) ?_
      obtain ⟨t11ab, t11ao, rfl, h⟩ := h
      refine KR.run 1 [(2, .int .u8 t2), (3, .int .i64 t3), (4, .slice t4a t4n t4k), (11, .slice (some ⟨t11ab, t11ao, none⟩) t11n t11k), (13, .int .i64 t13), (38, .slice (some ⟨t38ab, t38ao, none⟩) t38n t38k), (39, .int .i64 t39), (40, .int .i64 t40), (47, .slice (some ⟨t11ab, t11ao, none⟩) t11n t11k), (53, .int .i64 (IntKind.wrap .i64 (Int.tmod (IntKind.wrap .u64 t44) (IntKind.wrap .u64 t13))))] 94 (s' := (.reg (opsAt (sub B [1, 1, 1, 0, 1, 1, 0, 0, 1, 0, 0, 1, 1, 0, 0, 1, 1, 0])) [7, 8, 9, 10, 11, 12] :: S11)) (by kernel_rfl) fun J => ?_
      obtain ⟨q12, q12x, h⟩ := h
      refine KR.p (one_ix 1 t11ab t11ao (by kernel_rfl) q12 q12x) ?_
      obtain ⟨t55, q13, h⟩ := h
      refine KR.rd (one_ld (by kernel_rfl) q13) ?_
      refine KR.run 2 [(2, .int .u8 t2), (3, .int .i64 t3), (4, .slice t4a t4n t4k), (11, .slice (some ⟨t11ab, t11ao, none⟩) t11n t11k), (13, .int .i64 t13), (38, .slice (some ⟨t38ab, t38ao, none⟩) t38n t38k), (39, .int .i64 t39), (40, .int .i64 t40), (47, .slice (some ⟨t11ab, t11ao, none⟩) t11n t11k), (53, .int .i64 (IntKind.wrap .i64 (Int.tmod (IntKind.wrap .u64 t44) (IntKind.wrap .u64 t13)))), (57, .int .u8 (ixor .u8 t55 t2))] 94 (s' := (.reg (opsAt (sub B [1, 1, 1, 0, 1, 1, 0, 0, 1, 0, 0, 1, 1, 0, 0, 1, 1, 0])) [11, 12] :: S11)) (by kernel_rfl) fun J => ?_
      obtain ⟨q14, q14x, h⟩ := h
      refine KR.p (one_ix 1 t11ab t11ao (by kernel_rfl) q14 q14x) ?_
      obtain ⟨H_1, q15, h⟩ := h
      refine KR.se (one_st (by kernel_rfl) q15) ?_
      exact KR.run 6 [(2, .int .u8 t2), (3, .int .i64 t3), (4, .slice t4a t4n t4k), (11, .slice (some ⟨t11ab, t11ao, none⟩) t11n t11k), (13, .int .i64 t13), (38, .slice (some ⟨t38ab, t38ao, none⟩) t38n t38k), (39, .int .i64 t39), (40, .int .i64 (IntKind.wrap .i64 (t40 + 1)))] 94 (s' := (.lp (sub B [1, 1, 1, 0, 1, 1, 0, 0, 1, 0, 0]) :: S6)) (by kernel_rfl) h
    · replace h := iteF c10 h
      refine KR.br false (by kernel_rfl) (vB (dF c10)) ?_
      exact KR.run 6 [(2, .int .u8 t2), (3, .int .i64 t3), (4, .slice t4a t4n t4k), (11, .slice t11a t11n t11k), (13, .int .i64 t13), (38, .slice (some ⟨t38ab, t38ao, none⟩) t38n t38k), (39, .int .i64 t39), (40, .int .i64 (IntKind.wrap .i64 (t40 + 1)))] 94 (s' := (.lp (sub B [1, 1, 1, 0, 1, 1, 0, 0, 1, 0, 0]) :: S6)) (by kernel_rfl) h
  · replace h := iteF c7 h
    refine KR.br false (by kernel_rfl) (vB (dF c7)) ?_
    refine KR.run 8 [(4, .slice t4a t4n t4k), (60, .slice t11a t11n t11k), (61, .int .i64 t13), (63, .int .u64 (IntKind.wrap .u64 t3)), (65, .int .u64 (IntKind.wrap .u64 t13))] 94 (s' := (.reg (opsAt (sub B [1, 1, 1, 0, 1, 1, 0, 1])) [6, 7, 8, 9, 10] :: S4)) (by kernel_rfl) fun J => ?_
    obtain ⟨q16, h⟩ := h
    refine KR.p (one_rem .u64 (IntKind.wrap .u64 t3) (by kernel_rfl) q16) ?_
    refine KR.run 2 [(4, .slice t4a t4n t4k), (60, .slice t11a t11n t11k), (68, .int .i64 (IntKind.wrap .i64 (t13 - (IntKind.wrap .i64 (Int.tmod (IntKind.wrap .u64 t3) (IntKind.wrap .u64 t13))))))] 94 (s' := (.reg (opsAt (sub B [1, 1, 1, 0, 1, 1, 0, 1])) [9, 10] :: S4)) (by kernel_rfl) fun J => ?_
    obtain ⟨t69a, t69n, t69k, q17, h⟩ := h
    refine KR.p (one_sl (by kernel_rfl) q17) ?_
    exact KR.run 4 [(4, .slice t4a t4n t4k), (11, .slice t69a t69n t69k)] 94 (s' := (.reg (opsAt (sub B [1, 1, 1, 1, 0])) [0, 1, 2, 3] :: S7)) (by kernel_rfl) h
theorem L2_step {t4a : Option Addr} {t4n : Nat} {t4k : Nat} {t11a : Option Addr} {t11n : Nat} {t11k : Nat} {H : Heap} {r : Value × Heap} (h :
    ∃ (t72a : Option Addr) (t72n : Nat) (t72k : Nat) (H_1 : Heap), papp H 1 1 t11a t11n t11k t4a t4n t4k = some ((t72a, t72n, t72k), H_1) ∧
    (∃ (t75r0a : Option Addr) (t75r0n : Nat) (t75r0k : Nat) (t75r1 : Int) (H_2 : Heap), xC Try.prog good 23 [.slice t72a t72n t72k] H_1 = some (.tuple #[.slice t75r0a t75r0n t75r0k, .int .i64 t75r1], H_2) ∧
    (∃ (t80r0a : Option Addr) (t80r0n : Nat) (t80r0k : Nat) (t80r1 : Int) (H_3 : Heap), xC Try.prog good 24 [.slice t72a t72n t72k] H_2 = some (.tuple #[.slice t80r0a t80r0n t80r0k, .int .i64 t80r1], H_3) ∧
    (∃ (t85 : Bool) (H_4 : Heap), xC Try.prog good 25 [.slice t75r0a t75r0n t75r0k, .slice t80r0a t80r0n t80r0k] H_3 = some (.bool t85, H_4) ∧
    (if t85 = true then
    (if t75r1 = t80r1 then
    (∃ (t92 : Bool) (H_5 : Heap), xC Try.prog good 15 [] H_4 = some (.bool t92, H_5) ∧
    (r = (.bool t92, H_5)))
    else
    (r = (.bool false, H_4)))
    else
    (r = (.bool false, H_4))))))) :
    L2 t4a t4n t4k t11a t11n t11k H r := by
  intro J
  show KR _ _ _ (.reg (opsAt (sub B [1, 1, 1, 1, 0])) [0, 1, 2, 3] :: S7) _ _ _
  refine KR.run 2 [(70, .slice t11a t11n t11k), (71, .slice t4a t4n t4k)] 94 (s' := (.reg (opsAt (sub B [1, 1, 1, 1, 0])) [2, 3] :: S7)) (by kernel_rfl) fun J => ?_
  obtain ⟨t72a, t72n, t72k, H_1, q18, h⟩ := h
  refine KR.se (one_ap 1 1 (by kernel_rfl) q18) ?_
  refine KR.run 5 [(11, .slice t72a t72n t72k), (74, .slice t72a t72n t72k)] 94 (s' := (.reg (opsAt (sub B [1, 1, 1, 1, 1, 0])) [1, 2, 3, 4, 5, 6] :: S13)) (by kernel_rfl) fun J => ?_
  obtain ⟨t75r0a, t75r0n, t75r0k, t75r1, H_2, q19, h⟩ := h
  refine KR.se (one_ca (by kernel_rfl) q19) ?_
  refine KR.run 9 [(16, .slice t75r0a t75r0n t75r0k), (17, .int .i64 t75r1), (79, .slice t72a t72n t72k)] 94 (s' := (.reg (opsAt (sub B [1, 1, 1, 1, 1, 1, 0])) [1, 2, 3, 4, 5, 6] :: S14)) (by kernel_rfl) fun J => ?_
  obtain ⟨t80r0a, t80r0n, t80r0k, t80r1, H_3, q20, h⟩ := h
  refine KR.se (one_ca (by kernel_rfl) q20) ?_
  refine KR.run 10 [(17, .int .i64 t75r1), (19, .int .i64 t80r1), (83, .slice t75r0a t75r0n t75r0k), (84, .slice t80r0a t80r0n t80r0k)] 94 (s' := (.reg (opsAt (sub B [1, 1, 1, 1, 1, 1, 1, 0])) [2, 3, 4, 5, 6, 7, 8, 9, 10, 11] :: S15)) (by kernel_rfl) fun J => ?_
  obtain ⟨t85, H_4, q21, h⟩ := h
  refine KR.se (one_ca (by kernel_rfl) q21) ?_
  refine KR.run 1 [(17, .int .i64 t75r1), (19, .int .i64 t80r1), (86, .bool t85)] 94 (s' := (.reg (opsAt (sub B [1, 1, 1, 1, 1, 1, 1, 0])) [4, 5, 6, 7, 8, 9, 10, 11] :: S15)) (by kernel_rfl) fun J => ?_
  by_cases c22 : t85 = true
  · replace h := iteT c22 h
    refine KR.setV 86 (by kernel_rfl) (bT c22) ?_
    refine KR.run 5 [(91, .bool (t75r1 == t80r1))] 94 (s' := (.reg (opsAt (sub B [1, 1, 1, 1, 1, 1, 1, 0])) [9, 10, 11] :: S15)) (by kernel_rfl) fun J => ?_
    by_cases c23 : t75r1 = t80r1
    · replace h := iteT c23 h
      refine KR.setV 91 (by kernel_rfl) (eT c23) ?_
      obtain ⟨t92, H_5, q24, h⟩ := h
      refine KR.se (one_ca (by kernel_rfl) q24) ?_
      refine KR.run 3 [(10, .bool t92)] 94 (s' := (.code (sub B [1, 1, 1, 1, 1, 1, 1, 1]) :: [])) (by kernel_rfl) fun J => ?_
      exact KR.fin (by kernel_rfl) h
    · replace h := iteF c23 h
      refine KR.setV 91 (by kernel_rfl) (eF c23) ?_
      refine KR.run 4 [(10, .bool false)] 94 (s' := (.code (sub B [1, 1, 1, 1, 1, 1, 1, 1]) :: [])) (by kernel_rfl) fun J => ?_
      exact KR.fin (by kernel_rfl) h
  · replace h := iteF c22 h
    refine KR.setV 86 (by kernel_rfl) (bF c22) ?_
    refine KR.run 9 [(10, .bool false)] 94 (s' := (.code (sub B [1, 1, 1, 1, 1, 1, 1, 1]) :: [])) (by kernel_rfl) fun J => ?_
    exact KR.fin (by kernel_rfl) h
theorem call {a0a : Option Addr} {a0n : Nat} {a0k : Nat} {a1a : Option Addr} {a1n : Nat} {a1k : Nat} {a2 : Int} {a3 : Int} {a4a : Option Addr} {a4n : Nat} {a4k : Nat} {H : Heap} {r : Value × Heap} (h :
    ∃ (t21 : Int) (H_1 : Heap), xC Try.prog good 13 [.slice a0a a0n a0k] H = some (.int .i64 t21, H_1) ∧
    (if t21 > 0 then
    (L0 (a0a) (a0n) (a0k) (a1a) (a1n) (a1k) (a2) (a3) (a4a) (a4n) (a4k) (true) H_1 r)
    else
    (L0 (a0a) (a0n) (a0k) (a1a) (a1n) (a1k) (a2) (a3) (a4a) (a4n) (a4k) ((decide (((a4n : Nat) : Int) > 200))) H_1 r))) :
    xC Try.prog good 6 [.slice a0a a0n a0k, .slice a1a a1n a1k, .int .u8 a2, .int .i64 a3, .slice a4a a4n a4k] H = some r := by
  refine KR.enter (fn := Try.f6) (c := B) (by kernel_rfl) (by kernel_rfl) ?_
  refine KR.run 8 [(0, .slice a0a a0n a0k), (1, .slice a1a a1n a1k), (2, .int .u8 a2), (3, .int .i64 a3), (4, .slice a4a a4n a4k), (20, .slice a0a a0n a0k)] 94 (s' := (.reg (opsAt (sub B [1, 0, 0])) [1, 2, 3, 4, 5, 6, 7] :: S1)) (by kernel_rfl) fun J => ?_
  obtain ⟨t21, H_1, q1, h⟩ := h
  refine KR.se (one_ca (by kernel_rfl) q1) ?_
  refine KR.run 2 [(0, .slice a0a a0n a0k), (1, .slice a1a a1n a1k), (2, .int .u8 a2), (3, .int .i64 a3), (4, .slice a4a a4n a4k), (23, .bool (decide (t21 > 0)))] 94 (s' := (.reg (opsAt (sub B [1, 0, 0])) [4, 5, 6, 7] :: S1)) (by kernel_rfl) fun J => ?_
  by_cases c2 : t21 > 0
  · replace h := iteT c2 h
    refine KR.setV 23 (by kernel_rfl) (dT c2) ?_
    exact KR.run 5 [(0, .slice a0a a0n a0k), (1, .slice a1a a1n a1k), (2, .int .u8 a2), (3, .int .i64 a3), (4, .slice a4a a4n a4k), (27, .bool true)] 94 (s' := (.code (sub B [1, 0, 1]) :: S0)) (by kernel_rfl) h
  · replace h := iteF c2 h
    refine KR.setV 23 (by kernel_rfl) (dF c2) ?_
    exact KR.run 5 [(0, .slice a0a a0n a0k), (1, .slice a1a a1n a1k), (2, .int .u8 a2), (3, .int .i64 a3), (4, .slice a4a a4n a4k), (27, .bool (decide (((a4n : Nat) : Int) > 200)))] 94 (s' := (.code (sub B [1, 0, 1]) :: S0)) (by kernel_rfl) h
end F6
end Go.X
