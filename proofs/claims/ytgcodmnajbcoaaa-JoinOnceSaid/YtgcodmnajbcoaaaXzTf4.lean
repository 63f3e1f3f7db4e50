/- The walks of the functions: printed. -/
import Derived.Test.YtgcodmnajbcoaaaXzGf
set_option linter.unusedVariables false
set_option maxRecDepth 100000
namespace Go.X
open Go Go.RowKit Go.Proofs
/-! #### 3 campanile/campanilelaw18.JoinForms -/
namespace F4
noncomputable def B : Code := bodyOf Try.f4
noncomputable def S0 : List It := (.code (sub B [1, 1, 1, 1]) :: [])
noncomputable def S1 : List It := (.code (sub B [1, 1, 1, 1, 1]) :: [])
noncomputable def S2 : List It := (.code (sub B [1, 1, 1, 1, 1, 1]) :: [])
noncomputable def S3 : List It := (.code (sub B [1, 1, 1, 1, 1, 1, 1]) :: [])
noncomputable def S6 : List It := (.code (sub B [1, 1, 1, 1, 1, 1, 1, 1]) :: [])
noncomputable def S7 : List It := (.code (sub B [1, 1, 1, 1, 1, 1, 1, 1, 1]) :: [])
noncomputable def S9 : List It := (.code (sub B [1, 1, 1, 1, 1, 1, 1, 1, 1, 1]) :: [])
noncomputable def S10 : List It := (.code (sub B [1, 1, 1, 1, 1, 1, 1, 1, 1, 1, 1]) :: [])
noncomputable def S15 : List It := (.code (sub B [1, 1, 1, 1, 1, 1, 1, 1, 1, 1, 1, 1]) :: [])
noncomputable def S16 : List It := (.code (sub B [1, 1, 1, 1, 1, 1, 1, 1, 1, 1, 1, 1, 1]) :: [])
noncomputable def S18 : List It := (.code (sub B [1, 1, 1, 1, 1, 1, 1, 1, 1, 1, 1, 1, 1, 1]) :: [])
noncomputable def S19 : List It := (.code (sub B [1, 1, 1, 1, 1, 1, 1, 1, 1, 1, 1, 1, 1, 1, 1]) :: [])
noncomputable def S21 : List It := (.code (sub B [1, 1, 1, 1, 1, 1, 1, 1, 1, 1, 1, 1, 1, 1, 1, 1]) :: [])
noncomputable def S22 : List It := (.code (sub B [1, 1, 1, 1, 1, 1, 1, 1, 1, 1, 1, 1, 1, 1, 1, 1, 1]) :: [])
noncomputable def S26 : List It := (.code (sub B [1, 1, 1, 1, 1, 1, 1, 1, 1, 1, 1, 1, 1, 1, 1, 1, 1, 1]) :: [])
noncomputable def S27 : List It := (.code (sub B [1, 1, 1, 1, 1, 1, 1, 1, 1, 1, 1, 1, 1, 1, 1, 1, 1, 1, 1]) :: [])
noncomputable def S4 : List It := (.code (sub B [1, 1, 1, 1, 1, 1, 0, 1]) :: S3)
noncomputable def S5 : List It := (.code (sub B [1, 1, 1, 1, 1, 1, 0, 1, 0, 1]) :: S3)
noncomputable def S8 : List It := (.code (sub B [1, 1, 1, 1, 1, 1, 1, 1, 0, 1]) :: S7)
noncomputable def S11 : List It := (.code (sub B [1, 1, 1, 1, 1, 1, 1, 1, 1, 0, 1, 0, 1]) :: S9)
noncomputable def S12 : List It := (.code (sub B [1, 1, 1, 1, 1, 1, 1, 1, 1, 0, 1, 0, 1, 1]) :: S9)
noncomputable def S13 : List It := (.code (sub B [1, 1, 1, 1, 1, 1, 1, 1, 1, 0, 1, 0, 1, 1, 1]) :: S9)
noncomputable def S14 : List It := (.code (sub B [1, 1, 1, 1, 1, 1, 1, 1, 1, 0, 1, 0, 1, 1, 1, 1]) :: S9)
noncomputable def S17 : List It := (.code (sub B [1, 1, 1, 1, 1, 1, 1, 1, 1, 1, 1, 1, 0, 1]) :: S16)
noncomputable def S20 : List It := (.code (sub B [1, 1, 1, 1, 1, 1, 1, 1, 1, 1, 1, 1, 1, 1, 0, 1]) :: S19)
noncomputable def S23 : List It := (.code (sub B [1, 1, 1, 1, 1, 1, 1, 1, 1, 1, 1, 1, 1, 1, 1, 0, 1, 0, 1]) :: S21)
noncomputable def S24 : List It := (.code (sub B [1, 1, 1, 1, 1, 1, 1, 1, 1, 1, 1, 1, 1, 1, 1, 0, 1, 0, 1, 1]) :: S21)
noncomputable def S25 : List It := (.code (sub B [1, 1, 1, 1, 1, 1, 1, 1, 1, 1, 1, 1, 1, 1, 1, 0, 1, 0, 1, 1, 1]) :: S21)
noncomputable def S28 : List It := (.reg (opsAt (sub B [1, 1, 1, 1, 1, 1, 1, 1, 1, 1, 0])) [0, 1, 2, 3, 4, 5, 6, 7, 8, 9] :: S10)
noncomputable def S29 : List It := (.reg (opsAt (sub B [1, 1, 1, 1, 1, 1, 1, 1, 1, 1, 1, 1, 1, 1, 1, 1, 0])) [0, 1, 2, 3, 4, 5, 6, 7, 8] :: S22)
def L0 (t0 : Int) (t1 : Int) (t2 : Int) (t3 : Int) (t4a : Option Addr) (t4n : Nat) (t4k : Nat) (t5 : Int) (t6 : Int) (t16 : Option Addr) (t17 : Option Addr) (t68 : Bool) (H : Heap) (r : Value × Heap) : Prop := ∀ J, KR Try.prog good Try.f4 S4 (mat J 234 [(0, .int .i64 t0), (1, .int .i64 t1), (2, .int .u64 t2), (3, .int .u32 t3), (4, .slice t4a t4n t4k), (5, .int .i64 t5), (6, .int .u8 t6), (16, .pointer t16), (17, .pointer t17), (68, .bool t68)]) H r
def L1 (t0 : Int) (t2 : Int) (t3 : Int) (t4a : Option Addr) (t4n : Nat) (t4k : Nat) (t5 : Int) (t6 : Int) (t16 : Option Addr) (t17 : Option Addr) (t18a : Option Addr) (t18n : Nat) (t18k : Nat) (t88 : Bool) (H : Heap) (r : Value × Heap) : Prop := ∀ J, KR Try.prog good Try.f4 S8 (mat J 234 [(0, .int .i64 t0), (2, .int .u64 t2), (3, .int .u32 t3), (4, .slice t4a t4n t4k), (5, .int .i64 t5), (6, .int .u8 t6), (16, .pointer t16), (17, .pointer t17), (18, .slice t18a t18n t18k), (88, .bool t88)]) H r
def L2 (t0 : Int) (t2 : Int) (t3 : Int) (t4a : Option Addr) (t4n : Nat) (t4k : Nat) (t5 : Int) (t6 : Int) (t16 : Option Addr) (t17 : Option Addr) (t18a : Option Addr) (t18n : Nat) (t18k : Nat) (H : Heap) (r : Value × Heap) : Prop := ∀ J, KR Try.prog good Try.f4 S28 (mat J 234 [(0, .int .i64 t0), (2, .int .u64 t2), (3, .int .u32 t3), (4, .slice t4a t4n t4k), (5, .int .i64 t5), (6, .int .u8 t6), (16, .pointer t16), (17, .pointer t17), (18, .slice t18a t18n t18k)]) H r
def L3 (t0 : Int) (t2 : Int) (t3 : Int) (t4a : Option Addr) (t4n : Nat) (t4k : Nat) (t5 : Int) (t6 : Int) (t16 : Option Addr) (t17 : Option Addr) (t18a : Option Addr) (t18n : Nat) (t18k : Nat) (t120 : Bool) (H : Heap) (r : Value × Heap) : Prop := ∀ J, KR Try.prog good Try.f4 S14 (mat J 234 [(0, .int .i64 t0), (2, .int .u64 t2), (3, .int .u32 t3), (4, .slice t4a t4n t4k), (5, .int .i64 t5), (6, .int .u8 t6), (16, .pointer t16), (17, .pointer t17), (18, .slice t18a t18n t18k), (120, .bool t120)]) H r
def L4 (t2 : Int) (t5 : Int) (t6 : Int) (t17 : Option Addr) (t23b : Nat) (t23o : Nat) (t168 : Bool) (H : Heap) (r : Value × Heap) : Prop := ∀ J, KR Try.prog good Try.f4 S17 (mat J 234 [(2, .int .u64 t2), (5, .int .i64 t5), (6, .int .u8 t6), (17, .pointer t17), (23, .pointer (some ⟨t23b, t23o, none⟩)), (168, .bool t168)]) H r
def L5 (t5 : Int) (t6 : Int) (t17 : Option Addr) (t23b : Nat) (t23o : Nat) (t27a : Option Addr) (t27n : Nat) (t27k : Nat) (t181 : Bool) (H : Heap) (r : Value × Heap) : Prop := ∀ J, KR Try.prog good Try.f4 S20 (mat J 234 [(5, .int .i64 t5), (6, .int .u8 t6), (17, .pointer t17), (23, .pointer (some ⟨t23b, t23o, none⟩)), (27, .slice t27a t27n t27k), (181, .bool t181)]) H r
def L6 (t17 : Option Addr) (t23b : Nat) (t23o : Nat) (t27a : Option Addr) (t27n : Nat) (t27k : Nat) (H : Heap) (r : Value × Heap) : Prop := ∀ J, KR Try.prog good Try.f4 S29 (mat J 234 [(17, .pointer t17), (23, .pointer (some ⟨t23b, t23o, none⟩)), (27, .slice t27a t27n t27k)]) H r
theorem L0_step {t0 : Int} {t1 : Int} {t2 : Int} {t3 : Int} {t4a : Option Addr} {t4n : Nat} {t4k : Nat} {t5 : Int} {t6 : Int} {t16 : Option Addr} {t17 : Option Addr} {t68 : Bool} {H : Heap} {r : Value × Heap} (h :
    if t68 = true then
    (if ((t4n : Nat) : Int) > 40 then
    (∃ (t73 : Bool) (H_1 : Heap), xC Try.prog good 8 [] H = some (.bool t73, H_1) ∧
    (r = (.bool t73, H_1)))
    else
    (r = (.bool false, H)))
    else
    (∃ (t79r0a : Option Addr) (t79r0n : Nat) (t79r0k : Nat) (t79r1 : Int) (H_2 : Heap), xC Try.prog good 21 [.pointer t17, .int .i64 t1, .int .u32 t3] H = some (.tuple #[.slice t79r0a t79r0n t79r0k, .int .i64 t79r1], H_2) ∧
    (if t79r1 = 0 then
    (L1 (t0) (t2) (t3) (t4a) (t4n) (t4k) (t5) (t6) (t16) (t17) (t79r0a) (t79r0n) (t79r0k) ((!(((t79r0n : Nat) : Int) == 15))) H_2 r)
    else
    (L1 (t0) (t2) (t3) (t4a) (t4n) (t4k) (t5) (t6) (t16) (t17) (t79r0a) (t79r0n) (t79r0k) (true) H_2 r)))) :
    L0 t0 t1 t2 t3 t4a t4n t4k t5 t6 t16 t17 t68 H r := by
  intro J
  show KR _ _ _ (.code (sub B [1, 1, 1, 1, 1, 1, 0, 1]) :: S3) _ _ _
  by_cases c10 : t68 = true
  · replace h := iteT c10 h
    refine KR.br true (by kernel_rfl) (vB (bT c10)) ?_
    refine KR.run 6 [(72, .bool (decide (((t4n : Nat) : Int) > 40)))] 234 (s' := (.reg (opsAt (sub B [1, 1, 1, 1, 1, 1, 0, 1, 0, 0])) [4, 5, 6] :: S5)) (by kernel_rfl) fun J => ?_
    by_cases c11 : ((t4n : Nat) : Int) > 40
    · replace h := iteT c11 h
      refine KR.setV 72 (by kernel_rfl) (dT c11) ?_
      obtain ⟨t73, H_1, q12, h⟩ := h
      refine KR.se (one_ca (by kernel_rfl) q12) ?_
      refine KR.run 3 [(14, .bool t73)] 234 (s' := (.code (sub B [1, 1, 1, 1, 1, 1, 0, 1, 0, 1]) :: S3)) (by kernel_rfl) fun J => ?_
      exact KR.fin (by kernel_rfl) h
    · replace h := iteF c11 h
      refine KR.setV 72 (by kernel_rfl) (dF c11) ?_
      refine KR.run 4 [(14, .bool false)] 234 (s' := (.code (sub B [1, 1, 1, 1, 1, 1, 0, 1, 0, 1]) :: S3)) (by kernel_rfl) fun J => ?_
      exact KR.fin (by kernel_rfl) h
  · replace h := iteF c10 h
    refine KR.br false (by kernel_rfl) (vB (bF c10)) ?_
    refine KR.run 6 [(0, .int .i64 t0), (2, .int .u64 t2), (3, .int .u32 t3), (4, .slice t4a t4n t4k), (5, .int .i64 t5), (6, .int .u8 t6), (16, .pointer t16), (17, .pointer t17), (76, .pointer t17), (77, .int .i64 t1), (78, .int .u32 t3)] 234 (s' := (.reg (opsAt (sub B [1, 1, 1, 1, 1, 1, 1, 0])) [3, 4, 5, 6, 7, 8] :: S6)) (by kernel_rfl) fun J => ?_
    obtain ⟨t79r0a, t79r0n, t79r0k, t79r1, H_2, q13, h⟩ := h
    refine KR.se (one_ca (by kernel_rfl) q13) ?_
    refine KR.run 12 [(0, .int .i64 t0), (2, .int .u64 t2), (3, .int .u32 t3), (4, .slice t4a t4n t4k), (5, .int .i64 t5), (6, .int .u8 t6), (16, .pointer t16), (17, .pointer t17), (18, .slice t79r0a t79r0n t79r0k), (84, .bool (!(t79r1 == 0)))] 234 (s' := (.reg (opsAt (sub B [1, 1, 1, 1, 1, 1, 1, 1, 0, 0])) [3, 4, 5, 6] :: S8)) (by kernel_rfl) fun J => ?_
    by_cases c14 : t79r1 = 0
    · replace h := iteT c14 h
      refine KR.setV 84 (by kernel_rfl) (nB (eT c14)) ?_
      exact KR.run 5 [(0, .int .i64 t0), (2, .int .u64 t2), (3, .int .u32 t3), (4, .slice t4a t4n t4k), (5, .int .i64 t5), (6, .int .u8 t6), (16, .pointer t16), (17, .pointer t17), (18, .slice t79r0a t79r0n t79r0k), (88, .bool (!(((t79r0n : Nat) : Int) == 15)))] 234 (s' := (.code (sub B [1, 1, 1, 1, 1, 1, 1, 1, 0, 1]) :: S7)) (by kernel_rfl) h
    · replace h := iteF c14 h
      refine KR.setV 84 (by kernel_rfl) (nB (eF c14)) ?_
      exact KR.run 5 [(0, .int .i64 t0), (2, .int .u64 t2), (3, .int .u32 t3), (4, .slice t4a t4n t4k), (5, .int .i64 t5), (6, .int .u8 t6), (16, .pointer t16), (17, .pointer t17), (18, .slice t79r0a t79r0n t79r0k), (88, .bool true)] 234 (s' := (.code (sub B [1, 1, 1, 1, 1, 1, 1, 1, 0, 1]) :: S7)) (by kernel_rfl) h
theorem L1_step {t0 : Int} {t2 : Int} {t3 : Int} {t4a : Option Addr} {t4n : Nat} {t4k : Nat} {t5 : Int} {t6 : Int} {t16 : Option Addr} {t17 : Option Addr} {t18a : Option Addr} {t18n : Nat} {t18k : Nat} {t88 : Bool} {H : Heap} {r : Value × Heap} (h :
    if t88 = true then
    (r = (.bool false, H))
    else
    (if t6 = 0 then
    (L2 (t0) (t2) (t3) (t4a) (t4n) (t4k) (t5) (t6) (t16) (t17) (t18a) (t18n) (t18k) H r)
    else
    (∃ (H_1 : Heap), H_1 = H.push (.row [] true) ∧
    (∃ (t93a : Option Addr) (t93n : Nat) (t93k : Nat) (H_2 : Heap), papp H_1 1 1 (some ⟨H.next, 0, none⟩) 0 (UNK 1) t18a t18n t18k = some ((t93a, t93n, t93k), H_2) ∧
    (∃ (t93ab t93ao : Nat), t93a = some ⟨t93ab, t93ao, none⟩ ∧
    ((0 : Int) ≤ (IntKind.wrap .i64 (Int.tmod (IntKind.wrap .u64 t5) 15)) ∧ (IntKind.wrap .i64 (Int.tmod (IntKind.wrap .u64 t5) 15)) < ((t93n : Nat) : Int) ∧
    (∃ (t100 : Int), ldc H_2 t93ab (t93ao + Int.toNat (IntKind.wrap .i64 (Int.tmod (IntKind.wrap .u64 t5) 15)) * 1) = some (.int .u8 t100) ∧
    ((0 : Int) ≤ (IntKind.wrap .i64 (Int.tmod (IntKind.wrap .u64 t5) 15)) ∧ (IntKind.wrap .i64 (Int.tmod (IntKind.wrap .u64 t5) 15)) < ((t93n : Nat) : Int) ∧
    (∃ (H_3 : Heap), stc H_2 t93ab (t93ao + Int.toNat (IntKind.wrap .i64 (Int.tmod (IntKind.wrap .u64 t5) 15)) * 1) [.int .u8 (ixor .u8 t100 t6)] = some H_3 ∧
    (∃ (t108r0c0 : Int) (t108r0c1 : Int) (t108r0c2 : Int) (t108r0c3a : Option Addr) (t108r0c3n : Nat) (t108r0c3k : Nat) (t108r0c4 : Int) (t108r1 : Int) (H_4 : Heap), xC Try.prog good 22 [.pointer t16, .slice (some ⟨t93ab, t93ao, none⟩) t93n t93k, .slice t4a t4n t4k] H_3 = some (.tuple #[.agg #[.int .i64 t108r0c0, .int .i64 t108r0c1, .int .u32 t108r0c2, .slice t108r0c3a t108r0c3n t108r0c3k, .int .u32 t108r0c4], .int .i64 t108r1], H_4) ∧
    (∃ (H_5 : Heap), H_5 = H_4.push (.row [.int .i64 0, .int .i64 0, .int .u32 0, .slice none 0 0, .int .u32 0] true) ∧
    (∃ (H_6 : Heap), stc H_5 H_4.next 0 [.int .i64 t108r0c0, .int .i64 t108r0c1, .int .u32 t108r0c2, .slice t108r0c3a t108r0c3n t108r0c3k, .int .u32 t108r0c4] = some H_6 ∧
    (if t108r1 = 0 then
    ((0 : Int) ≤ 1 ∧ 1 < ((t93n : Nat) : Int) ∧
    (∃ (t117 : Int), ldc H_6 t93ab (t93ao + 1) = some (.int .u8 t117) ∧
    (L3 (t0) (t2) (t3) (t4a) (t4n) (t4k) (t5) (t6) (t16) (t17) (t18a) (t18n) (t18k) ((t0 == (IntKind.wrap .i64 t117))) H_6 r)))
    else
    (L3 (t0) (t2) (t3) (t4a) (t4n) (t4k) (t5) (t6) (t16) (t17) (t18a) (t18n) (t18k) (false) H_6 r)))))))))))))) :
    L1 t0 t2 t3 t4a t4n t4k t5 t6 t16 t17 t18a t18n t18k t88 H r := by
  intro J
  show KR _ _ _ (.code (sub B [1, 1, 1, 1, 1, 1, 1, 1, 0, 1]) :: S7) _ _ _
  by_cases c15 : t88 = true
  · replace h := iteT c15 h
    refine KR.br true (by kernel_rfl) (vB (bT c15)) ?_
    refine KR.run 4 [(14, .bool false)] 234 (s' := (.code (sub B [1, 1, 1, 1, 1, 1, 1, 1, 0, 1, 0, 1]) :: S7)) (by kernel_rfl) fun J => ?_
    exact KR.fin (by kernel_rfl) h
  · replace h := iteF c15 h
    refine KR.br false (by kernel_rfl) (vB (bF c15)) ?_
    refine KR.run 7 [(0, .int .i64 t0), (2, .int .u64 t2), (3, .int .u32 t3), (4, .slice t4a t4n t4k), (5, .int .i64 t5), (6, .int .u8 t6), (16, .pointer t16), (17, .pointer t17), (18, .slice t18a t18n t18k), (90, .bool (!(t6 == 0)))] 234 (s' := (.code (sub B [1, 1, 1, 1, 1, 1, 1, 1, 1, 0, 1]) :: S9)) (by kernel_rfl) fun J => ?_
    by_cases c16 : t6 = 0
    · replace h := iteT c16 h
      refine KR.br false (by kernel_rfl) (vB (nB (eT c16))) ?_
      exact KR.run 3 [(0, .int .i64 t0), (2, .int .u64 t2), (3, .int .u32 t3), (4, .slice t4a t4n t4k), (5, .int .i64 t5), (6, .int .u8 t6), (16, .pointer t16), (17, .pointer t17), (18, .slice t18a t18n t18k)] 234 (s' := (.reg (opsAt (sub B [1, 1, 1, 1, 1, 1, 1, 1, 1, 1, 0])) [0, 1, 2, 3, 4, 5, 6, 7, 8, 9] :: S10)) (by kernel_rfl) h
    · replace h := iteF c16 h
      refine KR.br true (by kernel_rfl) (vB (nB (eF c16))) ?_
      refine KR.run 2 [(0, .int .i64 t0), (2, .int .u64 t2), (3, .int .u32 t3), (4, .slice t4a t4n t4k), (5, .int .i64 t5), (6, .int .u8 t6), (16, .pointer t16), (17, .pointer t17), (18, .slice t18a t18n t18k)] 234 (s' := (.reg (opsAt (sub B [1, 1, 1, 1, 1, 1, 1, 1, 1, 0, 1, 0, 0])) [0, 1, 2, 3] :: S11)) (by kernel_rfl) fun J => ?_
      obtain ⟨H_1, q17, h⟩ := h
      refine KR.mk (w := sRow 0 1 []) (one_al (by kernel_rfl)) q17 ?_
      refine KR.run 1 [(0, .int .i64 t0), (2, .int .u64 t2), (3, .int .u32 t3), (4, .slice t4a t4n t4k), (5, .int .i64 t5), (6, .int .u8 t6), (16, .pointer t16), (17, .pointer t17), (18, .slice t18a t18n t18k), (91, .slice (some ⟨H.next, 0, none⟩) 0 (UNK 1)), (92, .slice t18a t18n t18k)] 234 (s' := (.reg (opsAt (sub B [1, 1, 1, 1, 1, 1, 1, 1, 1, 0, 1, 0, 0])) [2, 3] :: S11)) (by kernel_rfl) fun J => ?_
      obtain ⟨t93a, t93n, t93k, H_2, q18, h⟩ := h
      refine KR.se (one_ap 1 1 (by kernel_rfl) q18) ?_
      obtain ⟨t93ab, t93ao, rfl, h⟩ := h
      refine KR.run 9 [(0, .int .i64 t0), (2, .int .u64 t2), (3, .int .u32 t3), (4, .slice t4a t4n t4k), (5, .int .i64 t5), (6, .int .u8 t6), (16, .pointer t16), (17, .pointer t17), (18, .slice t18a t18n t18k), (20, .slice (some ⟨t93ab, t93ao, none⟩) t93n t93k), (94, .slice (some ⟨t93ab, t93ao, none⟩) t93n t93k), (98, .int .i64 (IntKind.wrap .i64 (Int.tmod (IntKind.wrap .u64 t5) 15)))] 234 (s' := (.reg (opsAt (sub B [1, 1, 1, 1, 1, 1, 1, 1, 1, 0, 1, 0, 1, 0])) [5, 6, 7, 8, 9, 10] :: S12)) (by kernel_rfl) fun J => ?_
      obtain ⟨q19, q19x, h⟩ := h
      refine KR.p (one_ix 1 t93ab t93ao (by kernel_rfl) q19 q19x) ?_
      obtain ⟨t100, q20, h⟩ := h
      refine KR.rd (one_ld (by kernel_rfl) q20) ?_
      refine KR.run 2 [(0, .int .i64 t0), (2, .int .u64 t2), (3, .int .u32 t3), (4, .slice t4a t4n t4k), (5, .int .i64 t5), (6, .int .u8 t6), (16, .pointer t16), (17, .pointer t17), (18, .slice t18a t18n t18k), (20, .slice (some ⟨t93ab, t93ao, none⟩) t93n t93k), (94, .slice (some ⟨t93ab, t93ao, none⟩) t93n t93k), (98, .int .i64 (IntKind.wrap .i64 (Int.tmod (IntKind.wrap .u64 t5) 15))), (102, .int .u8 (ixor .u8 t100 t6))] 234 (s' := (.reg (opsAt (sub B [1, 1, 1, 1, 1, 1, 1, 1, 1, 0, 1, 0, 1, 0])) [9, 10] :: S12)) (by kernel_rfl) fun J => ?_
      obtain ⟨q21, q21x, h⟩ := h
      refine KR.p (one_ix 1 t93ab t93ao (by kernel_rfl) q21 q21x) ?_
      obtain ⟨H_3, q22, h⟩ := h
      refine KR.se (one_st (by kernel_rfl) q22) ?_
      refine KR.run 6 [(0, .int .i64 t0), (2, .int .u64 t2), (3, .int .u32 t3), (4, .slice t4a t4n t4k), (5, .int .i64 t5), (6, .int .u8 t6), (16, .pointer t16), (17, .pointer t17), (18, .slice t18a t18n t18k), (20, .slice (some ⟨t93ab, t93ao, none⟩) t93n t93k), (105, .pointer t16), (106, .slice (some ⟨t93ab, t93ao, none⟩) t93n t93k), (107, .slice t4a t4n t4k)] 234 (s' := (.reg (opsAt (sub B [1, 1, 1, 1, 1, 1, 1, 1, 1, 0, 1, 0, 1, 1, 0])) [3, 4, 5, 6, 7, 8, 9] :: S13)) (by kernel_rfl) fun J => ?_
      obtain ⟨t108r0c0, t108r0c1, t108r0c2, t108r0c3a, t108r0c3n, t108r0c3k, t108r0c4, t108r1, H_4, q23, h⟩ := h
      refine KR.se (one_ca (by kernel_rfl) q23) ?_
      refine KR.run 3 [(0, .int .i64 t0), (2, .int .u64 t2), (3, .int .u32 t3), (4, .slice t4a t4n t4k), (5, .int .i64 t5), (6, .int .u8 t6), (16, .pointer t16), (17, .pointer t17), (18, .slice t18a t18n t18k), (20, .slice (some ⟨t93ab, t93ao, none⟩) t93n t93k), (109, .agg #[.int .i64 t108r0c0, .int .i64 t108r0c1, .int .u32 t108r0c2, .slice t108r0c3a t108r0c3n t108r0c3k, .int .u32 t108r0c4]), (110, .int .i64 t108r1)] 234 (s' := (.reg (opsAt (sub B [1, 1, 1, 1, 1, 1, 1, 1, 1, 0, 1, 0, 1, 1, 0])) [7, 8, 9] :: S13)) (by kernel_rfl) fun J => ?_
      obtain ⟨H_5, q24, h⟩ := h
      refine KR.mk (w := pRow [.int .i64 0, .int .i64 0, .int .u32 0, .slice none 0 0, .int .u32 0]) (one_al (by kernel_rfl)) q24 ?_
      obtain ⟨H_6, q25, h⟩ := h
      refine KR.se (one_st (by kernel_rfl) q25) ?_
      refine KR.run 7 [(0, .int .i64 t0), (2, .int .u64 t2), (3, .int .u32 t3), (4, .slice t4a t4n t4k), (5, .int .i64 t5), (6, .int .u8 t6), (16, .pointer t16), (17, .pointer t17), (18, .slice t18a t18n t18k), (20, .slice (some ⟨t93ab, t93ao, none⟩) t93n t93k), (113, .bool (t108r1 == 0))] 234 (s' := (.reg (opsAt (sub B [1, 1, 1, 1, 1, 1, 1, 1, 1, 0, 1, 0, 1, 1, 1, 0])) [3, 4, 5, 6, 7, 8, 9] :: S14)) (by kernel_rfl) fun J => ?_
      by_cases c26 : t108r1 = 0
      · replace h := iteT c26 h
        refine KR.setV 113 (by kernel_rfl) (eT c26) ?_
        refine KR.run 2 [(0, .int .i64 t0), (2, .int .u64 t2), (3, .int .u32 t3), (4, .slice t4a t4n t4k), (5, .int .i64 t5), (6, .int .u8 t6), (16, .pointer t16), (17, .pointer t17), (18, .slice t18a t18n t18k), (113, .bool true), (114, .int .i64 t0), (115, .slice (some ⟨t93ab, t93ao, none⟩) t93n t93k)] 234 (s' := (.reg (opsAt (sub B [1, 1, 1, 1, 1, 1, 1, 1, 1, 0, 1, 0, 1, 1, 1, 0])) [5, 6, 7, 8, 9] :: S14)) (by kernel_rfl) fun J => ?_
        obtain ⟨q27, q27x, h⟩ := h
        refine KR.p (one_ix 1 t93ab t93ao (by kernel_rfl) q27 q27x) ?_
        obtain ⟨t117, q28, h⟩ := h
        refine KR.rd (one_ld (by kernel_rfl) q28) ?_
        exact KR.run 4 [(0, .int .i64 t0), (2, .int .u64 t2), (3, .int .u32 t3), (4, .slice t4a t4n t4k), (5, .int .i64 t5), (6, .int .u8 t6), (16, .pointer t16), (17, .pointer t17), (18, .slice t18a t18n t18k), (120, .bool (t0 == (IntKind.wrap .i64 t117)))] 234 (s' := (.code (sub B [1, 1, 1, 1, 1, 1, 1, 1, 1, 0, 1, 0, 1, 1, 1, 1]) :: S9)) (by kernel_rfl) h
      · replace h := iteF c26 h
        refine KR.setV 113 (by kernel_rfl) (eF c26) ?_
        exact KR.run 8 [(0, .int .i64 t0), (2, .int .u64 t2), (3, .int .u32 t3), (4, .slice t4a t4n t4k), (5, .int .i64 t5), (6, .int .u8 t6), (16, .pointer t16), (17, .pointer t17), (18, .slice t18a t18n t18k), (120, .bool false)] 234 (s' := (.code (sub B [1, 1, 1, 1, 1, 1, 1, 1, 1, 0, 1, 0, 1, 1, 1, 1]) :: S9)) (by kernel_rfl) h
theorem L2_step {t0 : Int} {t2 : Int} {t3 : Int} {t4a : Option Addr} {t4n : Nat} {t4k : Nat} {t5 : Int} {t6 : Int} {t16 : Option Addr} {t17 : Option Addr} {t18a : Option Addr} {t18n : Nat} {t18k : Nat} {H : Heap} {r : Value × Heap} (h :
    ∃ (t125r0c0 : Int) (t125r0c1 : Int) (t125r0c2 : Int) (t125r0c3a : Option Addr) (t125r0c3n : Nat) (t125r0c3k : Nat) (t125r0c4 : Int) (t125r1 : Int) (H_1 : Heap), xC Try.prog good 22 [.pointer t16, .slice t18a t18n t18k, .slice t4a t4n t4k] H = some (.tuple #[.agg #[.int .i64 t125r0c0, .int .i64 t125r0c1, .int .u32 t125r0c2, .slice t125r0c3a t125r0c3n t125r0c3k, .int .u32 t125r0c4], .int .i64 t125r1], H_1) ∧
    (∃ (H_2 : Heap), H_2 = H_1.push (.row [.int .i64 0, .int .i64 0, .int .u32 0, .slice none 0 0, .int .u32 0] true) ∧
    (∃ (H_3 : Heap), stc H_2 H_1.next 0 [.int .i64 t125r0c0, .int .i64 t125r0c1, .int .u32 t125r0c2, .slice t125r0c3a t125r0c3n t125r0c3k, .int .u32 t125r0c4] = some H_3 ∧
    (∃ (t132r0c0 : Int) (t132r0c1 : Int) (t132r0c2 : Int) (t132r0c3a : Option Addr) (t132r0c3n : Nat) (t132r0c3k : Nat) (t132r0c4 : Int) (t132r1 : Int) (H_4 : Heap), xC Try.prog good 22 [.pointer t16, .slice t18a t18n t18k, .slice t4a t4n t4k] H_3 = some (.tuple #[.agg #[.int .i64 t132r0c0, .int .i64 t132r0c1, .int .u32 t132r0c2, .slice t132r0c3a t132r0c3n t132r0c3k, .int .u32 t132r0c4], .int .i64 t132r1], H_4) ∧
    (∃ (H_5 : Heap), H_5 = H_4.push (.row [.int .i64 0, .int .i64 0, .int .u32 0, .slice none 0 0, .int .u32 0] true) ∧
    (∃ (H_6 : Heap), stc H_5 H_4.next 0 [.int .i64 t132r0c0, .int .i64 t132r0c1, .int .u32 t132r0c2, .slice t132r0c3a t132r0c3n t132r0c3k, .int .u32 t132r0c4] = some H_6 ∧
    (if t125r1 = 0 then
    (if t132r1 = 8 then
    (∃ (t143 : Int), ldc H_6 H_1.next 0 = some (.int .i64 t143) ∧
    (if t143 = t0 then
    (∃ (t149 : Int), ldc H_6 H_1.next 2 = some (.int .u32 t149) ∧
    (if t149 = t3 then
    (∃ (t155 : Int), ldc H_6 H_1.next 1 = some (.int .i64 t155) ∧
    (∃ (t158 : Bool) (H_7 : Heap), xC Try.prog good 23 [.slice t4a t4n t4k] H_6 = some (.bool t158, H_7) ∧
    (if ((t155 == 0) == t158) = true then
    (∃ (t163a : Option Addr) (t163n : Nat) (t163k : Nat), ldc H_7 H_1.next 3 = some (.slice t163a t163n t163k) ∧
    (∃ (t165a : Option Addr) (t165n : Nat) (t165k : Nat) (H_8 : Heap), xC Try.prog good 25 [.slice t4a t4n t4k] H_7 = some (.slice t165a t165n t165k, H_8) ∧
    (∃ (t166 : Bool) (H_9 : Heap), xC Try.prog good 24 [.slice t163a t163n t163k, .slice t165a t165n t165k] H_8 = some (.bool t166, H_9) ∧
    (ldc H_7 H_1.next 1 = some (.int .i64 t155) ∧
    ldc H_8 H_1.next 3 = some (.slice t163a t163n t163k) ∧
    (L4 (t2) (t5) (t6) (t17) (H_1.next) (0) ((!t166)) H_9 r)))))
    else
    (ldc H_7 H_1.next 1 = some (.int .i64 t155) ∧
    (L4 (t2) (t5) (t6) (t17) (H_1.next) (0) (true) H_7 r)))))
    else
    ((L4 (t2) (t5) (t6) (t17) (H_1.next) (0) (true) H_6 r))))
    else
    ((L4 (t2) (t5) (t6) (t17) (H_1.next) (0) (true) H_6 r))))
    else
    ((L4 (t2) (t5) (t6) (t17) (H_1.next) (0) (true) H_6 r)))
    else
    ((L4 (t2) (t5) (t6) (t17) (H_1.next) (0) (true) H_6 r))))))))) :
    L2 t0 t2 t3 t4a t4n t4k t5 t6 t16 t17 t18a t18n t18k H r := by
  intro J
  show KR _ _ _ (.reg (opsAt (sub B [1, 1, 1, 1, 1, 1, 1, 1, 1, 1, 0])) [0, 1, 2, 3, 4, 5, 6, 7, 8, 9] :: S10) _ _ _
  refine KR.run 3 [(0, .int .i64 t0), (2, .int .u64 t2), (3, .int .u32 t3), (4, .slice t4a t4n t4k), (5, .int .i64 t5), (6, .int .u8 t6), (16, .pointer t16), (17, .pointer t17), (18, .slice t18a t18n t18k), (122, .pointer t16), (123, .slice t18a t18n t18k), (124, .slice t4a t4n t4k)] 234 (s' := (.reg (opsAt (sub B [1, 1, 1, 1, 1, 1, 1, 1, 1, 1, 0])) [3, 4, 5, 6, 7, 8, 9] :: S10)) (by kernel_rfl) fun J => ?_
  obtain ⟨t125r0c0, t125r0c1, t125r0c2, t125r0c3a, t125r0c3n, t125r0c3k, t125r0c4, t125r1, H_1, q29, h⟩ := h
  refine KR.se (one_ca (by kernel_rfl) q29) ?_
  refine KR.run 3 [(0, .int .i64 t0), (2, .int .u64 t2), (3, .int .u32 t3), (4, .slice t4a t4n t4k), (5, .int .i64 t5), (6, .int .u8 t6), (16, .pointer t16), (17, .pointer t17), (18, .slice t18a t18n t18k), (126, .agg #[.int .i64 t125r0c0, .int .i64 t125r0c1, .int .u32 t125r0c2, .slice t125r0c3a t125r0c3n t125r0c3k, .int .u32 t125r0c4]), (127, .int .i64 t125r1)] 234 (s' := (.reg (opsAt (sub B [1, 1, 1, 1, 1, 1, 1, 1, 1, 1, 0])) [7, 8, 9] :: S10)) (by kernel_rfl) fun J => ?_
  obtain ⟨H_2, q30, h⟩ := h
  refine KR.mk (w := pRow [.int .i64 0, .int .i64 0, .int .u32 0, .slice none 0 0, .int .u32 0]) (one_al (by kernel_rfl)) q30 ?_
  obtain ⟨H_3, q31, h⟩ := h
  refine KR.se (one_st (by kernel_rfl) q31) ?_
  refine KR.run 7 [(0, .int .i64 t0), (2, .int .u64 t2), (3, .int .u32 t3), (4, .slice t4a t4n t4k), (5, .int .i64 t5), (6, .int .u8 t6), (17, .pointer t17), (23, .pointer (some ⟨H_1.next, 0, none⟩)), (24, .int .i64 t125r1), (129, .pointer t16), (130, .slice t18a t18n t18k), (131, .slice t4a t4n t4k)] 234 (s' := (.reg (opsAt (sub B [1, 1, 1, 1, 1, 1, 1, 1, 1, 1, 1, 0])) [3, 4, 5, 6, 7, 8, 9] :: S15)) (by kernel_rfl) fun J => ?_
  obtain ⟨t132r0c0, t132r0c1, t132r0c2, t132r0c3a, t132r0c3n, t132r0c3k, t132r0c4, t132r1, H_4, q32, h⟩ := h
  refine KR.se (one_ca (by kernel_rfl) q32) ?_
  refine KR.run 3 [(0, .int .i64 t0), (2, .int .u64 t2), (3, .int .u32 t3), (4, .slice t4a t4n t4k), (5, .int .i64 t5), (6, .int .u8 t6), (17, .pointer t17), (23, .pointer (some ⟨H_1.next, 0, none⟩)), (24, .int .i64 t125r1), (133, .agg #[.int .i64 t132r0c0, .int .i64 t132r0c1, .int .u32 t132r0c2, .slice t132r0c3a t132r0c3n t132r0c3k, .int .u32 t132r0c4]), (134, .int .i64 t132r1)] 234 (s' := (.reg (opsAt (sub B [1, 1, 1, 1, 1, 1, 1, 1, 1, 1, 1, 0])) [7, 8, 9] :: S15)) (by kernel_rfl) fun J => ?_
  obtain ⟨H_5, q33, h⟩ := h
  refine KR.mk (w := pRow [.int .i64 0, .int .i64 0, .int .u32 0, .slice none 0 0, .int .u32 0]) (one_al (by kernel_rfl)) q33 ?_
  obtain ⟨H_6, q34, h⟩ := h
  refine KR.se (one_st (by kernel_rfl) q34) ?_
  refine KR.run 4 [(0, .int .i64 t0), (2, .int .u64 t2), (3, .int .u32 t3), (4, .slice t4a t4n t4k), (5, .int .i64 t5), (6, .int .u8 t6), (17, .pointer t17), (23, .pointer (some ⟨H_1.next, 0, none⟩)), (24, .int .i64 t125r1), (26, .int .i64 t132r1)] 234 (s' := (.code (sub B [1, 1, 1, 1, 1, 1, 1, 1, 1, 1, 1, 1, 0, 0]) :: S17)) (by kernel_rfl) fun J => ?_
  refine KE.start H_6 (by kernel_rfl) (by kernel_rfl) ?_
  refine KE.run 3 [(0, .int .i64 t0), (2, .int .u64 t2), (3, .int .u32 t3), (4, .slice t4a t4n t4k), (5, .int .i64 t5), (6, .int .u8 t6), (17, .pointer t17), (23, .pointer (some ⟨H_1.next, 0, none⟩)), (26, .int .i64 t132r1), (137, .bool (!(t125r1 == 0)))] 234 3 (by kernel_rfl) fun J => ?_
  by_cases c35 : t125r1 = 0
  · replace h := iteT c35 h
    refine KE.setV 137 (by kernel_rfl) (nB (eT c35)) ?_
    refine KE.run 4 [(0, .int .i64 t0), (2, .int .u64 t2), (3, .int .u32 t3), (4, .slice t4a t4n t4k), (5, .int .i64 t5), (6, .int .u8 t6), (17, .pointer t17), (23, .pointer (some ⟨H_1.next, 0, none⟩)), (141, .bool (!(t132r1 == 8)))] 234 7 (by kernel_rfl) fun J => ?_
    by_cases c36 : t132r1 = 8
    · replace h := iteT c36 h
      refine KE.setV 141 (by kernel_rfl) (nB (eT c36)) ?_
      refine KE.run 1 [(0, .int .i64 t0), (2, .int .u64 t2), (3, .int .u32 t3), (4, .slice t4a t4n t4k), (5, .int .i64 t5), (6, .int .u8 t6), (17, .pointer t17), (23, .pointer (some ⟨H_1.next, 0, none⟩)), (141, .bool false), (142, .pointer (some ⟨H_1.next, 0, none⟩))] 234 8 (by kernel_rfl) fun J => ?_
      obtain ⟨t143, q37, h⟩ := h
      refine KE.rdN (one_ld (by kernel_rfl) q37) (by kernel_rfl) ?_
      refine KE.run 4 [(2, .int .u64 t2), (3, .int .u32 t3), (4, .slice t4a t4n t4k), (5, .int .i64 t5), (6, .int .u8 t6), (17, .pointer t17), (23, .pointer (some ⟨H_1.next, 0, none⟩)), (147, .bool (!(t143 == t0)))] 234 13 (by kernel_rfl) fun J => ?_
      by_cases c38 : t143 = t0
      · replace h := iteT c38 h
        refine KE.setV 147 (by kernel_rfl) (nB (eT c38)) ?_
        refine KE.run 1 [(2, .int .u64 t2), (3, .int .u32 t3), (4, .slice t4a t4n t4k), (5, .int .i64 t5), (6, .int .u8 t6), (17, .pointer t17), (23, .pointer (some ⟨H_1.next, 0, none⟩)), (147, .bool false), (148, .pointer (some ⟨H_1.next, 2, none⟩))] 234 14 (by kernel_rfl) fun J => ?_
        obtain ⟨t149, q39, h⟩ := h
        refine KE.rdN (one_ld (by kernel_rfl) q39) (by kernel_rfl) ?_
        refine KE.run 4 [(2, .int .u64 t2), (4, .slice t4a t4n t4k), (5, .int .i64 t5), (6, .int .u8 t6), (17, .pointer t17), (23, .pointer (some ⟨H_1.next, 0, none⟩)), (153, .bool (!(t149 == t3)))] 234 19 (by kernel_rfl) fun J => ?_
        by_cases c40 : t149 = t3
        · replace h := iteT c40 h
          refine KE.setV 153 (by kernel_rfl) (nB (eT c40)) ?_
          refine KE.run 1 [(2, .int .u64 t2), (4, .slice t4a t4n t4k), (5, .int .i64 t5), (6, .int .u8 t6), (17, .pointer t17), (23, .pointer (some ⟨H_1.next, 0, none⟩)), (153, .bool false), (154, .pointer (some ⟨H_1.next, 1, none⟩))] 234 20 (by kernel_rfl) fun J => ?_
          obtain ⟨t155, q41, h⟩ := h
          refine KE.rdF (one_ld (by kernel_rfl) q41) (by kernel_rfl) ?_
          refine KE.run 2 [(2, .int .u64 t2), (4, .slice t4a t4n t4k), (5, .int .i64 t5), (6, .int .u8 t6), (17, .pointer t17), (23, .pointer (some ⟨H_1.next, 0, none⟩)), (153, .bool false), (156, .bool (t155 == 0)), (157, .slice t4a t4n t4k)] 234 23 (by kernel_rfl) fun J => ?_
          obtain ⟨t158, H_7, q42, h⟩ := h
          refine KE.se (one_ca (by kernel_rfl) q42) (by kernel_rfl) ?_
          refine KE.run 3 [(2, .int .u64 t2), (4, .slice t4a t4n t4k), (5, .int .i64 t5), (6, .int .u8 t6), (17, .pointer t17), (23, .pointer (some ⟨H_1.next, 0, none⟩)), (161, .bool (!((t155 == 0) == t158)))] 234 27 (by kernel_rfl) fun J => ?_
          by_cases c43 : ((t155 == 0) == t158) = true
          · replace h := iteT c43 h
            refine KE.setV 161 (by kernel_rfl) (nB (bT c43)) ?_
            refine KE.run 1 [(2, .int .u64 t2), (4, .slice t4a t4n t4k), (5, .int .i64 t5), (6, .int .u8 t6), (17, .pointer t17), (23, .pointer (some ⟨H_1.next, 0, none⟩)), (161, .bool false), (162, .pointer (some ⟨H_1.next, 3, none⟩))] 234 28 (by kernel_rfl) fun J => ?_
            obtain ⟨t163a, t163n, t163k, q44, h⟩ := h
            refine KE.rdF (one_ld (by kernel_rfl) q44) (by kernel_rfl) ?_
            refine KE.run 1 [(2, .int .u64 t2), (5, .int .i64 t5), (6, .int .u8 t6), (17, .pointer t17), (23, .pointer (some ⟨H_1.next, 0, none⟩)), (161, .bool false), (163, .slice t163a t163n t163k), (164, .slice t4a t4n t4k)] 234 30 (by kernel_rfl) fun J => ?_
            obtain ⟨t165a, t165n, t165k, H_8, q45, h⟩ := h
            refine KE.se (one_ca (by kernel_rfl) q45) (by kernel_rfl) ?_
            obtain ⟨t166, H_9, q46, h⟩ := h
            refine KE.se (one_ca (by kernel_rfl) q46) (by kernel_rfl) ?_
            refine KE.run 2 [(2, .int .u64 t2), (5, .int .i64 t5), (6, .int .u8 t6), (17, .pointer t17), (23, .pointer (some ⟨H_1.next, 0, none⟩)), (168, .bool (!t166))] 234 34 (by kernel_rfl) fun J => ?_
            obtain ⟨q47, q48, h⟩ := h
            refine KE.fin (H' := H_9) (by kernel_rfl) (rdsS (rdsS (rfl) (rd_ok (Hs := [H_7]) (by kernel_rfl) (by kernel_rfl) ⟨one_ld (by kernel_rfl) q47, trivial⟩)) (rd_ok (Hs := [H_8]) (by kernel_rfl) (by kernel_rfl) ⟨one_ld (by kernel_rfl) q48, trivial⟩)) (by kernel_rfl) ?_
            exact KR.run 0 [(2, .int .u64 t2), (5, .int .i64 t5), (6, .int .u8 t6), (17, .pointer t17), (23, .pointer (some ⟨H_1.next, 0, none⟩)), (168, .bool (!t166))] 234 (s' := (.code (sub B [1, 1, 1, 1, 1, 1, 1, 1, 1, 1, 1, 1, 0, 1]) :: S16)) (by kernel_rfl) h
          · replace h := iteF c43 h
            refine KE.setV 161 (by kernel_rfl) (nB (bF c43)) ?_
            refine KE.run 3 [(2, .int .u64 t2), (5, .int .i64 t5), (6, .int .u8 t6), (17, .pointer t17), (23, .pointer (some ⟨H_1.next, 0, none⟩)), (161, .bool true), (163, undef), (164, undef)] 234 30 (by kernel_rfl) fun J => ?_
            refine KE.no (Gc := H_7) (by kernel_rfl) (by kernel_rfl) (by kernel_rfl) ?_
            refine KE.no (Gc := H_7) (by kernel_rfl) (by kernel_rfl) (by kernel_rfl) ?_
            refine KE.run 2 [(2, .int .u64 t2), (5, .int .i64 t5), (6, .int .u8 t6), (17, .pointer t17), (23, .pointer (some ⟨H_1.next, 0, none⟩)), (168, .bool true)] 234 34 (by kernel_rfl) fun J => ?_
            obtain ⟨q49, h⟩ := h
            refine KE.fin (H' := H_7) (by kernel_rfl) (rdsS (rfl) (rd_ok (Hs := [H_7]) (by kernel_rfl) (by kernel_rfl) ⟨one_ld (by kernel_rfl) q49, trivial⟩)) (by kernel_rfl) ?_
            exact KR.run 0 [(2, .int .u64 t2), (5, .int .i64 t5), (6, .int .u8 t6), (17, .pointer t17), (23, .pointer (some ⟨H_1.next, 0, none⟩)), (168, .bool true)] 234 (s' := (.code (sub B [1, 1, 1, 1, 1, 1, 1, 1, 1, 1, 1, 1, 0, 1]) :: S16)) (by kernel_rfl) h
        · replace h := iteF c40 h
          refine KE.setV 153 (by kernel_rfl) (nB (eF c40)) ?_
          refine KE.run 4 [(2, .int .u64 t2), (4, .slice t4a t4n t4k), (5, .int .i64 t5), (6, .int .u8 t6), (17, .pointer t17), (23, .pointer (some ⟨H_1.next, 0, none⟩)), (153, .bool true), (156, undef), (157, undef)] 234 23 (by kernel_rfl) fun J => ?_
          refine KE.no (Gc := H_6) (by kernel_rfl) (by kernel_rfl) (by kernel_rfl) ?_
          refine KE.run 6 [(2, .int .u64 t2), (5, .int .i64 t5), (6, .int .u8 t6), (17, .pointer t17), (23, .pointer (some ⟨H_1.next, 0, none⟩)), (161, .bool true), (163, undef), (164, undef)] 234 30 (by kernel_rfl) fun J => ?_
          refine KE.no (Gc := H_6) (by kernel_rfl) (by kernel_rfl) (by kernel_rfl) ?_
          refine KE.no (Gc := H_6) (by kernel_rfl) (by kernel_rfl) (by kernel_rfl) ?_
          refine KE.run 2 [(2, .int .u64 t2), (5, .int .i64 t5), (6, .int .u8 t6), (17, .pointer t17), (23, .pointer (some ⟨H_1.next, 0, none⟩)), (168, .bool true)] 234 34 (by kernel_rfl) fun J => ?_
          refine KE.fin (H' := H_6) (by kernel_rfl) (rfl) (by kernel_rfl) ?_
          exact KR.run 0 [(2, .int .u64 t2), (5, .int .i64 t5), (6, .int .u8 t6), (17, .pointer t17), (23, .pointer (some ⟨H_1.next, 0, none⟩)), (168, .bool true)] 234 (s' := (.code (sub B [1, 1, 1, 1, 1, 1, 1, 1, 1, 1, 1, 1, 0, 1]) :: S16)) (by kernel_rfl) h
      · replace h := iteF c38 h
        refine KE.setV 147 (by kernel_rfl) (nB (eF c38)) ?_
        refine KE.run 10 [(2, .int .u64 t2), (4, .slice t4a t4n t4k), (5, .int .i64 t5), (6, .int .u8 t6), (17, .pointer t17), (23, .pointer (some ⟨H_1.next, 0, none⟩)), (153, .bool true), (156, undef), (157, undef)] 234 23 (by kernel_rfl) fun J => ?_
        refine KE.no (Gc := H_6) (by kernel_rfl) (by kernel_rfl) (by kernel_rfl) ?_
        refine KE.run 6 [(2, .int .u64 t2), (5, .int .i64 t5), (6, .int .u8 t6), (17, .pointer t17), (23, .pointer (some ⟨H_1.next, 0, none⟩)), (161, .bool true), (163, undef), (164, undef)] 234 30 (by kernel_rfl) fun J => ?_
        refine KE.no (Gc := H_6) (by kernel_rfl) (by kernel_rfl) (by kernel_rfl) ?_
        refine KE.no (Gc := H_6) (by kernel_rfl) (by kernel_rfl) (by kernel_rfl) ?_
        refine KE.run 2 [(2, .int .u64 t2), (5, .int .i64 t5), (6, .int .u8 t6), (17, .pointer t17), (23, .pointer (some ⟨H_1.next, 0, none⟩)), (168, .bool true)] 234 34 (by kernel_rfl) fun J => ?_
        refine KE.fin (H' := H_6) (by kernel_rfl) (rfl) (by kernel_rfl) ?_
        exact KR.run 0 [(2, .int .u64 t2), (5, .int .i64 t5), (6, .int .u8 t6), (17, .pointer t17), (23, .pointer (some ⟨H_1.next, 0, none⟩)), (168, .bool true)] 234 (s' := (.code (sub B [1, 1, 1, 1, 1, 1, 1, 1, 1, 1, 1, 1, 0, 1]) :: S16)) (by kernel_rfl) h
    · replace h := iteF c36 h
      refine KE.setV 141 (by kernel_rfl) (nB (eF c36)) ?_
      refine KE.run 16 [(2, .int .u64 t2), (4, .slice t4a t4n t4k), (5, .int .i64 t5), (6, .int .u8 t6), (17, .pointer t17), (23, .pointer (some ⟨H_1.next, 0, none⟩)), (153, .bool true), (156, undef), (157, undef)] 234 23 (by kernel_rfl) fun J => ?_
      refine KE.no (Gc := H_6) (by kernel_rfl) (by kernel_rfl) (by kernel_rfl) ?_
      refine KE.run 6 [(2, .int .u64 t2), (5, .int .i64 t5), (6, .int .u8 t6), (17, .pointer t17), (23, .pointer (some ⟨H_1.next, 0, none⟩)), (161, .bool true), (163, undef), (164, undef)] 234 30 (by kernel_rfl) fun J => ?_
      refine KE.no (Gc := H_6) (by kernel_rfl) (by kernel_rfl) (by kernel_rfl) ?_
      refine KE.no (Gc := H_6) (by kernel_rfl) (by kernel_rfl) (by kernel_rfl) ?_
      refine KE.run 2 [(2, .int .u64 t2), (5, .int .i64 t5), (6, .int .u8 t6), (17, .pointer t17), (23, .pointer (some ⟨H_1.next, 0, none⟩)), (168, .bool true)] 234 34 (by kernel_rfl) fun J => ?_
      refine KE.fin (H' := H_6) (by kernel_rfl) (rfl) (by kernel_rfl) ?_
      exact KR.run 0 [(2, .int .u64 t2), (5, .int .i64 t5), (6, .int .u8 t6), (17, .pointer t17), (23, .pointer (some ⟨H_1.next, 0, none⟩)), (168, .bool true)] 234 (s' := (.code (sub B [1, 1, 1, 1, 1, 1, 1, 1, 1, 1, 1, 1, 0, 1]) :: S16)) (by kernel_rfl) h
  · replace h := iteF c35 h
    refine KE.setV 137 (by kernel_rfl) (nB (eF c35)) ?_
    refine KE.run 20 [(2, .int .u64 t2), (4, .slice t4a t4n t4k), (5, .int .i64 t5), (6, .int .u8 t6), (17, .pointer t17), (23, .pointer (some ⟨H_1.next, 0, none⟩)), (153, .bool true), (156, undef), (157, undef)] 234 23 (by kernel_rfl) fun J => ?_
    refine KE.no (Gc := H_6) (by kernel_rfl) (by kernel_rfl) (by kernel_rfl) ?_
    refine KE.run 6 [(2, .int .u64 t2), (5, .int .i64 t5), (6, .int .u8 t6), (17, .pointer t17), (23, .pointer (some ⟨H_1.next, 0, none⟩)), (161, .bool true), (163, undef), (164, undef)] 234 30 (by kernel_rfl) fun J => ?_
    refine KE.no (Gc := H_6) (by kernel_rfl) (by kernel_rfl) (by kernel_rfl) ?_
    refine KE.no (Gc := H_6) (by kernel_rfl) (by kernel_rfl) (by kernel_rfl) ?_
    refine KE.run 2 [(2, .int .u64 t2), (5, .int .i64 t5), (6, .int .u8 t6), (17, .pointer t17), (23, .pointer (some ⟨H_1.next, 0, none⟩)), (168, .bool true)] 234 34 (by kernel_rfl) fun J => ?_
    refine KE.fin (H' := H_6) (by kernel_rfl) (rfl) (by kernel_rfl) ?_
    exact KR.run 0 [(2, .int .u64 t2), (5, .int .i64 t5), (6, .int .u8 t6), (17, .pointer t17), (23, .pointer (some ⟨H_1.next, 0, none⟩)), (168, .bool true)] 234 (s' := (.code (sub B [1, 1, 1, 1, 1, 1, 1, 1, 1, 1, 1, 1, 0, 1]) :: S16)) (by kernel_rfl) h
theorem L3_step {t0 : Int} {t2 : Int} {t3 : Int} {t4a : Option Addr} {t4n : Nat} {t4k : Nat} {t5 : Int} {t6 : Int} {t16 : Option Addr} {t17 : Option Addr} {t18a : Option Addr} {t18n : Nat} {t18k : Nat} {t120 : Bool} {H : Heap} {r : Value × Heap} (h :
    if t120 = true then
    (r = (.bool false, H))
    else
    (L2 (t0) (t2) (t3) (t4a) (t4n) (t4k) (t5) (t6) (t16) (t17) (t18a) (t18n) (t18k) H r)) :
    L3 t0 t2 t3 t4a t4n t4k t5 t6 t16 t17 t18a t18n t18k t120 H r := by
  intro J
  show KR _ _ _ (.code (sub B [1, 1, 1, 1, 1, 1, 1, 1, 1, 0, 1, 0, 1, 1, 1, 1]) :: S9) _ _ _
  by_cases c50 : t120 = true
  · replace h := iteT c50 h
    refine KR.br true (by kernel_rfl) (vB (bT c50)) ?_
    refine KR.run 4 [(14, .bool false)] 234 (s' := (.code (sub B [1, 1, 1, 1, 1, 1, 1, 1, 1, 0, 1, 0, 1, 1, 1, 1, 0, 1]) :: S9)) (by kernel_rfl) fun J => ?_
    exact KR.fin (by kernel_rfl) h
  · replace h := iteF c50 h
    refine KR.br false (by kernel_rfl) (vB (bF c50)) ?_
    exact KR.run 3 [(0, .int .i64 t0), (2, .int .u64 t2), (3, .int .u32 t3), (4, .slice t4a t4n t4k), (5, .int .i64 t5), (6, .int .u8 t6), (16, .pointer t16), (17, .pointer t17), (18, .slice t18a t18n t18k)] 234 (s' := (.reg (opsAt (sub B [1, 1, 1, 1, 1, 1, 1, 1, 1, 1, 0])) [0, 1, 2, 3, 4, 5, 6, 7, 8, 9] :: S10)) (by kernel_rfl) h
theorem L4_step {t2 : Int} {t5 : Int} {t6 : Int} {t17 : Option Addr} {t23b : Nat} {t23o : Nat} {t168 : Bool} {H : Heap} {r : Value × Heap} (h :
    if t168 = true then
    (r = (.bool false, H))
    else
    (∃ (t171c0 : Int) (t171c1 : Int) (t171c2 : Int) (t171c3a : Option Addr) (t171c3n : Nat) (t171c3k : Nat) (t171c4 : Int), ldAll H t23b t23o [.int .i64 t171c0, .int .i64 t171c1, .int .u32 t171c2, .slice t171c3a t171c3n t171c3k, .int .u32 t171c4] ∧
    (∃ (t172r0a : Option Addr) (t172r0n : Nat) (t172r0k : Nat) (t172r1 : Int) (H_1 : Heap), xC Try.prog good 11 [.int .u64 t2, .agg #[.int .i64 t171c0, .int .i64 t171c1, .int .u32 t171c2, .slice t171c3a t171c3n t171c3k, .int .u32 t171c4]] H = some (.tuple #[.slice t172r0a t172r0n t172r0k, .int .i64 t172r1], H_1) ∧
    (if t172r1 = 0 then
    (L5 (t5) (t6) (t17) (t23b) (t23o) (t172r0a) (t172r0n) (t172r0k) ((decide (((t172r0n : Nat) : Int) < 12))) H_1 r)
    else
    (L5 (t5) (t6) (t17) (t23b) (t23o) (t172r0a) (t172r0n) (t172r0k) (true) H_1 r))))) :
    L4 t2 t5 t6 t17 t23b t23o t168 H r := by
  intro J
  show KR _ _ _ (.code (sub B [1, 1, 1, 1, 1, 1, 1, 1, 1, 1, 1, 1, 0, 1]) :: S16) _ _ _
  by_cases c51 : t168 = true
  · replace h := iteT c51 h
    refine KR.br true (by kernel_rfl) (vB (bT c51)) ?_
    refine KR.run 4 [(14, .bool false)] 234 (s' := (.code (sub B [1, 1, 1, 1, 1, 1, 1, 1, 1, 1, 1, 1, 0, 1, 0, 1]) :: S16)) (by kernel_rfl) fun J => ?_
    exact KR.fin (by kernel_rfl) h
  · replace h := iteF c51 h
    refine KR.br false (by kernel_rfl) (vB (bF c51)) ?_
    refine KR.run 4 [(5, .int .i64 t5), (6, .int .u8 t6), (17, .pointer t17), (23, .pointer (some ⟨t23b, t23o, none⟩)), (170, .int .u64 t2)] 234 (s' := (.reg (opsAt (sub B [1, 1, 1, 1, 1, 1, 1, 1, 1, 1, 1, 1, 1, 0])) [1, 2, 3, 4, 5, 6, 7] :: S18)) (by kernel_rfl) fun J => ?_
    obtain ⟨t171c0, t171c1, t171c2, t171c3a, t171c3n, t171c3k, t171c4, q52, h⟩ := h
    refine KR.rd (one_ldA (by kernel_rfl) q52) ?_
    obtain ⟨t172r0a, t172r0n, t172r0k, t172r1, H_1, q53, h⟩ := h
    refine KR.se (one_ca (by kernel_rfl) q53) ?_
    refine KR.run 12 [(5, .int .i64 t5), (6, .int .u8 t6), (17, .pointer t17), (23, .pointer (some ⟨t23b, t23o, none⟩)), (27, .slice t172r0a t172r0n t172r0k), (177, .bool (!(t172r1 == 0)))] 234 (s' := (.reg (opsAt (sub B [1, 1, 1, 1, 1, 1, 1, 1, 1, 1, 1, 1, 1, 1, 0, 0])) [3, 4, 5, 6] :: S20)) (by kernel_rfl) fun J => ?_
    by_cases c54 : t172r1 = 0
    · replace h := iteT c54 h
      refine KR.setV 177 (by kernel_rfl) (nB (eT c54)) ?_
      exact KR.run 5 [(5, .int .i64 t5), (6, .int .u8 t6), (17, .pointer t17), (23, .pointer (some ⟨t23b, t23o, none⟩)), (27, .slice t172r0a t172r0n t172r0k), (181, .bool (decide (((t172r0n : Nat) : Int) < 12)))] 234 (s' := (.code (sub B [1, 1, 1, 1, 1, 1, 1, 1, 1, 1, 1, 1, 1, 1, 0, 1]) :: S19)) (by kernel_rfl) h
    · replace h := iteF c54 h
      refine KR.setV 177 (by kernel_rfl) (nB (eF c54)) ?_
      exact KR.run 5 [(5, .int .i64 t5), (6, .int .u8 t6), (17, .pointer t17), (23, .pointer (some ⟨t23b, t23o, none⟩)), (27, .slice t172r0a t172r0n t172r0k), (181, .bool true)] 234 (s' := (.code (sub B [1, 1, 1, 1, 1, 1, 1, 1, 1, 1, 1, 1, 1, 1, 0, 1]) :: S19)) (by kernel_rfl) h
theorem L5_step {t5 : Int} {t6 : Int} {t17 : Option Addr} {t23b : Nat} {t23o : Nat} {t27a : Option Addr} {t27n : Nat} {t27k : Nat} {t181 : Bool} {H : Heap} {r : Value × Heap} (h :
    if t181 = true then
    (r = (.bool false, H))
    else
    (if t6 = 0 then
    (L6 (t17) (t23b) (t23o) (t27a) (t27n) (t27k) H r)
    else
    (∃ (H_1 : Heap), H_1 = H.push (.row [] true) ∧
    (∃ (t186a : Option Addr) (t186n : Nat) (t186k : Nat) (H_2 : Heap), papp H_1 1 1 (some ⟨H.next, 0, none⟩) 0 (UNK 1) t27a t27n t27k = some ((t186a, t186n, t186k), H_2) ∧
    ((IntKind.wrap .u64 ((t186n : Nat) : Int)) ≠ 0 ∧
    (∃ (t186ab t186ao : Nat), t186a = some ⟨t186ab, t186ao, none⟩ ∧
    ((0 : Int) ≤ (IntKind.wrap .i64 (Int.tmod (IntKind.wrap .u64 t5) (IntKind.wrap .u64 ((t186n : Nat) : Int)))) ∧ (IntKind.wrap .i64 (Int.tmod (IntKind.wrap .u64 t5) (IntKind.wrap .u64 ((t186n : Nat) : Int)))) < ((t186n : Nat) : Int) ∧
    (∃ (t196 : Int), ldc H_2 t186ab (t186ao + Int.toNat (IntKind.wrap .i64 (Int.tmod (IntKind.wrap .u64 t5) (IntKind.wrap .u64 ((t186n : Nat) : Int)))) * 1) = some (.int .u8 t196) ∧
    ((0 : Int) ≤ (IntKind.wrap .i64 (Int.tmod (IntKind.wrap .u64 t5) (IntKind.wrap .u64 ((t186n : Nat) : Int)))) ∧ (IntKind.wrap .i64 (Int.tmod (IntKind.wrap .u64 t5) (IntKind.wrap .u64 ((t186n : Nat) : Int)))) < ((t186n : Nat) : Int) ∧
    (∃ (H_3 : Heap), stc H_2 t186ab (t186ao + Int.toNat (IntKind.wrap .i64 (Int.tmod (IntKind.wrap .u64 t5) (IntKind.wrap .u64 ((t186n : Nat) : Int)))) * 1) [.int .u8 (ixor .u8 t196 t6)] = some H_3 ∧
    (∃ (t203r0c0 : Int) (t203r0c1 : Int) (t203r0c2 : Int) (t203r0c3a : Option Addr) (t203r0c3n : Nat) (t203r0c3k : Nat) (t203r0c4 : Int) (t203r1 : Int) (H_4 : Heap), xC Try.prog good 26 [.pointer t17, .slice (some ⟨t186ab, t186ao, none⟩) t186n t186k] H_3 = some (.tuple #[.agg #[.int .i64 t203r0c0, .int .i64 t203r0c1, .int .u32 t203r0c2, .slice t203r0c3a t203r0c3n t203r0c3k, .int .u32 t203r0c4], .int .i64 t203r1], H_4) ∧
    (∃ (H_5 : Heap), H_5 = H_4.push (.row [.int .i64 0, .int .i64 0, .int .u32 0, .slice none 0 0, .int .u32 0] true) ∧
    (∃ (H_6 : Heap), stc H_5 H_4.next 0 [.int .i64 t203r0c0, .int .i64 t203r0c1, .int .u32 t203r0c2, .slice t203r0c3a t203r0c3n t203r0c3k, .int .u32 t203r0c4] = some H_6 ∧
    (if t203r1 = 0 then
    (r = (.bool false, H_6))
    else
    (L6 (t17) (t23b) (t23o) (t27a) (t27n) (t27k) H_6 r))))))))))))))) :
    L5 t5 t6 t17 t23b t23o t27a t27n t27k t181 H r := by
  intro J
  show KR _ _ _ (.code (sub B [1, 1, 1, 1, 1, 1, 1, 1, 1, 1, 1, 1, 1, 1, 0, 1]) :: S19) _ _ _
  by_cases c55 : t181 = true
  · replace h := iteT c55 h
    refine KR.br true (by kernel_rfl) (vB (bT c55)) ?_
    refine KR.run 4 [(14, .bool false)] 234 (s' := (.code (sub B [1, 1, 1, 1, 1, 1, 1, 1, 1, 1, 1, 1, 1, 1, 0, 1, 0, 1]) :: S19)) (by kernel_rfl) fun J => ?_
    exact KR.fin (by kernel_rfl) h
  · replace h := iteF c55 h
    refine KR.br false (by kernel_rfl) (vB (bF c55)) ?_
    refine KR.run 7 [(5, .int .i64 t5), (6, .int .u8 t6), (17, .pointer t17), (23, .pointer (some ⟨t23b, t23o, none⟩)), (27, .slice t27a t27n t27k), (183, .bool (!(t6 == 0)))] 234 (s' := (.code (sub B [1, 1, 1, 1, 1, 1, 1, 1, 1, 1, 1, 1, 1, 1, 1, 0, 1]) :: S21)) (by kernel_rfl) fun J => ?_
    by_cases c56 : t6 = 0
    · replace h := iteT c56 h
      refine KR.br false (by kernel_rfl) (vB (nB (eT c56))) ?_
      exact KR.run 3 [(17, .pointer t17), (23, .pointer (some ⟨t23b, t23o, none⟩)), (27, .slice t27a t27n t27k)] 234 (s' := (.reg (opsAt (sub B [1, 1, 1, 1, 1, 1, 1, 1, 1, 1, 1, 1, 1, 1, 1, 1, 0])) [0, 1, 2, 3, 4, 5, 6, 7, 8] :: S22)) (by kernel_rfl) h
    · replace h := iteF c56 h
      refine KR.br true (by kernel_rfl) (vB (nB (eF c56))) ?_
      refine KR.run 2 [(5, .int .i64 t5), (6, .int .u8 t6), (17, .pointer t17), (23, .pointer (some ⟨t23b, t23o, none⟩)), (27, .slice t27a t27n t27k)] 234 (s' := (.reg (opsAt (sub B [1, 1, 1, 1, 1, 1, 1, 1, 1, 1, 1, 1, 1, 1, 1, 0, 1, 0, 0])) [0, 1, 2, 3] :: S23)) (by kernel_rfl) fun J => ?_
      obtain ⟨H_1, q57, h⟩ := h
      refine KR.mk (w := sRow 0 1 []) (one_al (by kernel_rfl)) q57 ?_
      refine KR.run 1 [(5, .int .i64 t5), (6, .int .u8 t6), (17, .pointer t17), (23, .pointer (some ⟨t23b, t23o, none⟩)), (27, .slice t27a t27n t27k), (184, .slice (some ⟨H.next, 0, none⟩) 0 (UNK 1)), (185, .slice t27a t27n t27k)] 234 (s' := (.reg (opsAt (sub B [1, 1, 1, 1, 1, 1, 1, 1, 1, 1, 1, 1, 1, 1, 1, 0, 1, 0, 0])) [2, 3] :: S23)) (by kernel_rfl) fun J => ?_
      obtain ⟨t186a, t186n, t186k, H_2, q58, h⟩ := h
      refine KR.se (one_ap 1 1 (by kernel_rfl) q58) ?_
      refine KR.run 10 [(6, .int .u8 t6), (17, .pointer t17), (23, .pointer (some ⟨t23b, t23o, none⟩)), (27, .slice t27a t27n t27k), (29, .slice t186a t186n t186k), (187, .slice t186a t186n t186k), (189, .int .u64 (IntKind.wrap .u64 t5)), (192, .int .u64 (IntKind.wrap .u64 ((t186n : Nat) : Int)))] 234 (s' := (.reg (opsAt (sub B [1, 1, 1, 1, 1, 1, 1, 1, 1, 1, 1, 1, 1, 1, 1, 0, 1, 0, 1, 0])) [6, 7, 8, 9, 10, 11, 12, 13] :: S24)) (by kernel_rfl) fun J => ?_
      obtain ⟨q59, h⟩ := h
      refine KR.p (one_rem .u64 (IntKind.wrap .u64 t5) (by kernel_rfl) q59) ?_
      obtain ⟨t186ab, t186ao, rfl, h⟩ := h
      refine KR.run 1 [(6, .int .u8 t6), (17, .pointer t17), (23, .pointer (some ⟨t23b, t23o, none⟩)), (27, .slice t27a t27n t27k), (29, .slice (some ⟨t186ab, t186ao, none⟩) t186n t186k), (187, .slice (some ⟨t186ab, t186ao, none⟩) t186n t186k), (194, .int .i64 (IntKind.wrap .i64 (Int.tmod (IntKind.wrap .u64 t5) (IntKind.wrap .u64 ((t186n : Nat) : Int)))))] 234 (s' := (.reg (opsAt (sub B [1, 1, 1, 1, 1, 1, 1, 1, 1, 1, 1, 1, 1, 1, 1, 0, 1, 0, 1, 0])) [8, 9, 10, 11, 12, 13] :: S24)) (by kernel_rfl) fun J => ?_
      obtain ⟨q60, q60x, h⟩ := h
      refine KR.p (one_ix 1 t186ab t186ao (by kernel_rfl) q60 q60x) ?_
      obtain ⟨t196, q61, h⟩ := h
      refine KR.rd (one_ld (by kernel_rfl) q61) ?_
      refine KR.run 2 [(17, .pointer t17), (23, .pointer (some ⟨t23b, t23o, none⟩)), (27, .slice t27a t27n t27k), (29, .slice (some ⟨t186ab, t186ao, none⟩) t186n t186k), (187, .slice (some ⟨t186ab, t186ao, none⟩) t186n t186k), (194, .int .i64 (IntKind.wrap .i64 (Int.tmod (IntKind.wrap .u64 t5) (IntKind.wrap .u64 ((t186n : Nat) : Int))))), (198, .int .u8 (ixor .u8 t196 t6))] 234 (s' := (.reg (opsAt (sub B [1, 1, 1, 1, 1, 1, 1, 1, 1, 1, 1, 1, 1, 1, 1, 0, 1, 0, 1, 0])) [12, 13] :: S24)) (by kernel_rfl) fun J => ?_
      obtain ⟨q62, q62x, h⟩ := h
      refine KR.p (one_ix 1 t186ab t186ao (by kernel_rfl) q62 q62x) ?_
      obtain ⟨H_3, q63, h⟩ := h
      refine KR.se (one_st (by kernel_rfl) q63) ?_
      refine KR.run 5 [(17, .pointer t17), (23, .pointer (some ⟨t23b, t23o, none⟩)), (27, .slice t27a t27n t27k), (201, .pointer t17), (202, .slice (some ⟨t186ab, t186ao, none⟩) t186n t186k)] 234 (s' := (.reg (opsAt (sub B [1, 1, 1, 1, 1, 1, 1, 1, 1, 1, 1, 1, 1, 1, 1, 0, 1, 0, 1, 1, 0])) [2, 3, 4, 5, 6, 7, 8] :: S25)) (by kernel_rfl) fun J => ?_
      obtain ⟨t203r0c0, t203r0c1, t203r0c2, t203r0c3a, t203r0c3n, t203r0c3k, t203r0c4, t203r1, H_4, q64, h⟩ := h
      refine KR.se (one_ca (by kernel_rfl) q64) ?_
      refine KR.run 3 [(17, .pointer t17), (23, .pointer (some ⟨t23b, t23o, none⟩)), (27, .slice t27a t27n t27k), (204, .agg #[.int .i64 t203r0c0, .int .i64 t203r0c1, .int .u32 t203r0c2, .slice t203r0c3a t203r0c3n t203r0c3k, .int .u32 t203r0c4]), (205, .int .i64 t203r1)] 234 (s' := (.reg (opsAt (sub B [1, 1, 1, 1, 1, 1, 1, 1, 1, 1, 1, 1, 1, 1, 1, 0, 1, 0, 1, 1, 0])) [6, 7, 8] :: S25)) (by kernel_rfl) fun J => ?_
      obtain ⟨H_5, q65, h⟩ := h
      refine KR.mk (w := pRow [.int .i64 0, .int .i64 0, .int .u32 0, .slice none 0 0, .int .u32 0]) (one_al (by kernel_rfl)) q65 ?_
      obtain ⟨H_6, q66, h⟩ := h
      refine KR.se (one_st (by kernel_rfl) q66) ?_
      refine KR.run 7 [(17, .pointer t17), (23, .pointer (some ⟨t23b, t23o, none⟩)), (27, .slice t27a t27n t27k), (207, .bool (t203r1 == 0))] 234 (s' := (.code (sub B [1, 1, 1, 1, 1, 1, 1, 1, 1, 1, 1, 1, 1, 1, 1, 0, 1, 0, 1, 1, 1, 1]) :: S21)) (by kernel_rfl) fun J => ?_
      by_cases c67 : t203r1 = 0
      · replace h := iteT c67 h
        refine KR.br true (by kernel_rfl) (vB (eT c67)) ?_
        refine KR.run 4 [(14, .bool false)] 234 (s' := (.code (sub B [1, 1, 1, 1, 1, 1, 1, 1, 1, 1, 1, 1, 1, 1, 1, 0, 1, 0, 1, 1, 1, 1, 0, 1]) :: S21)) (by kernel_rfl) fun J => ?_
        exact KR.fin (by kernel_rfl) h
      · replace h := iteF c67 h
        refine KR.br false (by kernel_rfl) (vB (eF c67)) ?_
        exact KR.run 3 [(17, .pointer t17), (23, .pointer (some ⟨t23b, t23o, none⟩)), (27, .slice t27a t27n t27k)] 234 (s' := (.reg (opsAt (sub B [1, 1, 1, 1, 1, 1, 1, 1, 1, 1, 1, 1, 1, 1, 1, 1, 0])) [0, 1, 2, 3, 4, 5, 6, 7, 8] :: S22)) (by kernel_rfl) h
theorem L6_step {t17 : Option Addr} {t23b : Nat} {t23o : Nat} {t27a : Option Addr} {t27n : Nat} {t27k : Nat} {H : Heap} {r : Value × Heap} (h :
    ∃ (t211r0c0 : Int) (t211r0c1 : Int) (t211r0c2 : Int) (t211r0c3a : Option Addr) (t211r0c3n : Nat) (t211r0c3k : Nat) (t211r0c4 : Int) (t211r1 : Int) (H_1 : Heap), xC Try.prog good 26 [.pointer t17, .slice t27a t27n t27k] H = some (.tuple #[.agg #[.int .i64 t211r0c0, .int .i64 t211r0c1, .int .u32 t211r0c2, .slice t211r0c3a t211r0c3n t211r0c3k, .int .u32 t211r0c4], .int .i64 t211r1], H_1) ∧
    (∃ (H_2 : Heap), H_2 = H_1.push (.row [.int .i64 0, .int .i64 0, .int .u32 0, .slice none 0 0, .int .u32 0] true) ∧
    (∃ (H_3 : Heap), stc H_2 H_1.next 0 [.int .i64 t211r0c0, .int .i64 t211r0c1, .int .u32 t211r0c2, .slice t211r0c3a t211r0c3n t211r0c3k, .int .u32 t211r0c4] = some H_3 ∧
    (∃ (t217r0c0 : Int) (t217r0c1 : Int) (t217r0c2 : Int) (t217r0c3a : Option Addr) (t217r0c3n : Nat) (t217r0c3k : Nat) (t217r0c4 : Int) (t217r1 : Int) (H_4 : Heap), xC Try.prog good 26 [.pointer t17, .slice t27a t27n t27k] H_3 = some (.tuple #[.agg #[.int .i64 t217r0c0, .int .i64 t217r0c1, .int .u32 t217r0c2, .slice t217r0c3a t217r0c3n t217r0c3k, .int .u32 t217r0c4], .int .i64 t217r1], H_4) ∧
    (∃ (H_5 : Heap), H_5 = H_4.push (.row [.int .i64 0, .int .i64 0, .int .u32 0, .slice none 0 0, .int .u32 0] true) ∧
    (∃ (H_6 : Heap), stc H_5 H_4.next 0 [.int .i64 t217r0c0, .int .i64 t217r0c1, .int .u32 t217r0c2, .slice t217r0c3a t217r0c3n t217r0c3k, .int .u32 t217r0c4] = some H_6 ∧
    (if t211r1 = 0 then
    (∃ (t223c0 : Int) (t223c1 : Int) (t223c2 : Int) (t223c3a : Option Addr) (t223c3n : Nat) (t223c3k : Nat) (t223c4 : Int), ldAll H_6 H_1.next 0 [.int .i64 t223c0, .int .i64 t223c1, .int .u32 t223c2, .slice t223c3a t223c3n t223c3k, .int .u32 t223c4] ∧
    (∃ (t224c0 : Int) (t224c1 : Int) (t224c2 : Int) (t224c3a : Option Addr) (t224c3n : Nat) (t224c3k : Nat) (t224c4 : Int), ldAll H_6 t23b t23o [.int .i64 t224c0, .int .i64 t224c1, .int .u32 t224c2, .slice t224c3a t224c3n t224c3k, .int .u32 t224c4] ∧
    (∃ (t225 : Bool) (H_7 : Heap), xC Try.prog good 18 [.agg #[.int .i64 t223c0, .int .i64 t223c1, .int .u32 t223c2, .slice t223c3a t223c3n t223c3k, .int .u32 t223c4], .agg #[.int .i64 t224c0, .int .i64 t224c1, .int .u32 t224c2, .slice t224c3a t224c3n t224c3k, .int .u32 t224c4]] H_6 = some (.bool t225, H_7) ∧
    (if t225 = true then
    (if t217r1 = 7 then
    (∃ (t232 : Bool) (H_8 : Heap), xC Try.prog good 8 [] H_7 = some (.bool t232, H_8) ∧
    (r = (.bool t232, H_8)))
    else
    (r = (.bool false, H_7)))
    else
    (r = (.bool false, H_7))))))
    else
    (r = (.bool false, H_6))))))))) :
    L6 t17 t23b t23o t27a t27n t27k H r := by
  intro J
  show KR _ _ _ (.reg (opsAt (sub B [1, 1, 1, 1, 1, 1, 1, 1, 1, 1, 1, 1, 1, 1, 1, 1, 0])) [0, 1, 2, 3, 4, 5, 6, 7, 8] :: S22) _ _ _
  refine KR.run 2 [(17, .pointer t17), (23, .pointer (some ⟨t23b, t23o, none⟩)), (27, .slice t27a t27n t27k), (209, .pointer t17), (210, .slice t27a t27n t27k)] 234 (s' := (.reg (opsAt (sub B [1, 1, 1, 1, 1, 1, 1, 1, 1, 1, 1, 1, 1, 1, 1, 1, 0])) [2, 3, 4, 5, 6, 7, 8] :: S22)) (by kernel_rfl) fun J => ?_
  obtain ⟨t211r0c0, t211r0c1, t211r0c2, t211r0c3a, t211r0c3n, t211r0c3k, t211r0c4, t211r1, H_1, q68, h⟩ := h
  refine KR.se (one_ca (by kernel_rfl) q68) ?_
  refine KR.run 3 [(17, .pointer t17), (23, .pointer (some ⟨t23b, t23o, none⟩)), (27, .slice t27a t27n t27k), (212, .agg #[.int .i64 t211r0c0, .int .i64 t211r0c1, .int .u32 t211r0c2, .slice t211r0c3a t211r0c3n t211r0c3k, .int .u32 t211r0c4]), (213, .int .i64 t211r1)] 234 (s' := (.reg (opsAt (sub B [1, 1, 1, 1, 1, 1, 1, 1, 1, 1, 1, 1, 1, 1, 1, 1, 0])) [6, 7, 8] :: S22)) (by kernel_rfl) fun J => ?_
  obtain ⟨H_2, q69, h⟩ := h
  refine KR.mk (w := pRow [.int .i64 0, .int .i64 0, .int .u32 0, .slice none 0 0, .int .u32 0]) (one_al (by kernel_rfl)) q69 ?_
  obtain ⟨H_3, q70, h⟩ := h
  refine KR.se (one_st (by kernel_rfl) q70) ?_
  refine KR.run 6 [(23, .pointer (some ⟨t23b, t23o, none⟩)), (32, .pointer (some ⟨H_1.next, 0, none⟩)), (33, .int .i64 t211r1), (215, .pointer t17), (216, .slice t27a t27n t27k)] 234 (s' := (.reg (opsAt (sub B [1, 1, 1, 1, 1, 1, 1, 1, 1, 1, 1, 1, 1, 1, 1, 1, 1, 0])) [2, 3, 4, 5, 6, 7, 8] :: S26)) (by kernel_rfl) fun J => ?_
  obtain ⟨t217r0c0, t217r0c1, t217r0c2, t217r0c3a, t217r0c3n, t217r0c3k, t217r0c4, t217r1, H_4, q71, h⟩ := h
  refine KR.se (one_ca (by kernel_rfl) q71) ?_
  refine KR.run 3 [(23, .pointer (some ⟨t23b, t23o, none⟩)), (32, .pointer (some ⟨H_1.next, 0, none⟩)), (33, .int .i64 t211r1), (218, .agg #[.int .i64 t217r0c0, .int .i64 t217r0c1, .int .u32 t217r0c2, .slice t217r0c3a t217r0c3n t217r0c3k, .int .u32 t217r0c4]), (219, .int .i64 t217r1)] 234 (s' := (.reg (opsAt (sub B [1, 1, 1, 1, 1, 1, 1, 1, 1, 1, 1, 1, 1, 1, 1, 1, 1, 0])) [6, 7, 8] :: S26)) (by kernel_rfl) fun J => ?_
  obtain ⟨H_5, q72, h⟩ := h
  refine KR.mk (w := pRow [.int .i64 0, .int .i64 0, .int .u32 0, .slice none 0 0, .int .u32 0]) (one_al (by kernel_rfl)) q72 ?_
  obtain ⟨H_6, q73, h⟩ := h
  refine KR.se (one_st (by kernel_rfl) q73) ?_
  refine KR.run 7 [(23, .pointer (some ⟨t23b, t23o, none⟩)), (32, .pointer (some ⟨H_1.next, 0, none⟩)), (35, .int .i64 t217r1), (222, .bool (t211r1 == 0))] 234 (s' := (.reg (opsAt (sub B [1, 1, 1, 1, 1, 1, 1, 1, 1, 1, 1, 1, 1, 1, 1, 1, 1, 1, 0])) [3, 4, 5, 6, 7, 8, 9, 10, 11, 12, 13, 14] :: S27)) (by kernel_rfl) fun J => ?_
  by_cases c74 : t211r1 = 0
  · replace h := iteT c74 h
    refine KR.setV 222 (by kernel_rfl) (eT c74) ?_
    obtain ⟨t223c0, t223c1, t223c2, t223c3a, t223c3n, t223c3k, t223c4, q75, h⟩ := h
    refine KR.rd (one_ldA (by kernel_rfl) q75) ?_
    obtain ⟨t224c0, t224c1, t224c2, t224c3a, t224c3n, t224c3k, t224c4, q76, h⟩ := h
    refine KR.rd (one_ldA (by kernel_rfl) q76) ?_
    obtain ⟨t225, H_7, q77, h⟩ := h
    refine KR.se (one_ca (by kernel_rfl) q77) ?_
    refine KR.run 2 [(35, .int .i64 t217r1), (227, .bool t225)] 234 (s' := (.reg (opsAt (sub B [1, 1, 1, 1, 1, 1, 1, 1, 1, 1, 1, 1, 1, 1, 1, 1, 1, 1, 0])) [8, 9, 10, 11, 12, 13, 14] :: S27)) (by kernel_rfl) fun J => ?_
    by_cases c78 : t225 = true
    · replace h := iteT c78 h
      refine KR.setV 227 (by kernel_rfl) (bT c78) ?_
      refine KR.run 4 [(231, .bool (t217r1 == 7))] 234 (s' := (.reg (opsAt (sub B [1, 1, 1, 1, 1, 1, 1, 1, 1, 1, 1, 1, 1, 1, 1, 1, 1, 1, 0])) [12, 13, 14] :: S27)) (by kernel_rfl) fun J => ?_
      by_cases c79 : t217r1 = 7
      · replace h := iteT c79 h
        refine KR.setV 231 (by kernel_rfl) (eT c79) ?_
        obtain ⟨t232, H_8, q80, h⟩ := h
        refine KR.se (one_ca (by kernel_rfl) q80) ?_
        refine KR.run 3 [(14, .bool t232)] 234 (s' := (.code (sub B [1, 1, 1, 1, 1, 1, 1, 1, 1, 1, 1, 1, 1, 1, 1, 1, 1, 1, 1]) :: [])) (by kernel_rfl) fun J => ?_
        exact KR.fin (by kernel_rfl) h
      · replace h := iteF c79 h
        refine KR.setV 231 (by kernel_rfl) (eF c79) ?_
        refine KR.run 4 [(14, .bool false)] 234 (s' := (.code (sub B [1, 1, 1, 1, 1, 1, 1, 1, 1, 1, 1, 1, 1, 1, 1, 1, 1, 1, 1]) :: [])) (by kernel_rfl) fun J => ?_
        exact KR.fin (by kernel_rfl) h
    · replace h := iteF c78 h
      refine KR.setV 227 (by kernel_rfl) (bF c78) ?_
      refine KR.run 8 [(14, .bool false)] 234 (s' := (.code (sub B [1, 1, 1, 1, 1, 1, 1, 1, 1, 1, 1, 1, 1, 1, 1, 1, 1, 1, 1]) :: [])) (by kernel_rfl) fun J => ?_
      exact KR.fin (by kernel_rfl) h
  · replace h := iteF c74 h
    refine KR.setV 222 (by kernel_rfl) (eF c74) ?_
    refine KR.run 13 [(14, .bool false)] 234 (s' := (.code (sub B [1, 1, 1, 1, 1, 1, 1, 1, 1, 1, 1, 1, 1, 1, 1, 1, 1, 1, 1]) :: [])) (by kernel_rfl) fun J => ?_
    exact KR.fin (by kernel_rfl) h
theorem call {a0 : Int} {a1 : Int} {a2 : Int} {a3 : Int} {a4a : Option Addr} {a4n : Nat} {a4k : Nat} {a5 : Int} {a6 : Int} {H : Heap} {r : Value × Heap} (h :
    ∃ (t48n : Nat) (H_1 : Heap), pmk 8 16 16 = some t48n ∧ H_1 = H.push (.row (zerosL [.int .u64 0] t48n) true) ∧
    ((0 : Int) ≤ (IntKind.wrap .i64 (Int.tmod (IntKind.wrap .u64 a0) 16)) ∧ (IntKind.wrap .i64 (Int.tmod (IntKind.wrap .u64 a0) 16)) < ((t48n : Nat) : Int) ∧
    (∃ (H_2 : Heap), stc H_1 H.next (0 + Int.toNat (IntKind.wrap .i64 (Int.tmod (IntKind.wrap .u64 a0) 16)) * 1) [.int .u64 a2] = some H_2 ∧
    (∃ (t54 : Option Addr) (H_3 : Heap), xC Try.prog good 19 [.slice (some ⟨H.next, 0, none⟩) t48n (UNK 1)] H_2 = some (.pointer t54, H_3) ∧
    (∃ (t57 : Option Addr) (H_4 : Heap), xC Try.prog good 20 [.int .i64 (IntKind.wrap .i64 (Int.tmod (IntKind.wrap .u64 a0) 16)), .int .u64 a2] H_3 = some (.pointer t57, H_4) ∧
    (if (Option.isNone t54) = true then
    (L0 ((IntKind.wrap .i64 (Int.tmod (IntKind.wrap .u64 a0) 16))) ((Int.tmod (IntKind.wrap .i64 ((IntKind.wrap .i64 ((IntKind.wrap .i64 (Int.tmod (IntKind.wrap .u64 a0) 16)) + 1)) + (IntKind.wrap .i64 (Int.tmod (IntKind.wrap .u64 a1) 15)))) 16)) (a2) (a3) (a4a) (a4n) (a4k) (a5) (a6) (t54) (t57) (true) H_4 r)
    else
    (if (Option.isNone t57) = true then
    (L0 ((IntKind.wrap .i64 (Int.tmod (IntKind.wrap .u64 a0) 16))) ((Int.tmod (IntKind.wrap .i64 ((IntKind.wrap .i64 ((IntKind.wrap .i64 (Int.tmod (IntKind.wrap .u64 a0) 16)) + 1)) + (IntKind.wrap .i64 (Int.tmod (IntKind.wrap .u64 a1) 15)))) 16)) (a2) (a3) (a4a) (a4n) (a4k) (a5) (a6) (t54) (t57) (true) H_4 r)
    else
    (L0 ((IntKind.wrap .i64 (Int.tmod (IntKind.wrap .u64 a0) 16))) ((Int.tmod (IntKind.wrap .i64 ((IntKind.wrap .i64 ((IntKind.wrap .i64 (Int.tmod (IntKind.wrap .u64 a0) 16)) + 1)) + (IntKind.wrap .i64 (Int.tmod (IntKind.wrap .u64 a1) 15)))) 16)) (a2) (a3) (a4a) (a4n) (a4k) (a5) (a6) (t54) (t57) ((decide (((a4n : Nat) : Int) > 40))) H_4 r)))))))) :
    xC Try.prog good 4 [.int .i64 a0, .int .i64 a1, .int .u64 a2, .int .u32 a3, .slice a4a a4n a4k, .int .i64 a5, .int .u8 a6] H = some r := by
  refine KR.enter (fn := Try.f4) (c := B) (by kernel_rfl) (by kernel_rfl) ?_
  refine KR.run 26 [(0, .int .i64 (IntKind.wrap .i64 (Int.tmod (IntKind.wrap .u64 a0) 16))), (1, .int .i64 (Int.tmod (IntKind.wrap .i64 ((IntKind.wrap .i64 ((IntKind.wrap .i64 (Int.tmod (IntKind.wrap .u64 a0) 16)) + 1)) + (IntKind.wrap .i64 (Int.tmod (IntKind.wrap .u64 a1) 15)))) 16)), (2, .int .u64 a2), (3, .int .u32 a3), (4, .slice a4a a4n a4k), (5, .int .i64 a5), (6, .int .u8 a6)] 234 (s' := (.reg (opsAt (sub B [1, 1, 1, 0])) [0, 1] :: S0)) (by kernel_rfl) fun J => ?_
  obtain ⟨t48n, H_1, q1, q1x, h⟩ := h
  refine KR.mk (w := sRow t48n 1 (zerosL [.int .u64 0] t48n)) (one_mk 1 8 (by kernel_rfl) q1) q1x ?_
  refine KR.run 7 [(0, .int .i64 (IntKind.wrap .i64 (Int.tmod (IntKind.wrap .u64 a0) 16))), (1, .int .i64 (Int.tmod (IntKind.wrap .i64 ((IntKind.wrap .i64 ((IntKind.wrap .i64 (Int.tmod (IntKind.wrap .u64 a0) 16)) + 1)) + (IntKind.wrap .i64 (Int.tmod (IntKind.wrap .u64 a1) 15)))) 16)), (2, .int .u64 a2), (3, .int .u32 a3), (4, .slice a4a a4n a4k), (5, .int .i64 a5), (6, .int .u8 a6), (15, .slice (some ⟨H.next, 0, none⟩) t48n (UNK 1)), (49, .slice (some ⟨H.next, 0, none⟩) t48n (UNK 1)), (50, .int .i64 (IntKind.wrap .i64 (Int.tmod (IntKind.wrap .u64 a0) 16))), (51, .int .u64 a2)] 234 (s' := (.reg (opsAt (sub B [1, 1, 1, 1, 0])) [3, 4] :: S1)) (by kernel_rfl) fun J => ?_
  obtain ⟨q2, q2x, h⟩ := h
  refine KR.p (one_ix 1 H.next 0 (by kernel_rfl) q2 q2x) ?_
  obtain ⟨H_2, q3, h⟩ := h
  refine KR.se (one_st (by kernel_rfl) q3) ?_
  refine KR.run 4 [(0, .int .i64 (IntKind.wrap .i64 (Int.tmod (IntKind.wrap .u64 a0) 16))), (1, .int .i64 (Int.tmod (IntKind.wrap .i64 ((IntKind.wrap .i64 ((IntKind.wrap .i64 (Int.tmod (IntKind.wrap .u64 a0) 16)) + 1)) + (IntKind.wrap .i64 (Int.tmod (IntKind.wrap .u64 a1) 15)))) 16)), (2, .int .u64 a2), (3, .int .u32 a3), (4, .slice a4a a4n a4k), (5, .int .i64 a5), (6, .int .u8 a6), (53, .slice (some ⟨H.next, 0, none⟩) t48n (UNK 1))] 234 (s' := (.reg (opsAt (sub B [1, 1, 1, 1, 1, 0])) [1, 2, 3, 4, 5, 6] :: S2)) (by kernel_rfl) fun J => ?_
  obtain ⟨t54, H_3, q4, h⟩ := h
  refine KR.se (one_ca (by kernel_rfl) q4) ?_
  refine KR.run 2 [(0, .int .i64 (IntKind.wrap .i64 (Int.tmod (IntKind.wrap .u64 a0) 16))), (1, .int .i64 (Int.tmod (IntKind.wrap .i64 ((IntKind.wrap .i64 ((IntKind.wrap .i64 (Int.tmod (IntKind.wrap .u64 a0) 16)) + 1)) + (IntKind.wrap .i64 (Int.tmod (IntKind.wrap .u64 a1) 15)))) 16)), (2, .int .u64 a2), (3, .int .u32 a3), (4, .slice a4a a4n a4k), (5, .int .i64 a5), (6, .int .u8 a6), (54, .pointer t54), (55, .int .i64 (IntKind.wrap .i64 (Int.tmod (IntKind.wrap .u64 a0) 16))), (56, .int .u64 a2)] 234 (s' := (.reg (opsAt (sub B [1, 1, 1, 1, 1, 0])) [4, 5, 6] :: S2)) (by kernel_rfl) fun J => ?_
  obtain ⟨t57, H_4, q5, h⟩ := h
  refine KR.se (one_ca (by kernel_rfl) q5) ?_
  refine KR.run 7 [(0, .int .i64 (IntKind.wrap .i64 (Int.tmod (IntKind.wrap .u64 a0) 16))), (1, .int .i64 (Int.tmod (IntKind.wrap .i64 ((IntKind.wrap .i64 ((IntKind.wrap .i64 (Int.tmod (IntKind.wrap .u64 a0) 16)) + 1)) + (IntKind.wrap .i64 (Int.tmod (IntKind.wrap .u64 a1) 15)))) 16)), (2, .int .u64 a2), (3, .int .u32 a3), (4, .slice a4a a4n a4k), (5, .int .i64 a5), (6, .int .u8 a6), (16, .pointer t54), (17, .pointer t57), (58, .pointer t54)] 234 (s' := (.reg (opsAt (sub B [1, 1, 1, 1, 1, 1, 0, 0])) [1, 2, 3, 4, 5, 6, 7, 8, 9, 10] :: S4)) (by kernel_rfl) fun J => ?_
  refine KR.p (one_nl false t54 (by kernel_rfl)) ?_
  refine KR.run 1 [(0, .int .i64 (IntKind.wrap .i64 (Int.tmod (IntKind.wrap .u64 a0) 16))), (1, .int .i64 (Int.tmod (IntKind.wrap .i64 ((IntKind.wrap .i64 ((IntKind.wrap .i64 (Int.tmod (IntKind.wrap .u64 a0) 16)) + 1)) + (IntKind.wrap .i64 (Int.tmod (IntKind.wrap .u64 a1) 15)))) 16)), (2, .int .u64 a2), (3, .int .u32 a3), (4, .slice a4a a4n a4k), (5, .int .i64 a5), (6, .int .u8 a6), (16, .pointer t54), (17, .pointer t57), (60, .bool (Option.isNone t54))] 234 (s' := (.reg (opsAt (sub B [1, 1, 1, 1, 1, 1, 0, 0])) [3, 4, 5, 6, 7, 8, 9, 10] :: S4)) (by kernel_rfl) fun J => ?_
  by_cases c7 : (Option.isNone t54) = true
  · replace h := iteT c7 h
    refine KR.setV 60 (by kernel_rfl) (bT c7) ?_
    exact KR.run 9 [(0, .int .i64 (IntKind.wrap .i64 (Int.tmod (IntKind.wrap .u64 a0) 16))), (1, .int .i64 (Int.tmod (IntKind.wrap .i64 ((IntKind.wrap .i64 ((IntKind.wrap .i64 (Int.tmod (IntKind.wrap .u64 a0) 16)) + 1)) + (IntKind.wrap .i64 (Int.tmod (IntKind.wrap .u64 a1) 15)))) 16)), (2, .int .u64 a2), (3, .int .u32 a3), (4, .slice a4a a4n a4k), (5, .int .i64 a5), (6, .int .u8 a6), (16, .pointer t54), (17, .pointer t57), (68, .bool true)] 234 (s' := (.code (sub B [1, 1, 1, 1, 1, 1, 0, 1]) :: S3)) (by kernel_rfl) h
  · replace h := iteF c7 h
    refine KR.setV 60 (by kernel_rfl) (bF c7) ?_
    refine KR.run 1 [(0, .int .i64 (IntKind.wrap .i64 (Int.tmod (IntKind.wrap .u64 a0) 16))), (1, .int .i64 (Int.tmod (IntKind.wrap .i64 ((IntKind.wrap .i64 ((IntKind.wrap .i64 (Int.tmod (IntKind.wrap .u64 a0) 16)) + 1)) + (IntKind.wrap .i64 (Int.tmod (IntKind.wrap .u64 a1) 15)))) 16)), (2, .int .u64 a2), (3, .int .u32 a3), (4, .slice a4a a4n a4k), (5, .int .i64 a5), (6, .int .u8 a6), (16, .pointer t54), (17, .pointer t57), (60, .bool false), (61, .pointer t57)] 234 (s' := (.reg (opsAt (sub B [1, 1, 1, 1, 1, 1, 0, 0])) [4, 5, 6, 7, 8, 9, 10] :: S4)) (by kernel_rfl) fun J => ?_
    refine KR.p (one_nl false t57 (by kernel_rfl)) ?_
    refine KR.run 2 [(0, .int .i64 (IntKind.wrap .i64 (Int.tmod (IntKind.wrap .u64 a0) 16))), (1, .int .i64 (Int.tmod (IntKind.wrap .i64 ((IntKind.wrap .i64 ((IntKind.wrap .i64 (Int.tmod (IntKind.wrap .u64 a0) 16)) + 1)) + (IntKind.wrap .i64 (Int.tmod (IntKind.wrap .u64 a1) 15)))) 16)), (2, .int .u64 a2), (3, .int .u32 a3), (4, .slice a4a a4n a4k), (5, .int .i64 a5), (6, .int .u8 a6), (16, .pointer t54), (17, .pointer t57), (64, .bool (Option.isNone t57))] 234 (s' := (.reg (opsAt (sub B [1, 1, 1, 1, 1, 1, 0, 0])) [7, 8, 9, 10] :: S4)) (by kernel_rfl) fun J => ?_
    by_cases c9 : (Option.isNone t57) = true
    · replace h := iteT c9 h
      refine KR.setV 64 (by kernel_rfl) (bT c9) ?_
      exact KR.run 5 [(0, .int .i64 (IntKind.wrap .i64 (Int.tmod (IntKind.wrap .u64 a0) 16))), (1, .int .i64 (Int.tmod (IntKind.wrap .i64 ((IntKind.wrap .i64 ((IntKind.wrap .i64 (Int.tmod (IntKind.wrap .u64 a0) 16)) + 1)) + (IntKind.wrap .i64 (Int.tmod (IntKind.wrap .u64 a1) 15)))) 16)), (2, .int .u64 a2), (3, .int .u32 a3), (4, .slice a4a a4n a4k), (5, .int .i64 a5), (6, .int .u8 a6), (16, .pointer t54), (17, .pointer t57), (68, .bool true)] 234 (s' := (.code (sub B [1, 1, 1, 1, 1, 1, 0, 1]) :: S3)) (by kernel_rfl) h
    · replace h := iteF c9 h
      refine KR.setV 64 (by kernel_rfl) (bF c9) ?_
      exact KR.run 5 [(0, .int .i64 (IntKind.wrap .i64 (Int.tmod (IntKind.wrap .u64 a0) 16))), (1, .int .i64 (Int.tmod (IntKind.wrap .i64 ((IntKind.wrap .i64 ((IntKind.wrap .i64 (Int.tmod (IntKind.wrap .u64 a0) 16)) + 1)) + (IntKind.wrap .i64 (Int.tmod (IntKind.wrap .u64 a1) 15)))) 16)), (2, .int .u64 a2), (3, .int .u32 a3), (4, .slice a4a a4n a4k), (5, .int .i64 a5), (6, .int .u8 a6), (16, .pointer t54), (17, .pointer t57), (68, .bool (decide (((a4n : Nat) : Int) > 40)))] 234 (s' := (.code (sub B [1, 1, 1, 1, 1, 1, 0, 1]) :: S3)) (by kernel_rfl) h
end F4
end Go.X
