/- The walks of the functions: printed. -/
import Derived.Test.YtdnokmjobpbhhaaXzGc
set_option linter.unusedVariables false
set_option maxRecDepth 100000
namespace Go.X
open Go Go.RowKit Go.Proofs
/-! #### 5 campanile/campanilelaw19.RouteWays -/
namespace F5
noncomputable def B : Code := bodyOf Try.f5
noncomputable def S0 : List It := (.code (sub B [1, 1]) :: [])
noncomputable def S3 : List It := (.code (sub B [1, 1, 1, 1, 1]) :: [])
noncomputable def S4 : List It := (.code (sub B [1, 1, 1, 1, 1, 1]) :: [])
noncomputable def S17 : List It := (.code (sub B [1, 1, 1, 1, 1, 1, 1]) :: [])
noncomputable def S18 : List It := (.code (sub B [1, 1, 1, 1, 1, 1, 1, 1, 1]) :: [])
noncomputable def S27 : List It := (.code (sub B [1, 1, 1, 1, 1, 1, 1, 1, 1, 1]) :: [])
noncomputable def S28 : List It := (.code (sub B [1, 1, 1, 1, 1, 1, 1, 1, 1, 1, 1]) :: [])
noncomputable def S29 : List It := (.code (sub B [1, 1, 1, 1, 1, 1, 1, 1, 1, 1, 1, 1]) :: [])
noncomputable def S30 : List It := (.code (sub B [1, 1, 1, 1, 1, 1, 1, 1, 1, 1, 1, 1, 1]) :: [])
noncomputable def S1 : List It := (.code (sub B [1, 0, 1]) :: S0)
noncomputable def S2 : List It := (.code (sub B [1, 0, 1, 0, 1]) :: S0)
noncomputable def S5 : List It := (.code (sub B [1, 1, 1, 1, 1, 0, 1]) :: S4)
noncomputable def S6 : List It := (.blk 0 :: S4)
noncomputable def S19 : List It := (.blk 2 :: S18)
noncomputable def S7 : List It := (.lp (sub B [1, 1, 1, 1, 1, 0, 1, 0, 0]) :: S6)
noncomputable def S20 : List It := (.lp (sub B [1, 1, 1, 1, 1, 1, 1, 1, 0, 1, 0, 0]) :: S19)
noncomputable def S8 : List It := (.code (sub B [1, 1, 1, 1, 1, 0, 1, 0, 0, 1, 1]) :: S7)
noncomputable def S9 : List It := (.code (sub B [1, 1, 1, 1, 1, 0, 1, 0, 0, 1, 1, 1]) :: S7)
noncomputable def S21 : List It := (.code (sub B [1, 1, 1, 1, 1, 1, 1, 1, 0, 1, 0, 0, 1, 1]) :: S20)
noncomputable def S22 : List It := (.code (sub B [1, 1, 1, 1, 1, 1, 1, 1, 0, 1, 0, 0, 1, 1, 1]) :: S20)
noncomputable def S10 : List It := (.blk 1 :: S9)
noncomputable def S23 : List It := (.blk 3 :: S22)
noncomputable def S11 : List It := (.code (sub B [1, 1, 1, 1, 1, 0, 1, 0, 0, 1, 1, 0, 0, 1]) :: S10)
noncomputable def S12 : List It := (.code (sub B [1, 1, 1, 1, 1, 0, 1, 0, 0, 1, 1, 0, 0, 1, 1]) :: S10)
noncomputable def S13 : List It := (.code (sub B [1, 1, 1, 1, 1, 0, 1, 0, 0, 1, 1, 0, 0, 1, 1, 1]) :: S10)
noncomputable def S15 : List It := (.code (sub B [1, 1, 1, 1, 1, 0, 1, 0, 0, 1, 1, 0, 0, 1, 1, 1, 1]) :: S10)
noncomputable def S24 : List It := (.code (sub B [1, 1, 1, 1, 1, 1, 1, 1, 0, 1, 0, 0, 1, 1, 0, 0, 1, 1]) :: S23)
noncomputable def S25 : List It := (.code (sub B [1, 1, 1, 1, 1, 1, 1, 1, 0, 1, 0, 0, 1, 1, 0, 0, 1, 1, 1]) :: S23)
noncomputable def S14 : List It := (.code (sub B [1, 1, 1, 1, 1, 0, 1, 0, 0, 1, 1, 0, 0, 1, 1, 0, 1, 0, 1]) :: S13)
noncomputable def S16 : List It := (.code (sub B [1, 1, 1, 1, 1, 0, 1, 0, 0, 1, 1, 0, 0, 1, 1, 1, 0, 1]) :: S15)
noncomputable def S26 : List It := (.code (sub B [1, 1, 1, 1, 1, 1, 1, 1, 0, 1, 0, 0, 1, 1, 0, 0, 1, 1, 0, 1]) :: S25)
def L0 (t0a : Option Addr) (t0n : Nat) (t0k : Nat) (t1 : Int) (t2a : Option Addr) (t2n : Nat) (t2k : Nat) (t3 : Int) (t53 : Bool) (H : Heap) (r : Value × Heap) : Prop := ∀ J, KR Try.prog good Try.f5 S1 (mat J 216 [(0, .slice t0a t0n t0k), (1, .int .i64 t1), (2, .slice t2a t2n t2k), (3, .int .i64 t3), (53, .bool t53)]) H r
def L1 (t0b : Nat) (t0o : Nat) (t0n : Nat) (t0k : Nat) (t1 : Int) (t2a : Option Addr) (t2n : Nat) (t2k : Nat) (t3 : Int) (t9b : Nat) (t9o : Nat) (t75a : Option Addr) (t75n : Nat) (t75k : Nat) (t76 : Int) (t77 : Int) (H : Heap) (r : Value × Heap) : Prop := ∀ J, KR Try.prog good Try.f5 S7 (mat J 216 [(0, .slice (some ⟨t0b, t0o, none⟩) t0n t0k), (1, .int .i64 t1), (2, .slice t2a t2n t2k), (3, .int .i64 t3), (9, .pointer (some ⟨t9b, t9o, none⟩)), (75, .slice t75a t75n t75k), (76, .int .i64 t76), (77, .int .i64 t77)]) H r
def L2 (t0b : Nat) (t0o : Nat) (t0n : Nat) (t0k : Nat) (t1 : Int) (t2a : Option Addr) (t2n : Nat) (t2k : Nat) (t3 : Int) (t9b : Nat) (t9o : Nat) (t12b : Nat) (t12o : Nat) (t75b : Nat) (t75o : Nat) (t75n : Nat) (t75k : Nat) (t76 : Int) (t77 : Int) (t130 : Bool) (H : Heap) (r : Value × Heap) : Prop := ∀ J, KR Try.prog good Try.f5 S16 (mat J 216 [(0, .slice (some ⟨t0b, t0o, none⟩) t0n t0k), (1, .int .i64 t1), (2, .slice t2a t2n t2k), (3, .int .i64 t3), (9, .pointer (some ⟨t9b, t9o, none⟩)), (12, .pointer (some ⟨t12b, t12o, none⟩)), (75, .slice (some ⟨t75b, t75o, none⟩) t75n t75k), (76, .int .i64 t76), (77, .int .i64 t77), (130, .bool t130)]) H r
def L3 (t0b : Nat) (t0o : Nat) (t0n : Nat) (t0k : Nat) (t14b : Nat) (t14o : Nat) (t15 : Int) (t147 : Int) (t148 : Int) (H : Heap) (r : Value × Heap) : Prop := ∀ J, KR Try.prog good Try.f5 S20 (mat J 216 [(0, .slice (some ⟨t0b, t0o, none⟩) t0n t0k), (14, .pointer (some ⟨t14b, t14o, none⟩)), (15, .int .i64 t15), (147, .int .i64 t147), (148, .int .i64 t148)]) H r
def L4 (t0b : Nat) (t0o : Nat) (t0n : Nat) (t0k : Nat) (t14b : Nat) (t14o : Nat) (t17b : Nat) (t17o : Nat) (t18 : Int) (t147 : Int) (t148 : Int) (t181 : Bool) (H : Heap) (r : Value × Heap) : Prop := ∀ J, KR Try.prog good Try.f5 S26 (mat J 216 [(0, .slice (some ⟨t0b, t0o, none⟩) t0n t0k), (14, .pointer (some ⟨t14b, t14o, none⟩)), (17, .pointer (some ⟨t17b, t17o, none⟩)), (18, .int .i64 t18), (147, .int .i64 t147), (148, .int .i64 t148), (181, .bool t181)]) H r
theorem L0_step {t0a : Option Addr} {t0n : Nat} {t0k : Nat} {t1 : Int} {t2a : Option Addr} {t2n : Nat} {t2k : Nat} {t3 : Int} {t53 : Bool} {H : Heap} {r : Value × Heap} (h :
    if t53 = true then
    (∃ (t54 : Bool) (H_1 : Heap), xC Try.prog good 20 [] H = some (.bool t54, H_1) ∧
    (r = (.bool t54, H_1)))
    else
    (∃ (t0ab t0ao : Nat), t0a = some ⟨t0ab, t0ao, none⟩ ∧
    ((0 : Int) ≤ 0 ∧ 0 < ((t0n : Nat) : Int) ∧
    (∃ (t65 : Int), ldc (reserve H 13) t0ab t0ao = some (.int .i64 t65) ∧
    ((0 : Int) ≤ 0 ∧ 0 < ((t0n : Nat) : Int) ∧
    (∃ (t70 : Int), ldc (reserve H 13) t0ab t0ao = some (.int .i64 t70) ∧
    (∃ (H_4 : Heap), stc (((reserve H 13).set (H.next + 8) (.row [.int .i64 t70] true)).set (H.next + 11) (.row [.int .i64 0, .int .i64 0, .int .i64 0, .int .i64 0, .slice none 0 0, .slice none 0 0] true)) (H.next + 11) 0 [.int .i64 t65, .int .i64 0, .int .i64 (IntKind.wrap .i64 (Int.tmod (IntKind.wrap .u64 t3) 1000000)), .int .i64 (IntKind.wrap .i64 (Int.tmod (IntKind.wrap .u64 t1) 16)), .slice (some ⟨(H.next + 8), 0, none⟩) 1 (UNK 1), .slice t2a t2n t2k] = some H_4 ∧
    ((∃ (t75a : Option Addr) (t75n : Nat) (t75k : Nat), psl 1 (some ⟨t0ab, t0ao, none⟩) t0n t0k (some 1) none none = some (t75a, t75n, t75k) ∧
    (L1 (t0ab) (t0ao) (t0n) (t0k) ((IntKind.wrap .i64 (Int.tmod (IntKind.wrap .u64 t1) 16))) (t2a) (t2n) (t2k) ((IntKind.wrap .i64 (Int.tmod (IntKind.wrap .u64 t3) 1000000))) ((H.next + 11)) (0) (t75a) (t75n) (t75k) (((t75n : Nat) : Int)) 0 H_4 r)))))))))) :
    L0 t0a t0n t0k t1 t2a t2n t2k t3 t53 H r := by
  intro J
  show KR _ _ _ (.code (sub B [1, 0, 1]) :: S0) _ _ _
  by_cases c8 : t53 = true
  · replace h := iteT c8 h
    refine KR.br true (by kernel_rfl) (vB (bT c8)) ?_
    refine KR.run 2 [] 216 (s' := (.reg (opsAt (sub B [1, 0, 1, 0, 0])) [0, 1] :: S2)) (by kernel_rfl) fun J => ?_
    obtain ⟨t54, H_1, q9, h⟩ := h
    refine KR.se (one_ca (by kernel_rfl) q9) ?_
    refine KR.run 2 [(8, .bool t54)] 216 (s' := (.code (sub B [1, 0, 1, 0, 1]) :: S0)) (by kernel_rfl) fun J => ?_
    exact KR.fin (by kernel_rfl) h
  · replace h := iteF c8 h
    refine KR.br false (by kernel_rfl) (vB (bF c8)) ?_
    refine KR.run 18 [(0, .slice t0a t0n t0k), (1, .int .i64 (IntKind.wrap .i64 (Int.tmod (IntKind.wrap .u64 t1) 16))), (2, .slice t2a t2n t2k), (3, .int .i64 (IntKind.wrap .i64 (Int.tmod (IntKind.wrap .u64 t3) 1000000)))] 216 (s' := (.code (sub B [1, 1, 1, 1, 0]) :: S3)) (by kernel_rfl) fun J => ?_
    refine KE.start (reserve H 13) (by kernel_rfl) (by kernel_rfl) ?_
    obtain ⟨t0ab, t0ao, rfl, h⟩ := h
    refine KE.run 1 [(0, .slice (some ⟨t0ab, t0ao, none⟩) t0n t0k), (1, .int .i64 (IntKind.wrap .i64 (Int.tmod (IntKind.wrap .u64 t1) 16))), (2, .slice t2a t2n t2k), (3, .int .i64 (IntKind.wrap .i64 (Int.tmod (IntKind.wrap .u64 t3) 1000000))), (63, .slice (some ⟨t0ab, t0ao, none⟩) t0n t0k)] 216 1 (by kernel_rfl) fun J => ?_
    obtain ⟨q10, q10x, h⟩ := h
    refine KE.p (one_ix 1 t0ab t0ao (by kernel_rfl) q10 q10x) ?_
    obtain ⟨t65, q11, h⟩ := h
    refine KE.rdN (one_ld (by kernel_rfl) q11) (by kernel_rfl) ?_
    refine KE.run 3 [(0, .slice (some ⟨t0ab, t0ao, none⟩) t0n t0k), (1, .int .i64 (IntKind.wrap .i64 (Int.tmod (IntKind.wrap .u64 t1) 16))), (2, .slice t2a t2n t2k), (3, .int .i64 (IntKind.wrap .i64 (Int.tmod (IntKind.wrap .u64 t3) 1000000))), (65, .int .i64 t65), (66, .int .i64 (IntKind.wrap .i64 (Int.tmod (IntKind.wrap .u64 t3) 1000000))), (67, .int .i64 (IntKind.wrap .i64 (Int.tmod (IntKind.wrap .u64 t1) 16))), (68, .slice (some ⟨t0ab, t0ao, none⟩) t0n t0k)] 216 6 (by kernel_rfl) fun J => ?_
    obtain ⟨q12, q12x, h⟩ := h
    refine KE.p (one_ix 1 t0ab t0ao (by kernel_rfl) q12 q12x) ?_
    obtain ⟨t70, q13, h⟩ := h
    refine KE.rdN (one_ld (by kernel_rfl) q13) (by kernel_rfl) ?_
    refine KE.al (w := sRow 1 1 [.int .i64 t70]) (one_al (by kernel_rfl)) (by kernel_rfl) ?_
    refine KE.run 2 [(0, .slice (some ⟨t0ab, t0ao, none⟩) t0n t0k), (1, .int .i64 (IntKind.wrap .i64 (Int.tmod (IntKind.wrap .u64 t1) 16))), (2, .slice t2a t2n t2k), (3, .int .i64 (IntKind.wrap .i64 (Int.tmod (IntKind.wrap .u64 t3) 1000000))), (73, .agg #[.int .i64 t65, .int .i64 0, .int .i64 (IntKind.wrap .i64 (Int.tmod (IntKind.wrap .u64 t3) 1000000)), .int .i64 (IntKind.wrap .i64 (Int.tmod (IntKind.wrap .u64 t1) 16)), .slice (some ⟨(H.next + 8), 0, none⟩) 1 (UNK 1), .slice t2a t2n t2k])] 216 11 (by kernel_rfl) fun J => ?_
    refine KE.al (w := pRow [.int .i64 0, .int .i64 0, .int .i64 0, .int .i64 0, .slice none 0 0, .slice none 0 0]) (one_al (by kernel_rfl)) (by kernel_rfl) ?_
    obtain ⟨H_4, q16, h⟩ := h
    refine KE.se (one_st (by kernel_rfl) q16) (by kernel_rfl) ?_
    refine KE.fin (H' := H_4) (by kernel_rfl) (rfl) (by kernel_rfl) ?_
    refine KR.run 4 [(0, .slice (some ⟨t0ab, t0ao, none⟩) t0n t0k), (1, .int .i64 (IntKind.wrap .i64 (Int.tmod (IntKind.wrap .u64 t1) 16))), (2, .slice t2a t2n t2k), (3, .int .i64 (IntKind.wrap .i64 (Int.tmod (IntKind.wrap .u64 t3) 1000000))), (9, .pointer (some ⟨(H.next + 11), 0, none⟩)), (74, .slice (some ⟨t0ab, t0ao, none⟩) t0n t0k)] 216 (s' := (.reg (opsAt (sub B [1, 1, 1, 1, 1, 0, 0])) [1, 2, 3] :: S5)) (by kernel_rfl) fun J => ?_
    obtain ⟨t75a, t75n, t75k, q17, h⟩ := h
    refine KR.p (one_sl (by kernel_rfl) q17) ?_
    exact KR.run 5 [(0, .slice (some ⟨t0ab, t0ao, none⟩) t0n t0k), (1, .int .i64 (IntKind.wrap .i64 (Int.tmod (IntKind.wrap .u64 t1) 16))), (2, .slice t2a t2n t2k), (3, .int .i64 (IntKind.wrap .i64 (Int.tmod (IntKind.wrap .u64 t3) 1000000))), (9, .pointer (some ⟨(H.next + 11), 0, none⟩)), (75, .slice t75a t75n t75k), (76, .int .i64 ((t75n : Nat) : Int)), (77, .int .i64 0)] 216 (s' := (.lp (sub B [1, 1, 1, 1, 1, 0, 1, 0, 0]) :: S6)) (by kernel_rfl) h
theorem L1_step {t0b : Nat} {t0o : Nat} {t0n : Nat} {t0k : Nat} {t1 : Int} {t2a : Option Addr} {t2n : Nat} {t2k : Nat} {t3 : Int} {t9b : Nat} {t9o : Nat} {t75a : Option Addr} {t75n : Nat} {t75k : Nat} {t76 : Int} {t77 : Int} {H : Heap} {r : Value × Heap} (h :
    if t77 < t76 then
    (∃ (t75ab t75ao : Nat), t75a = some ⟨t75ab, t75ao, none⟩ ∧
    ((0 : Int) ≤ t77 ∧ t77 < ((t75n : Nat) : Int) ∧
    (∃ (t81 : Int), ldc H t75ab (t75ao + Int.toNat t77 * 1) = some (.int .i64 t81) ∧
    (∃ (t83c0 : Int) (t83c1 : Int) (t83c2 : Int) (t83c3 : Int) (t83c4a : Option Addr) (t83c4n : Nat) (t83c4k : Nat) (t83c5a : Option Addr) (t83c5n : Nat) (t83c5k : Nat), ldAll H t9b t9o [.int .i64 t83c0, .int .i64 t83c1, .int .i64 t83c2, .int .i64 t83c3, .slice t83c4a t83c4n t83c4k, .slice t83c5a t83c5n t83c5k] ∧
    (∃ (t85r0c0 : Int) (t85r0c1 : Int) (t85r0c2 : Int) (t85r0c3 : Int) (t85r0c4a : Option Addr) (t85r0c4n : Nat) (t85r0c4k : Nat) (t85r0c5a : Option Addr) (t85r0c5n : Nat) (t85r0c5k : Nat) (t85r1 : Int) (H_1 : Heap), xC Try.prog good 24 [.agg #[.int .i64 t83c0, .int .i64 t83c1, .int .i64 t83c2, .int .i64 t83c3, .slice t83c4a t83c4n t83c4k, .slice t83c5a t83c5n t83c5k], .int .i64 t81] H = some (.tuple #[.agg #[.int .i64 t85r0c0, .int .i64 t85r0c1, .int .i64 t85r0c2, .int .i64 t85r0c3, .slice t85r0c4a t85r0c4n t85r0c4k, .slice t85r0c5a t85r0c5n t85r0c5k], .int .i64 t85r1], H_1) ∧
    (∃ (H_2 : Heap), H_2 = H_1.push (.row [.int .i64 0, .int .i64 0, .int .i64 0, .int .i64 0, .slice none 0 0, .slice none 0 0] true) ∧
    (∃ (H_3 : Heap), stc H_2 H_1.next 0 [.int .i64 t85r0c0, .int .i64 t85r0c1, .int .i64 t85r0c2, .int .i64 t85r0c3, .slice t85r0c4a t85r0c4n t85r0c4k, .slice t85r0c5a t85r0c5n t85r0c5k] = some H_3 ∧
    (if t77 ≥ t1 then
    (if t85r1 = 11 then
    (∃ (t94 : Bool) (H_4 : Heap), xC Try.prog good 20 [] H_3 = some (.bool t94, H_4) ∧
    (r = (.bool t94, H_4)))
    else
    (r = (.bool false, H_3)))
    else
    (if t85r1 = 0 then
    (∃ (t100 : Int), ldc H_3 H_1.next 3 = some (.int .i64 t100) ∧
    (if t100 = (IntKind.wrap .i64 ((IntKind.wrap .i64 (t1 - t77)) - 1)) then
    (∃ (t109a : Option Addr) (t109n : Nat) (t109k : Nat), ldc H_3 H_1.next 4 = some (.slice t109a t109n t109k) ∧
    (∃ (t113a : Option Addr) (t113n : Nat) (t113k : Nat), psl 1 (some ⟨t0b, t0o, none⟩) t0n t0k none (some (IntKind.wrap .i64 (t77 + 2))) none = some (t113a, t113n, t113k) ∧
    (∃ (t114 : Bool) (H_5 : Heap), xC Try.prog good 25 [.slice t109a t109n t109k, .slice t113a t113n t113k] H_3 = some (.bool t114, H_5) ∧
    (if t114 = true then
    (∃ (t119 : Int), ldc H_5 H_1.next 2 = some (.int .i64 t119) ∧
    (if t119 = t3 then
    (∃ (t125a : Option Addr) (t125n : Nat) (t125k : Nat), ldc H_5 H_1.next 5 = some (.slice t125a t125n t125k) ∧
    (∃ (t126 : ByteArray), pstrb H_5 t125a t125n = some t126 ∧
    (∃ (t128 : ByteArray), pstrb H_5 t2a t2n = some t128 ∧
    (L2 (t0b) (t0o) (t0n) (t0k) (t1) (t2a) (t2n) (t2k) (t3) (t9b) (t9o) (H_1.next) (0) (t75ab) (t75ao) (t75n) (t75k) (t76) (t77) ((!(t126.toList == t128.toList))) H_5 r))))
    else
    (L2 (t0b) (t0o) (t0n) (t0k) (t1) (t2a) (t2n) (t2k) (t3) (t9b) (t9o) (H_1.next) (0) (t75ab) (t75ao) (t75n) (t75k) (t76) (t77) (true) H_5 r)))
    else
    (L2 (t0b) (t0o) (t0n) (t0k) (t1) (t2a) (t2n) (t2k) (t3) (t9b) (t9o) (H_1.next) (0) (t75ab) (t75ao) (t75n) (t75k) (t76) (t77) (true) H_5 r)))))
    else
    (L2 (t0b) (t0o) (t0n) (t0k) (t1) (t2a) (t2n) (t2k) (t3) (t9b) (t9o) (H_1.next) (0) (t75ab) (t75ao) (t75n) (t75k) (t76) (t77) (true) H_3 r)))
    else
    (L2 (t0b) (t0o) (t0n) (t0k) (t1) (t2a) (t2n) (t2k) (t3) (t9b) (t9o) (H_1.next) (0) (t75ab) (t75ao) (t75n) (t75k) (t76) (t77) (true) H_3 r))))))))))
    else
    ((0 : Int) ≤ 0 ∧ 0 < ((t0n : Nat) : Int) ∧
    (∃ (t135 : Int), ldc (reserve H 15) t0b t0o = some (.int .i64 t135) ∧
    (∃ (t141a : Option Addr) (t141n : Nat) (t141k : Nat), ldc (reserve H 15) t9b (t9o + 4) = some (.slice t141a t141n t141k) ∧
    (∃ (t142a : Option Addr) (t142n : Nat) (t142k : Nat) (H_7 : Heap), xC Try.prog good 21 [.slice t141a t141n t141k] (reserve H 15) = some (.slice t142a t142n t142k, H_7) ∧
    (∃ (t143a : Option Addr) (t143n : Nat) (t143k : Nat) (H_8 : Heap), papp (H_7.set (H.next + 6) (.row [.int .i64 0] true)) 1 8 (some ⟨(H.next + 6), 0, none⟩) 1 (UNK 1) t142a t142n t142k = some ((t143a, t143n, t143k), H_8) ∧
    (∃ (H_10 : Heap), stc (H_8.set (H.next + 13) (.row [.int .i64 0, .int .i64 0, .int .i64 0, .int .i64 0, .slice none 0 0, .slice none 0 0] true)) (H.next + 13) 0 [.int .i64 0, .int .i64 t135, .int .i64 t3, .int .i64 ((t0n : Nat) : Int), .slice t143a t143n t143k, .slice t2a t2n t2k] = some H_10 ∧
    (ldc H_7 t0b t0o = some (.int .i64 t135) ∧
    ldc H_8 t0b t0o = some (.int .i64 t135) ∧
    (L3 (t0b) (t0o) (t0n) (t0k) ((H.next + 13)) (0) 0 (((t0n : Nat) : Int)) 0 H_10 r))))))))) :
    L1 t0b t0o t0n t0k t1 t2a t2n t2k t3 t9b t9o t75a t75n t75k t76 t77 H r := by
  intro J
  show KR _ _ _ (.lp (sub B [1, 1, 1, 1, 1, 0, 1, 0, 0]) :: S6) _ _ _
  refine KR.run 6 [(0, .slice (some ⟨t0b, t0o, none⟩) t0n t0k), (1, .int .i64 t1), (2, .slice t2a t2n t2k), (3, .int .i64 t3), (9, .pointer (some ⟨t9b, t9o, none⟩)), (75, .slice t75a t75n t75k), (76, .int .i64 t76), (77, .int .i64 t77), (78, .bool (decide (t77 < t76)))] 216 (s' := (.code (sub B [1, 1, 1, 1, 1, 0, 1, 0, 0, 1, 0]) :: S8)) (by kernel_rfl) fun J => ?_
  by_cases c18 : t77 < t76
  · replace h := iteT c18 h
    refine KR.br true (by kernel_rfl) (vB (dT c18)) ?_
    obtain ⟨t75ab, t75ao, rfl, h⟩ := h
    refine KR.run 6 [(0, .slice (some ⟨t0b, t0o, none⟩) t0n t0k), (1, .int .i64 t1), (2, .slice t2a t2n t2k), (3, .int .i64 t3), (9, .pointer (some ⟨t9b, t9o, none⟩)), (75, .slice (some ⟨t75ab, t75ao, none⟩) t75n t75k), (76, .int .i64 t76), (77, .int .i64 t77), (79, .int .i64 t77)] 216 (s' := (.reg (opsAt (sub B [1, 1, 1, 1, 1, 0, 1, 0, 0, 1, 1, 0, 0, 0])) [1, 2, 3, 4] :: S11)) (by kernel_rfl) fun J => ?_
    obtain ⟨q19, q19x, h⟩ := h
    refine KR.p (one_ix 1 t75ab t75ao (by kernel_rfl) q19 q19x) ?_
    obtain ⟨t81, q20, h⟩ := h
    refine KR.rd (one_ld (by kernel_rfl) q20) ?_
    refine KR.run 5 [(0, .slice (some ⟨t0b, t0o, none⟩) t0n t0k), (1, .int .i64 t1), (2, .slice t2a t2n t2k), (3, .int .i64 t3), (9, .pointer (some ⟨t9b, t9o, none⟩)), (10, .int .i64 t77), (11, .int .i64 t81), (75, .slice (some ⟨t75ab, t75ao, none⟩) t75n t75k), (76, .int .i64 t76), (77, .int .i64 t77)] 216 (s' := (.reg (opsAt (sub B [1, 1, 1, 1, 1, 0, 1, 0, 0, 1, 1, 0, 0, 1, 0])) [0, 1, 2, 3, 4, 5, 6, 7, 8] :: S12)) (by kernel_rfl) fun J => ?_
    obtain ⟨t83c0, t83c1, t83c2, t83c3, t83c4a, t83c4n, t83c4k, t83c5a, t83c5n, t83c5k, q21, h⟩ := h
    refine KR.rd (one_ldA (by kernel_rfl) q21) ?_
    refine KR.run 1 [(0, .slice (some ⟨t0b, t0o, none⟩) t0n t0k), (1, .int .i64 t1), (2, .slice t2a t2n t2k), (3, .int .i64 t3), (9, .pointer (some ⟨t9b, t9o, none⟩)), (10, .int .i64 t77), (75, .slice (some ⟨t75ab, t75ao, none⟩) t75n t75k), (76, .int .i64 t76), (77, .int .i64 t77), (83, .agg #[.int .i64 t83c0, .int .i64 t83c1, .int .i64 t83c2, .int .i64 t83c3, .slice t83c4a t83c4n t83c4k, .slice t83c5a t83c5n t83c5k]), (84, .int .i64 t81)] 216 (s' := (.reg (opsAt (sub B [1, 1, 1, 1, 1, 0, 1, 0, 0, 1, 1, 0, 0, 1, 0])) [2, 3, 4, 5, 6, 7, 8] :: S12)) (by kernel_rfl) fun J => ?_
    obtain ⟨t85r0c0, t85r0c1, t85r0c2, t85r0c3, t85r0c4a, t85r0c4n, t85r0c4k, t85r0c5a, t85r0c5n, t85r0c5k, t85r1, H_1, q22, h⟩ := h
    refine KR.se (one_ca (by kernel_rfl) q22) ?_
    refine KR.run 3 [(0, .slice (some ⟨t0b, t0o, none⟩) t0n t0k), (1, .int .i64 t1), (2, .slice t2a t2n t2k), (3, .int .i64 t3), (9, .pointer (some ⟨t9b, t9o, none⟩)), (10, .int .i64 t77), (75, .slice (some ⟨t75ab, t75ao, none⟩) t75n t75k), (76, .int .i64 t76), (77, .int .i64 t77), (86, .agg #[.int .i64 t85r0c0, .int .i64 t85r0c1, .int .i64 t85r0c2, .int .i64 t85r0c3, .slice t85r0c4a t85r0c4n t85r0c4k, .slice t85r0c5a t85r0c5n t85r0c5k]), (87, .int .i64 t85r1)] 216 (s' := (.reg (opsAt (sub B [1, 1, 1, 1, 1, 0, 1, 0, 0, 1, 1, 0, 0, 1, 0])) [6, 7, 8] :: S12)) (by kernel_rfl) fun J => ?_
    obtain ⟨H_2, q23, h⟩ := h
    refine KR.mk (w := pRow [.int .i64 0, .int .i64 0, .int .i64 0, .int .i64 0, .slice none 0 0, .slice none 0 0]) (one_al (by kernel_rfl)) q23 ?_
    obtain ⟨H_3, q24, h⟩ := h
    refine KR.se (one_st (by kernel_rfl) q24) ?_
    refine KR.run 9 [(0, .slice (some ⟨t0b, t0o, none⟩) t0n t0k), (1, .int .i64 t1), (2, .slice t2a t2n t2k), (3, .int .i64 t3), (9, .pointer (some ⟨t9b, t9o, none⟩)), (10, .int .i64 t77), (12, .pointer (some ⟨H_1.next, 0, none⟩)), (13, .int .i64 t85r1), (75, .slice (some ⟨t75ab, t75ao, none⟩) t75n t75k), (76, .int .i64 t76), (77, .int .i64 t77), (90, .bool (decide (t77 ≥ t1)))] 216 (s' := (.code (sub B [1, 1, 1, 1, 1, 0, 1, 0, 0, 1, 1, 0, 0, 1, 1, 0, 1]) :: S13)) (by kernel_rfl) fun J => ?_
    by_cases c25 : t77 ≥ t1
    · replace h := iteT c25 h
      refine KR.br true (by kernel_rfl) (vB (dT c25)) ?_
      refine KR.run 5 [(93, .bool (t85r1 == 11))] 216 (s' := (.reg (opsAt (sub B [1, 1, 1, 1, 1, 0, 1, 0, 0, 1, 1, 0, 0, 1, 1, 0, 1, 0, 0])) [3, 4, 5] :: S14)) (by kernel_rfl) fun J => ?_
      by_cases c26 : t85r1 = 11
      · replace h := iteT c26 h
        refine KR.setV 93 (by kernel_rfl) (eT c26) ?_
        obtain ⟨t94, H_4, q27, h⟩ := h
        refine KR.se (one_ca (by kernel_rfl) q27) ?_
        refine KR.run 3 [(8, .bool t94)] 216 (s' := (.code (sub B [1, 1, 1, 1, 1, 0, 1, 0, 0, 1, 1, 0, 0, 1, 1, 0, 1, 0, 1]) :: S13)) (by kernel_rfl) fun J => ?_
        exact KR.fin (by kernel_rfl) h
      · replace h := iteF c26 h
        refine KR.setV 93 (by kernel_rfl) (eF c26) ?_
        refine KR.run 4 [(8, .bool false)] 216 (s' := (.code (sub B [1, 1, 1, 1, 1, 0, 1, 0, 0, 1, 1, 0, 0, 1, 1, 0, 1, 0, 1]) :: S13)) (by kernel_rfl) fun J => ?_
        exact KR.fin (by kernel_rfl) h
    · replace h := iteF c25 h
      refine KR.br false (by kernel_rfl) (vB (dF c25)) ?_
      refine KR.run 3 [(0, .slice (some ⟨t0b, t0o, none⟩) t0n t0k), (1, .int .i64 t1), (2, .slice t2a t2n t2k), (3, .int .i64 t3), (9, .pointer (some ⟨t9b, t9o, none⟩)), (10, .int .i64 t77), (12, .pointer (some ⟨H_1.next, 0, none⟩)), (13, .int .i64 t85r1), (75, .slice (some ⟨t75ab, t75ao, none⟩) t75n t75k), (76, .int .i64 t76), (77, .int .i64 t77)] 216 (s' := (.code (sub B [1, 1, 1, 1, 1, 0, 1, 0, 0, 1, 1, 0, 0, 1, 1, 1, 0, 0]) :: S16)) (by kernel_rfl) fun J => ?_
      refine KR.sd (by kernel_rfl) ?_
      refine KR.run 3 [(0, .slice (some ⟨t0b, t0o, none⟩) t0n t0k), (1, .int .i64 t1), (2, .slice t2a t2n t2k), (3, .int .i64 t3), (9, .pointer (some ⟨t9b, t9o, none⟩)), (10, .int .i64 t77), (12, .pointer (some ⟨H_1.next, 0, none⟩)), (75, .slice (some ⟨t75ab, t75ao, none⟩) t75n t75k), (76, .int .i64 t76), (77, .int .i64 t77), (98, .bool (!(t85r1 == 0)))] 216 (s' := (.reg (opsAt (sub B [1, 1, 1, 1, 1, 0, 1, 0, 0, 1, 1, 0, 0, 1, 1, 1, 0, 0])) [3, 4, 5, 6, 7, 8, 9, 10, 11, 12, 13, 14, 15, 16, 17, 18, 19, 20, 21, 22, 23, 24, 25, 26, 27, 28, 29, 30, 31, 32, 33, 34] :: S16)) (by kernel_rfl) fun J => ?_
      by_cases c28 : t85r1 = 0
      · replace h := iteT c28 h
        refine KR.setV 98 (by kernel_rfl) (nB (eT c28)) ?_
        refine KR.run 1 [(0, .slice (some ⟨t0b, t0o, none⟩) t0n t0k), (1, .int .i64 t1), (2, .slice t2a t2n t2k), (3, .int .i64 t3), (9, .pointer (some ⟨t9b, t9o, none⟩)), (10, .int .i64 t77), (12, .pointer (some ⟨H_1.next, 0, none⟩)), (75, .slice (some ⟨t75ab, t75ao, none⟩) t75n t75k), (76, .int .i64 t76), (77, .int .i64 t77), (98, .bool false), (99, .pointer (some ⟨H_1.next, 3, none⟩))] 216 (s' := (.reg (opsAt (sub B [1, 1, 1, 1, 1, 0, 1, 0, 0, 1, 1, 0, 0, 1, 1, 1, 0, 0])) [4, 5, 6, 7, 8, 9, 10, 11, 12, 13, 14, 15, 16, 17, 18, 19, 20, 21, 22, 23, 24, 25, 26, 27, 28, 29, 30, 31, 32, 33, 34] :: S16)) (by kernel_rfl) fun J => ?_
        obtain ⟨t100, q29, h⟩ := h
        refine KR.rd (one_ld (by kernel_rfl) q29) ?_
        refine KR.run 7 [(0, .slice (some ⟨t0b, t0o, none⟩) t0n t0k), (1, .int .i64 t1), (2, .slice t2a t2n t2k), (3, .int .i64 t3), (9, .pointer (some ⟨t9b, t9o, none⟩)), (10, .int .i64 t77), (12, .pointer (some ⟨H_1.next, 0, none⟩)), (75, .slice (some ⟨t75ab, t75ao, none⟩) t75n t75k), (76, .int .i64 t76), (77, .int .i64 t77), (107, .bool (!(t100 == (IntKind.wrap .i64 ((IntKind.wrap .i64 (t1 - t77)) - 1)))))] 216 (s' := (.reg (opsAt (sub B [1, 1, 1, 1, 1, 0, 1, 0, 0, 1, 1, 0, 0, 1, 1, 1, 0, 0])) [12, 13, 14, 15, 16, 17, 18, 19, 20, 21, 22, 23, 24, 25, 26, 27, 28, 29, 30, 31, 32, 33, 34] :: S16)) (by kernel_rfl) fun J => ?_
        by_cases c30 : t100 = (IntKind.wrap .i64 ((IntKind.wrap .i64 (t1 - t77)) - 1))
        · replace h := iteT c30 h
          refine KR.setV 107 (by kernel_rfl) (nB (eT c30)) ?_
          refine KR.run 1 [(0, .slice (some ⟨t0b, t0o, none⟩) t0n t0k), (1, .int .i64 t1), (2, .slice t2a t2n t2k), (3, .int .i64 t3), (9, .pointer (some ⟨t9b, t9o, none⟩)), (10, .int .i64 t77), (12, .pointer (some ⟨H_1.next, 0, none⟩)), (75, .slice (some ⟨t75ab, t75ao, none⟩) t75n t75k), (76, .int .i64 t76), (77, .int .i64 t77), (107, .bool false), (108, .pointer (some ⟨H_1.next, 4, none⟩))] 216 (s' := (.reg (opsAt (sub B [1, 1, 1, 1, 1, 0, 1, 0, 0, 1, 1, 0, 0, 1, 1, 1, 0, 0])) [13, 14, 15, 16, 17, 18, 19, 20, 21, 22, 23, 24, 25, 26, 27, 28, 29, 30, 31, 32, 33, 34] :: S16)) (by kernel_rfl) fun J => ?_
          obtain ⟨t109a, t109n, t109k, q31, h⟩ := h
          refine KR.rd (one_ld (by kernel_rfl) q31) ?_
          refine KR.run 3 [(0, .slice (some ⟨t0b, t0o, none⟩) t0n t0k), (1, .int .i64 t1), (2, .slice t2a t2n t2k), (3, .int .i64 t3), (9, .pointer (some ⟨t9b, t9o, none⟩)), (12, .pointer (some ⟨H_1.next, 0, none⟩)), (75, .slice (some ⟨t75ab, t75ao, none⟩) t75n t75k), (76, .int .i64 t76), (77, .int .i64 t77), (107, .bool false), (109, .slice t109a t109n t109k), (110, .slice (some ⟨t0b, t0o, none⟩) t0n t0k), (112, .int .i64 (IntKind.wrap .i64 (t77 + 2)))] 216 (s' := (.reg (opsAt (sub B [1, 1, 1, 1, 1, 0, 1, 0, 0, 1, 1, 0, 0, 1, 1, 1, 0, 0])) [17, 18, 19, 20, 21, 22, 23, 24, 25, 26, 27, 28, 29, 30, 31, 32, 33, 34] :: S16)) (by kernel_rfl) fun J => ?_
          obtain ⟨t113a, t113n, t113k, q32, h⟩ := h
          refine KR.p (one_sl (by kernel_rfl) q32) ?_
          obtain ⟨t114, H_5, q33, h⟩ := h
          refine KR.se (one_ca (by kernel_rfl) q33) ?_
          refine KR.run 3 [(0, .slice (some ⟨t0b, t0o, none⟩) t0n t0k), (1, .int .i64 t1), (2, .slice t2a t2n t2k), (3, .int .i64 t3), (9, .pointer (some ⟨t9b, t9o, none⟩)), (12, .pointer (some ⟨H_1.next, 0, none⟩)), (75, .slice (some ⟨t75ab, t75ao, none⟩) t75n t75k), (76, .int .i64 t76), (77, .int .i64 t77), (117, .bool (!t114))] 216 (s' := (.reg (opsAt (sub B [1, 1, 1, 1, 1, 0, 1, 0, 0, 1, 1, 0, 0, 1, 1, 1, 0, 0])) [22, 23, 24, 25, 26, 27, 28, 29, 30, 31, 32, 33, 34] :: S16)) (by kernel_rfl) fun J => ?_
          by_cases c34 : t114 = true
          · replace h := iteT c34 h
            refine KR.setV 117 (by kernel_rfl) (nB (bT c34)) ?_
            refine KR.run 1 [(0, .slice (some ⟨t0b, t0o, none⟩) t0n t0k), (1, .int .i64 t1), (2, .slice t2a t2n t2k), (3, .int .i64 t3), (9, .pointer (some ⟨t9b, t9o, none⟩)), (12, .pointer (some ⟨H_1.next, 0, none⟩)), (75, .slice (some ⟨t75ab, t75ao, none⟩) t75n t75k), (76, .int .i64 t76), (77, .int .i64 t77), (117, .bool false), (118, .pointer (some ⟨H_1.next, 2, none⟩))] 216 (s' := (.reg (opsAt (sub B [1, 1, 1, 1, 1, 0, 1, 0, 0, 1, 1, 0, 0, 1, 1, 1, 0, 0])) [23, 24, 25, 26, 27, 28, 29, 30, 31, 32, 33, 34] :: S16)) (by kernel_rfl) fun J => ?_
            obtain ⟨t119, q35, h⟩ := h
            refine KR.rd (one_ld (by kernel_rfl) q35) ?_
            refine KR.run 4 [(0, .slice (some ⟨t0b, t0o, none⟩) t0n t0k), (1, .int .i64 t1), (2, .slice t2a t2n t2k), (3, .int .i64 t3), (9, .pointer (some ⟨t9b, t9o, none⟩)), (12, .pointer (some ⟨H_1.next, 0, none⟩)), (75, .slice (some ⟨t75ab, t75ao, none⟩) t75n t75k), (76, .int .i64 t76), (77, .int .i64 t77), (123, .bool (!(t119 == t3)))] 216 (s' := (.reg (opsAt (sub B [1, 1, 1, 1, 1, 0, 1, 0, 0, 1, 1, 0, 0, 1, 1, 1, 0, 0])) [28, 29, 30, 31, 32, 33, 34] :: S16)) (by kernel_rfl) fun J => ?_
            by_cases c36 : t119 = t3
            · replace h := iteT c36 h
              refine KR.setV 123 (by kernel_rfl) (nB (eT c36)) ?_
              refine KR.run 1 [(0, .slice (some ⟨t0b, t0o, none⟩) t0n t0k), (1, .int .i64 t1), (2, .slice t2a t2n t2k), (3, .int .i64 t3), (9, .pointer (some ⟨t9b, t9o, none⟩)), (12, .pointer (some ⟨H_1.next, 0, none⟩)), (75, .slice (some ⟨t75ab, t75ao, none⟩) t75n t75k), (76, .int .i64 t76), (77, .int .i64 t77), (123, .bool false), (124, .pointer (some ⟨H_1.next, 5, none⟩))] 216 (s' := (.reg (opsAt (sub B [1, 1, 1, 1, 1, 0, 1, 0, 0, 1, 1, 0, 0, 1, 1, 1, 0, 0])) [29, 30, 31, 32, 33, 34] :: S16)) (by kernel_rfl) fun J => ?_
              obtain ⟨t125a, t125n, t125k, q37, h⟩ := h
              refine KR.rd (one_ld (by kernel_rfl) q37) ?_
              obtain ⟨t126, q38, h⟩ := h
              refine KR.rd (one_str (by kernel_rfl) q38) ?_
              refine KR.run 1 [(0, .slice (some ⟨t0b, t0o, none⟩) t0n t0k), (1, .int .i64 t1), (2, .slice t2a t2n t2k), (3, .int .i64 t3), (9, .pointer (some ⟨t9b, t9o, none⟩)), (12, .pointer (some ⟨H_1.next, 0, none⟩)), (75, .slice (some ⟨t75ab, t75ao, none⟩) t75n t75k), (76, .int .i64 t76), (77, .int .i64 t77), (123, .bool false), (126, .string t126), (127, .slice t2a t2n t2k)] 216 (s' := (.reg (opsAt (sub B [1, 1, 1, 1, 1, 0, 1, 0, 0, 1, 1, 0, 0, 1, 1, 1, 0, 0])) [32, 33, 34] :: S16)) (by kernel_rfl) fun J => ?_
              obtain ⟨t128, q39, h⟩ := h
              refine KR.rd (one_str (by kernel_rfl) q39) ?_
              exact KR.run 3 [(0, .slice (some ⟨t0b, t0o, none⟩) t0n t0k), (1, .int .i64 t1), (2, .slice t2a t2n t2k), (3, .int .i64 t3), (9, .pointer (some ⟨t9b, t9o, none⟩)), (12, .pointer (some ⟨H_1.next, 0, none⟩)), (75, .slice (some ⟨t75ab, t75ao, none⟩) t75n t75k), (76, .int .i64 t76), (77, .int .i64 t77), (130, .bool (!(t126.toList == t128.toList)))] 216 (s' := (.code (sub B [1, 1, 1, 1, 1, 0, 1, 0, 0, 1, 1, 0, 0, 1, 1, 1, 0, 1]) :: S15)) (by kernel_rfl) h
            · replace h := iteF c36 h
              refine KR.setV 123 (by kernel_rfl) (nB (eF c36)) ?_
              exact KR.run 8 [(0, .slice (some ⟨t0b, t0o, none⟩) t0n t0k), (1, .int .i64 t1), (2, .slice t2a t2n t2k), (3, .int .i64 t3), (9, .pointer (some ⟨t9b, t9o, none⟩)), (12, .pointer (some ⟨H_1.next, 0, none⟩)), (75, .slice (some ⟨t75ab, t75ao, none⟩) t75n t75k), (76, .int .i64 t76), (77, .int .i64 t77), (130, .bool true)] 216 (s' := (.code (sub B [1, 1, 1, 1, 1, 0, 1, 0, 0, 1, 1, 0, 0, 1, 1, 1, 0, 1]) :: S15)) (by kernel_rfl) h
          · replace h := iteF c34 h
            refine KR.setV 117 (by kernel_rfl) (nB (bF c34)) ?_
            exact KR.run 14 [(0, .slice (some ⟨t0b, t0o, none⟩) t0n t0k), (1, .int .i64 t1), (2, .slice t2a t2n t2k), (3, .int .i64 t3), (9, .pointer (some ⟨t9b, t9o, none⟩)), (12, .pointer (some ⟨H_1.next, 0, none⟩)), (75, .slice (some ⟨t75ab, t75ao, none⟩) t75n t75k), (76, .int .i64 t76), (77, .int .i64 t77), (130, .bool true)] 216 (s' := (.code (sub B [1, 1, 1, 1, 1, 0, 1, 0, 0, 1, 1, 0, 0, 1, 1, 1, 0, 1]) :: S15)) (by kernel_rfl) h
        · replace h := iteF c30 h
          refine KR.setV 107 (by kernel_rfl) (nB (eF c30)) ?_
          exact KR.run 24 [(0, .slice (some ⟨t0b, t0o, none⟩) t0n t0k), (1, .int .i64 t1), (2, .slice t2a t2n t2k), (3, .int .i64 t3), (9, .pointer (some ⟨t9b, t9o, none⟩)), (12, .pointer (some ⟨H_1.next, 0, none⟩)), (75, .slice (some ⟨t75ab, t75ao, none⟩) t75n t75k), (76, .int .i64 t76), (77, .int .i64 t77), (130, .bool true)] 216 (s' := (.code (sub B [1, 1, 1, 1, 1, 0, 1, 0, 0, 1, 1, 0, 0, 1, 1, 1, 0, 1]) :: S15)) (by kernel_rfl) h
      · replace h := iteF c28 h
        refine KR.setV 98 (by kernel_rfl) (nB (eF c28)) ?_
        exact KR.run 33 [(0, .slice (some ⟨t0b, t0o, none⟩) t0n t0k), (1, .int .i64 t1), (2, .slice t2a t2n t2k), (3, .int .i64 t3), (9, .pointer (some ⟨t9b, t9o, none⟩)), (12, .pointer (some ⟨H_1.next, 0, none⟩)), (75, .slice (some ⟨t75ab, t75ao, none⟩) t75n t75k), (76, .int .i64 t76), (77, .int .i64 t77), (130, .bool true)] 216 (s' := (.code (sub B [1, 1, 1, 1, 1, 0, 1, 0, 0, 1, 1, 0, 0, 1, 1, 1, 0, 1]) :: S15)) (by kernel_rfl) h
  · replace h := iteF c18 h
    refine KR.br false (by kernel_rfl) (vB (dF c18)) ?_
    refine KR.run 2 [(0, .slice (some ⟨t0b, t0o, none⟩) t0n t0k), (2, .slice t2a t2n t2k), (3, .int .i64 t3), (9, .pointer (some ⟨t9b, t9o, none⟩))] 216 (s' := (.code (sub B [1, 1, 1, 1, 1, 1, 0]) :: S17)) (by kernel_rfl) fun J => ?_
    refine KE.start (reserve H 15) (by kernel_rfl) (by kernel_rfl) ?_
    refine KE.run 1 [(0, .slice (some ⟨t0b, t0o, none⟩) t0n t0k), (2, .slice t2a t2n t2k), (3, .int .i64 t3), (9, .pointer (some ⟨t9b, t9o, none⟩)), (133, .slice (some ⟨t0b, t0o, none⟩) t0n t0k)] 216 1 (by kernel_rfl) fun J => ?_
    obtain ⟨q40, q40x, h⟩ := h
    refine KE.p (one_ix 1 t0b t0o (by kernel_rfl) q40 q40x) ?_
    obtain ⟨t135, q41, h⟩ := h
    refine KE.rdF (one_ld (by kernel_rfl) q41) (by kernel_rfl) ?_
    refine KE.run 3 [(0, .slice (some ⟨t0b, t0o, none⟩) t0n t0k), (2, .slice t2a t2n t2k), (9, .pointer (some ⟨t9b, t9o, none⟩)), (135, .int .i64 t135), (136, .int .i64 t3), (138, .int .i64 ((t0n : Nat) : Int))] 216 6 (by kernel_rfl) fun J => ?_
    refine KE.al (w := sRow 1 1 [.int .i64 0]) (one_al (by kernel_rfl)) (by kernel_rfl) ?_
    refine KE.run 1 [(0, .slice (some ⟨t0b, t0o, none⟩) t0n t0k), (2, .slice t2a t2n t2k), (135, .int .i64 t135), (136, .int .i64 t3), (138, .int .i64 ((t0n : Nat) : Int)), (139, .slice (some ⟨(H.next + 6), 0, none⟩) 1 (UNK 1)), (140, .pointer (some ⟨t9b, (t9o + 4), none⟩))] 216 8 (by kernel_rfl) fun J => ?_
    obtain ⟨t141a, t141n, t141k, q43, h⟩ := h
    refine KE.rdN (one_ld (by kernel_rfl) q43) (by kernel_rfl) ?_
    obtain ⟨t142a, t142n, t142k, H_7, q44, h⟩ := h
    refine KE.se (one_ca (by kernel_rfl) q44) (by kernel_rfl) ?_
    obtain ⟨t143a, t143n, t143k, H_8, q45, h⟩ := h
    refine KE.se (one_ap 1 8 (by kernel_rfl) q45) (by kernel_rfl) ?_
    refine KE.run 2 [(0, .slice (some ⟨t0b, t0o, none⟩) t0n t0k), (145, .agg #[.int .i64 0, .int .i64 t135, .int .i64 t3, .int .i64 ((t0n : Nat) : Int), .slice t143a t143n t143k, .slice t2a t2n t2k])] 216 13 (by kernel_rfl) fun J => ?_
    refine KE.al (w := pRow [.int .i64 0, .int .i64 0, .int .i64 0, .int .i64 0, .slice none 0 0, .slice none 0 0]) (one_al (by kernel_rfl)) (by kernel_rfl) ?_
    obtain ⟨H_10, q47, h⟩ := h
    refine KE.se (one_st (by kernel_rfl) q47) (by kernel_rfl) ?_
    obtain ⟨q48, q49, h⟩ := h
    refine KE.fin (H' := H_10) (by kernel_rfl) (rdsS (rfl) (rd_ok (Hs := [H_7, H_8]) (by kernel_rfl) (by kernel_rfl) ⟨one_ld (by kernel_rfl) q48, ⟨one_ld (by kernel_rfl) q49, trivial⟩⟩)) (by kernel_rfl) ?_
    exact KR.run 13 [(0, .slice (some ⟨t0b, t0o, none⟩) t0n t0k), (14, .pointer (some ⟨(H.next + 13), 0, none⟩)), (15, .int .i64 0), (147, .int .i64 ((t0n : Nat) : Int)), (148, .int .i64 0)] 216 (s' := (.lp (sub B [1, 1, 1, 1, 1, 1, 1, 1, 0, 1, 0, 0]) :: S19)) (by kernel_rfl) h
theorem L2_step {t0b : Nat} {t0o : Nat} {t0n : Nat} {t0k : Nat} {t1 : Int} {t2a : Option Addr} {t2n : Nat} {t2k : Nat} {t3 : Int} {t9b : Nat} {t9o : Nat} {t12b : Nat} {t12o : Nat} {t75b : Nat} {t75o : Nat} {t75n : Nat} {t75k : Nat} {t76 : Int} {t77 : Int} {t130 : Bool} {H : Heap} {r : Value × Heap} (h :
    if t130 = true then
    (r = (.bool false, H))
    else
    (∃ (t131c0 : Int) (t131c1 : Int) (t131c2 : Int) (t131c3 : Int) (t131c4a : Option Addr) (t131c4n : Nat) (t131c4k : Nat) (t131c5a : Option Addr) (t131c5n : Nat) (t131c5k : Nat), ldAll H t12b t12o [.int .i64 t131c0, .int .i64 t131c1, .int .i64 t131c2, .int .i64 t131c3, .slice t131c4a t131c4n t131c4k, .slice t131c5a t131c5n t131c5k] ∧
    (∃ (H_1 : Heap), stc H t9b t9o [.int .i64 t131c0, .int .i64 t131c1, .int .i64 t131c2, .int .i64 t131c3, .slice t131c4a t131c4n t131c4k, .slice t131c5a t131c5n t131c5k] = some H_1 ∧
    (L1 (t0b) (t0o) (t0n) (t0k) (t1) (t2a) (t2n) (t2k) (t3) (t9b) (t9o) ((some ⟨t75b, t75o, none⟩)) (t75n) (t75k) (t76) ((IntKind.wrap .i64 (t77 + 1))) H_1 r)))) :
    L2 t0b t0o t0n t0k t1 t2a t2n t2k t3 t9b t9o t12b t12o t75b t75o t75n t75k t76 t77 t130 H r := by
  intro J
  show KR _ _ _ (.code (sub B [1, 1, 1, 1, 1, 0, 1, 0, 0, 1, 1, 0, 0, 1, 1, 1, 0, 1]) :: S15) _ _ _
  by_cases c50 : t130 = true
  · replace h := iteT c50 h
    refine KR.br true (by kernel_rfl) (vB (bT c50)) ?_
    refine KR.run 4 [(8, .bool false)] 216 (s' := (.code (sub B [1, 1, 1, 1, 1, 0, 1, 0, 0, 1, 1, 0, 0, 1, 1, 1, 0, 1, 0, 1]) :: S15)) (by kernel_rfl) fun J => ?_
    exact KR.fin (by kernel_rfl) h
  · replace h := iteF c50 h
    refine KR.br false (by kernel_rfl) (vB (bF c50)) ?_
    refine KR.run 2 [(0, .slice (some ⟨t0b, t0o, none⟩) t0n t0k), (1, .int .i64 t1), (2, .slice t2a t2n t2k), (3, .int .i64 t3), (9, .pointer (some ⟨t9b, t9o, none⟩)), (12, .pointer (some ⟨t12b, t12o, none⟩)), (75, .slice (some ⟨t75b, t75o, none⟩) t75n t75k), (76, .int .i64 t76), (77, .int .i64 t77)] 216 (s' := (.reg (opsAt (sub B [1, 1, 1, 1, 1, 0, 1, 0, 0, 1, 1, 0, 0, 1, 1, 1, 1])) [0, 1] :: S10)) (by kernel_rfl) fun J => ?_
    obtain ⟨t131c0, t131c1, t131c2, t131c3, t131c4a, t131c4n, t131c4k, t131c5a, t131c5n, t131c5k, q51, h⟩ := h
    refine KR.rd (one_ldA (by kernel_rfl) q51) ?_
    obtain ⟨H_1, q52, h⟩ := h
    refine KR.se (one_st (by kernel_rfl) q52) ?_
    exact KR.run 6 [(0, .slice (some ⟨t0b, t0o, none⟩) t0n t0k), (1, .int .i64 t1), (2, .slice t2a t2n t2k), (3, .int .i64 t3), (9, .pointer (some ⟨t9b, t9o, none⟩)), (75, .slice (some ⟨t75b, t75o, none⟩) t75n t75k), (76, .int .i64 t76), (77, .int .i64 (IntKind.wrap .i64 (t77 + 1)))] 216 (s' := (.lp (sub B [1, 1, 1, 1, 1, 0, 1, 0, 0]) :: S6)) (by kernel_rfl) h
theorem L3_step {t0b : Nat} {t0o : Nat} {t0n : Nat} {t0k : Nat} {t14b : Nat} {t14o : Nat} {t15 : Int} {t147 : Int} {t148 : Int} {H : Heap} {r : Value × Heap} (h :
    if t148 < t147 then
    (∃ (t152c0 : Int) (t152c1 : Int) (t152c2 : Int) (t152c3 : Int) (t152c4a : Option Addr) (t152c4n : Nat) (t152c4k : Nat) (t152c5a : Option Addr) (t152c5n : Nat) (t152c5k : Nat), ldAll H t14b t14o [.int .i64 t152c0, .int .i64 t152c1, .int .i64 t152c2, .int .i64 t152c3, .slice t152c4a t152c4n t152c4k, .slice t152c5a t152c5n t152c5k] ∧
    (∃ (t154r0c0 : Int) (t154r0c1 : Int) (t154r0c2 : Int) (t154r0c3 : Int) (t154r0c4a : Option Addr) (t154r0c4n : Nat) (t154r0c4k : Nat) (t154r0c5a : Option Addr) (t154r0c5n : Nat) (t154r0c5k : Nat) (t154r1 : Int) (t154r2 : Int) (H_1 : Heap), xC Try.prog good 26 [.agg #[.int .i64 t152c0, .int .i64 t152c1, .int .i64 t152c2, .int .i64 t152c3, .slice t152c4a t152c4n t152c4k, .slice t152c5a t152c5n t152c5k], .int .i64 t15] H = some (.tuple #[.agg #[.int .i64 t154r0c0, .int .i64 t154r0c1, .int .i64 t154r0c2, .int .i64 t154r0c3, .slice t154r0c4a t154r0c4n t154r0c4k, .slice t154r0c5a t154r0c5n t154r0c5k], .int .i64 t154r1, .int .i64 t154r2], H_1) ∧
    (∃ (H_2 : Heap), H_2 = H_1.push (.row [.int .i64 0, .int .i64 0, .int .i64 0, .int .i64 0, .slice none 0 0, .slice none 0 0] true) ∧
    (∃ (H_3 : Heap), stc H_2 H_1.next 0 [.int .i64 t154r0c0, .int .i64 t154r0c1, .int .i64 t154r0c2, .int .i64 t154r0c3, .slice t154r0c4a t154r0c4n t154r0c4k, .slice t154r0c5a t154r0c5n t154r0c5k] = some H_3 ∧
    (if t154r2 = 0 then
    ((0 : Int) ≤ (IntKind.wrap .i64 ((IntKind.wrap .i64 (((t0n : Nat) : Int) - 1)) - t148)) ∧ (IntKind.wrap .i64 ((IntKind.wrap .i64 (((t0n : Nat) : Int) - 1)) - t148)) < ((t0n : Nat) : Int) ∧
    (∃ (t169 : Int), ldc H_3 t0b (t0o + Int.toNat (IntKind.wrap .i64 ((IntKind.wrap .i64 (((t0n : Nat) : Int) - 1)) - t148)) * 1) = some (.int .i64 t169) ∧
    (if t154r1 = t169 then
    (∃ (t174 : Int), ldc H_3 H_1.next 3 = some (.int .i64 t174) ∧
    (L4 (t0b) (t0o) (t0n) (t0k) (t14b) (t14o) (H_1.next) (0) (t154r1) (t147) (t148) ((!(t174 == (IntKind.wrap .i64 ((IntKind.wrap .i64 (((t0n : Nat) : Int) - t148)) - 1))))) H_3 r))
    else
    (L4 (t0b) (t0o) (t0n) (t0k) (t14b) (t14o) (H_1.next) (0) (t154r1) (t147) (t148) (true) H_3 r))))
    else
    (L4 (t0b) (t0o) (t0n) (t0k) (t14b) (t14o) (H_1.next) (0) (t154r1) (t147) (t148) (true) H_3 r))))))
    else
    (∃ (t186c0 : Int) (t186c1 : Int) (t186c2 : Int) (t186c3 : Int) (t186c4a : Option Addr) (t186c4n : Nat) (t186c4k : Nat) (t186c5a : Option Addr) (t186c5n : Nat) (t186c5k : Nat), ldAll H t14b t14o [.int .i64 t186c0, .int .i64 t186c1, .int .i64 t186c2, .int .i64 t186c3, .slice t186c4a t186c4n t186c4k, .slice t186c5a t186c5n t186c5k] ∧
    (∃ (t188r0c0 : Int) (t188r0c1 : Int) (t188r0c2 : Int) (t188r0c3 : Int) (t188r0c4a : Option Addr) (t188r0c4n : Nat) (t188r0c4k : Nat) (t188r0c5a : Option Addr) (t188r0c5n : Nat) (t188r0c5k : Nat) (t188r1 : Int) (t188r2 : Int) (H_4 : Heap), xC Try.prog good 26 [.agg #[.int .i64 t186c0, .int .i64 t186c1, .int .i64 t186c2, .int .i64 t186c3, .slice t186c4a t186c4n t186c4k, .slice t186c5a t186c5n t186c5k], .int .i64 t15] H = some (.tuple #[.agg #[.int .i64 t188r0c0, .int .i64 t188r0c1, .int .i64 t188r0c2, .int .i64 t188r0c3, .slice t188r0c4a t188r0c4n t188r0c4k, .slice t188r0c5a t188r0c5n t188r0c5k], .int .i64 t188r1, .int .i64 t188r2], H_4) ∧
    (∃ (H_5 : Heap), H_5 = H_4.push (.row [.int .i64 0, .int .i64 0, .int .i64 0, .int .i64 0, .slice none 0 0, .slice none 0 0] true) ∧
    (∃ (H_6 : Heap), stc H_5 H_4.next 0 [.int .i64 t188r0c0, .int .i64 t188r0c1, .int .i64 t188r0c2, .int .i64 t188r0c3, .slice t188r0c4a t188r0c4n t188r0c4k, .slice t188r0c5a t188r0c5n t188r0c5k] = some H_6 ∧
    (∃ (H_7 : Heap), stc H_6 t14b (t14o + 3) [.int .i64 1] = some H_7 ∧
    (∃ (t194c0 : Int) (t194c1 : Int) (t194c2 : Int) (t194c3 : Int) (t194c4a : Option Addr) (t194c4n : Nat) (t194c4k : Nat) (t194c5a : Option Addr) (t194c5n : Nat) (t194c5k : Nat), ldAll H_7 t14b t14o [.int .i64 t194c0, .int .i64 t194c1, .int .i64 t194c2, .int .i64 t194c3, .slice t194c4a t194c4n t194c4k, .slice t194c5a t194c5n t194c5k] ∧
    (∃ (t196r0c0 : Int) (t196r0c1 : Int) (t196r0c2 : Int) (t196r0c3 : Int) (t196r0c4a : Option Addr) (t196r0c4n : Nat) (t196r0c4k : Nat) (t196r0c5a : Option Addr) (t196r0c5n : Nat) (t196r0c5k : Nat) (t196r1 : Int) (t196r2 : Int) (H_8 : Heap), xC Try.prog good 26 [.agg #[.int .i64 t194c0, .int .i64 t194c1, .int .i64 t194c2, .int .i64 t194c3, .slice t194c4a t194c4n t194c4k, .slice t194c5a t194c5n t194c5k], .int .i64 t15] H_7 = some (.tuple #[.agg #[.int .i64 t196r0c0, .int .i64 t196r0c1, .int .i64 t196r0c2, .int .i64 t196r0c3, .slice t196r0c4a t196r0c4n t196r0c4k, .slice t196r0c5a t196r0c5n t196r0c5k], .int .i64 t196r1, .int .i64 t196r2], H_8) ∧
    (∃ (H_9 : Heap), H_9 = H_8.push (.row [.int .i64 0, .int .i64 0, .int .i64 0, .int .i64 0, .slice none 0 0, .slice none 0 0] true) ∧
    (∃ (H_10 : Heap), stc H_9 H_8.next 0 [.int .i64 t196r0c0, .int .i64 t196r0c1, .int .i64 t196r0c2, .int .i64 t196r0c3, .slice t196r0c4a t196r0c4n t196r0c4k, .slice t196r0c5a t196r0c5n t196r0c5k] = some H_10 ∧
    ((0 : Int) ≤ 0 ∧ 0 < ((t0n : Nat) : Int) ∧
    (∃ (t203 : Int), ldc H_10 t0b t0o = some (.int .i64 t203) ∧
    (if t15 = t203 then
    (if t188r2 = 11 then
    (if t196r2 = 6 then
    (∃ (t214 : Bool) (H_11 : Heap), xC Try.prog good 20 [] H_10 = some (.bool t214, H_11) ∧
    (r = (.bool t214, H_11)))
    else
    (r = (.bool false, H_10)))
    else
    (r = (.bool false, H_10)))
    else
    (r = (.bool false, H_10))))))))))))))) :
    L3 t0b t0o t0n t0k t14b t14o t15 t147 t148 H r := by
  intro J
  show KR _ _ _ (.lp (sub B [1, 1, 1, 1, 1, 1, 1, 1, 0, 1, 0, 0]) :: S19) _ _ _
  refine KR.run 6 [(0, .slice (some ⟨t0b, t0o, none⟩) t0n t0k), (14, .pointer (some ⟨t14b, t14o, none⟩)), (15, .int .i64 t15), (147, .int .i64 t147), (148, .int .i64 t148), (149, .bool (decide (t148 < t147)))] 216 (s' := (.code (sub B [1, 1, 1, 1, 1, 1, 1, 1, 0, 1, 0, 0, 1, 0]) :: S21)) (by kernel_rfl) fun J => ?_
  by_cases c53 : t148 < t147
  · replace h := iteT c53 h
    refine KR.br true (by kernel_rfl) (vB (dT c53)) ?_
    refine KR.run 10 [(0, .slice (some ⟨t0b, t0o, none⟩) t0n t0k), (14, .pointer (some ⟨t14b, t14o, none⟩)), (15, .int .i64 t15), (16, .int .i64 t148), (147, .int .i64 t147), (148, .int .i64 t148)] 216 (s' := (.reg (opsAt (sub B [1, 1, 1, 1, 1, 1, 1, 1, 0, 1, 0, 0, 1, 1, 0, 0, 1, 0])) [0, 1, 2, 3, 4, 5, 6, 7, 8, 9, 10] :: S24)) (by kernel_rfl) fun J => ?_
    obtain ⟨t152c0, t152c1, t152c2, t152c3, t152c4a, t152c4n, t152c4k, t152c5a, t152c5n, t152c5k, q54, h⟩ := h
    refine KR.rd (one_ldA (by kernel_rfl) q54) ?_
    refine KR.run 1 [(0, .slice (some ⟨t0b, t0o, none⟩) t0n t0k), (14, .pointer (some ⟨t14b, t14o, none⟩)), (16, .int .i64 t148), (147, .int .i64 t147), (148, .int .i64 t148), (152, .agg #[.int .i64 t152c0, .int .i64 t152c1, .int .i64 t152c2, .int .i64 t152c3, .slice t152c4a t152c4n t152c4k, .slice t152c5a t152c5n t152c5k]), (153, .int .i64 t15)] 216 (s' := (.reg (opsAt (sub B [1, 1, 1, 1, 1, 1, 1, 1, 0, 1, 0, 0, 1, 1, 0, 0, 1, 0])) [2, 3, 4, 5, 6, 7, 8, 9, 10] :: S24)) (by kernel_rfl) fun J => ?_
    obtain ⟨t154r0c0, t154r0c1, t154r0c2, t154r0c3, t154r0c4a, t154r0c4n, t154r0c4k, t154r0c5a, t154r0c5n, t154r0c5k, t154r1, t154r2, H_1, q55, h⟩ := h
    refine KR.se (one_ca (by kernel_rfl) q55) ?_
    refine KR.run 4 [(0, .slice (some ⟨t0b, t0o, none⟩) t0n t0k), (14, .pointer (some ⟨t14b, t14o, none⟩)), (16, .int .i64 t148), (147, .int .i64 t147), (148, .int .i64 t148), (155, .agg #[.int .i64 t154r0c0, .int .i64 t154r0c1, .int .i64 t154r0c2, .int .i64 t154r0c3, .slice t154r0c4a t154r0c4n t154r0c4k, .slice t154r0c5a t154r0c5n t154r0c5k]), (156, .int .i64 t154r1), (157, .int .i64 t154r2)] 216 (s' := (.reg (opsAt (sub B [1, 1, 1, 1, 1, 1, 1, 1, 0, 1, 0, 0, 1, 1, 0, 0, 1, 0])) [7, 8, 9, 10] :: S24)) (by kernel_rfl) fun J => ?_
    obtain ⟨H_2, q56, h⟩ := h
    refine KR.mk (w := pRow [.int .i64 0, .int .i64 0, .int .i64 0, .int .i64 0, .slice none 0 0, .slice none 0 0]) (one_al (by kernel_rfl)) q56 ?_
    obtain ⟨H_3, q57, h⟩ := h
    refine KR.se (one_st (by kernel_rfl) q57) ?_
    refine KR.run 9 [(0, .slice (some ⟨t0b, t0o, none⟩) t0n t0k), (14, .pointer (some ⟨t14b, t14o, none⟩)), (16, .int .i64 t148), (17, .pointer (some ⟨H_1.next, 0, none⟩)), (18, .int .i64 t154r1), (147, .int .i64 t147), (148, .int .i64 t148), (160, .bool (!(t154r2 == 0)))] 216 (s' := (.reg (opsAt (sub B [1, 1, 1, 1, 1, 1, 1, 1, 0, 1, 0, 0, 1, 1, 0, 0, 1, 1, 0, 0])) [3, 4, 5, 6, 7, 8, 9, 10, 11, 12, 13, 14, 15, 16, 17, 18, 19, 20, 21, 22, 23] :: S26)) (by kernel_rfl) fun J => ?_
    by_cases c58 : t154r2 = 0
    · replace h := iteT c58 h
      refine KR.setV 160 (by kernel_rfl) (nB (eT c58)) ?_
      refine KR.run 7 [(0, .slice (some ⟨t0b, t0o, none⟩) t0n t0k), (14, .pointer (some ⟨t14b, t14o, none⟩)), (16, .int .i64 t148), (17, .pointer (some ⟨H_1.next, 0, none⟩)), (18, .int .i64 t154r1), (147, .int .i64 t147), (148, .int .i64 t148), (160, .bool false), (161, .int .i64 t154r1), (162, .slice (some ⟨t0b, t0o, none⟩) t0n t0k), (167, .int .i64 (IntKind.wrap .i64 ((IntKind.wrap .i64 (((t0n : Nat) : Int) - 1)) - t148)))] 216 (s' := (.reg (opsAt (sub B [1, 1, 1, 1, 1, 1, 1, 1, 0, 1, 0, 0, 1, 1, 0, 0, 1, 1, 0, 0])) [10, 11, 12, 13, 14, 15, 16, 17, 18, 19, 20, 21, 22, 23] :: S26)) (by kernel_rfl) fun J => ?_
      obtain ⟨q59, q59x, h⟩ := h
      refine KR.p (one_ix 1 t0b t0o (by kernel_rfl) q59 q59x) ?_
      obtain ⟨t169, q60, h⟩ := h
      refine KR.rd (one_ld (by kernel_rfl) q60) ?_
      refine KR.run 3 [(0, .slice (some ⟨t0b, t0o, none⟩) t0n t0k), (14, .pointer (some ⟨t14b, t14o, none⟩)), (16, .int .i64 t148), (17, .pointer (some ⟨H_1.next, 0, none⟩)), (18, .int .i64 t154r1), (147, .int .i64 t147), (148, .int .i64 t148), (172, .bool (!(t154r1 == t169)))] 216 (s' := (.reg (opsAt (sub B [1, 1, 1, 1, 1, 1, 1, 1, 0, 1, 0, 0, 1, 1, 0, 0, 1, 1, 0, 0])) [15, 16, 17, 18, 19, 20, 21, 22, 23] :: S26)) (by kernel_rfl) fun J => ?_
      by_cases c61 : t154r1 = t169
      · replace h := iteT c61 h
        refine KR.setV 172 (by kernel_rfl) (nB (eT c61)) ?_
        refine KR.run 1 [(0, .slice (some ⟨t0b, t0o, none⟩) t0n t0k), (14, .pointer (some ⟨t14b, t14o, none⟩)), (16, .int .i64 t148), (17, .pointer (some ⟨H_1.next, 0, none⟩)), (18, .int .i64 t154r1), (147, .int .i64 t147), (148, .int .i64 t148), (172, .bool false), (173, .pointer (some ⟨H_1.next, 3, none⟩))] 216 (s' := (.reg (opsAt (sub B [1, 1, 1, 1, 1, 1, 1, 1, 0, 1, 0, 0, 1, 1, 0, 0, 1, 1, 0, 0])) [16, 17, 18, 19, 20, 21, 22, 23] :: S26)) (by kernel_rfl) fun J => ?_
        obtain ⟨t174, q62, h⟩ := h
        refine KR.rd (one_ld (by kernel_rfl) q62) ?_
        exact KR.run 8 [(0, .slice (some ⟨t0b, t0o, none⟩) t0n t0k), (14, .pointer (some ⟨t14b, t14o, none⟩)), (17, .pointer (some ⟨H_1.next, 0, none⟩)), (18, .int .i64 t154r1), (147, .int .i64 t147), (148, .int .i64 t148), (181, .bool (!(t174 == (IntKind.wrap .i64 ((IntKind.wrap .i64 (((t0n : Nat) : Int) - t148)) - 1)))))] 216 (s' := (.code (sub B [1, 1, 1, 1, 1, 1, 1, 1, 0, 1, 0, 0, 1, 1, 0, 0, 1, 1, 0, 1]) :: S25)) (by kernel_rfl) h
      · replace h := iteF c61 h
        refine KR.setV 172 (by kernel_rfl) (nB (eF c61)) ?_
        exact KR.run 10 [(0, .slice (some ⟨t0b, t0o, none⟩) t0n t0k), (14, .pointer (some ⟨t14b, t14o, none⟩)), (17, .pointer (some ⟨H_1.next, 0, none⟩)), (18, .int .i64 t154r1), (147, .int .i64 t147), (148, .int .i64 t148), (181, .bool true)] 216 (s' := (.code (sub B [1, 1, 1, 1, 1, 1, 1, 1, 0, 1, 0, 0, 1, 1, 0, 0, 1, 1, 0, 1]) :: S25)) (by kernel_rfl) h
    · replace h := iteF c58 h
      refine KR.setV 160 (by kernel_rfl) (nB (eF c58)) ?_
      exact KR.run 22 [(0, .slice (some ⟨t0b, t0o, none⟩) t0n t0k), (14, .pointer (some ⟨t14b, t14o, none⟩)), (17, .pointer (some ⟨H_1.next, 0, none⟩)), (18, .int .i64 t154r1), (147, .int .i64 t147), (148, .int .i64 t148), (181, .bool true)] 216 (s' := (.code (sub B [1, 1, 1, 1, 1, 1, 1, 1, 0, 1, 0, 0, 1, 1, 0, 0, 1, 1, 0, 1]) :: S25)) (by kernel_rfl) h
  · replace h := iteF c53 h
    refine KR.br false (by kernel_rfl) (vB (dF c53)) ?_
    refine KR.run 3 [(0, .slice (some ⟨t0b, t0o, none⟩) t0n t0k), (14, .pointer (some ⟨t14b, t14o, none⟩)), (15, .int .i64 t15)] 216 (s' := (.reg (opsAt (sub B [1, 1, 1, 1, 1, 1, 1, 1, 1, 0])) [0, 1, 2, 3, 4, 5, 6, 7, 8, 9, 10] :: S27)) (by kernel_rfl) fun J => ?_
    obtain ⟨t186c0, t186c1, t186c2, t186c3, t186c4a, t186c4n, t186c4k, t186c5a, t186c5n, t186c5k, q63, h⟩ := h
    refine KR.rd (one_ldA (by kernel_rfl) q63) ?_
    refine KR.run 1 [(0, .slice (some ⟨t0b, t0o, none⟩) t0n t0k), (14, .pointer (some ⟨t14b, t14o, none⟩)), (15, .int .i64 t15), (186, .agg #[.int .i64 t186c0, .int .i64 t186c1, .int .i64 t186c2, .int .i64 t186c3, .slice t186c4a t186c4n t186c4k, .slice t186c5a t186c5n t186c5k]), (187, .int .i64 t15)] 216 (s' := (.reg (opsAt (sub B [1, 1, 1, 1, 1, 1, 1, 1, 1, 0])) [2, 3, 4, 5, 6, 7, 8, 9, 10] :: S27)) (by kernel_rfl) fun J => ?_
    obtain ⟨t188r0c0, t188r0c1, t188r0c2, t188r0c3, t188r0c4a, t188r0c4n, t188r0c4k, t188r0c5a, t188r0c5n, t188r0c5k, t188r1, t188r2, H_4, q64, h⟩ := h
    refine KR.se (one_ca (by kernel_rfl) q64) ?_
    refine KR.run 4 [(0, .slice (some ⟨t0b, t0o, none⟩) t0n t0k), (14, .pointer (some ⟨t14b, t14o, none⟩)), (15, .int .i64 t15), (189, .agg #[.int .i64 t188r0c0, .int .i64 t188r0c1, .int .i64 t188r0c2, .int .i64 t188r0c3, .slice t188r0c4a t188r0c4n t188r0c4k, .slice t188r0c5a t188r0c5n t188r0c5k]), (190, .int .i64 t188r1), (191, .int .i64 t188r2)] 216 (s' := (.reg (opsAt (sub B [1, 1, 1, 1, 1, 1, 1, 1, 1, 0])) [7, 8, 9, 10] :: S27)) (by kernel_rfl) fun J => ?_
    obtain ⟨H_5, q65, h⟩ := h
    refine KR.mk (w := pRow [.int .i64 0, .int .i64 0, .int .i64 0, .int .i64 0, .slice none 0 0, .slice none 0 0]) (one_al (by kernel_rfl)) q65 ?_
    obtain ⟨H_6, q66, h⟩ := h
    refine KR.se (one_st (by kernel_rfl) q66) ?_
    refine KR.run 6 [(0, .slice (some ⟨t0b, t0o, none⟩) t0n t0k), (14, .pointer (some ⟨t14b, t14o, none⟩)), (15, .int .i64 t15), (22, .int .i64 t188r2), (192, .pointer (some ⟨t14b, (t14o + 3), none⟩))] 216 (s' := (.reg (opsAt (sub B [1, 1, 1, 1, 1, 1, 1, 1, 1, 1, 0])) [1] :: S28)) (by kernel_rfl) fun J => ?_
    obtain ⟨H_7, q67, h⟩ := h
    refine KR.se (one_st (by kernel_rfl) q67) ?_
    refine KR.run 3 [(0, .slice (some ⟨t0b, t0o, none⟩) t0n t0k), (14, .pointer (some ⟨t14b, t14o, none⟩)), (15, .int .i64 t15), (22, .int .i64 t188r2)] 216 (s' := (.reg (opsAt (sub B [1, 1, 1, 1, 1, 1, 1, 1, 1, 1, 1, 0])) [0, 1, 2, 3, 4, 5, 6, 7, 8, 9, 10] :: S29)) (by kernel_rfl) fun J => ?_
    obtain ⟨t194c0, t194c1, t194c2, t194c3, t194c4a, t194c4n, t194c4k, t194c5a, t194c5n, t194c5k, q68, h⟩ := h
    refine KR.rd (one_ldA (by kernel_rfl) q68) ?_
    refine KR.run 1 [(0, .slice (some ⟨t0b, t0o, none⟩) t0n t0k), (15, .int .i64 t15), (22, .int .i64 t188r2), (194, .agg #[.int .i64 t194c0, .int .i64 t194c1, .int .i64 t194c2, .int .i64 t194c3, .slice t194c4a t194c4n t194c4k, .slice t194c5a t194c5n t194c5k]), (195, .int .i64 t15)] 216 (s' := (.reg (opsAt (sub B [1, 1, 1, 1, 1, 1, 1, 1, 1, 1, 1, 0])) [2, 3, 4, 5, 6, 7, 8, 9, 10] :: S29)) (by kernel_rfl) fun J => ?_
    obtain ⟨t196r0c0, t196r0c1, t196r0c2, t196r0c3, t196r0c4a, t196r0c4n, t196r0c4k, t196r0c5a, t196r0c5n, t196r0c5k, t196r1, t196r2, H_8, q69, h⟩ := h
    refine KR.se (one_ca (by kernel_rfl) q69) ?_
    refine KR.run 4 [(0, .slice (some ⟨t0b, t0o, none⟩) t0n t0k), (15, .int .i64 t15), (22, .int .i64 t188r2), (197, .agg #[.int .i64 t196r0c0, .int .i64 t196r0c1, .int .i64 t196r0c2, .int .i64 t196r0c3, .slice t196r0c4a t196r0c4n t196r0c4k, .slice t196r0c5a t196r0c5n t196r0c5k]), (198, .int .i64 t196r1), (199, .int .i64 t196r2)] 216 (s' := (.reg (opsAt (sub B [1, 1, 1, 1, 1, 1, 1, 1, 1, 1, 1, 0])) [7, 8, 9, 10] :: S29)) (by kernel_rfl) fun J => ?_
    obtain ⟨H_9, q70, h⟩ := h
    refine KR.mk (w := pRow [.int .i64 0, .int .i64 0, .int .i64 0, .int .i64 0, .slice none 0 0, .slice none 0 0]) (one_al (by kernel_rfl)) q70 ?_
    obtain ⟨H_10, q71, h⟩ := h
    refine KR.se (one_st (by kernel_rfl) q71) ?_
    refine KR.run 7 [(22, .int .i64 t188r2), (25, .int .i64 t196r2), (200, .int .i64 t15), (201, .slice (some ⟨t0b, t0o, none⟩) t0n t0k)] 216 (s' := (.reg (opsAt (sub B [1, 1, 1, 1, 1, 1, 1, 1, 1, 1, 1, 1, 0])) [2, 3, 4, 5, 6, 7, 8, 9, 10, 11, 12, 13, 14, 15, 16] :: S30)) (by kernel_rfl) fun J => ?_
    obtain ⟨q72, q72x, h⟩ := h
    refine KR.p (one_ix 1 t0b t0o (by kernel_rfl) q72 q72x) ?_
    obtain ⟨t203, q73, h⟩ := h
    refine KR.rd (one_ld (by kernel_rfl) q73) ?_
    refine KR.run 2 [(22, .int .i64 t188r2), (25, .int .i64 t196r2), (205, .bool (t15 == t203))] 216 (s' := (.reg (opsAt (sub B [1, 1, 1, 1, 1, 1, 1, 1, 1, 1, 1, 1, 0])) [6, 7, 8, 9, 10, 11, 12, 13, 14, 15, 16] :: S30)) (by kernel_rfl) fun J => ?_
    by_cases c74 : t15 = t203
    · replace h := iteT c74 h
      refine KR.setV 205 (by kernel_rfl) (eT c74) ?_
      refine KR.run 4 [(25, .int .i64 t196r2), (209, .bool (t188r2 == 11))] 216 (s' := (.reg (opsAt (sub B [1, 1, 1, 1, 1, 1, 1, 1, 1, 1, 1, 1, 0])) [10, 11, 12, 13, 14, 15, 16] :: S30)) (by kernel_rfl) fun J => ?_
      by_cases c75 : t188r2 = 11
      · replace h := iteT c75 h
        refine KR.setV 209 (by kernel_rfl) (eT c75) ?_
        refine KR.run 4 [(213, .bool (t196r2 == 6))] 216 (s' := (.reg (opsAt (sub B [1, 1, 1, 1, 1, 1, 1, 1, 1, 1, 1, 1, 0])) [14, 15, 16] :: S30)) (by kernel_rfl) fun J => ?_
        by_cases c76 : t196r2 = 6
        · replace h := iteT c76 h
          refine KR.setV 213 (by kernel_rfl) (eT c76) ?_
          obtain ⟨t214, H_11, q77, h⟩ := h
          refine KR.se (one_ca (by kernel_rfl) q77) ?_
          refine KR.run 3 [(8, .bool t214)] 216 (s' := (.code (sub B [1, 1, 1, 1, 1, 1, 1, 1, 1, 1, 1, 1, 1]) :: [])) (by kernel_rfl) fun J => ?_
          exact KR.fin (by kernel_rfl) h
        · replace h := iteF c76 h
          refine KR.setV 213 (by kernel_rfl) (eF c76) ?_
          refine KR.run 4 [(8, .bool false)] 216 (s' := (.code (sub B [1, 1, 1, 1, 1, 1, 1, 1, 1, 1, 1, 1, 1]) :: [])) (by kernel_rfl) fun J => ?_
          exact KR.fin (by kernel_rfl) h
      · replace h := iteF c75 h
        refine KR.setV 209 (by kernel_rfl) (eF c75) ?_
        refine KR.run 8 [(8, .bool false)] 216 (s' := (.code (sub B [1, 1, 1, 1, 1, 1, 1, 1, 1, 1, 1, 1, 1]) :: [])) (by kernel_rfl) fun J => ?_
        exact KR.fin (by kernel_rfl) h
    · replace h := iteF c74 h
      refine KR.setV 205 (by kernel_rfl) (eF c74) ?_
      refine KR.run 12 [(8, .bool false)] 216 (s' := (.code (sub B [1, 1, 1, 1, 1, 1, 1, 1, 1, 1, 1, 1, 1]) :: [])) (by kernel_rfl) fun J => ?_
      exact KR.fin (by kernel_rfl) h
theorem L4_step {t0b : Nat} {t0o : Nat} {t0n : Nat} {t0k : Nat} {t14b : Nat} {t14o : Nat} {t17b : Nat} {t17o : Nat} {t18 : Int} {t147 : Int} {t148 : Int} {t181 : Bool} {H : Heap} {r : Value × Heap} (h :
    if t181 = true then
    (r = (.bool false, H))
    else
    (∃ (t182c0 : Int) (t182c1 : Int) (t182c2 : Int) (t182c3 : Int) (t182c4a : Option Addr) (t182c4n : Nat) (t182c4k : Nat) (t182c5a : Option Addr) (t182c5n : Nat) (t182c5k : Nat), ldAll H t17b t17o [.int .i64 t182c0, .int .i64 t182c1, .int .i64 t182c2, .int .i64 t182c3, .slice t182c4a t182c4n t182c4k, .slice t182c5a t182c5n t182c5k] ∧
    (∃ (H_1 : Heap), stc H t14b t14o [.int .i64 t182c0, .int .i64 t182c1, .int .i64 t182c2, .int .i64 t182c3, .slice t182c4a t182c4n t182c4k, .slice t182c5a t182c5n t182c5k] = some H_1 ∧
    (L3 (t0b) (t0o) (t0n) (t0k) (t14b) (t14o) (t18) (t147) ((IntKind.wrap .i64 (t148 + 1))) H_1 r)))) :
    L4 t0b t0o t0n t0k t14b t14o t17b t17o t18 t147 t148 t181 H r := by
  intro J
  show KR _ _ _ (.code (sub B [1, 1, 1, 1, 1, 1, 1, 1, 0, 1, 0, 0, 1, 1, 0, 0, 1, 1, 0, 1]) :: S25) _ _ _
  by_cases c78 : t181 = true
  · replace h := iteT c78 h
    refine KR.br true (by kernel_rfl) (vB (bT c78)) ?_
    refine KR.run 4 [(8, .bool false)] 216 (s' := (.code (sub B [1, 1, 1, 1, 1, 1, 1, 1, 0, 1, 0, 0, 1, 1, 0, 0, 1, 1, 0, 1, 0, 1]) :: S25)) (by kernel_rfl) fun J => ?_
    exact KR.fin (by kernel_rfl) h
  · replace h := iteF c78 h
    refine KR.br false (by kernel_rfl) (vB (bF c78)) ?_
    refine KR.run 2 [(0, .slice (some ⟨t0b, t0o, none⟩) t0n t0k), (14, .pointer (some ⟨t14b, t14o, none⟩)), (17, .pointer (some ⟨t17b, t17o, none⟩)), (18, .int .i64 t18), (147, .int .i64 t147), (148, .int .i64 t148)] 216 (s' := (.reg (opsAt (sub B [1, 1, 1, 1, 1, 1, 1, 1, 0, 1, 0, 0, 1, 1, 0, 0, 1, 1, 1])) [0, 1, 2, 3] :: S23)) (by kernel_rfl) fun J => ?_
    obtain ⟨t182c0, t182c1, t182c2, t182c3, t182c4a, t182c4n, t182c4k, t182c5a, t182c5n, t182c5k, q79, h⟩ := h
    refine KR.rd (one_ldA (by kernel_rfl) q79) ?_
    refine KR.run 1 [(0, .slice (some ⟨t0b, t0o, none⟩) t0n t0k), (14, .pointer (some ⟨t14b, t14o, none⟩)), (147, .int .i64 t147), (148, .int .i64 t148), (182, .agg #[.int .i64 t182c0, .int .i64 t182c1, .int .i64 t182c2, .int .i64 t182c3, .slice t182c4a t182c4n t182c4k, .slice t182c5a t182c5n t182c5k]), (183, .int .i64 t18)] 216 (s' := (.reg (opsAt (sub B [1, 1, 1, 1, 1, 1, 1, 1, 0, 1, 0, 0, 1, 1, 0, 0, 1, 1, 1])) [2, 3] :: S23)) (by kernel_rfl) fun J => ?_
    obtain ⟨H_1, q80, h⟩ := h
    refine KR.se (one_st (by kernel_rfl) q80) ?_
    exact KR.run 7 [(0, .slice (some ⟨t0b, t0o, none⟩) t0n t0k), (14, .pointer (some ⟨t14b, t14o, none⟩)), (15, .int .i64 t18), (147, .int .i64 t147), (148, .int .i64 (IntKind.wrap .i64 (t148 + 1)))] 216 (s' := (.lp (sub B [1, 1, 1, 1, 1, 1, 1, 1, 0, 1, 0, 0]) :: S19)) (by kernel_rfl) h
theorem call {a0a : Option Addr} {a0n : Nat} {a0k : Nat} {a1 : Int} {a2a : Option Addr} {a2n : Nat} {a2k : Nat} {a3 : Int} {H : Heap} {r : Value × Heap} (h :
    ∃ (t27 : Bool) (H_1 : Heap), xC Try.prog good 22 [.slice a0a a0n a0k] H = some (.bool t27, H_1) ∧
    (if t27 = true then
    (if ((a0n : Nat) : Int) < 2 then
    (L0 (a0a) (a0n) (a0k) (a1) (a2a) (a2n) (a2k) (a3) (true) H_1 r)
    else
    (if ((a2n : Nat) : Int) < 1 then
    (L0 (a0a) (a0n) (a0k) (a1) (a2a) (a2n) (a2k) (a3) (true) H_1 r)
    else
    (if ((a2n : Nat) : Int) > 24 then
    (L0 (a0a) (a0n) (a0k) (a1) (a2a) (a2n) (a2k) (a3) (true) H_1 r)
    else
    (∃ (t46 : Int) (H_2 : Heap), xC Try.prog good 23 [.slice a0a a0n a0k, .int .i64 0] H_1 = some (.int .i64 t46, H_2) ∧
    (if t46 ≥ 0 then
    (L0 (a0a) (a0n) (a0k) (a1) (a2a) (a2n) (a2k) (a3) (true) H_2 r)
    else
    (L0 (a0a) (a0n) (a0k) (a1) (a2a) (a2n) (a2k) (a3) ((decide (((a0n : Nat) : Int) ≥ 16))) H_2 r))))))
    else
    (L0 (a0a) (a0n) (a0k) (a1) (a2a) (a2n) (a2k) (a3) (true) H_1 r))) :
    xC Try.prog good 5 [.slice a0a a0n a0k, .int .i64 a1, .slice a2a a2n a2k, .int .i64 a3] H = some r := by
  refine KR.enter (fn := Try.f5) (c := B) (by kernel_rfl) (by kernel_rfl) ?_
  refine KR.run 8 [(0, .slice a0a a0n a0k), (1, .int .i64 a1), (2, .slice a2a a2n a2k), (3, .int .i64 a3), (26, .slice a0a a0n a0k)] 216 (s' := (.reg (opsAt (sub B [1, 0, 0])) [1, 2, 3, 4, 5, 6, 7, 8, 9, 10, 11, 12, 13, 14, 15, 16, 17, 18, 19, 20, 21, 22, 23, 24, 25, 26, 27] :: S1)) (by kernel_rfl) fun J => ?_
  obtain ⟨t27, H_1, q1, h⟩ := h
  refine KR.se (one_ca (by kernel_rfl) q1) ?_
  refine KR.run 2 [(0, .slice a0a a0n a0k), (1, .int .i64 a1), (2, .slice a2a a2n a2k), (3, .int .i64 a3), (29, .bool (!t27))] 216 (s' := (.reg (opsAt (sub B [1, 0, 0])) [4, 5, 6, 7, 8, 9, 10, 11, 12, 13, 14, 15, 16, 17, 18, 19, 20, 21, 22, 23, 24, 25, 26, 27] :: S1)) (by kernel_rfl) fun J => ?_
  by_cases c2 : t27 = true
  · replace h := iteT c2 h
    refine KR.setV 29 (by kernel_rfl) (nB (bT c2)) ?_
    refine KR.run 5 [(0, .slice a0a a0n a0k), (1, .int .i64 a1), (2, .slice a2a a2n a2k), (3, .int .i64 a3), (34, .bool (decide (((a0n : Nat) : Int) < 2)))] 216 (s' := (.reg (opsAt (sub B [1, 0, 0])) [9, 10, 11, 12, 13, 14, 15, 16, 17, 18, 19, 20, 21, 22, 23, 24, 25, 26, 27] :: S1)) (by kernel_rfl) fun J => ?_
    by_cases c3 : ((a0n : Nat) : Int) < 2
    · replace h := iteT c3 h
      refine KR.setV 34 (by kernel_rfl) (dT c3) ?_
      exact KR.run 20 [(0, .slice a0a a0n a0k), (1, .int .i64 a1), (2, .slice a2a a2n a2k), (3, .int .i64 a3), (53, .bool true)] 216 (s' := (.code (sub B [1, 0, 1]) :: S0)) (by kernel_rfl) h
    · replace h := iteF c3 h
      refine KR.setV 34 (by kernel_rfl) (dF c3) ?_
      refine KR.run 5 [(0, .slice a0a a0n a0k), (1, .int .i64 a1), (2, .slice a2a a2n a2k), (3, .int .i64 a3), (39, .bool (decide (((a2n : Nat) : Int) < 1)))] 216 (s' := (.reg (opsAt (sub B [1, 0, 0])) [14, 15, 16, 17, 18, 19, 20, 21, 22, 23, 24, 25, 26, 27] :: S1)) (by kernel_rfl) fun J => ?_
      by_cases c4 : ((a2n : Nat) : Int) < 1
      · replace h := iteT c4 h
        refine KR.setV 39 (by kernel_rfl) (dT c4) ?_
        exact KR.run 15 [(0, .slice a0a a0n a0k), (1, .int .i64 a1), (2, .slice a2a a2n a2k), (3, .int .i64 a3), (53, .bool true)] 216 (s' := (.code (sub B [1, 0, 1]) :: S0)) (by kernel_rfl) h
      · replace h := iteF c4 h
        refine KR.setV 39 (by kernel_rfl) (dF c4) ?_
        refine KR.run 5 [(0, .slice a0a a0n a0k), (1, .int .i64 a1), (2, .slice a2a a2n a2k), (3, .int .i64 a3), (44, .bool (decide (((a2n : Nat) : Int) > 24)))] 216 (s' := (.reg (opsAt (sub B [1, 0, 0])) [19, 20, 21, 22, 23, 24, 25, 26, 27] :: S1)) (by kernel_rfl) fun J => ?_
        by_cases c5 : ((a2n : Nat) : Int) > 24
        · replace h := iteT c5 h
          refine KR.setV 44 (by kernel_rfl) (dT c5) ?_
          exact KR.run 10 [(0, .slice a0a a0n a0k), (1, .int .i64 a1), (2, .slice a2a a2n a2k), (3, .int .i64 a3), (53, .bool true)] 216 (s' := (.code (sub B [1, 0, 1]) :: S0)) (by kernel_rfl) h
        · replace h := iteF c5 h
          refine KR.setV 44 (by kernel_rfl) (dF c5) ?_
          refine KR.run 1 [(0, .slice a0a a0n a0k), (1, .int .i64 a1), (2, .slice a2a a2n a2k), (3, .int .i64 a3), (44, .bool false), (45, .slice a0a a0n a0k)] 216 (s' := (.reg (opsAt (sub B [1, 0, 0])) [20, 21, 22, 23, 24, 25, 26, 27] :: S1)) (by kernel_rfl) fun J => ?_
          obtain ⟨t46, H_2, q6, h⟩ := h
          refine KR.se (one_ca (by kernel_rfl) q6) ?_
          refine KR.run 3 [(0, .slice a0a a0n a0k), (1, .int .i64 a1), (2, .slice a2a a2n a2k), (3, .int .i64 a3), (49, .bool (decide (t46 ≥ 0)))] 216 (s' := (.reg (opsAt (sub B [1, 0, 0])) [24, 25, 26, 27] :: S1)) (by kernel_rfl) fun J => ?_
          by_cases c7 : t46 ≥ 0
          · replace h := iteT c7 h
            refine KR.setV 49 (by kernel_rfl) (dT c7) ?_
            exact KR.run 5 [(0, .slice a0a a0n a0k), (1, .int .i64 a1), (2, .slice a2a a2n a2k), (3, .int .i64 a3), (53, .bool true)] 216 (s' := (.code (sub B [1, 0, 1]) :: S0)) (by kernel_rfl) h
          · replace h := iteF c7 h
            refine KR.setV 49 (by kernel_rfl) (dF c7) ?_
            exact KR.run 5 [(0, .slice a0a a0n a0k), (1, .int .i64 a1), (2, .slice a2a a2n a2k), (3, .int .i64 a3), (53, .bool (decide (((a0n : Nat) : Int) ≥ 16)))] 216 (s' := (.code (sub B [1, 0, 1]) :: S0)) (by kernel_rfl) h
  · replace h := iteF c2 h
    refine KR.setV 29 (by kernel_rfl) (nB (bF c2)) ?_
    exact KR.run 25 [(0, .slice a0a a0n a0k), (1, .int .i64 a1), (2, .slice a2a a2n a2k), (3, .int .i64 a3), (53, .bool true)] 216 (s' := (.code (sub B [1, 0, 1]) :: S0)) (by kernel_rfl) h
end F5
end Go.X
