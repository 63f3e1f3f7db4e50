/- The walks of the functions: printed. -/
import Derived.Test.YtdnokmjobpbhhaaXzGc
set_option linter.unusedVariables false
set_option maxRecDepth 100000
namespace Go.X
open Go Go.RowKit Go.Proofs
/-! #### 41 campanile/route.Encode -/
namespace F41
noncomputable def B : Code := bodyOf Try.f41
noncomputable def S0 : List It := (.code (sub B [1]) :: [])
noncomputable def S1 : List It := (.code (sub B [1, 1]) :: [])
noncomputable def S3 : List It := (.code (sub B [1, 1, 1]) :: [])
noncomputable def S4 : List It := (.code (sub B [1, 1, 1, 1]) :: [])
noncomputable def S5 : List It := (.code (sub B [1, 1, 1, 1, 1]) :: [])
noncomputable def S6 : List It := (.code (sub B [1, 1, 1, 1, 1, 1]) :: [])
noncomputable def S7 : List It := (.code (sub B [1, 1, 1, 1, 1, 1, 1]) :: [])
noncomputable def S8 : List It := (.code (sub B [1, 1, 1, 1, 1, 1, 1, 1]) :: [])
noncomputable def S9 : List It := (.code (sub B [1, 1, 1, 1, 1, 1, 1, 1, 1]) :: [])
noncomputable def S17 : List It := (.code (sub B [1, 1, 1, 1, 1, 1, 1, 1, 1, 1]) :: [])
noncomputable def S18 : List It := (.code (sub B [1, 1, 1, 1, 1, 1, 1, 1, 1, 1, 1]) :: [])
noncomputable def S19 : List It := (.code (sub B [1, 1, 1, 1, 1, 1, 1, 1, 1, 1, 1, 1]) :: [])
noncomputable def S2 : List It := (.code (sub B [1, 0, 1]) :: S1)
noncomputable def S10 : List It := (.code (sub B [1, 1, 1, 1, 1, 1, 1, 1, 0, 1]) :: S9)
noncomputable def S11 : List It := (.blk 0 :: S9)
noncomputable def S12 : List It := (.lp (sub B [1, 1, 1, 1, 1, 1, 1, 1, 0, 1, 0, 0]) :: S11)
noncomputable def S13 : List It := (.code (sub B [1, 1, 1, 1, 1, 1, 1, 1, 0, 1, 0, 0, 1, 1]) :: S12)
noncomputable def S14 : List It := (.code (sub B [1, 1, 1, 1, 1, 1, 1, 1, 0, 1, 0, 0, 1, 1, 1]) :: S12)
noncomputable def S15 : List It := (.blk 1 :: S14)
noncomputable def S16 : List It := (.code (sub B [1, 1, 1, 1, 1, 1, 1, 1, 0, 1, 0, 0, 1, 1, 0, 0, 1]) :: S15)
def L0 (t1b : Nat) (t1o : Nat) (t4b : Nat) (t4o : Nat) (t39a : Option Addr) (t39n : Nat) (t39k : Nat) (t40 : Int) (t41 : Int) (H : Heap) (r : Value × Heap) : Prop := ∀ J, KR Try.prog good Try.f41 S12 (mat J 62 [(1, .pointer (some ⟨t1b, t1o, none⟩)), (4, .pointer (some ⟨t4b, t4o, none⟩)), (39, .slice t39a t39n t39k), (40, .int .i64 t40), (41, .int .i64 t41)]) H r
theorem L0_step {t1b : Nat} {t1o : Nat} {t4b : Nat} {t4o : Nat} {t39a : Option Addr} {t39n : Nat} {t39k : Nat} {t40 : Int} {t41 : Int} {H : Heap} {r : Value × Heap} (h :
    if t41 < t40 then
    (∃ (t39ab t39ao : Nat), t39a = some ⟨t39ab, t39ao, none⟩ ∧
    ((0 : Int) ≤ t41 ∧ t41 < ((t39n : Nat) : Int) ∧
    (∃ (t44 : Int), ldc H t39ab (t39ao + Int.toNat t41 * 1) = some (.int .i64 t44) ∧
    (∃ (H_1 : Heap), xC Try.prog good 14 [.pointer (some ⟨t4b, t4o, none⟩), .int .u64 (IntKind.wrap .u64 t44), .int .i64 8] H = some (.tuple #[], H_1) ∧
    (L0 (t1b) (t1o) (t4b) (t4o) ((some ⟨t39ab, t39ao, none⟩)) (t39n) (t39k) (t40) ((IntKind.wrap .i64 (t41 + 1))) H_1 r)))))
    else
    (∃ (t52a : Option Addr) (t52n : Nat) (t52k : Nat), ldc H t1b (t1o + 5) = some (.slice t52a t52n t52k) ∧
    (∃ (H_2 : Heap), xC Try.prog good 14 [.pointer (some ⟨t4b, t4o, none⟩), .int .u64 (IntKind.wrap .u64 ((t52n : Nat) : Int)), .int .i64 8] H = some (.tuple #[], H_2) ∧
    (∃ (t58a : Option Addr) (t58n : Nat) (t58k : Nat), ldc H_2 t1b (t1o + 5) = some (.slice t58a t58n t58k) ∧
    (∃ (H_3 : Heap), xC Try.prog good 39 [.pointer (some ⟨t4b, t4o, none⟩), .slice t58a t58n t58k] H_2 = some (.tuple #[], H_3) ∧
    (∃ (t61a : Option Addr) (t61n : Nat) (t61k : Nat) (H_4 : Heap), xC Try.prog good 16 [.pointer (some ⟨t4b, t4o, none⟩)] H_3 = some (.slice t61a t61n t61k, H_4) ∧
    (r = (.tuple #[.slice t61a t61n t61k, .int .i64 0], H_4)))))))) :
    L0 t1b t1o t4b t4o t39a t39n t39k t40 t41 H r := by
  intro J
  show KR _ _ _ (.lp (sub B [1, 1, 1, 1, 1, 1, 1, 1, 0, 1, 0, 0]) :: S11) _ _ _
  refine KR.run 6 [(1, .pointer (some ⟨t1b, t1o, none⟩)), (4, .pointer (some ⟨t4b, t4o, none⟩)), (39, .slice t39a t39n t39k), (40, .int .i64 t40), (41, .int .i64 t41), (42, .bool (decide (t41 < t40)))] 62 (s' := (.code (sub B [1, 1, 1, 1, 1, 1, 1, 1, 0, 1, 0, 0, 1, 0]) :: S13)) (by kernel_rfl) fun J => ?_
  by_cases c17 : t41 < t40
  · replace h := iteT c17 h
    refine KR.br true (by kernel_rfl) (vB (dT c17)) ?_
    obtain ⟨t39ab, t39ao, rfl, h⟩ := h
    refine KR.run 5 [(1, .pointer (some ⟨t1b, t1o, none⟩)), (4, .pointer (some ⟨t4b, t4o, none⟩)), (39, .slice (some ⟨t39ab, t39ao, none⟩) t39n t39k), (40, .int .i64 t40), (41, .int .i64 t41)] 62 (s' := (.reg (opsAt (sub B [1, 1, 1, 1, 1, 1, 1, 1, 0, 1, 0, 0, 1, 1, 0, 0, 0])) [0, 1, 2] :: S16)) (by kernel_rfl) fun J => ?_
    obtain ⟨q18, q18x, h⟩ := h
    refine KR.p (one_ix 1 t39ab t39ao (by kernel_rfl) q18 q18x) ?_
    obtain ⟨t44, q19, h⟩ := h
    refine KR.rd (one_ld (by kernel_rfl) q19) ?_
    refine KR.run 6 [(1, .pointer (some ⟨t1b, t1o, none⟩)), (4, .pointer (some ⟨t4b, t4o, none⟩)), (39, .slice (some ⟨t39ab, t39ao, none⟩) t39n t39k), (40, .int .i64 t40), (41, .int .i64 t41), (45, .pointer (some ⟨t4b, t4o, none⟩)), (47, .int .u64 (IntKind.wrap .u64 t44))] 62 (s' := (.reg (opsAt (sub B [1, 1, 1, 1, 1, 1, 1, 1, 0, 1, 0, 0, 1, 1, 0, 0, 1])) [3] :: S15)) (by kernel_rfl) fun J => ?_
    obtain ⟨H_1, q20, h⟩ := h
    refine KR.se (one_ca (by kernel_rfl) q20) ?_
    exact KR.run 6 [(1, .pointer (some ⟨t1b, t1o, none⟩)), (4, .pointer (some ⟨t4b, t4o, none⟩)), (39, .slice (some ⟨t39ab, t39ao, none⟩) t39n t39k), (40, .int .i64 t40), (41, .int .i64 (IntKind.wrap .i64 (t41 + 1)))] 62 (s' := (.lp (sub B [1, 1, 1, 1, 1, 1, 1, 1, 0, 1, 0, 0]) :: S11)) (by kernel_rfl) h
  · replace h := iteF c17 h
    refine KR.br false (by kernel_rfl) (vB (dF c17)) ?_
    refine KR.run 5 [(1, .pointer (some ⟨t1b, t1o, none⟩)), (4, .pointer (some ⟨t4b, t4o, none⟩)), (50, .pointer (some ⟨t4b, t4o, none⟩)), (51, .pointer (some ⟨t1b, (t1o + 5), none⟩))] 62 (s' := (.reg (opsAt (sub B [1, 1, 1, 1, 1, 1, 1, 1, 1, 0])) [2, 3, 4, 5] :: S17)) (by kernel_rfl) fun J => ?_
    obtain ⟨t52a, t52n, t52k, q21, h⟩ := h
    refine KR.rd (one_ld (by kernel_rfl) q21) ?_
    refine KR.run 2 [(1, .pointer (some ⟨t1b, t1o, none⟩)), (4, .pointer (some ⟨t4b, t4o, none⟩)), (50, .pointer (some ⟨t4b, t4o, none⟩)), (54, .int .u64 (IntKind.wrap .u64 ((t52n : Nat) : Int)))] 62 (s' := (.reg (opsAt (sub B [1, 1, 1, 1, 1, 1, 1, 1, 1, 0])) [5] :: S17)) (by kernel_rfl) fun J => ?_
    obtain ⟨H_2, q22, h⟩ := h
    refine KR.se (one_ca (by kernel_rfl) q22) ?_
    refine KR.run 5 [(4, .pointer (some ⟨t4b, t4o, none⟩)), (56, .pointer (some ⟨t4b, t4o, none⟩)), (57, .pointer (some ⟨t1b, (t1o + 5), none⟩))] 62 (s' := (.reg (opsAt (sub B [1, 1, 1, 1, 1, 1, 1, 1, 1, 1, 0])) [2, 3] :: S18)) (by kernel_rfl) fun J => ?_
    obtain ⟨t58a, t58n, t58k, q23, h⟩ := h
    refine KR.rd (one_ld (by kernel_rfl) q23) ?_
    obtain ⟨H_3, q24, h⟩ := h
    refine KR.se (one_ca (by kernel_rfl) q24) ?_
    refine KR.run 4 [(60, .pointer (some ⟨t4b, t4o, none⟩))] 62 (s' := (.reg (opsAt (sub B [1, 1, 1, 1, 1, 1, 1, 1, 1, 1, 1, 0])) [1, 2, 3] :: S19)) (by kernel_rfl) fun J => ?_
    obtain ⟨t61a, t61n, t61k, H_4, q25, h⟩ := h
    refine KR.se (one_ca (by kernel_rfl) q25) ?_
    refine KR.run 3 [(2, .slice t61a t61n t61k), (3, .int .i64 0)] 62 (s' := (.code (sub B [1, 1, 1, 1, 1, 1, 1, 1, 1, 1, 1, 1]) :: [])) (by kernel_rfl) fun J => ?_
    exact KR.fin (by kernel_rfl) h
theorem call {a0c0 : Int} {a0c1 : Int} {a0c2 : Int} {a0c3 : Int} {a0c4a : Option Addr} {a0c4n : Nat} {a0c4k : Nat} {a0c5a : Option Addr} {a0c5n : Nat} {a0c5k : Nat} {H : Heap} {r : Value × Heap} (h :
    ∃ (H_1 : Heap), H_1 = H.push (.row [.int .i64 a0c0, .int .i64 a0c1, .int .i64 a0c2, .int .i64 a0c3, .slice a0c4a a0c4n a0c4k, .slice a0c5a a0c5n a0c5k] true) ∧
    (∃ (t7c0 : Int) (t7c1 : Int) (t7c2 : Int) (t7c3 : Int) (t7c4a : Option Addr) (t7c4n : Nat) (t7c4k : Nat) (t7c5a : Option Addr) (t7c5n : Nat) (t7c5k : Nat), ldAll H_1 H.next 0 [.int .i64 t7c0, .int .i64 t7c1, .int .i64 t7c2, .int .i64 t7c3, .slice t7c4a t7c4n t7c4k, .slice t7c5a t7c5n t7c5k] ∧
    (∃ (t8 : Bool) (H_2 : Heap), xC Try.prog good 28 [.agg #[.int .i64 t7c0, .int .i64 t7c1, .int .i64 t7c2, .int .i64 t7c3, .slice t7c4a t7c4n t7c4k, .slice t7c5a t7c5n t7c5k]] H_1 = some (.bool t8, H_2) ∧
    (if t8 = true then
    (∃ (H_3 : Heap), H_3 = H_2.push (.row [.slice none 0 0, .int .i64 0] true) ∧
    (∃ (t14 : Int), ldc H_3 H.next 0 = some (.int .i64 t14) ∧
    (∃ (H_4 : Heap), xC Try.prog good 14 [.pointer (some ⟨H_2.next, 0, none⟩), .int .u64 (IntKind.wrap .u64 t14), .int .i64 8] H_3 = some (.tuple #[], H_4) ∧
    (∃ (t19 : Int), ldc H_4 H.next 1 = some (.int .i64 t19) ∧
    (∃ (H_5 : Heap), xC Try.prog good 14 [.pointer (some ⟨H_2.next, 0, none⟩), .int .u64 (IntKind.wrap .u64 t19), .int .i64 8] H_4 = some (.tuple #[], H_5) ∧
    (∃ (t24 : Int), ldc H_5 H.next 2 = some (.int .i64 t24) ∧
    (∃ (H_6 : Heap), xC Try.prog good 14 [.pointer (some ⟨H_2.next, 0, none⟩), .int .u64 (IntKind.wrap .u64 t24), .int .i64 48] H_5 = some (.tuple #[], H_6) ∧
    (∃ (t29 : Int), ldc H_6 H.next 3 = some (.int .i64 t29) ∧
    (∃ (H_7 : Heap), xC Try.prog good 14 [.pointer (some ⟨H_2.next, 0, none⟩), .int .u64 (IntKind.wrap .u64 t29), .int .i64 8] H_6 = some (.tuple #[], H_7) ∧
    (∃ (t34a : Option Addr) (t34n : Nat) (t34k : Nat), ldc H_7 H.next 4 = some (.slice t34a t34n t34k) ∧
    (∃ (H_8 : Heap), xC Try.prog good 14 [.pointer (some ⟨H_2.next, 0, none⟩), .int .u64 (IntKind.wrap .u64 ((t34n : Nat) : Int)), .int .i64 8] H_7 = some (.tuple #[], H_8) ∧
    (∃ (t39a : Option Addr) (t39n : Nat) (t39k : Nat), ldc H_8 H.next 4 = some (.slice t39a t39n t39k) ∧
    (L0 (H.next) (0) (H_2.next) (0) (t39a) (t39n) (t39k) (((t39n : Nat) : Int)) 0 H_8 r)))))))))))))
    else
    (r = (.tuple #[.slice none 0 0, .int .i64 1], H_2)))))) :
    xC Try.prog good 41 [.agg #[.int .i64 a0c0, .int .i64 a0c1, .int .i64 a0c2, .int .i64 a0c3, .slice a0c4a a0c4n a0c4k, .slice a0c5a a0c5n a0c5k]] H = some r := by
  refine KR.enter (fn := Try.f41) (c := B) (by kernel_rfl) (by kernel_rfl) ?_
  refine KR.run 2 [(0, .agg #[.int .i64 a0c0, .int .i64 a0c1, .int .i64 a0c2, .int .i64 a0c3, .slice a0c4a a0c4n a0c4k, .slice a0c5a a0c5n a0c5k])] 62 (s' := (.reg (opsAt (sub B [0])) [0, 1, 2] :: S0)) (by kernel_rfl) fun J => ?_
  obtain ⟨H_1, q1, h⟩ := h
  refine KR.mk (w := pRow [.int .i64 a0c0, .int .i64 a0c1, .int .i64 a0c2, .int .i64 a0c3, .slice a0c4a a0c4n a0c4k, .slice a0c5a a0c5n a0c5k]) (one_al (by kernel_rfl)) q1 ?_
  refine KR.run 6 [(1, .pointer (some ⟨H.next, 0, none⟩))] 62 (s' := (.reg (opsAt (sub B [1, 0, 0])) [0, 1, 2] :: S2)) (by kernel_rfl) fun J => ?_
  obtain ⟨t7c0, t7c1, t7c2, t7c3, t7c4a, t7c4n, t7c4k, t7c5a, t7c5n, t7c5k, q2, h⟩ := h
  refine KR.rd (one_ldA (by kernel_rfl) q2) ?_
  obtain ⟨t8, H_2, q3, h⟩ := h
  refine KR.se (one_ca (by kernel_rfl) q3) ?_
  refine KR.run 2 [(1, .pointer (some ⟨H.next, 0, none⟩)), (9, .bool (!t8))] 62 (s' := (.code (sub B [1, 0, 1]) :: S1)) (by kernel_rfl) fun J => ?_
  by_cases c4 : t8 = true
  · replace h := iteT c4 h
    refine KR.br false (by kernel_rfl) (vB (nB (bT c4))) ?_
    refine KR.run 4 [(1, .pointer (some ⟨H.next, 0, none⟩)), (10, .agg #[.slice none 0 0, .int .i64 0])] 62 (s' := (.reg (opsAt (sub B [1, 1, 0])) [1, 2] :: S3)) (by kernel_rfl) fun J => ?_
    obtain ⟨H_3, q5, h⟩ := h
    refine KR.mk (w := pRow [.slice none 0 0, .int .i64 0]) (one_al (by kernel_rfl)) q5 ?_
    refine KR.run 6 [(1, .pointer (some ⟨H.next, 0, none⟩)), (4, .pointer (some ⟨H_2.next, 0, none⟩)), (12, .pointer (some ⟨H_2.next, 0, none⟩)), (13, .pointer (some ⟨H.next, 0, none⟩))] 62 (s' := (.reg (opsAt (sub B [1, 1, 1, 0])) [2, 3, 4] :: S4)) (by kernel_rfl) fun J => ?_
    obtain ⟨t14, q6, h⟩ := h
    refine KR.rd (one_ld (by kernel_rfl) q6) ?_
    refine KR.run 1 [(1, .pointer (some ⟨H.next, 0, none⟩)), (4, .pointer (some ⟨H_2.next, 0, none⟩)), (12, .pointer (some ⟨H_2.next, 0, none⟩)), (15, .int .u64 (IntKind.wrap .u64 t14))] 62 (s' := (.reg (opsAt (sub B [1, 1, 1, 0])) [4] :: S4)) (by kernel_rfl) fun J => ?_
    obtain ⟨H_4, q7, h⟩ := h
    refine KR.se (one_ca (by kernel_rfl) q7) ?_
    refine KR.run 5 [(1, .pointer (some ⟨H.next, 0, none⟩)), (4, .pointer (some ⟨H_2.next, 0, none⟩)), (17, .pointer (some ⟨H_2.next, 0, none⟩)), (18, .pointer (some ⟨H.next, 1, none⟩))] 62 (s' := (.reg (opsAt (sub B [1, 1, 1, 1, 0])) [2, 3, 4] :: S5)) (by kernel_rfl) fun J => ?_
    obtain ⟨t19, q8, h⟩ := h
    refine KR.rd (one_ld (by kernel_rfl) q8) ?_
    refine KR.run 1 [(1, .pointer (some ⟨H.next, 0, none⟩)), (4, .pointer (some ⟨H_2.next, 0, none⟩)), (17, .pointer (some ⟨H_2.next, 0, none⟩)), (20, .int .u64 (IntKind.wrap .u64 t19))] 62 (s' := (.reg (opsAt (sub B [1, 1, 1, 1, 0])) [4] :: S5)) (by kernel_rfl) fun J => ?_
    obtain ⟨H_5, q9, h⟩ := h
    refine KR.se (one_ca (by kernel_rfl) q9) ?_
    refine KR.run 5 [(1, .pointer (some ⟨H.next, 0, none⟩)), (4, .pointer (some ⟨H_2.next, 0, none⟩)), (22, .pointer (some ⟨H_2.next, 0, none⟩)), (23, .pointer (some ⟨H.next, 2, none⟩))] 62 (s' := (.reg (opsAt (sub B [1, 1, 1, 1, 1, 0])) [2, 3, 4] :: S6)) (by kernel_rfl) fun J => ?_
    obtain ⟨t24, q10, h⟩ := h
    refine KR.rd (one_ld (by kernel_rfl) q10) ?_
    refine KR.run 1 [(1, .pointer (some ⟨H.next, 0, none⟩)), (4, .pointer (some ⟨H_2.next, 0, none⟩)), (22, .pointer (some ⟨H_2.next, 0, none⟩)), (25, .int .u64 (IntKind.wrap .u64 t24))] 62 (s' := (.reg (opsAt (sub B [1, 1, 1, 1, 1, 0])) [4] :: S6)) (by kernel_rfl) fun J => ?_
    obtain ⟨H_6, q11, h⟩ := h
    refine KR.se (one_ca (by kernel_rfl) q11) ?_
    refine KR.run 5 [(1, .pointer (some ⟨H.next, 0, none⟩)), (4, .pointer (some ⟨H_2.next, 0, none⟩)), (27, .pointer (some ⟨H_2.next, 0, none⟩)), (28, .pointer (some ⟨H.next, 3, none⟩))] 62 (s' := (.reg (opsAt (sub B [1, 1, 1, 1, 1, 1, 0])) [2, 3, 4] :: S7)) (by kernel_rfl) fun J => ?_
    obtain ⟨t29, q12, h⟩ := h
    refine KR.rd (one_ld (by kernel_rfl) q12) ?_
    refine KR.run 1 [(1, .pointer (some ⟨H.next, 0, none⟩)), (4, .pointer (some ⟨H_2.next, 0, none⟩)), (27, .pointer (some ⟨H_2.next, 0, none⟩)), (30, .int .u64 (IntKind.wrap .u64 t29))] 62 (s' := (.reg (opsAt (sub B [1, 1, 1, 1, 1, 1, 0])) [4] :: S7)) (by kernel_rfl) fun J => ?_
    obtain ⟨H_7, q13, h⟩ := h
    refine KR.se (one_ca (by kernel_rfl) q13) ?_
    refine KR.run 5 [(1, .pointer (some ⟨H.next, 0, none⟩)), (4, .pointer (some ⟨H_2.next, 0, none⟩)), (32, .pointer (some ⟨H_2.next, 0, none⟩)), (33, .pointer (some ⟨H.next, 4, none⟩))] 62 (s' := (.reg (opsAt (sub B [1, 1, 1, 1, 1, 1, 1, 0])) [2, 3, 4, 5] :: S8)) (by kernel_rfl) fun J => ?_
    obtain ⟨t34a, t34n, t34k, q14, h⟩ := h
    refine KR.rd (one_ld (by kernel_rfl) q14) ?_
    refine KR.run 2 [(1, .pointer (some ⟨H.next, 0, none⟩)), (4, .pointer (some ⟨H_2.next, 0, none⟩)), (32, .pointer (some ⟨H_2.next, 0, none⟩)), (36, .int .u64 (IntKind.wrap .u64 ((t34n : Nat) : Int)))] 62 (s' := (.reg (opsAt (sub B [1, 1, 1, 1, 1, 1, 1, 0])) [5] :: S8)) (by kernel_rfl) fun J => ?_
    obtain ⟨H_8, q15, h⟩ := h
    refine KR.se (one_ca (by kernel_rfl) q15) ?_
    refine KR.run 5 [(1, .pointer (some ⟨H.next, 0, none⟩)), (4, .pointer (some ⟨H_2.next, 0, none⟩)), (38, .pointer (some ⟨H.next, 4, none⟩))] 62 (s' := (.reg (opsAt (sub B [1, 1, 1, 1, 1, 1, 1, 1, 0, 0])) [1, 2, 3] :: S10)) (by kernel_rfl) fun J => ?_
    obtain ⟨t39a, t39n, t39k, q16, h⟩ := h
    refine KR.rd (one_ld (by kernel_rfl) q16) ?_
    exact KR.run 5 [(1, .pointer (some ⟨H.next, 0, none⟩)), (4, .pointer (some ⟨H_2.next, 0, none⟩)), (39, .slice t39a t39n t39k), (40, .int .i64 ((t39n : Nat) : Int)), (41, .int .i64 0)] 62 (s' := (.lp (sub B [1, 1, 1, 1, 1, 1, 1, 1, 0, 1, 0, 0]) :: S11)) (by kernel_rfl) h
  · replace h := iteF c4 h
    refine KR.br true (by kernel_rfl) (vB (nB (bF c4))) ?_
    refine KR.run 5 [(2, .slice none 0 0), (3, .int .i64 1)] 62 (s' := (.code (sub B [1, 0, 1, 0, 1]) :: S1)) (by kernel_rfl) fun J => ?_
    exact KR.fin (by kernel_rfl) h
end F41
/-! #### 42 campanile/route.Same -/
namespace F42
noncomputable def B : Code := bodyOf Try.f42
noncomputable def S0 : List It := (.code (sub B [1]) :: [])
noncomputable def S1 : List It := (.code (sub B [1, 1]) :: [])
theorem call {a0c0 : Int} {a0c1 : Int} {a0c2 : Int} {a0c3 : Int} {a0c4a : Option Addr} {a0c4n : Nat} {a0c4k : Nat} {a0c5a : Option Addr} {a0c5n : Nat} {a0c5k : Nat} {a1c0 : Int} {a1c1 : Int} {a1c2 : Int} {a1c3 : Int} {a1c4a : Option Addr} {a1c4n : Nat} {a1c4k : Nat} {a1c5a : Option Addr} {a1c5n : Nat} {a1c5k : Nat} {H : Heap} {r : Value × Heap} (h :
    ∃ (H_1 : Heap), H_1 = H.push (.row [.int .i64 a0c0, .int .i64 a0c1, .int .i64 a0c2, .int .i64 a0c3, .slice a0c4a a0c4n a0c4k, .slice a0c5a a0c5n a0c5k] true) ∧
    (∃ (H_2 : Heap), H_2 = H_1.push (.row [.int .i64 a1c0, .int .i64 a1c1, .int .i64 a1c2, .int .i64 a1c3, .slice a1c4a a1c4n a1c4k, .slice a1c5a a1c5n a1c5k] true) ∧
    (∃ (t6 : Int), ldc H_2 H.next 0 = some (.int .i64 t6) ∧
    (∃ (t8 : Int), ldc H_2 H_1.next 0 = some (.int .i64 t8) ∧
    (if t6 = t8 then
    (∃ (t12 : Int), ldc H_2 H.next 1 = some (.int .i64 t12) ∧
    (∃ (t14 : Int), ldc H_2 H_1.next 1 = some (.int .i64 t14) ∧
    (if t12 = t14 then
    (∃ (t19 : Int), ldc H_2 H.next 2 = some (.int .i64 t19) ∧
    (∃ (t21 : Int), ldc H_2 H_1.next 2 = some (.int .i64 t21) ∧
    (if t19 = t21 then
    (∃ (t26 : Int), ldc H_2 H.next 3 = some (.int .i64 t26) ∧
    (∃ (t28 : Int), ldc H_2 H_1.next 3 = some (.int .i64 t28) ∧
    (if t26 = t28 then
    (∃ (t33a : Option Addr) (t33n : Nat) (t33k : Nat), ldc H_2 H.next 4 = some (.slice t33a t33n t33k) ∧
    (∃ (t35a : Option Addr) (t35n : Nat) (t35k : Nat), ldc H_2 H_1.next 4 = some (.slice t35a t35n t35k) ∧
    (∃ (t36 : Bool) (H_3 : Heap), xC Try.prog good 67 [.slice t33a t33n t33k, .slice t35a t35n t35k] H_2 = some (.bool t36, H_3) ∧
    (if t36 = true then
    (∃ (t40a : Option Addr) (t40n : Nat) (t40k : Nat), ldc H_3 H.next 5 = some (.slice t40a t40n t40k) ∧
    (∃ (t42a : Option Addr) (t42n : Nat) (t42k : Nat), ldc H_3 H_1.next 5 = some (.slice t42a t42n t42k) ∧
    (∃ (t43 : Bool) (H_4 : Heap), xC Try.prog good 68 [.slice t40a t40n t40k, .slice t42a t42n t42k] H_3 = some (.bool t43, H_4) ∧
    (r = (.bool t43, H_4)))))
    else
    (r = (.bool false, H_3))))))
    else
    (r = (.bool false, H_2)))))
    else
    (r = (.bool false, H_2)))))
    else
    (r = (.bool false, H_2)))))
    else
    (r = (.bool false, H_2))))))) :
    xC Try.prog good 42 [.agg #[.int .i64 a0c0, .int .i64 a0c1, .int .i64 a0c2, .int .i64 a0c3, .slice a0c4a a0c4n a0c4k, .slice a0c5a a0c5n a0c5k], .agg #[.int .i64 a1c0, .int .i64 a1c1, .int .i64 a1c2, .int .i64 a1c3, .slice a1c4a a1c4n a1c4k, .slice a1c5a a1c5n a1c5k]] H = some r := by
  refine KR.enter (fn := Try.f42) (c := B) (by kernel_rfl) (by kernel_rfl) ?_
  refine KR.run 2 [(0, .agg #[.int .i64 a0c0, .int .i64 a0c1, .int .i64 a0c2, .int .i64 a0c3, .slice a0c4a a0c4n a0c4k, .slice a0c5a a0c5n a0c5k]), (1, .agg #[.int .i64 a1c0, .int .i64 a1c1, .int .i64 a1c2, .int .i64 a1c3, .slice a1c4a a1c4n a1c4k, .slice a1c5a a1c5n a1c5k])] 45 (s' := (.reg (opsAt (sub B [0])) [0, 1, 2] :: S0)) (by kernel_rfl) fun J => ?_
  obtain ⟨H_1, q1, h⟩ := h
  refine KR.mk (w := pRow [.int .i64 a0c0, .int .i64 a0c1, .int .i64 a0c2, .int .i64 a0c3, .slice a0c4a a0c4n a0c4k, .slice a0c5a a0c5n a0c5k]) (one_al (by kernel_rfl)) q1 ?_
  obtain ⟨H_2, q2, h⟩ := h
  refine KR.mk (w := pRow [.int .i64 a1c0, .int .i64 a1c1, .int .i64 a1c2, .int .i64 a1c3, .slice a1c4a a1c4n a1c4k, .slice a1c5a a1c5n a1c5k]) (one_al (by kernel_rfl)) q2 ?_
  refine KR.run 5 [(2, .pointer (some ⟨H.next, 0, none⟩)), (3, .pointer (some ⟨H_1.next, 0, none⟩)), (5, .pointer (some ⟨H.next, 0, none⟩))] 45 (s' := (.reg (opsAt (sub B [1, 0])) [1, 2, 3, 4, 5, 6, 7, 8, 9, 10, 11, 12, 13, 14, 15, 16, 17, 18, 19, 20, 21, 22, 23, 24, 25, 26, 27, 28, 29, 30, 31, 32, 33, 34, 35, 36, 37, 38, 39, 40] :: S1)) (by kernel_rfl) fun J => ?_
  obtain ⟨t6, q3, h⟩ := h
  refine KR.rd (one_ld (by kernel_rfl) q3) ?_
  refine KR.run 1 [(2, .pointer (some ⟨H.next, 0, none⟩)), (3, .pointer (some ⟨H_1.next, 0, none⟩)), (6, .int .i64 t6), (7, .pointer (some ⟨H_1.next, 0, none⟩))] 45 (s' := (.reg (opsAt (sub B [1, 0])) [3, 4, 5, 6, 7, 8, 9, 10, 11, 12, 13, 14, 15, 16, 17, 18, 19, 20, 21, 22, 23, 24, 25, 26, 27, 28, 29, 30, 31, 32, 33, 34, 35, 36, 37, 38, 39, 40] :: S1)) (by kernel_rfl) fun J => ?_
  obtain ⟨t8, q4, h⟩ := h
  refine KR.rd (one_ld (by kernel_rfl) q4) ?_
  refine KR.run 2 [(2, .pointer (some ⟨H.next, 0, none⟩)), (3, .pointer (some ⟨H_1.next, 0, none⟩)), (10, .bool (t6 == t8))] 45 (s' := (.reg (opsAt (sub B [1, 0])) [6, 7, 8, 9, 10, 11, 12, 13, 14, 15, 16, 17, 18, 19, 20, 21, 22, 23, 24, 25, 26, 27, 28, 29, 30, 31, 32, 33, 34, 35, 36, 37, 38, 39, 40] :: S1)) (by kernel_rfl) fun J => ?_
  by_cases c5 : t6 = t8
  · replace h := iteT c5 h
    refine KR.setV 10 (by kernel_rfl) (eT c5) ?_
    refine KR.run 1 [(2, .pointer (some ⟨H.next, 0, none⟩)), (3, .pointer (some ⟨H_1.next, 0, none⟩)), (10, .bool true), (11, .pointer (some ⟨H.next, 1, none⟩))] 45 (s' := (.reg (opsAt (sub B [1, 0])) [7, 8, 9, 10, 11, 12, 13, 14, 15, 16, 17, 18, 19, 20, 21, 22, 23, 24, 25, 26, 27, 28, 29, 30, 31, 32, 33, 34, 35, 36, 37, 38, 39, 40] :: S1)) (by kernel_rfl) fun J => ?_
    obtain ⟨t12, q6, h⟩ := h
    refine KR.rd (one_ld (by kernel_rfl) q6) ?_
    refine KR.run 1 [(2, .pointer (some ⟨H.next, 0, none⟩)), (3, .pointer (some ⟨H_1.next, 0, none⟩)), (10, .bool true), (12, .int .i64 t12), (13, .pointer (some ⟨H_1.next, 1, none⟩))] 45 (s' := (.reg (opsAt (sub B [1, 0])) [9, 10, 11, 12, 13, 14, 15, 16, 17, 18, 19, 20, 21, 22, 23, 24, 25, 26, 27, 28, 29, 30, 31, 32, 33, 34, 35, 36, 37, 38, 39, 40] :: S1)) (by kernel_rfl) fun J => ?_
    obtain ⟨t14, q7, h⟩ := h
    refine KR.rd (one_ld (by kernel_rfl) q7) ?_
    refine KR.run 3 [(2, .pointer (some ⟨H.next, 0, none⟩)), (3, .pointer (some ⟨H_1.next, 0, none⟩)), (17, .bool (t12 == t14))] 45 (s' := (.reg (opsAt (sub B [1, 0])) [13, 14, 15, 16, 17, 18, 19, 20, 21, 22, 23, 24, 25, 26, 27, 28, 29, 30, 31, 32, 33, 34, 35, 36, 37, 38, 39, 40] :: S1)) (by kernel_rfl) fun J => ?_
    by_cases c8 : t12 = t14
    · replace h := iteT c8 h
      refine KR.setV 17 (by kernel_rfl) (eT c8) ?_
      refine KR.run 1 [(2, .pointer (some ⟨H.next, 0, none⟩)), (3, .pointer (some ⟨H_1.next, 0, none⟩)), (17, .bool true), (18, .pointer (some ⟨H.next, 2, none⟩))] 45 (s' := (.reg (opsAt (sub B [1, 0])) [14, 15, 16, 17, 18, 19, 20, 21, 22, 23, 24, 25, 26, 27, 28, 29, 30, 31, 32, 33, 34, 35, 36, 37, 38, 39, 40] :: S1)) (by kernel_rfl) fun J => ?_
      obtain ⟨t19, q9, h⟩ := h
      refine KR.rd (one_ld (by kernel_rfl) q9) ?_
      refine KR.run 1 [(2, .pointer (some ⟨H.next, 0, none⟩)), (3, .pointer (some ⟨H_1.next, 0, none⟩)), (17, .bool true), (19, .int .i64 t19), (20, .pointer (some ⟨H_1.next, 2, none⟩))] 45 (s' := (.reg (opsAt (sub B [1, 0])) [16, 17, 18, 19, 20, 21, 22, 23, 24, 25, 26, 27, 28, 29, 30, 31, 32, 33, 34, 35, 36, 37, 38, 39, 40] :: S1)) (by kernel_rfl) fun J => ?_
      obtain ⟨t21, q10, h⟩ := h
      refine KR.rd (one_ld (by kernel_rfl) q10) ?_
      refine KR.run 3 [(2, .pointer (some ⟨H.next, 0, none⟩)), (3, .pointer (some ⟨H_1.next, 0, none⟩)), (24, .bool (t19 == t21))] 45 (s' := (.reg (opsAt (sub B [1, 0])) [20, 21, 22, 23, 24, 25, 26, 27, 28, 29, 30, 31, 32, 33, 34, 35, 36, 37, 38, 39, 40] :: S1)) (by kernel_rfl) fun J => ?_
      by_cases c11 : t19 = t21
      · replace h := iteT c11 h
        refine KR.setV 24 (by kernel_rfl) (eT c11) ?_
        refine KR.run 1 [(2, .pointer (some ⟨H.next, 0, none⟩)), (3, .pointer (some ⟨H_1.next, 0, none⟩)), (24, .bool true), (25, .pointer (some ⟨H.next, 3, none⟩))] 45 (s' := (.reg (opsAt (sub B [1, 0])) [21, 22, 23, 24, 25, 26, 27, 28, 29, 30, 31, 32, 33, 34, 35, 36, 37, 38, 39, 40] :: S1)) (by kernel_rfl) fun J => ?_
        obtain ⟨t26, q12, h⟩ := h
        refine KR.rd (one_ld (by kernel_rfl) q12) ?_
        refine KR.run 1 [(2, .pointer (some ⟨H.next, 0, none⟩)), (3, .pointer (some ⟨H_1.next, 0, none⟩)), (24, .bool true), (26, .int .i64 t26), (27, .pointer (some ⟨H_1.next, 3, none⟩))] 45 (s' := (.reg (opsAt (sub B [1, 0])) [23, 24, 25, 26, 27, 28, 29, 30, 31, 32, 33, 34, 35, 36, 37, 38, 39, 40] :: S1)) (by kernel_rfl) fun J => ?_
        obtain ⟨t28, q13, h⟩ := h
        refine KR.rd (one_ld (by kernel_rfl) q13) ?_
        refine KR.run 3 [(2, .pointer (some ⟨H.next, 0, none⟩)), (3, .pointer (some ⟨H_1.next, 0, none⟩)), (31, .bool (t26 == t28))] 45 (s' := (.reg (opsAt (sub B [1, 0])) [27, 28, 29, 30, 31, 32, 33, 34, 35, 36, 37, 38, 39, 40] :: S1)) (by kernel_rfl) fun J => ?_
        by_cases c14 : t26 = t28
        · replace h := iteT c14 h
          refine KR.setV 31 (by kernel_rfl) (eT c14) ?_
          refine KR.run 1 [(2, .pointer (some ⟨H.next, 0, none⟩)), (3, .pointer (some ⟨H_1.next, 0, none⟩)), (31, .bool true), (32, .pointer (some ⟨H.next, 4, none⟩))] 45 (s' := (.reg (opsAt (sub B [1, 0])) [28, 29, 30, 31, 32, 33, 34, 35, 36, 37, 38, 39, 40] :: S1)) (by kernel_rfl) fun J => ?_
          obtain ⟨t33a, t33n, t33k, q15, h⟩ := h
          refine KR.rd (one_ld (by kernel_rfl) q15) ?_
          refine KR.run 1 [(2, .pointer (some ⟨H.next, 0, none⟩)), (3, .pointer (some ⟨H_1.next, 0, none⟩)), (31, .bool true), (33, .slice t33a t33n t33k), (34, .pointer (some ⟨H_1.next, 4, none⟩))] 45 (s' := (.reg (opsAt (sub B [1, 0])) [30, 31, 32, 33, 34, 35, 36, 37, 38, 39, 40] :: S1)) (by kernel_rfl) fun J => ?_
          obtain ⟨t35a, t35n, t35k, q16, h⟩ := h
          refine KR.rd (one_ld (by kernel_rfl) q16) ?_
          obtain ⟨t36, H_3, q17, h⟩ := h
          refine KR.se (one_ca (by kernel_rfl) q17) ?_
          refine KR.run 2 [(2, .pointer (some ⟨H.next, 0, none⟩)), (3, .pointer (some ⟨H_1.next, 0, none⟩)), (38, .bool t36)] 45 (s' := (.reg (opsAt (sub B [1, 0])) [34, 35, 36, 37, 38, 39, 40] :: S1)) (by kernel_rfl) fun J => ?_
          by_cases c18 : t36 = true
          · replace h := iteT c18 h
            refine KR.setV 38 (by kernel_rfl) (bT c18) ?_
            refine KR.run 1 [(3, .pointer (some ⟨H_1.next, 0, none⟩)), (38, .bool true), (39, .pointer (some ⟨H.next, 5, none⟩))] 45 (s' := (.reg (opsAt (sub B [1, 0])) [35, 36, 37, 38, 39, 40] :: S1)) (by kernel_rfl) fun J => ?_
            obtain ⟨t40a, t40n, t40k, q19, h⟩ := h
            refine KR.rd (one_ld (by kernel_rfl) q19) ?_
            refine KR.run 1 [(38, .bool true), (40, .slice t40a t40n t40k), (41, .pointer (some ⟨H_1.next, 5, none⟩))] 45 (s' := (.reg (opsAt (sub B [1, 0])) [37, 38, 39, 40] :: S1)) (by kernel_rfl) fun J => ?_
            obtain ⟨t42a, t42n, t42k, q20, h⟩ := h
            refine KR.rd (one_ld (by kernel_rfl) q20) ?_
            obtain ⟨t43, H_4, q21, h⟩ := h
            refine KR.se (one_ca (by kernel_rfl) q21) ?_
            refine KR.run 3 [(4, .bool t43)] 45 (s' := (.code (sub B [1, 1]) :: [])) (by kernel_rfl) fun J => ?_
            exact KR.fin (by kernel_rfl) h
          · replace h := iteF c18 h
            refine KR.setV 38 (by kernel_rfl) (bF c18) ?_
            refine KR.run 8 [(4, .bool false)] 45 (s' := (.code (sub B [1, 1]) :: [])) (by kernel_rfl) fun J => ?_
            exact KR.fin (by kernel_rfl) h
        · replace h := iteF c14 h
          refine KR.setV 31 (by kernel_rfl) (eF c14) ?_
          refine KR.run 15 [(4, .bool false)] 45 (s' := (.code (sub B [1, 1]) :: [])) (by kernel_rfl) fun J => ?_
          exact KR.fin (by kernel_rfl) h
      · replace h := iteF c11 h
        refine KR.setV 24 (by kernel_rfl) (eF c11) ?_
        refine KR.run 22 [(4, .bool false)] 45 (s' := (.code (sub B [1, 1]) :: [])) (by kernel_rfl) fun J => ?_
        exact KR.fin (by kernel_rfl) h
    · replace h := iteF c8 h
      refine KR.setV 17 (by kernel_rfl) (eF c8) ?_
      refine KR.run 29 [(4, .bool false)] 45 (s' := (.code (sub B [1, 1]) :: [])) (by kernel_rfl) fun J => ?_
      exact KR.fin (by kernel_rfl) h
  · replace h := iteF c5 h
    refine KR.setV 10 (by kernel_rfl) (eF c5) ?_
    refine KR.run 36 [(4, .bool false)] 45 (s' := (.code (sub B [1, 1]) :: [])) (by kernel_rfl) fun J => ?_
    exact KR.fin (by kernel_rfl) h
end F42
/-! #### 43 campanile/route.Decode -/
namespace F43
noncomputable def B : Code := bodyOf Try.f43
noncomputable def S0 : List It := (.code (sub B [1]) :: [])
noncomputable def S1 : List It := (.code (sub B [1, 1]) :: [])
noncomputable def S2 : List It := (.code (sub B [1, 1, 1]) :: [])
noncomputable def S3 : List It := (.code (sub B [1, 1, 1, 1]) :: [])
noncomputable def S4 : List It := (.code (sub B [1, 1, 1, 1, 1]) :: [])
noncomputable def S6 : List It := (.code (sub B [1, 1, 1, 1, 1, 1]) :: [])
noncomputable def S14 : List It := (.code (sub B [1, 1, 1, 1, 1, 1, 1]) :: [])
noncomputable def S15 : List It := (.code (sub B [1, 1, 1, 1, 1, 1, 1, 1]) :: [])
noncomputable def S20 : List It := (.code (sub B [1, 1, 1, 1, 1, 1, 1, 1, 1]) :: [])
noncomputable def S21 : List It := (.code (sub B [1, 1, 1, 1, 1, 1, 1, 1, 1, 1]) :: [])
noncomputable def S25 : List It := (.code (sub B [1, 1, 1, 1, 1, 1, 1, 1, 1, 1, 1]) :: [])
noncomputable def S5 : List It := (.code (sub B [1, 1, 1, 1, 0, 1, 0, 1]) :: S4)
noncomputable def S7 : List It := (.code (sub B [1, 1, 1, 1, 1, 0, 1]) :: S6)
noncomputable def S8 : List It := (.blk 0 :: S6)
noncomputable def S16 : List It := (.blk 2 :: S15)
noncomputable def S22 : List It := (.code (sub B [1, 1, 1, 1, 1, 1, 1, 1, 1, 0, 1]) :: S21)
noncomputable def S23 : List It := (.blk 3 :: S21)
noncomputable def S9 : List It := (.lp (sub B [1, 1, 1, 1, 1, 0, 1, 0, 0]) :: S8)
noncomputable def S17 : List It := (.code (sub B [1, 1, 1, 1, 1, 1, 1, 0, 0, 1]) :: S16)
noncomputable def S18 : List It := (.code (sub B [1, 1, 1, 1, 1, 1, 1, 0, 0, 1, 0, 1]) :: S16)
noncomputable def S19 : List It := (.code (sub B [1, 1, 1, 1, 1, 1, 1, 0, 0, 1, 1, 1]) :: S16)
noncomputable def S24 : List It := (.code (sub B [1, 1, 1, 1, 1, 1, 1, 1, 1, 0, 1, 0, 1, 1, 1]) :: S23)
noncomputable def S26 : List It := (.code (sub B [1, 1, 1, 1, 1, 1, 1, 1, 1, 0, 1, 0, 1, 1, 1, 0, 1]) :: S23)
noncomputable def S27 : List It := (.code (sub B [1, 1, 1, 1, 1, 1, 1, 1, 1, 0, 1, 0, 1, 0, 1]) :: S23)
noncomputable def S28 : List It := (.code (sub B [1, 1, 1, 1, 1, 1, 1, 0, 0, 1, 1, 1, 0, 1]) :: S16)
noncomputable def S10 : List It := (.code (sub B [1, 1, 1, 1, 1, 0, 1, 0, 0, 1, 1]) :: S9)
noncomputable def S11 : List It := (.code (sub B [1, 1, 1, 1, 1, 0, 1, 0, 0, 1, 1, 1]) :: S9)
noncomputable def S12 : List It := (.blk 1 :: S11)
noncomputable def S13 : List It := (.code (sub B [1, 1, 1, 1, 1, 0, 1, 0, 0, 1, 1, 0, 0, 1]) :: S12)
def L0 (t2b : Nat) (t2o : Nat) (t4 : Option Addr) (t5b : Nat) (t5o : Nat) (t30a : Option Addr) (t30n : Nat) (t30k : Nat) (t31 : Int) (t32 : Int) (H : Heap) (r : Value × Heap) : Prop := ∀ J, KR Try.prog good Try.f43 S9 (mat J 73 [(2, .pointer (some ⟨t2b, t2o, none⟩)), (4, .pointer t4), (5, .pointer (some ⟨t5b, t5o, none⟩)), (30, .slice t30a t30n t30k), (31, .int .i64 t31), (32, .int .i64 t32)]) H r
theorem L0_step {t2b : Nat} {t2o : Nat} {t4 : Option Addr} {t5b : Nat} {t5o : Nat} {t30a : Option Addr} {t30n : Nat} {t30k : Nat} {t31 : Int} {t32 : Int} {H : Heap} {r : Value × Heap} (h :
    if t32 < t31 then
    (∃ (t30ab t30ao : Nat), t30a = some ⟨t30ab, t30ao, none⟩ ∧
    ((0 : Int) ≤ t32 ∧ t32 < ((t30n : Nat) : Int) ∧
    (∃ (t35 : Int), ldc H t30ab (t30ao + Int.toNat t32 * 1) = some (.int .u8 t35) ∧
    (∃ (t37a : Option Addr) (t37n : Nat) (t37k : Nat), ldc H t5b (t5o + 4) = some (.slice t37a t37n t37k) ∧
    (∃ (H_1 : Heap), H_1 = H.push (.row [.int .i64 (IntKind.wrap .i64 t35)] true) ∧
    (∃ (t41a : Option Addr) (t41n : Nat) (t41k : Nat) (H_2 : Heap), papp H_1 1 8 t37a t37n t37k (some ⟨H.next, 0, none⟩) 1 (UNK 1) = some ((t41a, t41n, t41k), H_2) ∧
    (∃ (H_3 : Heap), stc H_2 t5b (t5o + 4) [.slice t41a t41n t41k] = some H_3 ∧
    (L0 (t2b) (t2o) (t4) (t5b) (t5o) ((some ⟨t30ab, t30ao, none⟩)) (t30n) (t30k) (t31) ((IntKind.wrap .i64 (t32 + 1))) H_3 r))))))))
    else
    (∃ (t45 : Int) (H_4 : Heap), xC Try.prog good 69 [.pointer t4] H = some (.int .i64 t45, H_4) ∧
    (∃ (t48 : Int) (H_5 : Heap), xC Try.prog good 37 [.pointer t4] H_4 = some (.int .i64 t48, H_5) ∧
    (if t48 = 2 then
    (∃ (H_6 : Heap), stc H_5 t2b t2o [.int .i64 0, .int .i64 0, .int .i64 0, .int .i64 0, .slice none 0 0, .slice none 0 0] = some H_6 ∧
    (∃ (r2c0 : Int) (r2c1 : Int) (r2c2 : Int) (r2c3 : Int) (r2c4a : Option Addr) (r2c4n : Nat) (r2c4k : Nat) (r2c5a : Option Addr) (r2c5n : Nat) (r2c5k : Nat), ldAll H_6 t2b t2o [.int .i64 r2c0, .int .i64 r2c1, .int .i64 r2c2, .int .i64 r2c3, .slice r2c4a r2c4n r2c4k, .slice r2c5a r2c5n r2c5k] ∧
    (r = (.tuple #[.agg #[.int .i64 r2c0, .int .i64 r2c1, .int .i64 r2c2, .int .i64 r2c3, .slice r2c4a r2c4n r2c4k, .slice r2c5a r2c5n r2c5k], .int .i64 2], H_6))))
    else
    (∃ (t53 : Bool) (H_7 : Heap), xC Try.prog good 62 [.int .i64 t45, .int .i64 1, .int .i64 24] H_5 = some (.bool t53, H_7) ∧
    (if t53 = true then
    (∃ (t58a : Option Addr) (t58n : Nat) (t58k : Nat) (H_8 : Heap), xC Try.prog good 31 [.pointer t4, .int .i64 t45] H_7 = some (.slice t58a t58n t58k, H_8) ∧
    (∃ (H_9 : Heap), stc H_8 t5b (t5o + 5) [.slice t58a t58n t58k] = some H_9 ∧
    (∃ (t61 : Int) (H_10 : Heap), xC Try.prog good 37 [.pointer t4] H_9 = some (.int .i64 t61, H_10) ∧
    (if t61 = 0 then
    (∃ (t68c0 : Int) (t68c1 : Int) (t68c2 : Int) (t68c3 : Int) (t68c4a : Option Addr) (t68c4n : Nat) (t68c4k : Nat) (t68c5a : Option Addr) (t68c5n : Nat) (t68c5k : Nat), ldAll H_10 t5b t5o [.int .i64 t68c0, .int .i64 t68c1, .int .i64 t68c2, .int .i64 t68c3, .slice t68c4a t68c4n t68c4k, .slice t68c5a t68c5n t68c5k] ∧
    (∃ (t69 : Bool) (H_11 : Heap), xC Try.prog good 28 [.agg #[.int .i64 t68c0, .int .i64 t68c1, .int .i64 t68c2, .int .i64 t68c3, .slice t68c4a t68c4n t68c4k, .slice t68c5a t68c5n t68c5k]] H_10 = some (.bool t69, H_11) ∧
    (if t69 = true then
    (∃ (t72c0 : Int) (t72c1 : Int) (t72c2 : Int) (t72c3 : Int) (t72c4a : Option Addr) (t72c4n : Nat) (t72c4k : Nat) (t72c5a : Option Addr) (t72c5n : Nat) (t72c5k : Nat), ldAll H_11 t5b t5o [.int .i64 t72c0, .int .i64 t72c1, .int .i64 t72c2, .int .i64 t72c3, .slice t72c4a t72c4n t72c4k, .slice t72c5a t72c5n t72c5k] ∧
    (∃ (H_12 : Heap), stc H_11 t2b t2o [.int .i64 t72c0, .int .i64 t72c1, .int .i64 t72c2, .int .i64 t72c3, .slice t72c4a t72c4n t72c4k, .slice t72c5a t72c5n t72c5k] = some H_12 ∧
    (∃ (r2c0_1 : Int) (r2c1_1 : Int) (r2c2_1 : Int) (r2c3_1 : Int) (r2c4a_1 : Option Addr) (r2c4n_1 : Nat) (r2c4k_1 : Nat) (r2c5a_1 : Option Addr) (r2c5n_1 : Nat) (r2c5k_1 : Nat), ldAll H_12 t2b t2o [.int .i64 r2c0_1, .int .i64 r2c1_1, .int .i64 r2c2_1, .int .i64 r2c3_1, .slice r2c4a_1 r2c4n_1 r2c4k_1, .slice r2c5a_1 r2c5n_1 r2c5k_1] ∧
    (r = (.tuple #[.agg #[.int .i64 r2c0_1, .int .i64 r2c1_1, .int .i64 r2c2_1, .int .i64 r2c3_1, .slice r2c4a_1 r2c4n_1 r2c4k_1, .slice r2c5a_1 r2c5n_1 r2c5k_1], .int .i64 0], H_12)))))
    else
    (∃ (H_13 : Heap), stc H_11 t2b t2o [.int .i64 0, .int .i64 0, .int .i64 0, .int .i64 0, .slice none 0 0, .slice none 0 0] = some H_13 ∧
    (∃ (r2c0_2 : Int) (r2c1_2 : Int) (r2c2_2 : Int) (r2c3_2 : Int) (r2c4a_2 : Option Addr) (r2c4n_2 : Nat) (r2c4k_2 : Nat) (r2c5a_2 : Option Addr) (r2c5n_2 : Nat) (r2c5k_2 : Nat), ldAll H_13 t2b t2o [.int .i64 r2c0_2, .int .i64 r2c1_2, .int .i64 r2c2_2, .int .i64 r2c3_2, .slice r2c4a_2 r2c4n_2 r2c4k_2, .slice r2c5a_2 r2c5n_2 r2c5k_2] ∧
    (r = (.tuple #[.agg #[.int .i64 r2c0_2, .int .i64 r2c1_2, .int .i64 r2c2_2, .int .i64 r2c3_2, .slice r2c4a_2 r2c4n_2 r2c4k_2, .slice r2c5a_2 r2c5n_2 r2c5k_2], .int .i64 3], H_13)))))))
    else
    (∃ (H_14 : Heap), stc H_10 t2b t2o [.int .i64 0, .int .i64 0, .int .i64 0, .int .i64 0, .slice none 0 0, .slice none 0 0] = some H_14 ∧
    (∃ (r2c0_3 : Int) (r2c1_3 : Int) (r2c2_3 : Int) (r2c3_3 : Int) (r2c4a_3 : Option Addr) (r2c4n_3 : Nat) (r2c4k_3 : Nat) (r2c5a_3 : Option Addr) (r2c5n_3 : Nat) (r2c5k_3 : Nat), ldAll H_14 t2b t2o [.int .i64 r2c0_3, .int .i64 r2c1_3, .int .i64 r2c2_3, .int .i64 r2c3_3, .slice r2c4a_3 r2c4n_3 r2c4k_3, .slice r2c5a_3 r2c5n_3 r2c5k_3] ∧
    (r = (.tuple #[.agg #[.int .i64 r2c0_3, .int .i64 r2c1_3, .int .i64 r2c2_3, .int .i64 r2c3_3, .slice r2c4a_3 r2c4n_3 r2c4k_3, .slice r2c5a_3 r2c5n_3 r2c5k_3], .int .i64 t61], H_14))))))))
    else
    (∃ (H_15 : Heap), stc H_7 t2b t2o [.int .i64 0, .int .i64 0, .int .i64 0, .int .i64 0, .slice none 0 0, .slice none 0 0] = some H_15 ∧
    (∃ (r2c0_4 : Int) (r2c1_4 : Int) (r2c2_4 : Int) (r2c3_4 : Int) (r2c4a_4 : Option Addr) (r2c4n_4 : Nat) (r2c4k_4 : Nat) (r2c5a_4 : Option Addr) (r2c5n_4 : Nat) (r2c5k_4 : Nat), ldAll H_15 t2b t2o [.int .i64 r2c0_4, .int .i64 r2c1_4, .int .i64 r2c2_4, .int .i64 r2c3_4, .slice r2c4a_4 r2c4n_4 r2c4k_4, .slice r2c5a_4 r2c5n_4 r2c5k_4] ∧
    (r = (.tuple #[.agg #[.int .i64 r2c0_4, .int .i64 r2c1_4, .int .i64 r2c2_4, .int .i64 r2c3_4, .slice r2c4a_4 r2c4n_4 r2c4k_4, .slice r2c5a_4 r2c5n_4 r2c5k_4], .int .i64 3], H_15)))))))))) :
    L0 t2b t2o t4 t5b t5o t30a t30n t30k t31 t32 H r := by
  intro J
  show KR _ _ _ (.lp (sub B [1, 1, 1, 1, 1, 0, 1, 0, 0]) :: S8) _ _ _
  refine KR.run 6 [(2, .pointer (some ⟨t2b, t2o, none⟩)), (4, .pointer t4), (5, .pointer (some ⟨t5b, t5o, none⟩)), (30, .slice t30a t30n t30k), (31, .int .i64 t31), (32, .int .i64 t32), (33, .bool (decide (t32 < t31)))] 73 (s' := (.code (sub B [1, 1, 1, 1, 1, 0, 1, 0, 0, 1, 0]) :: S10)) (by kernel_rfl) fun J => ?_
  by_cases c14 : t32 < t31
  · replace h := iteT c14 h
    refine KR.br true (by kernel_rfl) (vB (dT c14)) ?_
    obtain ⟨t30ab, t30ao, rfl, h⟩ := h
    refine KR.run 5 [(2, .pointer (some ⟨t2b, t2o, none⟩)), (4, .pointer t4), (5, .pointer (some ⟨t5b, t5o, none⟩)), (30, .slice (some ⟨t30ab, t30ao, none⟩) t30n t30k), (31, .int .i64 t31), (32, .int .i64 t32)] 73 (s' := (.reg (opsAt (sub B [1, 1, 1, 1, 1, 0, 1, 0, 0, 1, 1, 0, 0, 0])) [0, 1, 2] :: S13)) (by kernel_rfl) fun J => ?_
    obtain ⟨q15, q15x, h⟩ := h
    refine KR.p (one_ix 1 t30ab t30ao (by kernel_rfl) q15 q15x) ?_
    obtain ⟨t35, q16, h⟩ := h
    refine KR.rd (one_ld (by kernel_rfl) q16) ?_
    refine KR.run 4 [(2, .pointer (some ⟨t2b, t2o, none⟩)), (4, .pointer t4), (5, .pointer (some ⟨t5b, t5o, none⟩)), (8, .int .u8 t35), (30, .slice (some ⟨t30ab, t30ao, none⟩) t30n t30k), (31, .int .i64 t31), (32, .int .i64 t32), (36, .pointer (some ⟨t5b, (t5o + 4), none⟩))] 73 (s' := (.reg (opsAt (sub B [1, 1, 1, 1, 1, 0, 1, 0, 0, 1, 1, 0, 0, 1])) [1, 2, 3, 4, 5, 6, 7] :: S12)) (by kernel_rfl) fun J => ?_
    obtain ⟨t37a, t37n, t37k, q17, h⟩ := h
    refine KR.rd (one_ld (by kernel_rfl) q17) ?_
    refine KR.run 2 [(2, .pointer (some ⟨t2b, t2o, none⟩)), (4, .pointer t4), (5, .pointer (some ⟨t5b, t5o, none⟩)), (30, .slice (some ⟨t30ab, t30ao, none⟩) t30n t30k), (31, .int .i64 t31), (32, .int .i64 t32), (37, .slice t37a t37n t37k), (39, .int .i64 (IntKind.wrap .i64 t35))] 73 (s' := (.reg (opsAt (sub B [1, 1, 1, 1, 1, 0, 1, 0, 0, 1, 1, 0, 0, 1])) [4, 5, 6, 7] :: S12)) (by kernel_rfl) fun J => ?_
    obtain ⟨H_1, q18, h⟩ := h
    refine KR.mk (w := sRow 1 1 [.int .i64 (IntKind.wrap .i64 t35)]) (one_al (by kernel_rfl)) q18 ?_
    obtain ⟨t41a, t41n, t41k, H_2, q19, h⟩ := h
    refine KR.se (one_ap 1 8 (by kernel_rfl) q19) ?_
    refine KR.run 1 [(2, .pointer (some ⟨t2b, t2o, none⟩)), (4, .pointer t4), (5, .pointer (some ⟨t5b, t5o, none⟩)), (30, .slice (some ⟨t30ab, t30ao, none⟩) t30n t30k), (31, .int .i64 t31), (32, .int .i64 t32), (41, .slice t41a t41n t41k), (42, .pointer (some ⟨t5b, (t5o + 4), none⟩))] 73 (s' := (.reg (opsAt (sub B [1, 1, 1, 1, 1, 0, 1, 0, 0, 1, 1, 0, 0, 1])) [7] :: S12)) (by kernel_rfl) fun J => ?_
    obtain ⟨H_3, q20, h⟩ := h
    refine KR.se (one_st (by kernel_rfl) q20) ?_
    exact KR.run 6 [(2, .pointer (some ⟨t2b, t2o, none⟩)), (4, .pointer t4), (5, .pointer (some ⟨t5b, t5o, none⟩)), (30, .slice (some ⟨t30ab, t30ao, none⟩) t30n t30k), (31, .int .i64 t31), (32, .int .i64 (IntKind.wrap .i64 (t32 + 1)))] 73 (s' := (.lp (sub B [1, 1, 1, 1, 1, 0, 1, 0, 0]) :: S8)) (by kernel_rfl) h
  · replace h := iteF c14 h
    refine KR.br false (by kernel_rfl) (vB (dF c14)) ?_
    refine KR.run 4 [(2, .pointer (some ⟨t2b, t2o, none⟩)), (4, .pointer t4), (5, .pointer (some ⟨t5b, t5o, none⟩)), (44, .pointer t4)] 73 (s' := (.reg (opsAt (sub B [1, 1, 1, 1, 1, 1, 0])) [1, 2] :: S14)) (by kernel_rfl) fun J => ?_
    obtain ⟨t45, H_4, q21, h⟩ := h
    refine KR.se (one_ca (by kernel_rfl) q21) ?_
    refine KR.run 7 [(2, .pointer (some ⟨t2b, t2o, none⟩)), (4, .pointer t4), (5, .pointer (some ⟨t5b, t5o, none⟩)), (9, .int .i64 t45), (47, .pointer t4)] 73 (s' := (.reg (opsAt (sub B [1, 1, 1, 1, 1, 1, 1, 0, 0, 0])) [1, 2, 3] :: S17)) (by kernel_rfl) fun J => ?_
    obtain ⟨t48, H_5, q22, h⟩ := h
    refine KR.se (one_ca (by kernel_rfl) q22) ?_
    refine KR.run 3 [(2, .pointer (some ⟨t2b, t2o, none⟩)), (4, .pointer t4), (5, .pointer (some ⟨t5b, t5o, none⟩)), (9, .int .i64 t45), (46, .bool (t48 == 2))] 73 (s' := (.code (sub B [1, 1, 1, 1, 1, 1, 1, 0, 0, 1]) :: S16)) (by kernel_rfl) fun J => ?_
    by_cases c23 : t48 = 2
    · replace h := iteT c23 h
      refine KR.br true (by kernel_rfl) (vB (eT c23)) ?_
      refine KR.run 3 [(2, .pointer (some ⟨t2b, t2o, none⟩)), (50, .agg #[.int .i64 0, .int .i64 0, .int .i64 0, .int .i64 0, .slice none 0 0, .slice none 0 0])] 73 (s' := (.reg (opsAt (sub B [1, 1, 1, 1, 1, 1, 1, 0, 0, 1, 0, 0])) [1, 2] :: S18)) (by kernel_rfl) fun J => ?_
      obtain ⟨H_6, q24, h⟩ := h
      refine KR.se (one_st (by kernel_rfl) q24) ?_
      refine KR.run 2 [(2, .pointer (some ⟨t2b, t2o, none⟩)), (3, .int .i64 2)] 73 (s' := (.code (sub B [1, 1, 1, 1, 1, 1, 1, 0, 0, 1, 0, 1]) :: S16)) (by kernel_rfl) fun J => ?_
      obtain ⟨r2c0, r2c1, r2c2, r2c3, r2c4a, r2c4n, r2c4k, r2c5a, r2c5n, r2c5k, q25, h⟩ := h
      exact KR.finR (l := [.cell 2 41, .tmp 3]) (vs := [.agg #[.int .i64 r2c0, .int .i64 r2c1, .int .i64 r2c2, .int .i64 r2c3, .slice r2c4a r2c4n r2c4k, .slice r2c5a r2c5n r2c5k], .int .i64 2]) (by kernel_rfl) (Res.cellA (by kernel_rfl) q25 (Res.tmp (by kernel_rfl) Res.nil)) (by kernel_rfl) h
    · replace h := iteF c23 h
      refine KR.br false (by kernel_rfl) (vB (eF c23)) ?_
      refine KR.run 3 [(2, .pointer (some ⟨t2b, t2o, none⟩)), (4, .pointer t4), (5, .pointer (some ⟨t5b, t5o, none⟩)), (9, .int .i64 t45), (52, .int .i64 t45)] 73 (s' := (.reg (opsAt (sub B [1, 1, 1, 1, 1, 1, 1, 0, 0, 1, 1, 0])) [1, 2, 3] :: S19)) (by kernel_rfl) fun J => ?_
      obtain ⟨t53, H_7, q26, h⟩ := h
      refine KR.se (one_ca (by kernel_rfl) q26) ?_
      refine KR.run 3 [(2, .pointer (some ⟨t2b, t2o, none⟩)), (4, .pointer t4), (5, .pointer (some ⟨t5b, t5o, none⟩)), (9, .int .i64 t45), (51, .bool (!t53))] 73 (s' := (.code (sub B [1, 1, 1, 1, 1, 1, 1, 0, 0, 1, 1, 1]) :: S16)) (by kernel_rfl) fun J => ?_
      by_cases c27 : t53 = true
      · replace h := iteT c27 h
        refine KR.br false (by kernel_rfl) (vB (nB (bT c27))) ?_
        refine KR.run 6 [(2, .pointer (some ⟨t2b, t2o, none⟩)), (4, .pointer t4), (5, .pointer (some ⟨t5b, t5o, none⟩)), (56, .pointer t4), (57, .int .i64 t45)] 73 (s' := (.reg (opsAt (sub B [1, 1, 1, 1, 1, 1, 1, 1, 0])) [2, 3, 4] :: S20)) (by kernel_rfl) fun J => ?_
        obtain ⟨t58a, t58n, t58k, H_8, q28, h⟩ := h
        refine KR.se (one_ca (by kernel_rfl) q28) ?_
        refine KR.run 1 [(2, .pointer (some ⟨t2b, t2o, none⟩)), (4, .pointer t4), (5, .pointer (some ⟨t5b, t5o, none⟩)), (58, .slice t58a t58n t58k), (59, .pointer (some ⟨t5b, (t5o + 5), none⟩))] 73 (s' := (.reg (opsAt (sub B [1, 1, 1, 1, 1, 1, 1, 1, 0])) [4] :: S20)) (by kernel_rfl) fun J => ?_
        obtain ⟨H_9, q29, h⟩ := h
        refine KR.se (one_st (by kernel_rfl) q29) ?_
        refine KR.run 5 [(2, .pointer (some ⟨t2b, t2o, none⟩)), (5, .pointer (some ⟨t5b, t5o, none⟩)), (60, .pointer t4)] 73 (s' := (.reg (opsAt (sub B [1, 1, 1, 1, 1, 1, 1, 1, 1, 0, 0])) [1, 2] :: S22)) (by kernel_rfl) fun J => ?_
        obtain ⟨t61, H_10, q30, h⟩ := h
        refine KR.se (one_ca (by kernel_rfl) q30) ?_
        refine KR.run 9 [(2, .pointer (some ⟨t2b, t2o, none⟩)), (5, .pointer (some ⟨t5b, t5o, none⟩)), (10, .int .i64 t61), (62, .bool (!(t61 == 0)))] 73 (s' := (.code (sub B [1, 1, 1, 1, 1, 1, 1, 1, 1, 0, 1, 0, 1]) :: S23)) (by kernel_rfl) fun J => ?_
        by_cases c31 : t61 = 0
        · replace h := iteT c31 h
          refine KR.br false (by kernel_rfl) (vB (nB (eT c31))) ?_
          refine KR.run 2 [(2, .pointer (some ⟨t2b, t2o, none⟩)), (5, .pointer (some ⟨t5b, t5o, none⟩))] 73 (s' := (.reg (opsAt (sub B [1, 1, 1, 1, 1, 1, 1, 1, 1, 0, 1, 0, 1, 1, 0])) [0, 1, 2, 3] :: S24)) (by kernel_rfl) fun J => ?_
          obtain ⟨t68c0, t68c1, t68c2, t68c3, t68c4a, t68c4n, t68c4k, t68c5a, t68c5n, t68c5k, q32, h⟩ := h
          refine KR.rd (one_ldA (by kernel_rfl) q32) ?_
          obtain ⟨t69, H_11, q33, h⟩ := h
          refine KR.se (one_ca (by kernel_rfl) q33) ?_
          refine KR.run 3 [(2, .pointer (some ⟨t2b, t2o, none⟩)), (5, .pointer (some ⟨t5b, t5o, none⟩)), (67, .bool (!t69))] 73 (s' := (.code (sub B [1, 1, 1, 1, 1, 1, 1, 1, 1, 0, 1, 0, 1, 1, 1]) :: S23)) (by kernel_rfl) fun J => ?_
          by_cases c34 : t69 = true
          · replace h := iteT c34 h
            refine KR.br false (by kernel_rfl) (vB (nB (bT c34))) ?_
            refine KR.run 4 [(2, .pointer (some ⟨t2b, t2o, none⟩)), (5, .pointer (some ⟨t5b, t5o, none⟩))] 73 (s' := (.reg (opsAt (sub B [1, 1, 1, 1, 1, 1, 1, 1, 1, 1, 0])) [0, 1, 2] :: S25)) (by kernel_rfl) fun J => ?_
            obtain ⟨t72c0, t72c1, t72c2, t72c3, t72c4a, t72c4n, t72c4k, t72c5a, t72c5n, t72c5k, q35, h⟩ := h
            refine KR.rd (one_ldA (by kernel_rfl) q35) ?_
            obtain ⟨H_12, q36, h⟩ := h
            refine KR.se (one_st (by kernel_rfl) q36) ?_
            refine KR.run 2 [(2, .pointer (some ⟨t2b, t2o, none⟩)), (3, .int .i64 0)] 73 (s' := (.code (sub B [1, 1, 1, 1, 1, 1, 1, 1, 1, 1, 1]) :: [])) (by kernel_rfl) fun J => ?_
            obtain ⟨r2c0_1, r2c1_1, r2c2_1, r2c3_1, r2c4a_1, r2c4n_1, r2c4k_1, r2c5a_1, r2c5n_1, r2c5k_1, q37, h⟩ := h
            exact KR.finR (l := [.cell 2 41, .tmp 3]) (vs := [.agg #[.int .i64 r2c0_1, .int .i64 r2c1_1, .int .i64 r2c2_1, .int .i64 r2c3_1, .slice r2c4a_1 r2c4n_1 r2c4k_1, .slice r2c5a_1 r2c5n_1 r2c5k_1], .int .i64 0]) (by kernel_rfl) (Res.cellA (by kernel_rfl) q37 (Res.tmp (by kernel_rfl) Res.nil)) (by kernel_rfl) h
          · replace h := iteF c34 h
            refine KR.br true (by kernel_rfl) (vB (nB (bF c34))) ?_
            refine KR.run 3 [(2, .pointer (some ⟨t2b, t2o, none⟩)), (71, .agg #[.int .i64 0, .int .i64 0, .int .i64 0, .int .i64 0, .slice none 0 0, .slice none 0 0])] 73 (s' := (.reg (opsAt (sub B [1, 1, 1, 1, 1, 1, 1, 1, 1, 0, 1, 0, 1, 1, 1, 0, 0])) [1, 2] :: S26)) (by kernel_rfl) fun J => ?_
            obtain ⟨H_13, q38, h⟩ := h
            refine KR.se (one_st (by kernel_rfl) q38) ?_
            refine KR.run 2 [(2, .pointer (some ⟨t2b, t2o, none⟩)), (3, .int .i64 3)] 73 (s' := (.code (sub B [1, 1, 1, 1, 1, 1, 1, 1, 1, 0, 1, 0, 1, 1, 1, 0, 1]) :: S23)) (by kernel_rfl) fun J => ?_
            obtain ⟨r2c0_2, r2c1_2, r2c2_2, r2c3_2, r2c4a_2, r2c4n_2, r2c4k_2, r2c5a_2, r2c5n_2, r2c5k_2, q39, h⟩ := h
            exact KR.finR (l := [.cell 2 41, .tmp 3]) (vs := [.agg #[.int .i64 r2c0_2, .int .i64 r2c1_2, .int .i64 r2c2_2, .int .i64 r2c3_2, .slice r2c4a_2 r2c4n_2 r2c4k_2, .slice r2c5a_2 r2c5n_2 r2c5k_2], .int .i64 3]) (by kernel_rfl) (Res.cellA (by kernel_rfl) q39 (Res.tmp (by kernel_rfl) Res.nil)) (by kernel_rfl) h
        · replace h := iteF c31 h
          refine KR.br true (by kernel_rfl) (vB (nB (eF c31))) ?_
          refine KR.run 4 [(2, .pointer (some ⟨t2b, t2o, none⟩)), (65, .agg #[.int .i64 0, .int .i64 0, .int .i64 0, .int .i64 0, .slice none 0 0, .slice none 0 0]), (66, .int .i64 t61)] 73 (s' := (.reg (opsAt (sub B [1, 1, 1, 1, 1, 1, 1, 1, 1, 0, 1, 0, 1, 0, 0])) [2, 3] :: S27)) (by kernel_rfl) fun J => ?_
          obtain ⟨H_14, q40, h⟩ := h
          refine KR.se (one_st (by kernel_rfl) q40) ?_
          refine KR.run 2 [(2, .pointer (some ⟨t2b, t2o, none⟩)), (3, .int .i64 t61)] 73 (s' := (.code (sub B [1, 1, 1, 1, 1, 1, 1, 1, 1, 0, 1, 0, 1, 0, 1]) :: S23)) (by kernel_rfl) fun J => ?_
          obtain ⟨r2c0_3, r2c1_3, r2c2_3, r2c3_3, r2c4a_3, r2c4n_3, r2c4k_3, r2c5a_3, r2c5n_3, r2c5k_3, q41, h⟩ := h
          exact KR.finR (l := [.cell 2 41, .tmp 3]) (vs := [.agg #[.int .i64 r2c0_3, .int .i64 r2c1_3, .int .i64 r2c2_3, .int .i64 r2c3_3, .slice r2c4a_3 r2c4n_3 r2c4k_3, .slice r2c5a_3 r2c5n_3 r2c5k_3], .int .i64 t61]) (by kernel_rfl) (Res.cellA (by kernel_rfl) q41 (Res.tmp (by kernel_rfl) Res.nil)) (by kernel_rfl) h
      · replace h := iteF c27 h
        refine KR.br true (by kernel_rfl) (vB (nB (bF c27))) ?_
        refine KR.run 3 [(2, .pointer (some ⟨t2b, t2o, none⟩)), (55, .agg #[.int .i64 0, .int .i64 0, .int .i64 0, .int .i64 0, .slice none 0 0, .slice none 0 0])] 73 (s' := (.reg (opsAt (sub B [1, 1, 1, 1, 1, 1, 1, 0, 0, 1, 1, 1, 0, 0])) [1, 2] :: S28)) (by kernel_rfl) fun J => ?_
        obtain ⟨H_15, q42, h⟩ := h
        refine KR.se (one_st (by kernel_rfl) q42) ?_
        refine KR.run 2 [(2, .pointer (some ⟨t2b, t2o, none⟩)), (3, .int .i64 3)] 73 (s' := (.code (sub B [1, 1, 1, 1, 1, 1, 1, 0, 0, 1, 1, 1, 0, 1]) :: S16)) (by kernel_rfl) fun J => ?_
        obtain ⟨r2c0_4, r2c1_4, r2c2_4, r2c3_4, r2c4a_4, r2c4n_4, r2c4k_4, r2c5a_4, r2c5n_4, r2c5k_4, q43, h⟩ := h
        exact KR.finR (l := [.cell 2 41, .tmp 3]) (vs := [.agg #[.int .i64 r2c0_4, .int .i64 r2c1_4, .int .i64 r2c2_4, .int .i64 r2c3_4, .slice r2c4a_4 r2c4n_4 r2c4k_4, .slice r2c5a_4 r2c5n_4 r2c5k_4], .int .i64 3]) (by kernel_rfl) (Res.cellA (by kernel_rfl) q43 (Res.tmp (by kernel_rfl) Res.nil)) (by kernel_rfl) h
theorem call {a0a : Option Addr} {a0n : Nat} {a0k : Nat} {H : Heap} {r : Value × Heap} (h :
    ∃ (H_1 : Heap), H_1 = H.push (.row [.int .i64 0, .int .i64 0, .int .i64 0, .int .i64 0, .slice none 0 0, .slice none 0 0] true) ∧
    (∃ (t12 : Option Addr) (H_2 : Heap), xC Try.prog good 17 [.slice a0a a0n a0k] H_1 = some (.pointer t12, H_2) ∧
    (∃ (t14 : Int) (H_3 : Heap), xC Try.prog good 69 [.pointer t12] H_2 = some (.int .i64 t14, H_3) ∧
    (∃ (t16 : Int) (H_4 : Heap), xC Try.prog good 69 [.pointer t12] H_3 = some (.int .i64 t16, H_4) ∧
    (∃ (t18 : Int) (H_5 : Heap), xC Try.prog good 18 [.pointer t12, .int .i64 48] H_4 = some (.int .u64 t18, H_5) ∧
    (∃ (t21 : Int) (H_6 : Heap), xC Try.prog good 69 [.pointer t12] H_5 = some (.int .i64 t21, H_6) ∧
    (∃ (H_7 : Heap), H_7 = H_6.push (.row [.int .i64 0, .int .i64 0, .int .i64 0, .int .i64 0, .slice none 0 0, .slice none 0 0] true) ∧
    (∃ (H_8 : Heap), stc H_7 H_6.next 0 [.int .i64 t14, .int .i64 t16, .int .i64 (IntKind.wrap .i64 t18), .int .i64 t21, .slice none 0 0, .slice none 0 0] = some H_8 ∧
    (∃ (t24 : Int) (H_9 : Heap), xC Try.prog good 69 [.pointer t12] H_8 = some (.int .i64 t24, H_9) ∧
    (if t24 > 16 then
    (∃ (H_10 : Heap), stc H_9 H.next 0 [.int .i64 0, .int .i64 0, .int .i64 0, .int .i64 0, .slice none 0 0, .slice none 0 0] = some H_10 ∧
    (∃ (r2c0 : Int) (r2c1 : Int) (r2c2 : Int) (r2c3 : Int) (r2c4a : Option Addr) (r2c4n : Nat) (r2c4k : Nat) (r2c5a : Option Addr) (r2c5n : Nat) (r2c5k : Nat), ldAll H_10 H.next 0 [.int .i64 r2c0, .int .i64 r2c1, .int .i64 r2c2, .int .i64 r2c3, .slice r2c4a r2c4n r2c4k, .slice r2c5a r2c5n r2c5k] ∧
    (r = (.tuple #[.agg #[.int .i64 r2c0, .int .i64 r2c1, .int .i64 r2c2, .int .i64 r2c3, .slice r2c4a r2c4n r2c4k, .slice r2c5a r2c5n r2c5k], .int .i64 3], H_10))))
    else
    (∃ (t30a : Option Addr) (t30n : Nat) (t30k : Nat) (H_11 : Heap), xC Try.prog good 31 [.pointer t12, .int .i64 t24] H_9 = some (.slice t30a t30n t30k, H_11) ∧
    (L0 (H.next) (0) (t12) (H_6.next) (0) (t30a) (t30n) (t30k) (((t30n : Nat) : Int)) 0 H_11 r)))))))))))) :
    xC Try.prog good 43 [.slice a0a a0n a0k] H = some r := by
  refine KR.enter (fn := Try.f43) (c := B) (by kernel_rfl) (by kernel_rfl) ?_
  refine KR.run 2 [(0, .slice a0a a0n a0k)] 73 (s' := (.reg (opsAt (sub B [0])) [0, 1] :: S0)) (by kernel_rfl) fun J => ?_
  obtain ⟨H_1, q1, h⟩ := h
  refine KR.mk (w := pRow [.int .i64 0, .int .i64 0, .int .i64 0, .int .i64 0, .slice none 0 0, .slice none 0 0]) (one_al (by kernel_rfl)) q1 ?_
  refine KR.run 5 [(2, .pointer (some ⟨H.next, 0, none⟩)), (11, .slice a0a a0n a0k)] 73 (s' := (.reg (opsAt (sub B [1, 0])) [1, 2] :: S1)) (by kernel_rfl) fun J => ?_
  obtain ⟨t12, H_2, q2, h⟩ := h
  refine KR.se (one_ca (by kernel_rfl) q2) ?_
  refine KR.run 5 [(2, .pointer (some ⟨H.next, 0, none⟩)), (4, .pointer t12), (13, .pointer t12)] 73 (s' := (.reg (opsAt (sub B [1, 1, 0])) [1, 2, 3, 4, 5, 6, 7, 8, 9, 10, 11] :: S2)) (by kernel_rfl) fun J => ?_
  obtain ⟨t14, H_3, q3, h⟩ := h
  refine KR.se (one_ca (by kernel_rfl) q3) ?_
  refine KR.run 1 [(2, .pointer (some ⟨H.next, 0, none⟩)), (4, .pointer t12), (14, .int .i64 t14), (15, .pointer t12)] 73 (s' := (.reg (opsAt (sub B [1, 1, 0])) [3, 4, 5, 6, 7, 8, 9, 10, 11] :: S2)) (by kernel_rfl) fun J => ?_
  obtain ⟨t16, H_4, q4, h⟩ := h
  refine KR.se (one_ca (by kernel_rfl) q4) ?_
  refine KR.run 1 [(2, .pointer (some ⟨H.next, 0, none⟩)), (4, .pointer t12), (14, .int .i64 t14), (16, .int .i64 t16), (17, .pointer t12)] 73 (s' := (.reg (opsAt (sub B [1, 1, 0])) [5, 6, 7, 8, 9, 10, 11] :: S2)) (by kernel_rfl) fun J => ?_
  obtain ⟨t18, H_5, q5, h⟩ := h
  refine KR.se (one_ca (by kernel_rfl) q5) ?_
  refine KR.run 2 [(2, .pointer (some ⟨H.next, 0, none⟩)), (4, .pointer t12), (14, .int .i64 t14), (16, .int .i64 t16), (19, .int .i64 (IntKind.wrap .i64 t18)), (20, .pointer t12)] 73 (s' := (.reg (opsAt (sub B [1, 1, 0])) [8, 9, 10, 11] :: S2)) (by kernel_rfl) fun J => ?_
  obtain ⟨t21, H_6, q6, h⟩ := h
  refine KR.se (one_ca (by kernel_rfl) q6) ?_
  refine KR.run 1 [(2, .pointer (some ⟨H.next, 0, none⟩)), (4, .pointer t12), (22, .agg #[.int .i64 t14, .int .i64 t16, .int .i64 (IntKind.wrap .i64 t18), .int .i64 t21, .slice none 0 0, .slice none 0 0])] 73 (s' := (.reg (opsAt (sub B [1, 1, 0])) [10, 11] :: S2)) (by kernel_rfl) fun J => ?_
  obtain ⟨H_7, q7, h⟩ := h
  refine KR.mk (w := pRow [.int .i64 0, .int .i64 0, .int .i64 0, .int .i64 0, .slice none 0 0, .slice none 0 0]) (one_al (by kernel_rfl)) q7 ?_
  obtain ⟨H_8, q8, h⟩ := h
  refine KR.se (one_st (by kernel_rfl) q8) ?_
  refine KR.run 4 [(2, .pointer (some ⟨H.next, 0, none⟩)), (4, .pointer t12), (5, .pointer (some ⟨H_6.next, 0, none⟩)), (23, .pointer t12)] 73 (s' := (.reg (opsAt (sub B [1, 1, 1, 0])) [1, 2] :: S3)) (by kernel_rfl) fun J => ?_
  obtain ⟨t24, H_9, q9, h⟩ := h
  refine KR.se (one_ca (by kernel_rfl) q9) ?_
  refine KR.run 8 [(2, .pointer (some ⟨H.next, 0, none⟩)), (4, .pointer t12), (5, .pointer (some ⟨H_6.next, 0, none⟩)), (6, .int .i64 t24), (26, .bool (decide (t24 > 16)))] 73 (s' := (.code (sub B [1, 1, 1, 1, 0, 1]) :: S4)) (by kernel_rfl) fun J => ?_
  by_cases c10 : t24 > 16
  · replace h := iteT c10 h
    refine KR.br true (by kernel_rfl) (vB (dT c10)) ?_
    refine KR.run 3 [(2, .pointer (some ⟨H.next, 0, none⟩)), (27, .agg #[.int .i64 0, .int .i64 0, .int .i64 0, .int .i64 0, .slice none 0 0, .slice none 0 0])] 73 (s' := (.reg (opsAt (sub B [1, 1, 1, 1, 0, 1, 0, 0])) [1, 2] :: S5)) (by kernel_rfl) fun J => ?_
    obtain ⟨H_10, q11, h⟩ := h
    refine KR.se (one_st (by kernel_rfl) q11) ?_
    refine KR.run 2 [(2, .pointer (some ⟨H.next, 0, none⟩)), (3, .int .i64 3)] 73 (s' := (.code (sub B [1, 1, 1, 1, 0, 1, 0, 1]) :: S4)) (by kernel_rfl) fun J => ?_
    obtain ⟨r2c0, r2c1, r2c2, r2c3, r2c4a, r2c4n, r2c4k, r2c5a, r2c5n, r2c5k, q12, h⟩ := h
    exact KR.finR (l := [.cell 2 41, .tmp 3]) (vs := [.agg #[.int .i64 r2c0, .int .i64 r2c1, .int .i64 r2c2, .int .i64 r2c3, .slice r2c4a r2c4n r2c4k, .slice r2c5a r2c5n r2c5k], .int .i64 3]) (by kernel_rfl) (Res.cellA (by kernel_rfl) q12 (Res.tmp (by kernel_rfl) Res.nil)) (by kernel_rfl) h
  · replace h := iteF c10 h
    refine KR.br false (by kernel_rfl) (vB (dF c10)) ?_
    refine KR.run 6 [(2, .pointer (some ⟨H.next, 0, none⟩)), (4, .pointer t12), (5, .pointer (some ⟨H_6.next, 0, none⟩)), (28, .pointer t12), (29, .int .i64 t24)] 73 (s' := (.reg (opsAt (sub B [1, 1, 1, 1, 1, 0, 0])) [2, 3, 4] :: S7)) (by kernel_rfl) fun J => ?_
    obtain ⟨t30a, t30n, t30k, H_11, q13, h⟩ := h
    refine KR.se (one_ca (by kernel_rfl) q13) ?_
    exact KR.run 5 [(2, .pointer (some ⟨H.next, 0, none⟩)), (4, .pointer t12), (5, .pointer (some ⟨H_6.next, 0, none⟩)), (30, .slice t30a t30n t30k), (31, .int .i64 ((t30n : Nat) : Int)), (32, .int .i64 0)] 73 (s' := (.lp (sub B [1, 1, 1, 1, 1, 0, 1, 0, 0]) :: S8)) (by kernel_rfl) h
end F43
/-! #### 44 campanile/campanileref18.SamePacket -/
namespace F44
noncomputable def B : Code := bodyOf Try.f44
noncomputable def S0 : List It := (.code (sub B [1]) :: [])
noncomputable def S1 : List It := (.code (sub B [1, 1]) :: [])
theorem call {a0c0 : Int} {a0c1 : Int} {a0c2 : Int} {a0c3 : Int} {a0c4a : Option Addr} {a0c4n : Nat} {a0c4k : Nat} {a0c5a : Option Addr} {a0c5n : Nat} {a0c5k : Nat} {a1c0 : Int} {a1c1 : Int} {a1c2 : Int} {a1c3 : Int} {a1c4a : Option Addr} {a1c4n : Nat} {a1c4k : Nat} {a1c5a : Option Addr} {a1c5n : Nat} {a1c5k : Nat} {H : Heap} {r : Value × Heap} (h :
    ∃ (H_1 : Heap), H_1 = H.push (.row [.int .i64 a0c0, .int .i64 a0c1, .int .i64 a0c2, .int .i64 a0c3, .slice a0c4a a0c4n a0c4k, .slice a0c5a a0c5n a0c5k] true) ∧
    (∃ (H_2 : Heap), H_2 = H_1.push (.row [.int .i64 a1c0, .int .i64 a1c1, .int .i64 a1c2, .int .i64 a1c3, .slice a1c4a a1c4n a1c4k, .slice a1c5a a1c5n a1c5k] true) ∧
    (∃ (t6 : Int), ldc H_2 H.next 0 = some (.int .i64 t6) ∧
    (∃ (t8 : Int), ldc H_2 H_1.next 0 = some (.int .i64 t8) ∧
    (if t6 = t8 then
    (∃ (t12 : Int), ldc H_2 H.next 1 = some (.int .i64 t12) ∧
    (∃ (t14 : Int), ldc H_2 H_1.next 1 = some (.int .i64 t14) ∧
    (if t12 = t14 then
    (∃ (t19 : Int), ldc H_2 H.next 2 = some (.int .i64 t19) ∧
    (∃ (t21 : Int), ldc H_2 H_1.next 2 = some (.int .i64 t21) ∧
    (if t19 = t21 then
    (∃ (t26 : Int), ldc H_2 H.next 3 = some (.int .i64 t26) ∧
    (∃ (t28 : Int), ldc H_2 H_1.next 3 = some (.int .i64 t28) ∧
    (if t26 = t28 then
    (∃ (t33a : Option Addr) (t33n : Nat) (t33k : Nat), ldc H_2 H.next 4 = some (.slice t33a t33n t33k) ∧
    (∃ (t35a : Option Addr) (t35n : Nat) (t35k : Nat), ldc H_2 H_1.next 4 = some (.slice t35a t35n t35k) ∧
    (∃ (t36 : Bool) (H_3 : Heap), xC Try.prog good 25 [.slice t33a t33n t33k, .slice t35a t35n t35k] H_2 = some (.bool t36, H_3) ∧
    (if t36 = true then
    (∃ (t40a : Option Addr) (t40n : Nat) (t40k : Nat), ldc H_3 H.next 5 = some (.slice t40a t40n t40k) ∧
    (∃ (t41 : ByteArray), pstrb H_3 t40a t40n = some t41 ∧
    (∃ (t43a : Option Addr) (t43n : Nat) (t43k : Nat), ldc H_3 H_1.next 5 = some (.slice t43a t43n t43k) ∧
    (∃ (t44 : ByteArray), pstrb H_3 t43a t43n = some t44 ∧
    (r = (.bool (t41.toList == t44.toList), H_3))))))
    else
    (r = (.bool false, H_3))))))
    else
    (r = (.bool false, H_2)))))
    else
    (r = (.bool false, H_2)))))
    else
    (r = (.bool false, H_2)))))
    else
    (r = (.bool false, H_2))))))) :
    xC Try.prog good 44 [.agg #[.int .i64 a0c0, .int .i64 a0c1, .int .i64 a0c2, .int .i64 a0c3, .slice a0c4a a0c4n a0c4k, .slice a0c5a a0c5n a0c5k], .agg #[.int .i64 a1c0, .int .i64 a1c1, .int .i64 a1c2, .int .i64 a1c3, .slice a1c4a a1c4n a1c4k, .slice a1c5a a1c5n a1c5k]] H = some r := by
  refine KR.enter (fn := Try.f44) (c := B) (by kernel_rfl) (by kernel_rfl) ?_
  refine KR.run 2 [(0, .agg #[.int .i64 a0c0, .int .i64 a0c1, .int .i64 a0c2, .int .i64 a0c3, .slice a0c4a a0c4n a0c4k, .slice a0c5a a0c5n a0c5k]), (1, .agg #[.int .i64 a1c0, .int .i64 a1c1, .int .i64 a1c2, .int .i64 a1c3, .slice a1c4a a1c4n a1c4k, .slice a1c5a a1c5n a1c5k])] 47 (s' := (.reg (opsAt (sub B [0])) [0, 1, 2] :: S0)) (by kernel_rfl) fun J => ?_
  obtain ⟨H_1, q1, h⟩ := h
  refine KR.mk (w := pRow [.int .i64 a0c0, .int .i64 a0c1, .int .i64 a0c2, .int .i64 a0c3, .slice a0c4a a0c4n a0c4k, .slice a0c5a a0c5n a0c5k]) (one_al (by kernel_rfl)) q1 ?_
  obtain ⟨H_2, q2, h⟩ := h
  refine KR.mk (w := pRow [.int .i64 a1c0, .int .i64 a1c1, .int .i64 a1c2, .int .i64 a1c3, .slice a1c4a a1c4n a1c4k, .slice a1c5a a1c5n a1c5k]) (one_al (by kernel_rfl)) q2 ?_
  refine KR.run 5 [(2, .pointer (some ⟨H.next, 0, none⟩)), (3, .pointer (some ⟨H_1.next, 0, none⟩)), (5, .pointer (some ⟨H.next, 0, none⟩))] 47 (s' := (.reg (opsAt (sub B [1, 0])) [1, 2, 3, 4, 5, 6, 7, 8, 9, 10, 11, 12, 13, 14, 15, 16, 17, 18, 19, 20, 21, 22, 23, 24, 25, 26, 27, 28, 29, 30, 31, 32, 33, 34, 35, 36, 37, 38, 39, 40, 41, 42] :: S1)) (by kernel_rfl) fun J => ?_
  obtain ⟨t6, q3, h⟩ := h
  refine KR.rd (one_ld (by kernel_rfl) q3) ?_
  refine KR.run 1 [(2, .pointer (some ⟨H.next, 0, none⟩)), (3, .pointer (some ⟨H_1.next, 0, none⟩)), (6, .int .i64 t6), (7, .pointer (some ⟨H_1.next, 0, none⟩))] 47 (s' := (.reg (opsAt (sub B [1, 0])) [3, 4, 5, 6, 7, 8, 9, 10, 11, 12, 13, 14, 15, 16, 17, 18, 19, 20, 21, 22, 23, 24, 25, 26, 27, 28, 29, 30, 31, 32, 33, 34, 35, 36, 37, 38, 39, 40, 41, 42] :: S1)) (by kernel_rfl) fun J => ?_
  obtain ⟨t8, q4, h⟩ := h
  refine KR.rd (one_ld (by kernel_rfl) q4) ?_
  refine KR.run 2 [(2, .pointer (some ⟨H.next, 0, none⟩)), (3, .pointer (some ⟨H_1.next, 0, none⟩)), (10, .bool (t6 == t8))] 47 (s' := (.reg (opsAt (sub B [1, 0])) [6, 7, 8, 9, 10, 11, 12, 13, 14, 15, 16, 17, 18, 19, 20, 21, 22, 23, 24, 25, 26, 27, 28, 29, 30, 31, 32, 33, 34, 35, 36, 37, 38, 39, 40, 41, 42] :: S1)) (by kernel_rfl) fun J => ?_
  by_cases c5 : t6 = t8
  · replace h := iteT c5 h
    refine KR.setV 10 (by kernel_rfl) (eT c5) ?_
    refine KR.run 1 [(2, .pointer (some ⟨H.next, 0, none⟩)), (3, .pointer (some ⟨H_1.next, 0, none⟩)), (10, .bool true), (11, .pointer (some ⟨H.next, 1, none⟩))] 47 (s' := (.reg (opsAt (sub B [1, 0])) [7, 8, 9, 10, 11, 12, 13, 14, 15, 16, 17, 18, 19, 20, 21, 22, 23, 24, 25, 26, 27, 28, 29, 30, 31, 32, 33, 34, 35, 36, 37, 38, 39, 40, 41, 42] :: S1)) (by kernel_rfl) fun J => ?_
    obtain ⟨t12, q6, h⟩ := h
    refine KR.rd (one_ld (by kernel_rfl) q6) ?_
    refine KR.run 1 [(2, .pointer (some ⟨H.next, 0, none⟩)), (3, .pointer (some ⟨H_1.next, 0, none⟩)), (10, .bool true), (12, .int .i64 t12), (13, .pointer (some ⟨H_1.next, 1, none⟩))] 47 (s' := (.reg (opsAt (sub B [1, 0])) [9, 10, 11, 12, 13, 14, 15, 16, 17, 18, 19, 20, 21, 22, 23, 24, 25, 26, 27, 28, 29, 30, 31, 32, 33, 34, 35, 36, 37, 38, 39, 40, 41, 42] :: S1)) (by kernel_rfl) fun J => ?_
    obtain ⟨t14, q7, h⟩ := h
    refine KR.rd (one_ld (by kernel_rfl) q7) ?_
    refine KR.run 3 [(2, .pointer (some ⟨H.next, 0, none⟩)), (3, .pointer (some ⟨H_1.next, 0, none⟩)), (17, .bool (t12 == t14))] 47 (s' := (.reg (opsAt (sub B [1, 0])) [13, 14, 15, 16, 17, 18, 19, 20, 21, 22, 23, 24, 25, 26, 27, 28, 29, 30, 31, 32, 33, 34, 35, 36, 37, 38, 39, 40, 41, 42] :: S1)) (by kernel_rfl) fun J => ?_
    by_cases c8 : t12 = t14
    · replace h := iteT c8 h
      refine KR.setV 17 (by kernel_rfl) (eT c8) ?_
      refine KR.run 1 [(2, .pointer (some ⟨H.next, 0, none⟩)), (3, .pointer (some ⟨H_1.next, 0, none⟩)), (17, .bool true), (18, .pointer (some ⟨H.next, 2, none⟩))] 47 (s' := (.reg (opsAt (sub B [1, 0])) [14, 15, 16, 17, 18, 19, 20, 21, 22, 23, 24, 25, 26, 27, 28, 29, 30, 31, 32, 33, 34, 35, 36, 37, 38, 39, 40, 41, 42] :: S1)) (by kernel_rfl) fun J => ?_
      obtain ⟨t19, q9, h⟩ := h
      refine KR.rd (one_ld (by kernel_rfl) q9) ?_
      refine KR.run 1 [(2, .pointer (some ⟨H.next, 0, none⟩)), (3, .pointer (some ⟨H_1.next, 0, none⟩)), (17, .bool true), (19, .int .i64 t19), (20, .pointer (some ⟨H_1.next, 2, none⟩))] 47 (s' := (.reg (opsAt (sub B [1, 0])) [16, 17, 18, 19, 20, 21, 22, 23, 24, 25, 26, 27, 28, 29, 30, 31, 32, 33, 34, 35, 36, 37, 38, 39, 40, 41, 42] :: S1)) (by kernel_rfl) fun J => ?_
      obtain ⟨t21, q10, h⟩ := h
      refine KR.rd (one_ld (by kernel_rfl) q10) ?_
      refine KR.run 3 [(2, .pointer (some ⟨H.next, 0, none⟩)), (3, .pointer (some ⟨H_1.next, 0, none⟩)), (24, .bool (t19 == t21))] 47 (s' := (.reg (opsAt (sub B [1, 0])) [20, 21, 22, 23, 24, 25, 26, 27, 28, 29, 30, 31, 32, 33, 34, 35, 36, 37, 38, 39, 40, 41, 42] :: S1)) (by kernel_rfl) fun J => ?_
      by_cases c11 : t19 = t21
      · replace h := iteT c11 h
        refine KR.setV 24 (by kernel_rfl) (eT c11) ?_
        refine KR.run 1 [(2, .pointer (some ⟨H.next, 0, none⟩)), (3, .pointer (some ⟨H_1.next, 0, none⟩)), (24, .bool true), (25, .pointer (some ⟨H.next, 3, none⟩))] 47 (s' := (.reg (opsAt (sub B [1, 0])) [21, 22, 23, 24, 25, 26, 27, 28, 29, 30, 31, 32, 33, 34, 35, 36, 37, 38, 39, 40, 41, 42] :: S1)) (by kernel_rfl) fun J => ?_
        obtain ⟨t26, q12, h⟩ := h
        refine KR.rd (one_ld (by kernel_rfl) q12) ?_
        refine KR.run 1 [(2, .pointer (some ⟨H.next, 0, none⟩)), (3, .pointer (some ⟨H_1.next, 0, none⟩)), (24, .bool true), (26, .int .i64 t26), (27, .pointer (some ⟨H_1.next, 3, none⟩))] 47 (s' := (.reg (opsAt (sub B [1, 0])) [23, 24, 25, 26, 27, 28, 29, 30, 31, 32, 33, 34, 35, 36, 37, 38, 39, 40, 41, 42] :: S1)) (by kernel_rfl) fun J => ?_
        obtain ⟨t28, q13, h⟩ := h
        refine KR.rd (one_ld (by kernel_rfl) q13) ?_
        refine KR.run 3 [(2, .pointer (some ⟨H.next, 0, none⟩)), (3, .pointer (some ⟨H_1.next, 0, none⟩)), (31, .bool (t26 == t28))] 47 (s' := (.reg (opsAt (sub B [1, 0])) [27, 28, 29, 30, 31, 32, 33, 34, 35, 36, 37, 38, 39, 40, 41, 42] :: S1)) (by kernel_rfl) fun J => ?_
        by_cases c14 : t26 = t28
        · replace h := iteT c14 h
          refine KR.setV 31 (by kernel_rfl) (eT c14) ?_
          refine KR.run 1 [(2, .pointer (some ⟨H.next, 0, none⟩)), (3, .pointer (some ⟨H_1.next, 0, none⟩)), (31, .bool true), (32, .pointer (some ⟨H.next, 4, none⟩))] 47 (s' := (.reg (opsAt (sub B [1, 0])) [28, 29, 30, 31, 32, 33, 34, 35, 36, 37, 38, 39, 40, 41, 42] :: S1)) (by kernel_rfl) fun J => ?_
          obtain ⟨t33a, t33n, t33k, q15, h⟩ := h
          refine KR.rd (one_ld (by kernel_rfl) q15) ?_
          refine KR.run 1 [(2, .pointer (some ⟨H.next, 0, none⟩)), (3, .pointer (some ⟨H_1.next, 0, none⟩)), (31, .bool true), (33, .slice t33a t33n t33k), (34, .pointer (some ⟨H_1.next, 4, none⟩))] 47 (s' := (.reg (opsAt (sub B [1, 0])) [30, 31, 32, 33, 34, 35, 36, 37, 38, 39, 40, 41, 42] :: S1)) (by kernel_rfl) fun J => ?_
          obtain ⟨t35a, t35n, t35k, q16, h⟩ := h
          refine KR.rd (one_ld (by kernel_rfl) q16) ?_
          obtain ⟨t36, H_3, q17, h⟩ := h
          refine KR.se (one_ca (by kernel_rfl) q17) ?_
          refine KR.run 2 [(2, .pointer (some ⟨H.next, 0, none⟩)), (3, .pointer (some ⟨H_1.next, 0, none⟩)), (38, .bool t36)] 47 (s' := (.reg (opsAt (sub B [1, 0])) [34, 35, 36, 37, 38, 39, 40, 41, 42] :: S1)) (by kernel_rfl) fun J => ?_
          by_cases c18 : t36 = true
          · replace h := iteT c18 h
            refine KR.setV 38 (by kernel_rfl) (bT c18) ?_
            refine KR.run 1 [(3, .pointer (some ⟨H_1.next, 0, none⟩)), (38, .bool true), (39, .pointer (some ⟨H.next, 5, none⟩))] 47 (s' := (.reg (opsAt (sub B [1, 0])) [35, 36, 37, 38, 39, 40, 41, 42] :: S1)) (by kernel_rfl) fun J => ?_
            obtain ⟨t40a, t40n, t40k, q19, h⟩ := h
            refine KR.rd (one_ld (by kernel_rfl) q19) ?_
            obtain ⟨t41, q20, h⟩ := h
            refine KR.rd (one_str (by kernel_rfl) q20) ?_
            refine KR.run 1 [(38, .bool true), (41, .string t41), (42, .pointer (some ⟨H_1.next, 5, none⟩))] 47 (s' := (.reg (opsAt (sub B [1, 0])) [38, 39, 40, 41, 42] :: S1)) (by kernel_rfl) fun J => ?_
            obtain ⟨t43a, t43n, t43k, q21, h⟩ := h
            refine KR.rd (one_ld (by kernel_rfl) q21) ?_
            obtain ⟨t44, q22, h⟩ := h
            refine KR.rd (one_str (by kernel_rfl) q22) ?_
            refine KR.run 4 [(4, .bool (t41.toList == t44.toList))] 47 (s' := (.code (sub B [1, 1]) :: [])) (by kernel_rfl) fun J => ?_
            exact KR.fin (by kernel_rfl) h
          · replace h := iteF c18 h
            refine KR.setV 38 (by kernel_rfl) (bF c18) ?_
            refine KR.run 10 [(4, .bool false)] 47 (s' := (.code (sub B [1, 1]) :: [])) (by kernel_rfl) fun J => ?_
            exact KR.fin (by kernel_rfl) h
        · replace h := iteF c14 h
          refine KR.setV 31 (by kernel_rfl) (eF c14) ?_
          refine KR.run 17 [(4, .bool false)] 47 (s' := (.code (sub B [1, 1]) :: [])) (by kernel_rfl) fun J => ?_
          exact KR.fin (by kernel_rfl) h
      · replace h := iteF c11 h
        refine KR.setV 24 (by kernel_rfl) (eF c11) ?_
        refine KR.run 24 [(4, .bool false)] 47 (s' := (.code (sub B [1, 1]) :: [])) (by kernel_rfl) fun J => ?_
        exact KR.fin (by kernel_rfl) h
    · replace h := iteF c8 h
      refine KR.setV 17 (by kernel_rfl) (eF c8) ?_
      refine KR.run 31 [(4, .bool false)] 47 (s' := (.code (sub B [1, 1]) :: [])) (by kernel_rfl) fun J => ?_
      exact KR.fin (by kernel_rfl) h
  · replace h := iteF c5 h
    refine KR.setV 10 (by kernel_rfl) (eF c5) ?_
    refine KR.run 38 [(4, .bool false)] 47 (s' := (.code (sub B [1, 1]) :: [])) (by kernel_rfl) fun J => ?_
    exact KR.fin (by kernel_rfl) h
end F44
/-! #### 45 campanile/campanileref18.EncodePacket -/
namespace F45
noncomputable def B : Code := bodyOf Try.f45
noncomputable def S0 : List It := (.code (sub B [1]) :: [])
noncomputable def S1 : List It := (.code (sub B [1, 1]) :: [])
noncomputable def S3 : List It := (.code (sub B [1, 1, 1]) :: [])
noncomputable def S4 : List It := (.code (sub B [1, 1, 1, 1]) :: [])
noncomputable def S12 : List It := (.code (sub B [1, 1, 1, 1, 1]) :: [])
noncomputable def S2 : List It := (.code (sub B [1, 0, 1]) :: S1)
noncomputable def S5 : List It := (.code (sub B [1, 1, 1, 0, 1]) :: S4)
noncomputable def S6 : List It := (.blk 0 :: S4)
noncomputable def S7 : List It := (.lp (sub B [1, 1, 1, 0, 1, 0, 0]) :: S6)
noncomputable def S8 : List It := (.code (sub B [1, 1, 1, 0, 1, 0, 0, 1, 1]) :: S7)
noncomputable def S9 : List It := (.code (sub B [1, 1, 1, 0, 1, 0, 0, 1, 1, 1]) :: S7)
noncomputable def S10 : List It := (.blk 1 :: S9)
noncomputable def S11 : List It := (.code (sub B [1, 1, 1, 0, 1, 0, 0, 1, 1, 0, 0, 1]) :: S10)
def L0 (t1b : Nat) (t1o : Nat) (t4a : Option Addr) (t4n : Nat) (t4k : Nat) (t32a : Option Addr) (t32n : Nat) (t32k : Nat) (t33 : Int) (t34 : Int) (H : Heap) (r : Value × Heap) : Prop := ∀ J, KR Try.prog good Try.f45 S7 (mat J 54 [(1, .pointer (some ⟨t1b, t1o, none⟩)), (4, .slice t4a t4n t4k), (32, .slice t32a t32n t32k), (33, .int .i64 t33), (34, .int .i64 t34)]) H r
theorem L0_step {t1b : Nat} {t1o : Nat} {t4a : Option Addr} {t4n : Nat} {t4k : Nat} {t32a : Option Addr} {t32n : Nat} {t32k : Nat} {t33 : Int} {t34 : Int} {H : Heap} {r : Value × Heap} (h :
    if t34 < t33 then
    (∃ (t32ab t32ao : Nat), t32a = some ⟨t32ab, t32ao, none⟩ ∧
    ((0 : Int) ≤ t34 ∧ t34 < ((t32n : Nat) : Int) ∧
    (∃ (t37 : Int), ldc H t32ab (t32ao + Int.toNat t34 * 1) = some (.int .i64 t37) ∧
    (∃ (H_1 : Heap), H_1 = H.push (.row [.int .u8 (IntKind.wrap .u8 t37)] true) ∧
    (∃ (t42a : Option Addr) (t42n : Nat) (t42k : Nat) (H_2 : Heap), papp H_1 1 1 t4a t4n t4k (some ⟨H.next, 0, none⟩) 1 (UNK 1) = some ((t42a, t42n, t42k), H_2) ∧
    (L0 (t1b) (t1o) (t42a) (t42n) (t42k) ((some ⟨t32ab, t32ao, none⟩)) (t32n) (t32k) (t33) ((IntKind.wrap .i64 (t34 + 1))) H_2 r))))))
    else
    (∃ (t46a : Option Addr) (t46n : Nat) (t46k : Nat), ldc H t1b (t1o + 5) = some (.slice t46a t46n t46k) ∧
    (∃ (H_3 : Heap), H_3 = H.push (.row [.int .u8 (IntKind.wrap .u8 ((t46n : Nat) : Int))] true) ∧
    (∃ (t51a : Option Addr) (t51n : Nat) (t51k : Nat), ldc H_3 t1b (t1o + 5) = some (.slice t51a t51n t51k) ∧
    (∃ (H_4 : Heap), H_4 = H_3.push (.row [.slice t4a t4n t4k, .slice (some ⟨H.next, 0, none⟩) 1 (UNK 1), .slice t51a t51n t51k] true) ∧
    (∃ (t53a : Option Addr) (t53n : Nat) (t53k : Nat) (H_5 : Heap), xC Try.prog good 70 [.slice (some ⟨H_3.next, 0, none⟩) 3 (UNK 1)] H_4 = some (.slice t53a t53n t53k, H_5) ∧
    (r = (.tuple #[.slice t53a t53n t53k, .int .i64 0], H_5)))))))) :
    L0 t1b t1o t4a t4n t4k t32a t32n t32k t33 t34 H r := by
  intro J
  show KR _ _ _ (.lp (sub B [1, 1, 1, 0, 1, 0, 0]) :: S6) _ _ _
  refine KR.run 6 [(1, .pointer (some ⟨t1b, t1o, none⟩)), (4, .slice t4a t4n t4k), (32, .slice t32a t32n t32k), (33, .int .i64 t33), (34, .int .i64 t34), (35, .bool (decide (t34 < t33)))] 54 (s' := (.code (sub B [1, 1, 1, 0, 1, 0, 0, 1, 0]) :: S8)) (by kernel_rfl) fun J => ?_
  by_cases c20 : t34 < t33
  · replace h := iteT c20 h
    refine KR.br true (by kernel_rfl) (vB (dT c20)) ?_
    obtain ⟨t32ab, t32ao, rfl, h⟩ := h
    refine KR.run 5 [(1, .pointer (some ⟨t1b, t1o, none⟩)), (4, .slice t4a t4n t4k), (32, .slice (some ⟨t32ab, t32ao, none⟩) t32n t32k), (33, .int .i64 t33), (34, .int .i64 t34)] 54 (s' := (.reg (opsAt (sub B [1, 1, 1, 0, 1, 0, 0, 1, 1, 0, 0, 0])) [0, 1, 2] :: S11)) (by kernel_rfl) fun J => ?_
    obtain ⟨q21, q21x, h⟩ := h
    refine KR.p (one_ix 1 t32ab t32ao (by kernel_rfl) q21 q21x) ?_
    obtain ⟨t37, q22, h⟩ := h
    refine KR.rd (one_ld (by kernel_rfl) q22) ?_
    refine KR.run 6 [(1, .pointer (some ⟨t1b, t1o, none⟩)), (32, .slice (some ⟨t32ab, t32ao, none⟩) t32n t32k), (33, .int .i64 t33), (34, .int .i64 t34), (38, .slice t4a t4n t4k), (40, .int .u8 (IntKind.wrap .u8 t37))] 54 (s' := (.reg (opsAt (sub B [1, 1, 1, 0, 1, 0, 0, 1, 1, 0, 0, 1])) [3, 4, 5] :: S10)) (by kernel_rfl) fun J => ?_
    obtain ⟨H_1, q23, h⟩ := h
    refine KR.mk (w := sRow 1 1 [.int .u8 (IntKind.wrap .u8 t37)]) (one_al (by kernel_rfl)) q23 ?_
    obtain ⟨t42a, t42n, t42k, H_2, q24, h⟩ := h
    refine KR.se (one_ap 1 1 (by kernel_rfl) q24) ?_
    exact KR.run 7 [(1, .pointer (some ⟨t1b, t1o, none⟩)), (4, .slice t42a t42n t42k), (32, .slice (some ⟨t32ab, t32ao, none⟩) t32n t32k), (33, .int .i64 t33), (34, .int .i64 (IntKind.wrap .i64 (t34 + 1)))] 54 (s' := (.lp (sub B [1, 1, 1, 0, 1, 0, 0]) :: S6)) (by kernel_rfl) h
  · replace h := iteF c20 h
    refine KR.br false (by kernel_rfl) (vB (dF c20)) ?_
    refine KR.run 5 [(1, .pointer (some ⟨t1b, t1o, none⟩)), (44, .slice t4a t4n t4k), (45, .pointer (some ⟨t1b, (t1o + 5), none⟩))] 54 (s' := (.reg (opsAt (sub B [1, 1, 1, 1, 0])) [2, 3, 4, 5, 6, 7, 8, 9, 10, 11] :: S12)) (by kernel_rfl) fun J => ?_
    obtain ⟨t46a, t46n, t46k, q25, h⟩ := h
    refine KR.rd (one_ld (by kernel_rfl) q25) ?_
    refine KR.run 2 [(1, .pointer (some ⟨t1b, t1o, none⟩)), (44, .slice t4a t4n t4k), (48, .int .u8 (IntKind.wrap .u8 ((t46n : Nat) : Int)))] 54 (s' := (.reg (opsAt (sub B [1, 1, 1, 1, 0])) [5, 6, 7, 8, 9, 10, 11] :: S12)) (by kernel_rfl) fun J => ?_
    obtain ⟨H_3, q26, h⟩ := h
    refine KR.mk (w := sRow 1 1 [.int .u8 (IntKind.wrap .u8 ((t46n : Nat) : Int))]) (one_al (by kernel_rfl)) q26 ?_
    refine KR.run 1 [(44, .slice t4a t4n t4k), (49, .slice (some ⟨H.next, 0, none⟩) 1 (UNK 1)), (50, .pointer (some ⟨t1b, (t1o + 5), none⟩))] 54 (s' := (.reg (opsAt (sub B [1, 1, 1, 1, 0])) [7, 8, 9, 10, 11] :: S12)) (by kernel_rfl) fun J => ?_
    obtain ⟨t51a, t51n, t51k, q27, h⟩ := h
    refine KR.rd (one_ld (by kernel_rfl) q27) ?_
    obtain ⟨H_4, q28, h⟩ := h
    refine KR.mk (w := sRow 3 1 [.slice t4a t4n t4k, .slice (some ⟨H.next, 0, none⟩) 1 (UNK 1), .slice t51a t51n t51k]) (one_al (by kernel_rfl)) q28 ?_
    obtain ⟨t53a, t53n, t53k, H_5, q29, h⟩ := h
    refine KR.se (one_ca (by kernel_rfl) q29) ?_
    refine KR.run 3 [(2, .slice t53a t53n t53k), (3, .int .i64 0)] 54 (s' := (.code (sub B [1, 1, 1, 1, 1]) :: [])) (by kernel_rfl) fun J => ?_
    exact KR.fin (by kernel_rfl) h
theorem call {a0c0 : Int} {a0c1 : Int} {a0c2 : Int} {a0c3 : Int} {a0c4a : Option Addr} {a0c4n : Nat} {a0c4k : Nat} {a0c5a : Option Addr} {a0c5n : Nat} {a0c5k : Nat} {H : Heap} {r : Value × Heap} (h :
    ∃ (H_1 : Heap), H_1 = H.push (.row [.int .i64 a0c0, .int .i64 a0c1, .int .i64 a0c2, .int .i64 a0c3, .slice a0c4a a0c4n a0c4k, .slice a0c5a a0c5n a0c5k] true) ∧
    (∃ (t7c0 : Int) (t7c1 : Int) (t7c2 : Int) (t7c3 : Int) (t7c4a : Option Addr) (t7c4n : Nat) (t7c4k : Nat) (t7c5a : Option Addr) (t7c5n : Nat) (t7c5k : Nat), ldAll H_1 H.next 0 [.int .i64 t7c0, .int .i64 t7c1, .int .i64 t7c2, .int .i64 t7c3, .slice t7c4a t7c4n t7c4k, .slice t7c5a t7c5n t7c5k] ∧
    (∃ (t8 : Bool) (H_2 : Heap), xC Try.prog good 48 [.agg #[.int .i64 t7c0, .int .i64 t7c1, .int .i64 t7c2, .int .i64 t7c3, .slice t7c4a t7c4n t7c4k, .slice t7c5a t7c5n t7c5k]] H_1 = some (.bool t8, H_2) ∧
    (if t8 = true then
    (∃ (t11 : Int), ldc (reserve H_2 22) H.next 0 = some (.int .i64 t11) ∧
    (∃ (t14 : Int), ldc (reserve H_2 22) H.next 1 = some (.int .i64 t14) ∧
    (∃ (t18 : Int), ldc (reserve H_2 22) H.next 2 = some (.int .i64 t18) ∧
    (∃ (t20a : Option Addr) (t20n : Nat) (t20k : Nat) (H_4 : Heap), xC Try.prog good 71 [.int .u64 (IntKind.wrap .u64 t18), .int .i64 6] (reserve H_2 22) = some (.slice t20a t20n t20k, H_4) ∧
    (∃ (t22 : Int), ldc (reserve H_2 22) H.next 3 = some (.int .i64 t22) ∧
    (∃ (t25a : Option Addr) (t25n : Nat) (t25k : Nat), ldc (reserve H_2 22) H.next 4 = some (.slice t25a t25n t25k) ∧
    (∃ (H_6 : Heap), H_6 = ((H_4.set (H_2.next + 6) (.row [.int .u8 (IntKind.wrap .u8 t11), .int .u8 (IntKind.wrap .u8 t14)] true)).set (H_2.next + 18) (.row [.int .u8 (IntKind.wrap .u8 t22), .int .u8 (IntKind.wrap .u8 ((t25n : Nat) : Int))] true)).push (.row [.slice (some ⟨(H_2.next + 6), 0, none⟩) 2 (UNK 1), .slice t20a t20n t20k, .slice (some ⟨(H_2.next + 18), 0, none⟩) 2 (UNK 1)] true) ∧
    (∃ (t30a : Option Addr) (t30n : Nat) (t30k : Nat) (H_7 : Heap), xC Try.prog good 70 [.slice (some ⟨((H_4.set (H_2.next + 6) (.row [.int .u8 (IntKind.wrap .u8 t11), .int .u8 (IntKind.wrap .u8 t14)] true)).set (H_2.next + 18) (.row [.int .u8 (IntKind.wrap .u8 t22), .int .u8 (IntKind.wrap .u8 ((t25n : Nat) : Int))] true)).next, 0, none⟩) 3 (UNK 1)] H_6 = some (.slice t30a t30n t30k, H_7) ∧
    (ldc H_4 H.next 0 = some (.int .i64 t11) ∧
    ldc H_4 H.next 1 = some (.int .i64 t14) ∧
    ldc H_4 H.next 3 = some (.int .i64 t22) ∧
    ldc H_4 H.next 4 = some (.slice t25a t25n t25k) ∧
    (∃ (t32a : Option Addr) (t32n : Nat) (t32k : Nat), ldc H_7 H.next 4 = some (.slice t32a t32n t32k) ∧
    (L0 (H.next) (0) (t30a) (t30n) (t30k) (t32a) (t32n) (t32k) (((t32n : Nat) : Int)) 0 H_7 r)))))))))))
    else
    (r = (.tuple #[.slice none 0 0, .int .i64 1], H_2)))))) :
    xC Try.prog good 45 [.agg #[.int .i64 a0c0, .int .i64 a0c1, .int .i64 a0c2, .int .i64 a0c3, .slice a0c4a a0c4n a0c4k, .slice a0c5a a0c5n a0c5k]] H = some r := by
  refine KR.enter (fn := Try.f45) (c := B) (by kernel_rfl) (by kernel_rfl) ?_
  refine KR.run 2 [(0, .agg #[.int .i64 a0c0, .int .i64 a0c1, .int .i64 a0c2, .int .i64 a0c3, .slice a0c4a a0c4n a0c4k, .slice a0c5a a0c5n a0c5k])] 54 (s' := (.reg (opsAt (sub B [0])) [0, 1, 2] :: S0)) (by kernel_rfl) fun J => ?_
  obtain ⟨H_1, q1, h⟩ := h
  refine KR.mk (w := pRow [.int .i64 a0c0, .int .i64 a0c1, .int .i64 a0c2, .int .i64 a0c3, .slice a0c4a a0c4n a0c4k, .slice a0c5a a0c5n a0c5k]) (one_al (by kernel_rfl)) q1 ?_
  refine KR.run 6 [(1, .pointer (some ⟨H.next, 0, none⟩))] 54 (s' := (.reg (opsAt (sub B [1, 0, 0])) [0, 1, 2] :: S2)) (by kernel_rfl) fun J => ?_
  obtain ⟨t7c0, t7c1, t7c2, t7c3, t7c4a, t7c4n, t7c4k, t7c5a, t7c5n, t7c5k, q2, h⟩ := h
  refine KR.rd (one_ldA (by kernel_rfl) q2) ?_
  obtain ⟨t8, H_2, q3, h⟩ := h
  refine KR.se (one_ca (by kernel_rfl) q3) ?_
  refine KR.run 2 [(1, .pointer (some ⟨H.next, 0, none⟩)), (9, .bool (!t8))] 54 (s' := (.code (sub B [1, 0, 1]) :: S1)) (by kernel_rfl) fun J => ?_
  by_cases c4 : t8 = true
  · replace h := iteT c4 h
    refine KR.br false (by kernel_rfl) (vB (nB (bT c4))) ?_
    refine KR.run 2 [(1, .pointer (some ⟨H.next, 0, none⟩))] 54 (s' := (.code (sub B [1, 1, 0]) :: S3)) (by kernel_rfl) fun J => ?_
    refine KE.start (reserve H_2 22) (by kernel_rfl) (by kernel_rfl) ?_
    refine KE.run 1 [(1, .pointer (some ⟨H.next, 0, none⟩)), (10, .pointer (some ⟨H.next, 0, none⟩))] 54 1 (by kernel_rfl) fun J => ?_
    obtain ⟨t11, q5, h⟩ := h
    refine KE.rdF (one_ld (by kernel_rfl) q5) (by kernel_rfl) ?_
    refine KE.run 2 [(1, .pointer (some ⟨H.next, 0, none⟩)), (12, .int .u8 (IntKind.wrap .u8 t11)), (13, .pointer (some ⟨H.next, 1, none⟩))] 54 4 (by kernel_rfl) fun J => ?_
    obtain ⟨t14, q6, h⟩ := h
    refine KE.rdF (one_ld (by kernel_rfl) q6) (by kernel_rfl) ?_
    refine KE.run 1 [(1, .pointer (some ⟨H.next, 0, none⟩)), (12, .int .u8 (IntKind.wrap .u8 t11)), (15, .int .u8 (IntKind.wrap .u8 t14))] 54 6 (by kernel_rfl) fun J => ?_
    refine KE.al (w := sRow 2 1 [.int .u8 (IntKind.wrap .u8 t11), .int .u8 (IntKind.wrap .u8 t14)]) (one_al (by kernel_rfl)) (by kernel_rfl) ?_
    refine KE.run 1 [(1, .pointer (some ⟨H.next, 0, none⟩)), (16, .slice (some ⟨(H_2.next + 6), 0, none⟩) 2 (UNK 1)), (17, .pointer (some ⟨H.next, 2, none⟩))] 54 8 (by kernel_rfl) fun J => ?_
    obtain ⟨t18, q8, h⟩ := h
    refine KE.rdN (one_ld (by kernel_rfl) q8) (by kernel_rfl) ?_
    refine KE.run 1 [(1, .pointer (some ⟨H.next, 0, none⟩)), (16, .slice (some ⟨(H_2.next + 6), 0, none⟩) 2 (UNK 1)), (19, .int .u64 (IntKind.wrap .u64 t18))] 54 10 (by kernel_rfl) fun J => ?_
    obtain ⟨t20a, t20n, t20k, H_4, q9, h⟩ := h
    refine KE.se (one_ca (by kernel_rfl) q9) (by kernel_rfl) ?_
    refine KE.run 1 [(1, .pointer (some ⟨H.next, 0, none⟩)), (16, .slice (some ⟨(H_2.next + 6), 0, none⟩) 2 (UNK 1)), (20, .slice t20a t20n t20k), (21, .pointer (some ⟨H.next, 3, none⟩))] 54 12 (by kernel_rfl) fun J => ?_
    obtain ⟨t22, q10, h⟩ := h
    refine KE.rdF (one_ld (by kernel_rfl) q10) (by kernel_rfl) ?_
    refine KE.run 2 [(1, .pointer (some ⟨H.next, 0, none⟩)), (16, .slice (some ⟨(H_2.next + 6), 0, none⟩) 2 (UNK 1)), (20, .slice t20a t20n t20k), (23, .int .u8 (IntKind.wrap .u8 t22)), (24, .pointer (some ⟨H.next, 4, none⟩))] 54 15 (by kernel_rfl) fun J => ?_
    obtain ⟨t25a, t25n, t25k, q11, h⟩ := h
    refine KE.rdF (one_ld (by kernel_rfl) q11) (by kernel_rfl) ?_
    refine KE.run 2 [(1, .pointer (some ⟨H.next, 0, none⟩)), (16, .slice (some ⟨(H_2.next + 6), 0, none⟩) 2 (UNK 1)), (20, .slice t20a t20n t20k), (23, .int .u8 (IntKind.wrap .u8 t22)), (27, .int .u8 (IntKind.wrap .u8 ((t25n : Nat) : Int)))] 54 18 (by kernel_rfl) fun J => ?_
    refine KE.al (w := sRow 2 1 [.int .u8 (IntKind.wrap .u8 t22), .int .u8 (IntKind.wrap .u8 ((t25n : Nat) : Int))]) (one_al (by kernel_rfl)) (by kernel_rfl) ?_
    obtain ⟨H_6, q13, h⟩ := h
    refine KE.mk (w := sRow 3 1 [.slice (some ⟨(H_2.next + 6), 0, none⟩) 2 (UNK 1), .slice t20a t20n t20k, .slice (some ⟨(H_2.next + 18), 0, none⟩) 2 (UNK 1)]) (one_al (by kernel_rfl)) (by kernel_rfl) (by kernel_rfl) q13 ?_
    obtain ⟨t30a, t30n, t30k, H_7, q14, h⟩ := h
    refine KE.se (one_ca (by kernel_rfl) q14) (by kernel_rfl) ?_
    refine KE.run 1 [(1, .pointer (some ⟨H.next, 0, none⟩)), (4, .slice t30a t30n t30k)] 54 22 (by kernel_rfl) fun J => ?_
    obtain ⟨q15, q16, q17, q18, h⟩ := h
    refine KE.fin (H' := H_7) (by kernel_rfl) (rdsS (rdsS (rdsS (rdsS (rfl) (rd_ok (Hs := [H_4]) (by kernel_rfl) (by kernel_rfl) ⟨one_ld (by kernel_rfl) q15, trivial⟩)) (rd_ok (Hs := [H_4]) (by kernel_rfl) (by kernel_rfl) ⟨one_ld (by kernel_rfl) q16, trivial⟩)) (rd_ok (Hs := [H_4]) (by kernel_rfl) (by kernel_rfl) ⟨one_ld (by kernel_rfl) q17, trivial⟩)) (rd_ok (Hs := [H_4]) (by kernel_rfl) (by kernel_rfl) ⟨one_ld (by kernel_rfl) q18, trivial⟩)) (by kernel_rfl) ?_
    refine KR.run 4 [(1, .pointer (some ⟨H.next, 0, none⟩)), (4, .slice t30a t30n t30k), (31, .pointer (some ⟨H.next, 4, none⟩))] 54 (s' := (.reg (opsAt (sub B [1, 1, 1, 0, 0])) [1, 2, 3] :: S5)) (by kernel_rfl) fun J => ?_
    obtain ⟨t32a, t32n, t32k, q19, h⟩ := h
    refine KR.rd (one_ld (by kernel_rfl) q19) ?_
    exact KR.run 5 [(1, .pointer (some ⟨H.next, 0, none⟩)), (4, .slice t30a t30n t30k), (32, .slice t32a t32n t32k), (33, .int .i64 ((t32n : Nat) : Int)), (34, .int .i64 0)] 54 (s' := (.lp (sub B [1, 1, 1, 0, 1, 0, 0]) :: S6)) (by kernel_rfl) h
  · replace h := iteF c4 h
    refine KR.br true (by kernel_rfl) (vB (nB (bF c4))) ?_
    refine KR.run 5 [(2, .slice none 0 0), (3, .int .i64 1)] 54 (s' := (.code (sub B [1, 0, 1, 0, 1]) :: S1)) (by kernel_rfl) fun J => ?_
    exact KR.fin (by kernel_rfl) h
end F45
/-! #### 46 campanile/campanileref18.Up -/
namespace F46
noncomputable def B : Code := bodyOf Try.f46
noncomputable def S0 : List It := (.code (sub B [1]) :: [])
noncomputable def S1 : List It := (.code (sub B [1, 1]) :: [])
noncomputable def S4 : List It := (.code (sub B [1, 1, 1]) :: [])
noncomputable def S7 : List It := (.code (sub B [1, 1, 1, 1]) :: [])
noncomputable def S8 : List It := (.code (sub B [1, 1, 1, 1, 1]) :: [])
noncomputable def S9 : List It := (.code (sub B [1, 1, 1, 1, 1, 1]) :: [])
noncomputable def S13 : List It := (.code (sub B [1, 1, 1, 1, 1, 1, 1]) :: [])
noncomputable def S14 : List It := (.code (sub B [1, 1, 1, 1, 1, 1, 1, 1]) :: [])
noncomputable def S2 : List It := (.code (sub B [1, 0, 1]) :: S1)
noncomputable def S3 : List It := (.code (sub B [1, 0, 1, 0, 1]) :: S1)
noncomputable def S5 : List It := (.code (sub B [1, 1, 0, 1]) :: S4)
noncomputable def S6 : List It := (.code (sub B [1, 1, 0, 1, 0, 1]) :: S4)
noncomputable def S10 : List It := (.code (sub B [1, 1, 1, 1, 1, 0, 1]) :: S9)
noncomputable def S11 : List It := (.code (sub B [1, 1, 1, 1, 1, 0, 1, 0, 1]) :: S9)
noncomputable def S15 : List It := (.reg (opsAt (sub B [1, 1, 1, 1, 1, 1, 0])) [0, 1, 2, 3, 4, 5, 6, 7] :: S13)
noncomputable def S12 : List It := (.code (sub B [1, 1, 1, 1, 1, 0, 1, 0, 0, 1, 0, 1]) :: S11)
def L0 (t1 : Int) (t2b : Nat) (t2o : Nat) (t4b : Nat) (t4o : Nat) (t14 : Bool) (H : Heap) (r : Value × Heap) : Prop := ∀ J, KR Try.prog good Try.f46 S2 (mat J 46 [(1, .int .i64 t1), (2, .pointer (some ⟨t2b, t2o, none⟩)), (4, .pointer (some ⟨t4b, t4o, none⟩)), (14, .bool t14)]) H r
def L1 (t2b : Nat) (t2o : Nat) (t4b : Nat) (t4o : Nat) (t6a : Option Addr) (t6n : Nat) (t6k : Nat) (H : Heap) (r : Value × Heap) : Prop := ∀ J, KR Try.prog good Try.f46 S15 (mat J 46 [(2, .pointer (some ⟨t2b, t2o, none⟩)), (4, .pointer (some ⟨t4b, t4o, none⟩)), (6, .slice t6a t6n t6k)]) H r
theorem L0_step {t1 : Int} {t2b : Nat} {t2o : Nat} {t4b : Nat} {t4o : Nat} {t14 : Bool} {H : Heap} {r : Value × Heap} (h :
    if t14 = true then
    (∃ (H_1 : Heap), stc H t4b t4o [.int .i64 0, .int .i64 0, .int .i64 0, .int .i64 0, .slice none 0 0, .slice none 0 0] = some H_1 ∧
    (∃ (r4c0 : Int) (r4c1 : Int) (r4c2 : Int) (r4c3 : Int) (r4c4a : Option Addr) (r4c4n : Nat) (r4c4k : Nat) (r4c5a : Option Addr) (r4c5n : Nat) (r4c5k : Nat), ldAll H_1 t4b t4o [.int .i64 r4c0, .int .i64 r4c1, .int .i64 r4c2, .int .i64 r4c3, .slice r4c4a r4c4n r4c4k, .slice r4c5a r4c5n r4c5k] ∧
    (r = (.tuple #[.agg #[.int .i64 r4c0, .int .i64 r4c1, .int .i64 r4c2, .int .i64 r4c3, .slice r4c4a r4c4n r4c4k, .slice r4c5a r4c5n r4c5k], .int .i64 1], H_1))))
    else
    (∃ (t17 : Int), ldc H t2b (t2o + 3) = some (.int .i64 t17) ∧
    (if t17 = 0 then
    (∃ (H_2 : Heap), stc H t4b t4o [.int .i64 0, .int .i64 0, .int .i64 0, .int .i64 0, .slice none 0 0, .slice none 0 0] = some H_2 ∧
    (∃ (r4c0_1 : Int) (r4c1_1 : Int) (r4c2_1 : Int) (r4c3_1 : Int) (r4c4a_1 : Option Addr) (r4c4n_1 : Nat) (r4c4k_1 : Nat) (r4c5a_1 : Option Addr) (r4c5n_1 : Nat) (r4c5k_1 : Nat), ldAll H_2 t4b t4o [.int .i64 r4c0_1, .int .i64 r4c1_1, .int .i64 r4c2_1, .int .i64 r4c3_1, .slice r4c4a_1 r4c4n_1 r4c4k_1, .slice r4c5a_1 r4c5n_1 r4c5k_1] ∧
    (r = (.tuple #[.agg #[.int .i64 r4c0_1, .int .i64 r4c1_1, .int .i64 r4c2_1, .int .i64 r4c3_1, .slice r4c4a_1 r4c4n_1 r4c4k_1, .slice r4c5a_1 r4c5n_1 r4c5k_1], .int .i64 11], H_2))))
    else
    (∃ (t21 : Int), ldc H t2b (t2o + 3) = some (.int .i64 t21) ∧
    (∃ (H_3 : Heap), stc H t2b (t2o + 3) [.int .i64 (IntKind.wrap .i64 (t21 - 1))] = some H_3 ∧
    (∃ (t25a : Option Addr) (t25n : Nat) (t25k : Nat), ldc H_3 t2b (t2o + 4) = some (.slice t25a t25n t25k) ∧
    (∃ (t26a : Option Addr) (t26n : Nat) (t26k : Nat) (H_4 : Heap), papp H_3 1 8 none 0 0 t25a t25n t25k = some ((t26a, t26n, t26k), H_4) ∧
    (∃ (t29 : Int) (H_5 : Heap), xC Try.prog good 23 [.slice t26a t26n t26k, .int .i64 t1] H_4 = some (.int .i64 t29, H_5) ∧
    (if t29 < 0 then
    (if ((t26n : Nat) : Int) ≥ 16 then
    (∃ (H_6 : Heap), stc H_5 t4b t4o [.int .i64 0, .int .i64 0, .int .i64 0, .int .i64 0, .slice none 0 0, .slice none 0 0] = some H_6 ∧
    (∃ (r4c0_2 : Int) (r4c1_2 : Int) (r4c2_2 : Int) (r4c3_2 : Int) (r4c4a_2 : Option Addr) (r4c4n_2 : Nat) (r4c4k_2 : Nat) (r4c5a_2 : Option Addr) (r4c5n_2 : Nat) (r4c5k_2 : Nat), ldAll H_6 t4b t4o [.int .i64 r4c0_2, .int .i64 r4c1_2, .int .i64 r4c2_2, .int .i64 r4c3_2, .slice r4c4a_2 r4c4n_2 r4c4k_2, .slice r4c5a_2 r4c5n_2 r4c5k_2] ∧
    (r = (.tuple #[.agg #[.int .i64 r4c0_2, .int .i64 r4c1_2, .int .i64 r4c2_2, .int .i64 r4c3_2, .slice r4c4a_2 r4c4n_2 r4c4k_2, .slice r4c5a_2 r4c5n_2 r4c5k_2], .int .i64 5], H_6))))
    else
    (∃ (H_7 : Heap), H_7 = H_5.push (.row [.int .i64 t1] true) ∧
    (∃ (t38a : Option Addr) (t38n : Nat) (t38k : Nat) (H_8 : Heap), papp H_7 1 8 t26a t26n t26k (some ⟨H_5.next, 0, none⟩) 1 (UNK 1) = some ((t38a, t38n, t38k), H_8) ∧
    (L1 (t2b) (t2o) (t4b) (t4o) (t38a) (t38n) (t38k) H_8 r))))
    else
    (L1 (t2b) (t2o) (t4b) (t4o) (t26a) (t26n) (t26k) H_5 r)))))))))) :
    L0 t1 t2b t2o t4b t4o t14 H r := by
  intro J
  show KR _ _ _ (.code (sub B [1, 0, 1]) :: S1) _ _ _
  by_cases c7 : t14 = true
  · replace h := iteT c7 h
    refine KR.br true (by kernel_rfl) (vB (bT c7)) ?_
    refine KR.run 3 [(4, .pointer (some ⟨t4b, t4o, none⟩)), (15, .agg #[.int .i64 0, .int .i64 0, .int .i64 0, .int .i64 0, .slice none 0 0, .slice none 0 0])] 46 (s' := (.reg (opsAt (sub B [1, 0, 1, 0, 0])) [1, 2] :: S3)) (by kernel_rfl) fun J => ?_
    obtain ⟨H_1, q8, h⟩ := h
    refine KR.se (one_st (by kernel_rfl) q8) ?_
    refine KR.run 2 [(4, .pointer (some ⟨t4b, t4o, none⟩)), (5, .int .i64 1)] 46 (s' := (.code (sub B [1, 0, 1, 0, 1]) :: S1)) (by kernel_rfl) fun J => ?_
    obtain ⟨r4c0, r4c1, r4c2, r4c3, r4c4a, r4c4n, r4c4k, r4c5a, r4c5n, r4c5k, q9, h⟩ := h
    exact KR.finR (l := [.cell 4 41, .tmp 5]) (vs := [.agg #[.int .i64 r4c0, .int .i64 r4c1, .int .i64 r4c2, .int .i64 r4c3, .slice r4c4a r4c4n r4c4k, .slice r4c5a r4c5n r4c5k], .int .i64 1]) (by kernel_rfl) (Res.cellA (by kernel_rfl) q9 (Res.tmp (by kernel_rfl) Res.nil)) (by kernel_rfl) h
  · replace h := iteF c7 h
    refine KR.br false (by kernel_rfl) (vB (bF c7)) ?_
    refine KR.run 5 [(1, .int .i64 t1), (2, .pointer (some ⟨t2b, t2o, none⟩)), (4, .pointer (some ⟨t4b, t4o, none⟩)), (16, .pointer (some ⟨t2b, (t2o + 3), none⟩))] 46 (s' := (.reg (opsAt (sub B [1, 1, 0, 0])) [1, 2] :: S5)) (by kernel_rfl) fun J => ?_
    obtain ⟨t17, q10, h⟩ := h
    refine KR.rd (one_ld (by kernel_rfl) q10) ?_
    refine KR.run 2 [(1, .int .i64 t1), (2, .pointer (some ⟨t2b, t2o, none⟩)), (4, .pointer (some ⟨t4b, t4o, none⟩)), (18, .bool (t17 == 0))] 46 (s' := (.code (sub B [1, 1, 0, 1]) :: S4)) (by kernel_rfl) fun J => ?_
    by_cases c11 : t17 = 0
    · replace h := iteT c11 h
      refine KR.br true (by kernel_rfl) (vB (eT c11)) ?_
      refine KR.run 3 [(4, .pointer (some ⟨t4b, t4o, none⟩)), (19, .agg #[.int .i64 0, .int .i64 0, .int .i64 0, .int .i64 0, .slice none 0 0, .slice none 0 0])] 46 (s' := (.reg (opsAt (sub B [1, 1, 0, 1, 0, 0])) [1, 2] :: S6)) (by kernel_rfl) fun J => ?_
      obtain ⟨H_2, q12, h⟩ := h
      refine KR.se (one_st (by kernel_rfl) q12) ?_
      refine KR.run 2 [(4, .pointer (some ⟨t4b, t4o, none⟩)), (5, .int .i64 11)] 46 (s' := (.code (sub B [1, 1, 0, 1, 0, 1]) :: S4)) (by kernel_rfl) fun J => ?_
      obtain ⟨r4c0_1, r4c1_1, r4c2_1, r4c3_1, r4c4a_1, r4c4n_1, r4c4k_1, r4c5a_1, r4c5n_1, r4c5k_1, q13, h⟩ := h
      exact KR.finR (l := [.cell 4 41, .tmp 5]) (vs := [.agg #[.int .i64 r4c0_1, .int .i64 r4c1_1, .int .i64 r4c2_1, .int .i64 r4c3_1, .slice r4c4a_1 r4c4n_1 r4c4k_1, .slice r4c5a_1 r4c5n_1 r4c5k_1], .int .i64 11]) (by kernel_rfl) (Res.cellA (by kernel_rfl) q13 (Res.tmp (by kernel_rfl) Res.nil)) (by kernel_rfl) h
    · replace h := iteF c11 h
      refine KR.br false (by kernel_rfl) (vB (eF c11)) ?_
      refine KR.run 4 [(1, .int .i64 t1), (2, .pointer (some ⟨t2b, t2o, none⟩)), (4, .pointer (some ⟨t4b, t4o, none⟩)), (20, .pointer (some ⟨t2b, (t2o + 3), none⟩))] 46 (s' := (.reg (opsAt (sub B [1, 1, 1, 0])) [1, 2, 3, 4] :: S7)) (by kernel_rfl) fun J => ?_
      obtain ⟨t21, q14, h⟩ := h
      refine KR.rd (one_ld (by kernel_rfl) q14) ?_
      refine KR.run 2 [(1, .int .i64 t1), (2, .pointer (some ⟨t2b, t2o, none⟩)), (4, .pointer (some ⟨t4b, t4o, none⟩)), (22, .int .i64 (IntKind.wrap .i64 (t21 - 1))), (23, .pointer (some ⟨t2b, (t2o + 3), none⟩))] 46 (s' := (.reg (opsAt (sub B [1, 1, 1, 0])) [4] :: S7)) (by kernel_rfl) fun J => ?_
      obtain ⟨H_3, q15, h⟩ := h
      refine KR.se (one_st (by kernel_rfl) q15) ?_
      refine KR.run 4 [(1, .int .i64 t1), (2, .pointer (some ⟨t2b, t2o, none⟩)), (4, .pointer (some ⟨t4b, t4o, none⟩)), (24, .pointer (some ⟨t2b, (t2o + 4), none⟩))] 46 (s' := (.reg (opsAt (sub B [1, 1, 1, 1, 0])) [1, 2, 3] :: S8)) (by kernel_rfl) fun J => ?_
      obtain ⟨t25a, t25n, t25k, q16, h⟩ := h
      refine KR.rd (one_ld (by kernel_rfl) q16) ?_
      obtain ⟨t26a, t26n, t26k, H_4, q17, h⟩ := h
      refine KR.se (one_ap 1 8 (by kernel_rfl) q17) ?_
      refine KR.run 7 [(1, .int .i64 t1), (2, .pointer (some ⟨t2b, t2o, none⟩)), (4, .pointer (some ⟨t4b, t4o, none⟩)), (6, .slice t26a t26n t26k), (27, .slice t26a t26n t26k), (28, .int .i64 t1)] 46 (s' := (.reg (opsAt (sub B [1, 1, 1, 1, 1, 0, 0])) [2, 3] :: S10)) (by kernel_rfl) fun J => ?_
      obtain ⟨t29, H_5, q18, h⟩ := h
      refine KR.se (one_ca (by kernel_rfl) q18) ?_
      refine KR.run 2 [(1, .int .i64 t1), (2, .pointer (some ⟨t2b, t2o, none⟩)), (4, .pointer (some ⟨t4b, t4o, none⟩)), (6, .slice t26a t26n t26k), (30, .bool (decide (t29 < 0)))] 46 (s' := (.code (sub B [1, 1, 1, 1, 1, 0, 1]) :: S9)) (by kernel_rfl) fun J => ?_
      by_cases c19 : t29 < 0
      · replace h := iteT c19 h
        refine KR.br true (by kernel_rfl) (vB (dT c19)) ?_
        refine KR.run 7 [(1, .int .i64 t1), (2, .pointer (some ⟨t2b, t2o, none⟩)), (4, .pointer (some ⟨t4b, t4o, none⟩)), (6, .slice t26a t26n t26k), (33, .bool (decide (((t26n : Nat) : Int) ≥ 16)))] 46 (s' := (.code (sub B [1, 1, 1, 1, 1, 0, 1, 0, 0, 1]) :: S11)) (by kernel_rfl) fun J => ?_
        by_cases c20 : ((t26n : Nat) : Int) ≥ 16
        · replace h := iteT c20 h
          refine KR.br true (by kernel_rfl) (vB (dT c20)) ?_
          refine KR.run 3 [(4, .pointer (some ⟨t4b, t4o, none⟩)), (34, .agg #[.int .i64 0, .int .i64 0, .int .i64 0, .int .i64 0, .slice none 0 0, .slice none 0 0])] 46 (s' := (.reg (opsAt (sub B [1, 1, 1, 1, 1, 0, 1, 0, 0, 1, 0, 0])) [1, 2] :: S12)) (by kernel_rfl) fun J => ?_
          obtain ⟨H_6, q21, h⟩ := h
          refine KR.se (one_st (by kernel_rfl) q21) ?_
          refine KR.run 2 [(4, .pointer (some ⟨t4b, t4o, none⟩)), (5, .int .i64 5)] 46 (s' := (.code (sub B [1, 1, 1, 1, 1, 0, 1, 0, 0, 1, 0, 1]) :: S11)) (by kernel_rfl) fun J => ?_
          obtain ⟨r4c0_2, r4c1_2, r4c2_2, r4c3_2, r4c4a_2, r4c4n_2, r4c4k_2, r4c5a_2, r4c5n_2, r4c5k_2, q22, h⟩ := h
          exact KR.finR (l := [.cell 4 41, .tmp 5]) (vs := [.agg #[.int .i64 r4c0_2, .int .i64 r4c1_2, .int .i64 r4c2_2, .int .i64 r4c3_2, .slice r4c4a_2 r4c4n_2 r4c4k_2, .slice r4c5a_2 r4c5n_2 r4c5k_2], .int .i64 5]) (by kernel_rfl) (Res.cellA (by kernel_rfl) q22 (Res.tmp (by kernel_rfl) Res.nil)) (by kernel_rfl) h
        · replace h := iteF c20 h
          refine KR.br false (by kernel_rfl) (vB (dF c20)) ?_
          refine KR.run 4 [(2, .pointer (some ⟨t2b, t2o, none⟩)), (4, .pointer (some ⟨t4b, t4o, none⟩)), (35, .slice t26a t26n t26k), (36, .int .i64 t1)] 46 (s' := (.reg (opsAt (sub B [1, 1, 1, 1, 1, 0, 1, 0, 1])) [2, 3, 4] :: S9)) (by kernel_rfl) fun J => ?_
          obtain ⟨H_7, q23, h⟩ := h
          refine KR.mk (w := sRow 1 1 [.int .i64 t1]) (one_al (by kernel_rfl)) q23 ?_
          obtain ⟨t38a, t38n, t38k, H_8, q24, h⟩ := h
          refine KR.se (one_ap 1 8 (by kernel_rfl) q24) ?_
          exact KR.run 4 [(2, .pointer (some ⟨t2b, t2o, none⟩)), (4, .pointer (some ⟨t4b, t4o, none⟩)), (6, .slice t38a t38n t38k)] 46 (s' := (.reg (opsAt (sub B [1, 1, 1, 1, 1, 1, 0])) [0, 1, 2, 3, 4, 5, 6, 7] :: S13)) (by kernel_rfl) h
      · replace h := iteF c19 h
        refine KR.br false (by kernel_rfl) (vB (dF c19)) ?_
        exact KR.run 3 [(2, .pointer (some ⟨t2b, t2o, none⟩)), (4, .pointer (some ⟨t4b, t4o, none⟩)), (6, .slice t26a t26n t26k)] 46 (s' := (.reg (opsAt (sub B [1, 1, 1, 1, 1, 1, 0])) [0, 1, 2, 3, 4, 5, 6, 7] :: S13)) (by kernel_rfl) h
theorem L1_step {t2b : Nat} {t2o : Nat} {t4b : Nat} {t4o : Nat} {t6a : Option Addr} {t6n : Nat} {t6k : Nat} {H : Heap} {r : Value × Heap} (h :
    ∃ (t41a : Option Addr) (t41n : Nat) (t41k : Nat), ldc H t2b (t2o + 5) = some (.slice t41a t41n t41k) ∧
    (∃ (t42a : Option Addr) (t42n : Nat) (t42k : Nat) (H_1 : Heap), papp H 1 1 none 0 0 t41a t41n t41k = some ((t42a, t42n, t42k), H_1) ∧
    (∃ (H_2 : Heap), stc H_1 t2b (t2o + 4) [.slice t6a t6n t6k] = some H_2 ∧
    (∃ (H_3 : Heap), stc H_2 t2b (t2o + 5) [.slice t42a t42n t42k] = some H_3 ∧
    (∃ (t45c0 : Int) (t45c1 : Int) (t45c2 : Int) (t45c3 : Int) (t45c4a : Option Addr) (t45c4n : Nat) (t45c4k : Nat) (t45c5a : Option Addr) (t45c5n : Nat) (t45c5k : Nat), ldAll H_3 t2b t2o [.int .i64 t45c0, .int .i64 t45c1, .int .i64 t45c2, .int .i64 t45c3, .slice t45c4a t45c4n t45c4k, .slice t45c5a t45c5n t45c5k] ∧
    (∃ (H_4 : Heap), stc H_3 t4b t4o [.int .i64 t45c0, .int .i64 t45c1, .int .i64 t45c2, .int .i64 t45c3, .slice t45c4a t45c4n t45c4k, .slice t45c5a t45c5n t45c5k] = some H_4 ∧
    (∃ (r4c0 : Int) (r4c1 : Int) (r4c2 : Int) (r4c3 : Int) (r4c4a : Option Addr) (r4c4n : Nat) (r4c4k : Nat) (r4c5a : Option Addr) (r4c5n : Nat) (r4c5k : Nat), ldAll H_4 t4b t4o [.int .i64 r4c0, .int .i64 r4c1, .int .i64 r4c2, .int .i64 r4c3, .slice r4c4a r4c4n r4c4k, .slice r4c5a r4c5n r4c5k] ∧
    (r = (.tuple #[.agg #[.int .i64 r4c0, .int .i64 r4c1, .int .i64 r4c2, .int .i64 r4c3, .slice r4c4a r4c4n r4c4k, .slice r4c5a r4c5n r4c5k], .int .i64 0], H_4))))))))) :
    L1 t2b t2o t4b t4o t6a t6n t6k H r := by
  intro J
  show KR _ _ _ (.reg (opsAt (sub B [1, 1, 1, 1, 1, 1, 0])) [0, 1, 2, 3, 4, 5, 6, 7] :: S13) _ _ _
  refine KR.run 2 [(2, .pointer (some ⟨t2b, t2o, none⟩)), (4, .pointer (some ⟨t4b, t4o, none⟩)), (39, .slice t6a t6n t6k), (40, .pointer (some ⟨t2b, (t2o + 5), none⟩))] 46 (s' := (.reg (opsAt (sub B [1, 1, 1, 1, 1, 1, 0])) [2, 3, 4, 5, 6, 7] :: S13)) (by kernel_rfl) fun J => ?_
  obtain ⟨t41a, t41n, t41k, q25, h⟩ := h
  refine KR.rd (one_ld (by kernel_rfl) q25) ?_
  obtain ⟨t42a, t42n, t42k, H_1, q26, h⟩ := h
  refine KR.se (one_ap 1 1 (by kernel_rfl) q26) ?_
  refine KR.run 1 [(2, .pointer (some ⟨t2b, t2o, none⟩)), (4, .pointer (some ⟨t4b, t4o, none⟩)), (39, .slice t6a t6n t6k), (42, .slice t42a t42n t42k), (43, .pointer (some ⟨t2b, (t2o + 4), none⟩))] 46 (s' := (.reg (opsAt (sub B [1, 1, 1, 1, 1, 1, 0])) [5, 6, 7] :: S13)) (by kernel_rfl) fun J => ?_
  obtain ⟨H_2, q27, h⟩ := h
  refine KR.se (one_st (by kernel_rfl) q27) ?_
  refine KR.run 1 [(2, .pointer (some ⟨t2b, t2o, none⟩)), (4, .pointer (some ⟨t4b, t4o, none⟩)), (42, .slice t42a t42n t42k), (44, .pointer (some ⟨t2b, (t2o + 5), none⟩))] 46 (s' := (.reg (opsAt (sub B [1, 1, 1, 1, 1, 1, 0])) [7] :: S13)) (by kernel_rfl) fun J => ?_
  obtain ⟨H_3, q28, h⟩ := h
  refine KR.se (one_st (by kernel_rfl) q28) ?_
  refine KR.run 3 [(2, .pointer (some ⟨t2b, t2o, none⟩)), (4, .pointer (some ⟨t4b, t4o, none⟩))] 46 (s' := (.reg (opsAt (sub B [1, 1, 1, 1, 1, 1, 1, 0])) [0, 1, 2] :: S14)) (by kernel_rfl) fun J => ?_
  obtain ⟨t45c0, t45c1, t45c2, t45c3, t45c4a, t45c4n, t45c4k, t45c5a, t45c5n, t45c5k, q29, h⟩ := h
  refine KR.rd (one_ldA (by kernel_rfl) q29) ?_
  obtain ⟨H_4, q30, h⟩ := h
  refine KR.se (one_st (by kernel_rfl) q30) ?_
  refine KR.run 2 [(4, .pointer (some ⟨t4b, t4o, none⟩)), (5, .int .i64 0)] 46 (s' := (.code (sub B [1, 1, 1, 1, 1, 1, 1, 1]) :: [])) (by kernel_rfl) fun J => ?_
  obtain ⟨r4c0, r4c1, r4c2, r4c3, r4c4a, r4c4n, r4c4k, r4c5a, r4c5n, r4c5k, q31, h⟩ := h
  exact KR.finR (l := [.cell 4 41, .tmp 5]) (vs := [.agg #[.int .i64 r4c0, .int .i64 r4c1, .int .i64 r4c2, .int .i64 r4c3, .slice r4c4a r4c4n r4c4k, .slice r4c5a r4c5n r4c5k], .int .i64 0]) (by kernel_rfl) (Res.cellA (by kernel_rfl) q31 (Res.tmp (by kernel_rfl) Res.nil)) (by kernel_rfl) h
theorem call {a0c0 : Int} {a0c1 : Int} {a0c2 : Int} {a0c3 : Int} {a0c4a : Option Addr} {a0c4n : Nat} {a0c4k : Nat} {a0c5a : Option Addr} {a0c5n : Nat} {a0c5k : Nat} {a1 : Int} {H : Heap} {r : Value × Heap} (h :
    ∃ (H_1 : Heap), H_1 = H.push (.row [.int .i64 a0c0, .int .i64 a0c1, .int .i64 a0c2, .int .i64 a0c3, .slice a0c4a a0c4n a0c4k, .slice a0c5a a0c5n a0c5k] true) ∧
    (∃ (H_2 : Heap), H_2 = H_1.push (.row [.int .i64 0, .int .i64 0, .int .i64 0, .int .i64 0, .slice none 0 0, .slice none 0 0] true) ∧
    (∃ (t7c0 : Int) (t7c1 : Int) (t7c2 : Int) (t7c3 : Int) (t7c4a : Option Addr) (t7c4n : Nat) (t7c4k : Nat) (t7c5a : Option Addr) (t7c5n : Nat) (t7c5k : Nat), ldAll H_2 H.next 0 [.int .i64 t7c0, .int .i64 t7c1, .int .i64 t7c2, .int .i64 t7c3, .slice t7c4a t7c4n t7c4k, .slice t7c5a t7c5n t7c5k] ∧
    (∃ (t8 : Bool) (H_3 : Heap), xC Try.prog good 48 [.agg #[.int .i64 t7c0, .int .i64 t7c1, .int .i64 t7c2, .int .i64 t7c3, .slice t7c4a t7c4n t7c4k, .slice t7c5a t7c5n t7c5k]] H_2 = some (.bool t8, H_3) ∧
    (if t8 = true then
    (∃ (t12 : Bool) (H_4 : Heap), xC Try.prog good 57 [.int .i64 a1] H_3 = some (.bool t12, H_4) ∧
    (L0 (a1) (H.next) (0) (H_1.next) (0) ((!t12)) H_4 r))
    else
    (L0 (a1) (H.next) (0) (H_1.next) (0) (true) H_3 r)))))) :
    xC Try.prog good 46 [.agg #[.int .i64 a0c0, .int .i64 a0c1, .int .i64 a0c2, .int .i64 a0c3, .slice a0c4a a0c4n a0c4k, .slice a0c5a a0c5n a0c5k], .int .i64 a1] H = some r := by
  refine KR.enter (fn := Try.f46) (c := B) (by kernel_rfl) (by kernel_rfl) ?_
  refine KR.run 2 [(0, .agg #[.int .i64 a0c0, .int .i64 a0c1, .int .i64 a0c2, .int .i64 a0c3, .slice a0c4a a0c4n a0c4k, .slice a0c5a a0c5n a0c5k]), (1, .int .i64 a1)] 46 (s' := (.reg (opsAt (sub B [0])) [0, 1, 2] :: S0)) (by kernel_rfl) fun J => ?_
  obtain ⟨H_1, q1, h⟩ := h
  refine KR.mk (w := pRow [.int .i64 a0c0, .int .i64 a0c1, .int .i64 a0c2, .int .i64 a0c3, .slice a0c4a a0c4n a0c4k, .slice a0c5a a0c5n a0c5k]) (one_al (by kernel_rfl)) q1 ?_
  obtain ⟨H_2, q2, h⟩ := h
  refine KR.mk (w := pRow [.int .i64 0, .int .i64 0, .int .i64 0, .int .i64 0, .slice none 0 0, .slice none 0 0]) (one_al (by kernel_rfl)) q2 ?_
  refine KR.run 5 [(1, .int .i64 a1), (2, .pointer (some ⟨H.next, 0, none⟩)), (4, .pointer (some ⟨H_1.next, 0, none⟩))] 46 (s' := (.reg (opsAt (sub B [1, 0, 0])) [0, 1, 2, 3, 4, 5, 6, 7] :: S2)) (by kernel_rfl) fun J => ?_
  obtain ⟨t7c0, t7c1, t7c2, t7c3, t7c4a, t7c4n, t7c4k, t7c5a, t7c5n, t7c5k, q3, h⟩ := h
  refine KR.rd (one_ldA (by kernel_rfl) q3) ?_
  obtain ⟨t8, H_3, q4, h⟩ := h
  refine KR.se (one_ca (by kernel_rfl) q4) ?_
  refine KR.run 2 [(1, .int .i64 a1), (2, .pointer (some ⟨H.next, 0, none⟩)), (4, .pointer (some ⟨H_1.next, 0, none⟩)), (10, .bool (!t8))] 46 (s' := (.reg (opsAt (sub B [1, 0, 0])) [4, 5, 6, 7] :: S2)) (by kernel_rfl) fun J => ?_
  by_cases c5 : t8 = true
  · replace h := iteT c5 h
    refine KR.setV 10 (by kernel_rfl) (nB (bT c5)) ?_
    refine KR.run 1 [(1, .int .i64 a1), (2, .pointer (some ⟨H.next, 0, none⟩)), (4, .pointer (some ⟨H_1.next, 0, none⟩)), (10, .bool false), (11, .int .i64 a1)] 46 (s' := (.reg (opsAt (sub B [1, 0, 0])) [5, 6, 7] :: S2)) (by kernel_rfl) fun J => ?_
    obtain ⟨t12, H_4, q6, h⟩ := h
    refine KR.se (one_ca (by kernel_rfl) q6) ?_
    exact KR.run 3 [(1, .int .i64 a1), (2, .pointer (some ⟨H.next, 0, none⟩)), (4, .pointer (some ⟨H_1.next, 0, none⟩)), (14, .bool (!t12))] 46 (s' := (.code (sub B [1, 0, 1]) :: S1)) (by kernel_rfl) h
  · replace h := iteF c5 h
    refine KR.setV 10 (by kernel_rfl) (nB (bF c5)) ?_
    exact KR.run 5 [(1, .int .i64 a1), (2, .pointer (some ⟨H.next, 0, none⟩)), (4, .pointer (some ⟨H_1.next, 0, none⟩)), (14, .bool true)] 46 (s' := (.code (sub B [1, 0, 1]) :: S1)) (by kernel_rfl) h
end F46
/-! #### 47 campanile/campanileref18.Down -/
namespace F47
noncomputable def B : Code := bodyOf Try.f47
noncomputable def S0 : List It := (.code (sub B [1]) :: [])
noncomputable def S1 : List It := (.code (sub B [1, 1]) :: [])
noncomputable def S4 : List It := (.code (sub B [1, 1, 1]) :: [])
noncomputable def S7 : List It := (.code (sub B [1, 1, 1, 1]) :: [])
noncomputable def S8 : List It := (.code (sub B [1, 1, 1, 1, 1]) :: [])
noncomputable def S11 : List It := (.code (sub B [1, 1, 1, 1, 1, 1]) :: [])
noncomputable def S12 : List It := (.code (sub B [1, 1, 1, 1, 1, 1, 1]) :: [])
noncomputable def S13 : List It := (.code (sub B [1, 1, 1, 1, 1, 1, 1, 1]) :: [])
noncomputable def S2 : List It := (.code (sub B [1, 0, 1]) :: S1)
noncomputable def S3 : List It := (.code (sub B [1, 0, 1, 0, 1]) :: S1)
noncomputable def S5 : List It := (.code (sub B [1, 1, 0, 1]) :: S4)
noncomputable def S6 : List It := (.code (sub B [1, 1, 0, 1, 0, 1]) :: S4)
noncomputable def S9 : List It := (.code (sub B [1, 1, 1, 1, 0, 1]) :: S8)
noncomputable def S10 : List It := (.code (sub B [1, 1, 1, 1, 0, 1, 0, 1]) :: S8)
def L0 (t1 : Int) (t2b : Nat) (t2o : Nat) (t4b : Nat) (t4o : Nat) (t15 : Bool) (H : Heap) (r : Value × Heap) : Prop := ∀ J, KR Try.prog good Try.f47 S2 (mat J 55 [(1, .int .i64 t1), (2, .pointer (some ⟨t2b, t2o, none⟩)), (4, .pointer (some ⟨t4b, t4o, none⟩)), (15, .bool t15)]) H r
def L1 (t2b : Nat) (t2o : Nat) (t4b : Nat) (t4o : Nat) (t7 : Int) (t34 : Bool) (H : Heap) (r : Value × Heap) : Prop := ∀ J, KR Try.prog good Try.f47 S9 (mat J 55 [(2, .pointer (some ⟨t2b, t2o, none⟩)), (4, .pointer (some ⟨t4b, t4o, none⟩)), (7, .int .i64 t7), (34, .bool t34)]) H r
theorem L0_step {t1 : Int} {t2b : Nat} {t2o : Nat} {t4b : Nat} {t4o : Nat} {t15 : Bool} {H : Heap} {r : Value × Heap} (h :
    if t15 = true then
    (∃ (H_1 : Heap), stc H t4b t4o [.int .i64 0, .int .i64 0, .int .i64 0, .int .i64 0, .slice none 0 0, .slice none 0 0] = some H_1 ∧
    (∃ (r4c0 : Int) (r4c1 : Int) (r4c2 : Int) (r4c3 : Int) (r4c4a : Option Addr) (r4c4n : Nat) (r4c4k : Nat) (r4c5a : Option Addr) (r4c5n : Nat) (r4c5k : Nat), ldAll H_1 t4b t4o [.int .i64 r4c0, .int .i64 r4c1, .int .i64 r4c2, .int .i64 r4c3, .slice r4c4a r4c4n r4c4k, .slice r4c5a r4c5n r4c5k] ∧
    (r = (.tuple #[.agg #[.int .i64 r4c0, .int .i64 r4c1, .int .i64 r4c2, .int .i64 r4c3, .slice r4c4a r4c4n r4c4k, .slice r4c5a r4c5n r4c5k], .int .i64 0, .int .i64 1], H_1))))
    else
    (∃ (t18 : Int), ldc H t2b (t2o + 3) = some (.int .i64 t18) ∧
    (if t18 = 0 then
    (∃ (H_2 : Heap), stc H t4b t4o [.int .i64 0, .int .i64 0, .int .i64 0, .int .i64 0, .slice none 0 0, .slice none 0 0] = some H_2 ∧
    (∃ (r4c0_1 : Int) (r4c1_1 : Int) (r4c2_1 : Int) (r4c3_1 : Int) (r4c4a_1 : Option Addr) (r4c4n_1 : Nat) (r4c4k_1 : Nat) (r4c5a_1 : Option Addr) (r4c5n_1 : Nat) (r4c5k_1 : Nat), ldAll H_2 t4b t4o [.int .i64 r4c0_1, .int .i64 r4c1_1, .int .i64 r4c2_1, .int .i64 r4c3_1, .slice r4c4a_1 r4c4n_1 r4c4k_1, .slice r4c5a_1 r4c5n_1 r4c5k_1] ∧
    (r = (.tuple #[.agg #[.int .i64 r4c0_1, .int .i64 r4c1_1, .int .i64 r4c2_1, .int .i64 r4c3_1, .slice r4c4a_1 r4c4n_1 r4c4k_1, .slice r4c5a_1 r4c5n_1 r4c5k_1], .int .i64 0, .int .i64 11], H_2))))
    else
    (∃ (t22a : Option Addr) (t22n : Nat) (t22k : Nat), ldc H t2b (t2o + 4) = some (.slice t22a t22n t22k) ∧
    (∃ (t24 : Int) (H_3 : Heap), xC Try.prog good 23 [.slice t22a t22n t22k, .int .i64 t1] H = some (.int .i64 t24, H_3) ∧
    (if t24 < 0 then
    (L1 (t2b) (t2o) (t4b) (t4o) (t24) (true) H_3 r)
    else
    (∃ (t31a : Option Addr) (t31n : Nat) (t31k : Nat), ldc H_3 t2b (t2o + 4) = some (.slice t31a t31n t31k) ∧
    (L1 (t2b) (t2o) (t4b) (t4o) (t24) ((decide ((IntKind.wrap .i64 (t24 + 1)) ≥ ((t31n : Nat) : Int)))) H_3 r)))))))) :
    L0 t1 t2b t2o t4b t4o t15 H r := by
  intro J
  show KR _ _ _ (.code (sub B [1, 0, 1]) :: S1) _ _ _
  by_cases c7 : t15 = true
  · replace h := iteT c7 h
    refine KR.br true (by kernel_rfl) (vB (bT c7)) ?_
    refine KR.run 3 [(4, .pointer (some ⟨t4b, t4o, none⟩)), (16, .agg #[.int .i64 0, .int .i64 0, .int .i64 0, .int .i64 0, .slice none 0 0, .slice none 0 0])] 55 (s' := (.reg (opsAt (sub B [1, 0, 1, 0, 0])) [1, 2, 3] :: S3)) (by kernel_rfl) fun J => ?_
    obtain ⟨H_1, q8, h⟩ := h
    refine KR.se (one_st (by kernel_rfl) q8) ?_
    refine KR.run 3 [(4, .pointer (some ⟨t4b, t4o, none⟩)), (5, .int .i64 0), (6, .int .i64 1)] 55 (s' := (.code (sub B [1, 0, 1, 0, 1]) :: S1)) (by kernel_rfl) fun J => ?_
    obtain ⟨r4c0, r4c1, r4c2, r4c3, r4c4a, r4c4n, r4c4k, r4c5a, r4c5n, r4c5k, q9, h⟩ := h
    exact KR.finR (l := [.cell 4 41, .tmp 5, .tmp 6]) (vs := [.agg #[.int .i64 r4c0, .int .i64 r4c1, .int .i64 r4c2, .int .i64 r4c3, .slice r4c4a r4c4n r4c4k, .slice r4c5a r4c5n r4c5k], .int .i64 0, .int .i64 1]) (by kernel_rfl) (Res.cellA (by kernel_rfl) q9 (Res.tmp (by kernel_rfl) (Res.tmp (by kernel_rfl) Res.nil))) (by kernel_rfl) h
  · replace h := iteF c7 h
    refine KR.br false (by kernel_rfl) (vB (bF c7)) ?_
    refine KR.run 5 [(1, .int .i64 t1), (2, .pointer (some ⟨t2b, t2o, none⟩)), (4, .pointer (some ⟨t4b, t4o, none⟩)), (17, .pointer (some ⟨t2b, (t2o + 3), none⟩))] 55 (s' := (.reg (opsAt (sub B [1, 1, 0, 0])) [1, 2] :: S5)) (by kernel_rfl) fun J => ?_
    obtain ⟨t18, q10, h⟩ := h
    refine KR.rd (one_ld (by kernel_rfl) q10) ?_
    refine KR.run 2 [(1, .int .i64 t1), (2, .pointer (some ⟨t2b, t2o, none⟩)), (4, .pointer (some ⟨t4b, t4o, none⟩)), (19, .bool (t18 == 0))] 55 (s' := (.code (sub B [1, 1, 0, 1]) :: S4)) (by kernel_rfl) fun J => ?_
    by_cases c11 : t18 = 0
    · replace h := iteT c11 h
      refine KR.br true (by kernel_rfl) (vB (eT c11)) ?_
      refine KR.run 3 [(4, .pointer (some ⟨t4b, t4o, none⟩)), (20, .agg #[.int .i64 0, .int .i64 0, .int .i64 0, .int .i64 0, .slice none 0 0, .slice none 0 0])] 55 (s' := (.reg (opsAt (sub B [1, 1, 0, 1, 0, 0])) [1, 2, 3] :: S6)) (by kernel_rfl) fun J => ?_
      obtain ⟨H_2, q12, h⟩ := h
      refine KR.se (one_st (by kernel_rfl) q12) ?_
      refine KR.run 3 [(4, .pointer (some ⟨t4b, t4o, none⟩)), (5, .int .i64 0), (6, .int .i64 11)] 55 (s' := (.code (sub B [1, 1, 0, 1, 0, 1]) :: S4)) (by kernel_rfl) fun J => ?_
      obtain ⟨r4c0_1, r4c1_1, r4c2_1, r4c3_1, r4c4a_1, r4c4n_1, r4c4k_1, r4c5a_1, r4c5n_1, r4c5k_1, q13, h⟩ := h
      exact KR.finR (l := [.cell 4 41, .tmp 5, .tmp 6]) (vs := [.agg #[.int .i64 r4c0_1, .int .i64 r4c1_1, .int .i64 r4c2_1, .int .i64 r4c3_1, .slice r4c4a_1 r4c4n_1 r4c4k_1, .slice r4c5a_1 r4c5n_1 r4c5k_1], .int .i64 0, .int .i64 11]) (by kernel_rfl) (Res.cellA (by kernel_rfl) q13 (Res.tmp (by kernel_rfl) (Res.tmp (by kernel_rfl) Res.nil))) (by kernel_rfl) h
    · replace h := iteF c11 h
      refine KR.br false (by kernel_rfl) (vB (eF c11)) ?_
      refine KR.run 4 [(1, .int .i64 t1), (2, .pointer (some ⟨t2b, t2o, none⟩)), (4, .pointer (some ⟨t4b, t4o, none⟩)), (21, .pointer (some ⟨t2b, (t2o + 4), none⟩))] 55 (s' := (.reg (opsAt (sub B [1, 1, 1, 0])) [1, 2, 3, 4] :: S7)) (by kernel_rfl) fun J => ?_
      obtain ⟨t22a, t22n, t22k, q14, h⟩ := h
      refine KR.rd (one_ld (by kernel_rfl) q14) ?_
      refine KR.run 1 [(2, .pointer (some ⟨t2b, t2o, none⟩)), (4, .pointer (some ⟨t4b, t4o, none⟩)), (22, .slice t22a t22n t22k), (23, .int .i64 t1)] 55 (s' := (.reg (opsAt (sub B [1, 1, 1, 0])) [3, 4] :: S7)) (by kernel_rfl) fun J => ?_
      obtain ⟨t24, H_3, q15, h⟩ := h
      refine KR.se (one_ca (by kernel_rfl) q15) ?_
      refine KR.run 8 [(2, .pointer (some ⟨t2b, t2o, none⟩)), (4, .pointer (some ⟨t4b, t4o, none⟩)), (7, .int .i64 t24), (27, .bool (decide (t24 < 0)))] 55 (s' := (.reg (opsAt (sub B [1, 1, 1, 1, 0, 0])) [3, 4, 5, 6, 7, 8, 9] :: S9)) (by kernel_rfl) fun J => ?_
      by_cases c16 : t24 < 0
      · replace h := iteT c16 h
        refine KR.setV 27 (by kernel_rfl) (dT c16) ?_
        exact KR.run 8 [(2, .pointer (some ⟨t2b, t2o, none⟩)), (4, .pointer (some ⟨t4b, t4o, none⟩)), (7, .int .i64 t24), (34, .bool true)] 55 (s' := (.code (sub B [1, 1, 1, 1, 0, 1]) :: S8)) (by kernel_rfl) h
      · replace h := iteF c16 h
        refine KR.setV 27 (by kernel_rfl) (dF c16) ?_
        refine KR.run 3 [(2, .pointer (some ⟨t2b, t2o, none⟩)), (4, .pointer (some ⟨t4b, t4o, none⟩)), (7, .int .i64 t24), (27, .bool false), (29, .int .i64 (IntKind.wrap .i64 (t24 + 1))), (30, .pointer (some ⟨t2b, (t2o + 4), none⟩))] 55 (s' := (.reg (opsAt (sub B [1, 1, 1, 1, 0, 0])) [6, 7, 8, 9] :: S9)) (by kernel_rfl) fun J => ?_
        obtain ⟨t31a, t31n, t31k, q17, h⟩ := h
        refine KR.rd (one_ld (by kernel_rfl) q17) ?_
        exact KR.run 4 [(2, .pointer (some ⟨t2b, t2o, none⟩)), (4, .pointer (some ⟨t4b, t4o, none⟩)), (7, .int .i64 t24), (34, .bool (decide ((IntKind.wrap .i64 (t24 + 1)) ≥ ((t31n : Nat) : Int))))] 55 (s' := (.code (sub B [1, 1, 1, 1, 0, 1]) :: S8)) (by kernel_rfl) h
theorem L1_step {t2b : Nat} {t2o : Nat} {t4b : Nat} {t4o : Nat} {t7 : Int} {t34 : Bool} {H : Heap} {r : Value × Heap} (h :
    if t34 = true then
    (∃ (H_1 : Heap), stc H t4b t4o [.int .i64 0, .int .i64 0, .int .i64 0, .int .i64 0, .slice none 0 0, .slice none 0 0] = some H_1 ∧
    (∃ (r4c0 : Int) (r4c1 : Int) (r4c2 : Int) (r4c3 : Int) (r4c4a : Option Addr) (r4c4n : Nat) (r4c4k : Nat) (r4c5a : Option Addr) (r4c5n : Nat) (r4c5k : Nat), ldAll H_1 t4b t4o [.int .i64 r4c0, .int .i64 r4c1, .int .i64 r4c2, .int .i64 r4c3, .slice r4c4a r4c4n r4c4k, .slice r4c5a r4c5n r4c5k] ∧
    (r = (.tuple #[.agg #[.int .i64 r4c0, .int .i64 r4c1, .int .i64 r4c2, .int .i64 r4c3, .slice r4c4a r4c4n r4c4k, .slice r4c5a r4c5n r4c5k], .int .i64 0, .int .i64 6], H_1))))
    else
    (∃ (t37 : Int), ldc H t2b (t2o + 3) = some (.int .i64 t37) ∧
    (∃ (H_2 : Heap), stc H t2b (t2o + 3) [.int .i64 (IntKind.wrap .i64 (t37 - 1))] = some H_2 ∧
    (∃ (t41a : Option Addr) (t41n : Nat) (t41k : Nat), ldc H_2 t2b (t2o + 4) = some (.slice t41a t41n t41k) ∧
    (∃ (t42a : Option Addr) (t42n : Nat) (t42k : Nat) (H_3 : Heap), papp H_2 1 8 none 0 0 t41a t41n t41k = some ((t42a, t42n, t42k), H_3) ∧
    (∃ (t44a : Option Addr) (t44n : Nat) (t44k : Nat), ldc H_2 t2b (t2o + 5) = some (.slice t44a t44n t44k) ∧
    (∃ (t45a : Option Addr) (t45n : Nat) (t45k : Nat) (H_4 : Heap), papp H_3 1 1 none 0 0 t44a t44n t44k = some ((t45a, t45n, t45k), H_4) ∧
    (∃ (H_5 : Heap), stc H_4 t2b (t2o + 4) [.slice t42a t42n t42k] = some H_5 ∧
    (∃ (H_6 : Heap), stc H_5 t2b (t2o + 5) [.slice t45a t45n t45k] = some H_6 ∧
    (ldc H_3 t2b (t2o + 5) = some (.slice t44a t44n t44k) ∧
    (∃ (t48c0 : Int) (t48c1 : Int) (t48c2 : Int) (t48c3 : Int) (t48c4a : Option Addr) (t48c4n : Nat) (t48c4k : Nat) (t48c5a : Option Addr) (t48c5n : Nat) (t48c5k : Nat), ldAll H_6 t2b t2o [.int .i64 t48c0, .int .i64 t48c1, .int .i64 t48c2, .int .i64 t48c3, .slice t48c4a t48c4n t48c4k, .slice t48c5a t48c5n t48c5k] ∧
    (∃ (t50a : Option Addr) (t50n : Nat) (t50k : Nat), ldc H_6 t2b (t2o + 4) = some (.slice t50a t50n t50k) ∧
    (∃ (t50ab t50ao : Nat), t50a = some ⟨t50ab, t50ao, none⟩ ∧
    ((0 : Int) ≤ (IntKind.wrap .i64 (t7 + 1)) ∧ (IntKind.wrap .i64 (t7 + 1)) < ((t50n : Nat) : Int) ∧
    (∃ (t54 : Int), ldc H_6 t50ab (t50ao + Int.toNat (IntKind.wrap .i64 (t7 + 1)) * 1) = some (.int .i64 t54) ∧
    (∃ (H_7 : Heap), stc H_6 t4b t4o [.int .i64 t48c0, .int .i64 t48c1, .int .i64 t48c2, .int .i64 t48c3, .slice t48c4a t48c4n t48c4k, .slice t48c5a t48c5n t48c5k] = some H_7 ∧
    (ldc H_7 t2b (t2o + 4) = some (.slice t50a t50n t50k) ∧
    ldc H_7 t50ab (t50ao + Int.toNat (IntKind.wrap .i64 (t7 + 1)) * 1) = some (.int .i64 t54) ∧
    (∃ (r4c0_1 : Int) (r4c1_1 : Int) (r4c2_1 : Int) (r4c3_1 : Int) (r4c4a_1 : Option Addr) (r4c4n_1 : Nat) (r4c4k_1 : Nat) (r4c5a_1 : Option Addr) (r4c5n_1 : Nat) (r4c5k_1 : Nat), ldAll H_7 t4b t4o [.int .i64 r4c0_1, .int .i64 r4c1_1, .int .i64 r4c2_1, .int .i64 r4c3_1, .slice r4c4a_1 r4c4n_1 r4c4k_1, .slice r4c5a_1 r4c5n_1 r4c5k_1] ∧
    (r = (.tuple #[.agg #[.int .i64 r4c0_1, .int .i64 r4c1_1, .int .i64 r4c2_1, .int .i64 r4c3_1, .slice r4c4a_1 r4c4n_1 r4c4k_1, .slice r4c5a_1 r4c5n_1 r4c5k_1], .int .i64 t54, .int .i64 0], H_7)))))))))))))))))))) :
    L1 t2b t2o t4b t4o t7 t34 H r := by
  intro J
  show KR _ _ _ (.code (sub B [1, 1, 1, 1, 0, 1]) :: S8) _ _ _
  by_cases c18 : t34 = true
  · replace h := iteT c18 h
    refine KR.br true (by kernel_rfl) (vB (bT c18)) ?_
    refine KR.run 3 [(4, .pointer (some ⟨t4b, t4o, none⟩)), (35, .agg #[.int .i64 0, .int .i64 0, .int .i64 0, .int .i64 0, .slice none 0 0, .slice none 0 0])] 55 (s' := (.reg (opsAt (sub B [1, 1, 1, 1, 0, 1, 0, 0])) [1, 2, 3] :: S10)) (by kernel_rfl) fun J => ?_
    obtain ⟨H_1, q19, h⟩ := h
    refine KR.se (one_st (by kernel_rfl) q19) ?_
    refine KR.run 3 [(4, .pointer (some ⟨t4b, t4o, none⟩)), (5, .int .i64 0), (6, .int .i64 6)] 55 (s' := (.code (sub B [1, 1, 1, 1, 0, 1, 0, 1]) :: S8)) (by kernel_rfl) fun J => ?_
    obtain ⟨r4c0, r4c1, r4c2, r4c3, r4c4a, r4c4n, r4c4k, r4c5a, r4c5n, r4c5k, q20, h⟩ := h
    exact KR.finR (l := [.cell 4 41, .tmp 5, .tmp 6]) (vs := [.agg #[.int .i64 r4c0, .int .i64 r4c1, .int .i64 r4c2, .int .i64 r4c3, .slice r4c4a r4c4n r4c4k, .slice r4c5a r4c5n r4c5k], .int .i64 0, .int .i64 6]) (by kernel_rfl) (Res.cellA (by kernel_rfl) q20 (Res.tmp (by kernel_rfl) (Res.tmp (by kernel_rfl) Res.nil))) (by kernel_rfl) h
  · replace h := iteF c18 h
    refine KR.br false (by kernel_rfl) (vB (bF c18)) ?_
    refine KR.run 4 [(2, .pointer (some ⟨t2b, t2o, none⟩)), (4, .pointer (some ⟨t4b, t4o, none⟩)), (7, .int .i64 t7), (36, .pointer (some ⟨t2b, (t2o + 3), none⟩))] 55 (s' := (.reg (opsAt (sub B [1, 1, 1, 1, 1, 0])) [1, 2, 3, 4] :: S11)) (by kernel_rfl) fun J => ?_
    obtain ⟨t37, q21, h⟩ := h
    refine KR.rd (one_ld (by kernel_rfl) q21) ?_
    refine KR.run 2 [(2, .pointer (some ⟨t2b, t2o, none⟩)), (4, .pointer (some ⟨t4b, t4o, none⟩)), (7, .int .i64 t7), (38, .int .i64 (IntKind.wrap .i64 (t37 - 1))), (39, .pointer (some ⟨t2b, (t2o + 3), none⟩))] 55 (s' := (.reg (opsAt (sub B [1, 1, 1, 1, 1, 0])) [4] :: S11)) (by kernel_rfl) fun J => ?_
    obtain ⟨H_2, q22, h⟩ := h
    refine KR.se (one_st (by kernel_rfl) q22) ?_
    refine KR.run 2 [(2, .pointer (some ⟨t2b, t2o, none⟩)), (4, .pointer (some ⟨t4b, t4o, none⟩)), (7, .int .i64 t7)] 55 (s' := (.code (sub B [1, 1, 1, 1, 1, 1, 0]) :: S12)) (by kernel_rfl) fun J => ?_
    refine KE.start H_2 (by kernel_rfl) (by kernel_rfl) ?_
    refine KE.run 1 [(2, .pointer (some ⟨t2b, t2o, none⟩)), (4, .pointer (some ⟨t4b, t4o, none⟩)), (7, .int .i64 t7), (40, .pointer (some ⟨t2b, (t2o + 4), none⟩))] 55 1 (by kernel_rfl) fun J => ?_
    obtain ⟨t41a, t41n, t41k, q23, h⟩ := h
    refine KE.rdN (one_ld (by kernel_rfl) q23) (by kernel_rfl) ?_
    obtain ⟨t42a, t42n, t42k, H_3, q24, h⟩ := h
    refine KE.se (one_ap 1 8 (by kernel_rfl) q24) (by kernel_rfl) ?_
    refine KE.run 1 [(2, .pointer (some ⟨t2b, t2o, none⟩)), (4, .pointer (some ⟨t4b, t4o, none⟩)), (7, .int .i64 t7), (42, .slice t42a t42n t42k), (43, .pointer (some ⟨t2b, (t2o + 5), none⟩))] 55 4 (by kernel_rfl) fun J => ?_
    obtain ⟨t44a, t44n, t44k, q25, h⟩ := h
    refine KE.rdF (one_ld (by kernel_rfl) q25) (by kernel_rfl) ?_
    obtain ⟨t45a, t45n, t45k, H_4, q26, h⟩ := h
    refine KE.se (one_ap 1 1 (by kernel_rfl) q26) (by kernel_rfl) ?_
    refine KE.run 1 [(2, .pointer (some ⟨t2b, t2o, none⟩)), (4, .pointer (some ⟨t4b, t4o, none⟩)), (7, .int .i64 t7), (42, .slice t42a t42n t42k), (45, .slice t45a t45n t45k), (46, .pointer (some ⟨t2b, (t2o + 4), none⟩))] 55 7 (by kernel_rfl) fun J => ?_
    obtain ⟨H_5, q27, h⟩ := h
    refine KE.se (one_st (by kernel_rfl) q27) (by kernel_rfl) ?_
    refine KE.run 1 [(2, .pointer (some ⟨t2b, t2o, none⟩)), (4, .pointer (some ⟨t4b, t4o, none⟩)), (7, .int .i64 t7), (45, .slice t45a t45n t45k), (47, .pointer (some ⟨t2b, (t2o + 5), none⟩))] 55 9 (by kernel_rfl) fun J => ?_
    obtain ⟨H_6, q28, h⟩ := h
    refine KE.se (one_st (by kernel_rfl) q28) (by kernel_rfl) ?_
    obtain ⟨q29, h⟩ := h
    refine KE.fin (H' := H_6) (by kernel_rfl) (rdsS (rfl) (rd_ok (Hs := [H_3]) (by kernel_rfl) (by kernel_rfl) ⟨one_ld (by kernel_rfl) q29, trivial⟩)) (by kernel_rfl) ?_
    refine KR.run 1 [(2, .pointer (some ⟨t2b, t2o, none⟩)), (4, .pointer (some ⟨t4b, t4o, none⟩)), (7, .int .i64 t7)] 55 (s' := (.code (sub B [1, 1, 1, 1, 1, 1, 1, 0]) :: S13)) (by kernel_rfl) fun J => ?_
    refine KE.start H_6 (by kernel_rfl) (by kernel_rfl) ?_
    obtain ⟨t48c0, t48c1, t48c2, t48c3, t48c4a, t48c4n, t48c4k, t48c5a, t48c5n, t48c5k, q30, h⟩ := h
    refine KE.rdN (one_ldA (by kernel_rfl) q30) (by kernel_rfl) ?_
    refine KE.run 1 [(4, .pointer (some ⟨t4b, t4o, none⟩)), (7, .int .i64 t7), (48, .agg #[.int .i64 t48c0, .int .i64 t48c1, .int .i64 t48c2, .int .i64 t48c3, .slice t48c4a t48c4n t48c4k, .slice t48c5a t48c5n t48c5k]), (49, .pointer (some ⟨t2b, (t2o + 4), none⟩))] 55 2 (by kernel_rfl) fun J => ?_
    obtain ⟨t50a, t50n, t50k, q31, h⟩ := h
    refine KE.rdF (one_ld (by kernel_rfl) q31) (by kernel_rfl) ?_
    obtain ⟨t50ab, t50ao, rfl, h⟩ := h
    refine KE.run 2 [(4, .pointer (some ⟨t4b, t4o, none⟩)), (48, .agg #[.int .i64 t48c0, .int .i64 t48c1, .int .i64 t48c2, .int .i64 t48c3, .slice t48c4a t48c4n t48c4k, .slice t48c5a t48c5n t48c5k]), (50, .slice (some ⟨t50ab, t50ao, none⟩) t50n t50k), (52, .int .i64 (IntKind.wrap .i64 (t7 + 1)))] 55 5 (by kernel_rfl) fun J => ?_
    obtain ⟨q32, q32x, h⟩ := h
    refine KE.p (one_ix 1 t50ab t50ao (by kernel_rfl) q32 q32x) ?_
    obtain ⟨t54, q33, h⟩ := h
    refine KE.rdF (one_ld (by kernel_rfl) q33) (by kernel_rfl) ?_
    obtain ⟨H_7, q34, h⟩ := h
    refine KE.se (one_st (by kernel_rfl) q34) (by kernel_rfl) ?_
    refine KE.run 2 [(4, .pointer (some ⟨t4b, t4o, none⟩)), (5, .int .i64 t54), (6, .int .i64 0)] 55 10 (by kernel_rfl) fun J => ?_
    obtain ⟨q35, q36, h⟩ := h
    refine KE.fin (H' := H_7) (by kernel_rfl) (rdsS (rdsS (rfl) (rd_ok (Hs := [H_7]) (by kernel_rfl) (by kernel_rfl) ⟨one_ld (by kernel_rfl) q35, trivial⟩)) (rd_ok (Hs := [H_7]) (by kernel_rfl) (by kernel_rfl) ⟨one_ld (by kernel_rfl) q36, trivial⟩)) (by kernel_rfl) ?_
    refine KR.run 0 [(4, .pointer (some ⟨t4b, t4o, none⟩)), (5, .int .i64 t54), (6, .int .i64 0)] 55 (s' := (.code (sub B [1, 1, 1, 1, 1, 1, 1, 1]) :: [])) (by kernel_rfl) fun J => ?_
    obtain ⟨r4c0_1, r4c1_1, r4c2_1, r4c3_1, r4c4a_1, r4c4n_1, r4c4k_1, r4c5a_1, r4c5n_1, r4c5k_1, q37, h⟩ := h
    exact KR.finR (l := [.cell 4 41, .tmp 5, .tmp 6]) (vs := [.agg #[.int .i64 r4c0_1, .int .i64 r4c1_1, .int .i64 r4c2_1, .int .i64 r4c3_1, .slice r4c4a_1 r4c4n_1 r4c4k_1, .slice r4c5a_1 r4c5n_1 r4c5k_1], .int .i64 t54, .int .i64 0]) (by kernel_rfl) (Res.cellA (by kernel_rfl) q37 (Res.tmp (by kernel_rfl) (Res.tmp (by kernel_rfl) Res.nil))) (by kernel_rfl) h
theorem call {a0c0 : Int} {a0c1 : Int} {a0c2 : Int} {a0c3 : Int} {a0c4a : Option Addr} {a0c4n : Nat} {a0c4k : Nat} {a0c5a : Option Addr} {a0c5n : Nat} {a0c5k : Nat} {a1 : Int} {H : Heap} {r : Value × Heap} (h :
    ∃ (H_1 : Heap), H_1 = H.push (.row [.int .i64 a0c0, .int .i64 a0c1, .int .i64 a0c2, .int .i64 a0c3, .slice a0c4a a0c4n a0c4k, .slice a0c5a a0c5n a0c5k] true) ∧
    (∃ (H_2 : Heap), H_2 = H_1.push (.row [.int .i64 0, .int .i64 0, .int .i64 0, .int .i64 0, .slice none 0 0, .slice none 0 0] true) ∧
    (∃ (t8c0 : Int) (t8c1 : Int) (t8c2 : Int) (t8c3 : Int) (t8c4a : Option Addr) (t8c4n : Nat) (t8c4k : Nat) (t8c5a : Option Addr) (t8c5n : Nat) (t8c5k : Nat), ldAll H_2 H.next 0 [.int .i64 t8c0, .int .i64 t8c1, .int .i64 t8c2, .int .i64 t8c3, .slice t8c4a t8c4n t8c4k, .slice t8c5a t8c5n t8c5k] ∧
    (∃ (t9 : Bool) (H_3 : Heap), xC Try.prog good 48 [.agg #[.int .i64 t8c0, .int .i64 t8c1, .int .i64 t8c2, .int .i64 t8c3, .slice t8c4a t8c4n t8c4k, .slice t8c5a t8c5n t8c5k]] H_2 = some (.bool t9, H_3) ∧
    (if t9 = true then
    (∃ (t13 : Bool) (H_4 : Heap), xC Try.prog good 57 [.int .i64 a1] H_3 = some (.bool t13, H_4) ∧
    (L0 (a1) (H.next) (0) (H_1.next) (0) ((!t13)) H_4 r))
    else
    (L0 (a1) (H.next) (0) (H_1.next) (0) (true) H_3 r)))))) :
    xC Try.prog good 47 [.agg #[.int .i64 a0c0, .int .i64 a0c1, .int .i64 a0c2, .int .i64 a0c3, .slice a0c4a a0c4n a0c4k, .slice a0c5a a0c5n a0c5k], .int .i64 a1] H = some r := by
  refine KR.enter (fn := Try.f47) (c := B) (by kernel_rfl) (by kernel_rfl) ?_
  refine KR.run 2 [(0, .agg #[.int .i64 a0c0, .int .i64 a0c1, .int .i64 a0c2, .int .i64 a0c3, .slice a0c4a a0c4n a0c4k, .slice a0c5a a0c5n a0c5k]), (1, .int .i64 a1)] 55 (s' := (.reg (opsAt (sub B [0])) [0, 1, 2, 3] :: S0)) (by kernel_rfl) fun J => ?_
  obtain ⟨H_1, q1, h⟩ := h
  refine KR.mk (w := pRow [.int .i64 a0c0, .int .i64 a0c1, .int .i64 a0c2, .int .i64 a0c3, .slice a0c4a a0c4n a0c4k, .slice a0c5a a0c5n a0c5k]) (one_al (by kernel_rfl)) q1 ?_
  obtain ⟨H_2, q2, h⟩ := h
  refine KR.mk (w := pRow [.int .i64 0, .int .i64 0, .int .i64 0, .int .i64 0, .slice none 0 0, .slice none 0 0]) (one_al (by kernel_rfl)) q2 ?_
  refine KR.run 6 [(1, .int .i64 a1), (2, .pointer (some ⟨H.next, 0, none⟩)), (4, .pointer (some ⟨H_1.next, 0, none⟩))] 55 (s' := (.reg (opsAt (sub B [1, 0, 0])) [0, 1, 2, 3, 4, 5, 6, 7] :: S2)) (by kernel_rfl) fun J => ?_
  obtain ⟨t8c0, t8c1, t8c2, t8c3, t8c4a, t8c4n, t8c4k, t8c5a, t8c5n, t8c5k, q3, h⟩ := h
  refine KR.rd (one_ldA (by kernel_rfl) q3) ?_
  obtain ⟨t9, H_3, q4, h⟩ := h
  refine KR.se (one_ca (by kernel_rfl) q4) ?_
  refine KR.run 2 [(1, .int .i64 a1), (2, .pointer (some ⟨H.next, 0, none⟩)), (4, .pointer (some ⟨H_1.next, 0, none⟩)), (11, .bool (!t9))] 55 (s' := (.reg (opsAt (sub B [1, 0, 0])) [4, 5, 6, 7] :: S2)) (by kernel_rfl) fun J => ?_
  by_cases c5 : t9 = true
  · replace h := iteT c5 h
    refine KR.setV 11 (by kernel_rfl) (nB (bT c5)) ?_
    refine KR.run 1 [(1, .int .i64 a1), (2, .pointer (some ⟨H.next, 0, none⟩)), (4, .pointer (some ⟨H_1.next, 0, none⟩)), (11, .bool false), (12, .int .i64 a1)] 55 (s' := (.reg (opsAt (sub B [1, 0, 0])) [5, 6, 7] :: S2)) (by kernel_rfl) fun J => ?_
    obtain ⟨t13, H_4, q6, h⟩ := h
    refine KR.se (one_ca (by kernel_rfl) q6) ?_
    exact KR.run 3 [(1, .int .i64 a1), (2, .pointer (some ⟨H.next, 0, none⟩)), (4, .pointer (some ⟨H_1.next, 0, none⟩)), (15, .bool (!t13))] 55 (s' := (.code (sub B [1, 0, 1]) :: S1)) (by kernel_rfl) h
  · replace h := iteF c5 h
    refine KR.setV 11 (by kernel_rfl) (nB (bF c5)) ?_
    exact KR.run 5 [(1, .int .i64 a1), (2, .pointer (some ⟨H.next, 0, none⟩)), (4, .pointer (some ⟨H_1.next, 0, none⟩)), (15, .bool true)] 55 (s' := (.code (sub B [1, 0, 1]) :: S1)) (by kernel_rfl) h
end F47
/-! #### 48 campanile/campanileref18.MayPacket -/
namespace F48
noncomputable def B : Code := bodyOf Try.f48
noncomputable def S0 : List It := (.code (sub B [1]) :: [])
noncomputable def S1 : List It := (.code (sub B [1, 1]) :: [])
theorem call {a0c0 : Int} {a0c1 : Int} {a0c2 : Int} {a0c3 : Int} {a0c4a : Option Addr} {a0c4n : Nat} {a0c4k : Nat} {a0c5a : Option Addr} {a0c5n : Nat} {a0c5k : Nat} {H : Heap} {r : Value × Heap} (h :
    ∃ (H_1 : Heap), H_1 = H.push (.row [.int .i64 a0c0, .int .i64 a0c1, .int .i64 a0c2, .int .i64 a0c3, .slice a0c4a a0c4n a0c4k, .slice a0c5a a0c5n a0c5k] true) ∧
    (∃ (t4 : Int), ldc H_1 H.next 0 = some (.int .i64 t4) ∧
    (∃ (t5 : Bool) (H_2 : Heap), xC Try.prog good 57 [.int .i64 t4] H_1 = some (.bool t5, H_2) ∧
    (if t5 = true then
    (∃ (t8 : Int), ldc H_2 H.next 1 = some (.int .i64 t8) ∧
    (∃ (t9 : Bool) (H_3 : Heap), xC Try.prog good 57 [.int .i64 t8] H_2 = some (.bool t9, H_3) ∧
    (if t9 = true then
    (∃ (t13 : Int), ldc H_3 H.next 0 = some (.int .i64 t13) ∧
    (∃ (t15 : Int), ldc H_3 H.next 1 = some (.int .i64 t15) ∧
    (if t13 = t15 then
    (r = (.bool false, H_3))
    else
    (∃ (t20 : Int), ldc H_3 H.next 2 = some (.int .i64 t20) ∧
    (if t20 ≥ 0 then
    (∃ (t25 : Int), ldc H_3 H.next 2 = some (.int .i64 t25) ∧
    (if t25 < 70368744177664 then
    (∃ (t30 : Int), ldc H_3 H.next 3 = some (.int .i64 t30) ∧
    (if t30 ≥ 0 then
    (∃ (t35 : Int), ldc H_3 H.next 3 = some (.int .i64 t35) ∧
    (if t35 ≤ 15 then
    (∃ (t40a : Option Addr) (t40n : Nat) (t40k : Nat), ldc H_3 H.next 4 = some (.slice t40a t40n t40k) ∧
    (∃ (t41 : Bool) (H_4 : Heap), xC Try.prog good 22 [.slice t40a t40n t40k] H_3 = some (.bool t41, H_4) ∧
    (if t41 = true then
    (∃ (t45a : Option Addr) (t45n : Nat) (t45k : Nat), ldc H_4 H.next 5 = some (.slice t45a t45n t45k) ∧
    (if ((t45n : Nat) : Int) ≥ 1 then
    (∃ (t51a : Option Addr) (t51n : Nat) (t51k : Nat), ldc H_4 H.next 5 = some (.slice t51a t51n t51k) ∧
    (r = (.bool (decide (((t51n : Nat) : Int) ≤ 24)), H_4)))
    else
    (r = (.bool false, H_4))))
    else
    (r = (.bool false, H_4)))))
    else
    (r = (.bool false, H_3))))
    else
    (r = (.bool false, H_3))))
    else
    (r = (.bool false, H_3))))
    else
    (r = (.bool false, H_3)))))))
    else
    (r = (.bool false, H_3)))))
    else
    (r = (.bool false, H_2)))))) :
    xC Try.prog good 48 [.agg #[.int .i64 a0c0, .int .i64 a0c1, .int .i64 a0c2, .int .i64 a0c3, .slice a0c4a a0c4n a0c4k, .slice a0c5a a0c5n a0c5k]] H = some r := by
  refine KR.enter (fn := Try.f48) (c := B) (by kernel_rfl) (by kernel_rfl) ?_
  refine KR.run 2 [(0, .agg #[.int .i64 a0c0, .int .i64 a0c1, .int .i64 a0c2, .int .i64 a0c3, .slice a0c4a a0c4n a0c4k, .slice a0c5a a0c5n a0c5k])] 55 (s' := (.reg (opsAt (sub B [0])) [0, 1] :: S0)) (by kernel_rfl) fun J => ?_
  obtain ⟨H_1, q1, h⟩ := h
  refine KR.mk (w := pRow [.int .i64 a0c0, .int .i64 a0c1, .int .i64 a0c2, .int .i64 a0c3, .slice a0c4a a0c4n a0c4k, .slice a0c5a a0c5n a0c5k]) (one_al (by kernel_rfl)) q1 ?_
  refine KR.run 5 [(1, .pointer (some ⟨H.next, 0, none⟩)), (3, .pointer (some ⟨H.next, 0, none⟩))] 55 (s' := (.reg (opsAt (sub B [1, 0])) [1, 2, 3, 4, 5, 6, 7, 8, 9, 10, 11, 12, 13, 14, 15, 16, 17, 18, 19, 20, 21, 22, 23, 24, 25, 26, 27, 28, 29, 30, 31, 32, 33, 34, 35, 36, 37, 38, 39, 40, 41, 42, 43, 44, 45, 46, 47, 48, 49, 50, 51, 52] :: S1)) (by kernel_rfl) fun J => ?_
  obtain ⟨t4, q2, h⟩ := h
  refine KR.rd (one_ld (by kernel_rfl) q2) ?_
  obtain ⟨t5, H_2, q3, h⟩ := h
  refine KR.se (one_ca (by kernel_rfl) q3) ?_
  refine KR.run 1 [(1, .pointer (some ⟨H.next, 0, none⟩)), (6, .bool t5)] 55 (s' := (.reg (opsAt (sub B [1, 0])) [4, 5, 6, 7, 8, 9, 10, 11, 12, 13, 14, 15, 16, 17, 18, 19, 20, 21, 22, 23, 24, 25, 26, 27, 28, 29, 30, 31, 32, 33, 34, 35, 36, 37, 38, 39, 40, 41, 42, 43, 44, 45, 46, 47, 48, 49, 50, 51, 52] :: S1)) (by kernel_rfl) fun J => ?_
  by_cases c4 : t5 = true
  · replace h := iteT c4 h
    refine KR.setV 6 (by kernel_rfl) (bT c4) ?_
    refine KR.run 1 [(1, .pointer (some ⟨H.next, 0, none⟩)), (6, .bool true), (7, .pointer (some ⟨H.next, 1, none⟩))] 55 (s' := (.reg (opsAt (sub B [1, 0])) [5, 6, 7, 8, 9, 10, 11, 12, 13, 14, 15, 16, 17, 18, 19, 20, 21, 22, 23, 24, 25, 26, 27, 28, 29, 30, 31, 32, 33, 34, 35, 36, 37, 38, 39, 40, 41, 42, 43, 44, 45, 46, 47, 48, 49, 50, 51, 52] :: S1)) (by kernel_rfl) fun J => ?_
    obtain ⟨t8, q5, h⟩ := h
    refine KR.rd (one_ld (by kernel_rfl) q5) ?_
    obtain ⟨t9, H_3, q6, h⟩ := h
    refine KR.se (one_ca (by kernel_rfl) q6) ?_
    refine KR.run 2 [(1, .pointer (some ⟨H.next, 0, none⟩)), (11, .bool t9)] 55 (s' := (.reg (opsAt (sub B [1, 0])) [9, 10, 11, 12, 13, 14, 15, 16, 17, 18, 19, 20, 21, 22, 23, 24, 25, 26, 27, 28, 29, 30, 31, 32, 33, 34, 35, 36, 37, 38, 39, 40, 41, 42, 43, 44, 45, 46, 47, 48, 49, 50, 51, 52] :: S1)) (by kernel_rfl) fun J => ?_
    by_cases c7 : t9 = true
    · replace h := iteT c7 h
      refine KR.setV 11 (by kernel_rfl) (bT c7) ?_
      refine KR.run 1 [(1, .pointer (some ⟨H.next, 0, none⟩)), (11, .bool true), (12, .pointer (some ⟨H.next, 0, none⟩))] 55 (s' := (.reg (opsAt (sub B [1, 0])) [10, 11, 12, 13, 14, 15, 16, 17, 18, 19, 20, 21, 22, 23, 24, 25, 26, 27, 28, 29, 30, 31, 32, 33, 34, 35, 36, 37, 38, 39, 40, 41, 42, 43, 44, 45, 46, 47, 48, 49, 50, 51, 52] :: S1)) (by kernel_rfl) fun J => ?_
      obtain ⟨t13, q8, h⟩ := h
      refine KR.rd (one_ld (by kernel_rfl) q8) ?_
      refine KR.run 1 [(1, .pointer (some ⟨H.next, 0, none⟩)), (11, .bool true), (13, .int .i64 t13), (14, .pointer (some ⟨H.next, 1, none⟩))] 55 (s' := (.reg (opsAt (sub B [1, 0])) [12, 13, 14, 15, 16, 17, 18, 19, 20, 21, 22, 23, 24, 25, 26, 27, 28, 29, 30, 31, 32, 33, 34, 35, 36, 37, 38, 39, 40, 41, 42, 43, 44, 45, 46, 47, 48, 49, 50, 51, 52] :: S1)) (by kernel_rfl) fun J => ?_
      obtain ⟨t15, q9, h⟩ := h
      refine KR.rd (one_ld (by kernel_rfl) q9) ?_
      refine KR.run 3 [(1, .pointer (some ⟨H.next, 0, none⟩)), (18, .bool (!(t13 == t15)))] 55 (s' := (.reg (opsAt (sub B [1, 0])) [16, 17, 18, 19, 20, 21, 22, 23, 24, 25, 26, 27, 28, 29, 30, 31, 32, 33, 34, 35, 36, 37, 38, 39, 40, 41, 42, 43, 44, 45, 46, 47, 48, 49, 50, 51, 52] :: S1)) (by kernel_rfl) fun J => ?_
      by_cases c10 : t13 = t15
      · replace h := iteT c10 h
        refine KR.setV 18 (by kernel_rfl) (nB (eT c10)) ?_
        refine KR.run 38 [(2, .bool false)] 55 (s' := (.code (sub B [1, 1]) :: [])) (by kernel_rfl) fun J => ?_
        exact KR.fin (by kernel_rfl) h
      · replace h := iteF c10 h
        refine KR.setV 18 (by kernel_rfl) (nB (eF c10)) ?_
        refine KR.run 1 [(1, .pointer (some ⟨H.next, 0, none⟩)), (18, .bool true), (19, .pointer (some ⟨H.next, 2, none⟩))] 55 (s' := (.reg (opsAt (sub B [1, 0])) [17, 18, 19, 20, 21, 22, 23, 24, 25, 26, 27, 28, 29, 30, 31, 32, 33, 34, 35, 36, 37, 38, 39, 40, 41, 42, 43, 44, 45, 46, 47, 48, 49, 50, 51, 52] :: S1)) (by kernel_rfl) fun J => ?_
        obtain ⟨t20, q11, h⟩ := h
        refine KR.rd (one_ld (by kernel_rfl) q11) ?_
        refine KR.run 3 [(1, .pointer (some ⟨H.next, 0, none⟩)), (23, .bool (decide (t20 ≥ 0)))] 55 (s' := (.reg (opsAt (sub B [1, 0])) [21, 22, 23, 24, 25, 26, 27, 28, 29, 30, 31, 32, 33, 34, 35, 36, 37, 38, 39, 40, 41, 42, 43, 44, 45, 46, 47, 48, 49, 50, 51, 52] :: S1)) (by kernel_rfl) fun J => ?_
        by_cases c12 : t20 ≥ 0
        · replace h := iteT c12 h
          refine KR.setV 23 (by kernel_rfl) (dT c12) ?_
          refine KR.run 1 [(1, .pointer (some ⟨H.next, 0, none⟩)), (23, .bool true), (24, .pointer (some ⟨H.next, 2, none⟩))] 55 (s' := (.reg (opsAt (sub B [1, 0])) [22, 23, 24, 25, 26, 27, 28, 29, 30, 31, 32, 33, 34, 35, 36, 37, 38, 39, 40, 41, 42, 43, 44, 45, 46, 47, 48, 49, 50, 51, 52] :: S1)) (by kernel_rfl) fun J => ?_
          obtain ⟨t25, q13, h⟩ := h
          refine KR.rd (one_ld (by kernel_rfl) q13) ?_
          refine KR.run 3 [(1, .pointer (some ⟨H.next, 0, none⟩)), (28, .bool (decide (t25 < 70368744177664)))] 55 (s' := (.reg (opsAt (sub B [1, 0])) [26, 27, 28, 29, 30, 31, 32, 33, 34, 35, 36, 37, 38, 39, 40, 41, 42, 43, 44, 45, 46, 47, 48, 49, 50, 51, 52] :: S1)) (by kernel_rfl) fun J => ?_
          by_cases c14 : t25 < 70368744177664
          · replace h := iteT c14 h
            refine KR.setV 28 (by kernel_rfl) (dT c14) ?_
            refine KR.run 1 [(1, .pointer (some ⟨H.next, 0, none⟩)), (28, .bool true), (29, .pointer (some ⟨H.next, 3, none⟩))] 55 (s' := (.reg (opsAt (sub B [1, 0])) [27, 28, 29, 30, 31, 32, 33, 34, 35, 36, 37, 38, 39, 40, 41, 42, 43, 44, 45, 46, 47, 48, 49, 50, 51, 52] :: S1)) (by kernel_rfl) fun J => ?_
            obtain ⟨t30, q15, h⟩ := h
            refine KR.rd (one_ld (by kernel_rfl) q15) ?_
            refine KR.run 3 [(1, .pointer (some ⟨H.next, 0, none⟩)), (33, .bool (decide (t30 ≥ 0)))] 55 (s' := (.reg (opsAt (sub B [1, 0])) [31, 32, 33, 34, 35, 36, 37, 38, 39, 40, 41, 42, 43, 44, 45, 46, 47, 48, 49, 50, 51, 52] :: S1)) (by kernel_rfl) fun J => ?_
            by_cases c16 : t30 ≥ 0
            · replace h := iteT c16 h
              refine KR.setV 33 (by kernel_rfl) (dT c16) ?_
              refine KR.run 1 [(1, .pointer (some ⟨H.next, 0, none⟩)), (33, .bool true), (34, .pointer (some ⟨H.next, 3, none⟩))] 55 (s' := (.reg (opsAt (sub B [1, 0])) [32, 33, 34, 35, 36, 37, 38, 39, 40, 41, 42, 43, 44, 45, 46, 47, 48, 49, 50, 51, 52] :: S1)) (by kernel_rfl) fun J => ?_
              obtain ⟨t35, q17, h⟩ := h
              refine KR.rd (one_ld (by kernel_rfl) q17) ?_
              refine KR.run 3 [(1, .pointer (some ⟨H.next, 0, none⟩)), (38, .bool (decide (t35 ≤ 15)))] 55 (s' := (.reg (opsAt (sub B [1, 0])) [36, 37, 38, 39, 40, 41, 42, 43, 44, 45, 46, 47, 48, 49, 50, 51, 52] :: S1)) (by kernel_rfl) fun J => ?_
              by_cases c18 : t35 ≤ 15
              · replace h := iteT c18 h
                refine KR.setV 38 (by kernel_rfl) (dT c18) ?_
                refine KR.run 1 [(1, .pointer (some ⟨H.next, 0, none⟩)), (38, .bool true), (39, .pointer (some ⟨H.next, 4, none⟩))] 55 (s' := (.reg (opsAt (sub B [1, 0])) [37, 38, 39, 40, 41, 42, 43, 44, 45, 46, 47, 48, 49, 50, 51, 52] :: S1)) (by kernel_rfl) fun J => ?_
                obtain ⟨t40a, t40n, t40k, q19, h⟩ := h
                refine KR.rd (one_ld (by kernel_rfl) q19) ?_
                obtain ⟨t41, H_4, q20, h⟩ := h
                refine KR.se (one_ca (by kernel_rfl) q20) ?_
                refine KR.run 2 [(1, .pointer (some ⟨H.next, 0, none⟩)), (43, .bool t41)] 55 (s' := (.reg (opsAt (sub B [1, 0])) [41, 42, 43, 44, 45, 46, 47, 48, 49, 50, 51, 52] :: S1)) (by kernel_rfl) fun J => ?_
                by_cases c21 : t41 = true
                · replace h := iteT c21 h
                  refine KR.setV 43 (by kernel_rfl) (bT c21) ?_
                  refine KR.run 1 [(1, .pointer (some ⟨H.next, 0, none⟩)), (43, .bool true), (44, .pointer (some ⟨H.next, 5, none⟩))] 55 (s' := (.reg (opsAt (sub B [1, 0])) [42, 43, 44, 45, 46, 47, 48, 49, 50, 51, 52] :: S1)) (by kernel_rfl) fun J => ?_
                  obtain ⟨t45a, t45n, t45k, q22, h⟩ := h
                  refine KR.rd (one_ld (by kernel_rfl) q22) ?_
                  refine KR.run 4 [(1, .pointer (some ⟨H.next, 0, none⟩)), (49, .bool (decide (((t45n : Nat) : Int) ≥ 1)))] 55 (s' := (.reg (opsAt (sub B [1, 0])) [47, 48, 49, 50, 51, 52] :: S1)) (by kernel_rfl) fun J => ?_
                  by_cases c23 : ((t45n : Nat) : Int) ≥ 1
                  · replace h := iteT c23 h
                    refine KR.setV 49 (by kernel_rfl) (dT c23) ?_
                    refine KR.run 1 [(49, .bool true), (50, .pointer (some ⟨H.next, 5, none⟩))] 55 (s' := (.reg (opsAt (sub B [1, 0])) [48, 49, 50, 51, 52] :: S1)) (by kernel_rfl) fun J => ?_
                    obtain ⟨t51a, t51n, t51k, q24, h⟩ := h
                    refine KR.rd (one_ld (by kernel_rfl) q24) ?_
                    refine KR.run 5 [(2, .bool (decide (((t51n : Nat) : Int) ≤ 24)))] 55 (s' := (.code (sub B [1, 1]) :: [])) (by kernel_rfl) fun J => ?_
                    exact KR.fin (by kernel_rfl) h
                  · replace h := iteF c23 h
                    refine KR.setV 49 (by kernel_rfl) (dF c23) ?_
                    refine KR.run 7 [(2, .bool false)] 55 (s' := (.code (sub B [1, 1]) :: [])) (by kernel_rfl) fun J => ?_
                    exact KR.fin (by kernel_rfl) h
                · replace h := iteF c21 h
                  refine KR.setV 43 (by kernel_rfl) (bF c21) ?_
                  refine KR.run 13 [(2, .bool false)] 55 (s' := (.code (sub B [1, 1]) :: [])) (by kernel_rfl) fun J => ?_
                  exact KR.fin (by kernel_rfl) h
              · replace h := iteF c18 h
                refine KR.setV 38 (by kernel_rfl) (dF c18) ?_
                refine KR.run 18 [(2, .bool false)] 55 (s' := (.code (sub B [1, 1]) :: [])) (by kernel_rfl) fun J => ?_
                exact KR.fin (by kernel_rfl) h
            · replace h := iteF c16 h
              refine KR.setV 33 (by kernel_rfl) (dF c16) ?_
              refine KR.run 23 [(2, .bool false)] 55 (s' := (.code (sub B [1, 1]) :: [])) (by kernel_rfl) fun J => ?_
              exact KR.fin (by kernel_rfl) h
          · replace h := iteF c14 h
            refine KR.setV 28 (by kernel_rfl) (dF c14) ?_
            refine KR.run 28 [(2, .bool false)] 55 (s' := (.code (sub B [1, 1]) :: [])) (by kernel_rfl) fun J => ?_
            exact KR.fin (by kernel_rfl) h
        · replace h := iteF c12 h
          refine KR.setV 23 (by kernel_rfl) (dF c12) ?_
          refine KR.run 33 [(2, .bool false)] 55 (s' := (.code (sub B [1, 1]) :: [])) (by kernel_rfl) fun J => ?_
          exact KR.fin (by kernel_rfl) h
    · replace h := iteF c7 h
      refine KR.setV 11 (by kernel_rfl) (bF c7) ?_
      refine KR.run 45 [(2, .bool false)] 55 (s' := (.code (sub B [1, 1]) :: [])) (by kernel_rfl) fun J => ?_
      exact KR.fin (by kernel_rfl) h
  · replace h := iteF c4 h
    refine KR.setV 6 (by kernel_rfl) (bF c4) ?_
    refine KR.run 50 [(2, .bool false)] 55 (s' := (.code (sub B [1, 1]) :: [])) (by kernel_rfl) fun J => ?_
    exact KR.fin (by kernel_rfl) h
end F48
/-! #### 49 campanile/campanileref18.Back -/
namespace F49
noncomputable def B : Code := bodyOf Try.f49
noncomputable def S0 : List It := (.code (sub B [1, 1]) :: [])
noncomputable def S2 : List It := (.code (sub B [1, 1, 1, 1]) :: [])
noncomputable def S1 : List It := (.code (sub B [1, 0, 1]) :: S0)
noncomputable def S3 : List It := (.blk 0 :: S2)
noncomputable def S4 : List It := (.lp (sub B [1, 1, 1, 0, 1, 0, 0]) :: S3)
noncomputable def S5 : List It := (.code (sub B [1, 1, 1, 0, 1, 0, 0, 1]) :: S4)
noncomputable def S6 : List It := (.code (sub B [1, 1, 1, 0, 1, 0, 0, 1, 1]) :: S4)
noncomputable def S7 : List It := (.blk 1 :: S6)
def L0 (t0a : Option Addr) (t0n : Nat) (t0k : Nat) (t3a : Option Addr) (t3n : Nat) (t3k : Nat) (t4 : Int) (H : Heap) (r : Value × Heap) : Prop := ∀ J, KR Try.prog good Try.f49 S4 (mat J 23 [(0, .slice t0a t0n t0k), (3, .slice t3a t3n t3k), (4, .int .i64 t4)]) H r
theorem L0_step {t0a : Option Addr} {t0n : Nat} {t0k : Nat} {t3a : Option Addr} {t3n : Nat} {t3k : Nat} {t4 : Int} {H : Heap} {r : Value × Heap} (h :
    if t4 ≥ 0 then
    (∃ (t0ab t0ao : Nat), t0a = some ⟨t0ab, t0ao, none⟩ ∧
    ((0 : Int) ≤ t4 ∧ t4 < ((t0n : Nat) : Int) ∧
    (∃ (t19 : Int), ldc H t0ab (t0ao + Int.toNat t4 * 1) = some (.int .i64 t19) ∧
    (∃ (H_1 : Heap), H_1 = H.push (.row [.int .i64 t19] true) ∧
    (∃ (t21a : Option Addr) (t21n : Nat) (t21k : Nat) (H_2 : Heap), papp H_1 1 8 t3a t3n t3k (some ⟨H.next, 0, none⟩) 1 (UNK 1) = some ((t21a, t21n, t21k), H_2) ∧
    (L0 ((some ⟨t0ab, t0ao, none⟩)) (t0n) (t0k) (t21a) (t21n) (t21k) ((IntKind.wrap .i64 (t4 - 1))) H_2 r))))))
    else
    (r = (.slice t3a t3n t3k, H))) :
    L0 t0a t0n t0k t3a t3n t3k t4 H r := by
  intro J
  show KR _ _ _ (.lp (sub B [1, 1, 1, 0, 1, 0, 0]) :: S3) _ _ _
  refine KR.run 7 [(0, .slice t0a t0n t0k), (3, .slice t3a t3n t3k), (4, .int .i64 t4), (12, .bool (decide (t4 ≥ 0)))] 23 (s' := (.code (sub B [1, 1, 1, 0, 1, 0, 0, 0, 1]) :: S5)) (by kernel_rfl) fun J => ?_
  by_cases c3 : t4 ≥ 0
  · replace h := iteT c3 h
    refine KR.br true (by kernel_rfl) (vB (dT c3)) ?_
    obtain ⟨t0ab, t0ao, rfl, h⟩ := h
    refine KR.run 7 [(0, .slice (some ⟨t0ab, t0ao, none⟩) t0n t0k), (4, .int .i64 t4), (15, .slice t3a t3n t3k), (16, .slice (some ⟨t0ab, t0ao, none⟩) t0n t0k), (17, .int .i64 t4)] 23 (s' := (.reg (opsAt (sub B [1, 1, 1, 0, 1, 0, 0, 1, 0, 0])) [3, 4, 5, 6, 7] :: S7)) (by kernel_rfl) fun J => ?_
    obtain ⟨q4, q4x, h⟩ := h
    refine KR.p (one_ix 1 t0ab t0ao (by kernel_rfl) q4 q4x) ?_
    obtain ⟨t19, q5, h⟩ := h
    refine KR.rd (one_ld (by kernel_rfl) q5) ?_
    obtain ⟨H_1, q6, h⟩ := h
    refine KR.mk (w := sRow 1 1 [.int .i64 t19]) (one_al (by kernel_rfl)) q6 ?_
    obtain ⟨t21a, t21n, t21k, H_2, q7, h⟩ := h
    refine KR.se (one_ap 1 8 (by kernel_rfl) q7) ?_
    exact KR.run 8 [(0, .slice (some ⟨t0ab, t0ao, none⟩) t0n t0k), (3, .slice t21a t21n t21k), (4, .int .i64 (IntKind.wrap .i64 (t4 - 1)))] 23 (s' := (.lp (sub B [1, 1, 1, 0, 1, 0, 0]) :: S3)) (by kernel_rfl) h
  · replace h := iteF c3 h
    refine KR.br false (by kernel_rfl) (vB (dF c3)) ?_
    refine KR.run 6 [(2, .slice t3a t3n t3k)] 23 (s' := (.code (sub B [1, 1, 1, 1, 1]) :: [])) (by kernel_rfl) fun J => ?_
    exact KR.fin (by kernel_rfl) h
theorem call {a0a : Option Addr} {a0n : Nat} {a0k : Nat} {H : Heap} {r : Value × Heap} (h :
    ∃ (t6 : Bool) (H_1 : Heap), xC Try.prog good 22 [.slice a0a a0n a0k] H = some (.bool t6, H_1) ∧
    (if t6 = true then
    (L0 (a0a) (a0n) (a0k) (none) (0) (0) ((IntKind.wrap .i64 (((a0n : Nat) : Int) - 1))) H_1 r)
    else
    (r = (.slice none 0 0, H_1)))) :
    xC Try.prog good 49 [.slice a0a a0n a0k] H = some r := by
  refine KR.enter (fn := Try.f49) (c := B) (by kernel_rfl) (by kernel_rfl) ?_
  refine KR.run 8 [(0, .slice a0a a0n a0k), (5, .slice a0a a0n a0k)] 23 (s' := (.reg (opsAt (sub B [1, 0, 0])) [1, 2] :: S1)) (by kernel_rfl) fun J => ?_
  obtain ⟨t6, H_1, q1, h⟩ := h
  refine KR.se (one_ca (by kernel_rfl) q1) ?_
  refine KR.run 2 [(0, .slice a0a a0n a0k), (7, .bool (!t6))] 23 (s' := (.code (sub B [1, 0, 1]) :: S0)) (by kernel_rfl) fun J => ?_
  by_cases c2 : t6 = true
  · replace h := iteT c2 h
    refine KR.br false (by kernel_rfl) (vB (nB (bT c2))) ?_
    exact KR.run 15 [(0, .slice a0a a0n a0k), (3, .slice none 0 0), (4, .int .i64 (IntKind.wrap .i64 (((a0n : Nat) : Int) - 1)))] 23 (s' := (.lp (sub B [1, 1, 1, 0, 1, 0, 0]) :: S3)) (by kernel_rfl) h
  · replace h := iteF c2 h
    refine KR.br true (by kernel_rfl) (vB (nB (bF c2))) ?_
    refine KR.run 4 [(2, .slice none 0 0)] 23 (s' := (.code (sub B [1, 0, 1, 0, 1]) :: S0)) (by kernel_rfl) fun J => ?_
    exact KR.fin (by kernel_rfl) h
end F49
/-! #### 50 campanile/campanileref18.DecodePacket -/
namespace F50
noncomputable def B : Code := bodyOf Try.f50
noncomputable def S0 : List It := (.code (sub B [1]) :: [])
noncomputable def S1 : List It := (.code (sub B [1, 1]) :: [])
noncomputable def S2 : List It := (.code (sub B [1, 1, 1]) :: [])
noncomputable def S3 : List It := (.code (sub B [1, 1, 1, 1]) :: [])
noncomputable def S4 : List It := (.code (sub B [1, 1, 1, 1, 1]) :: [])
noncomputable def S5 : List It := (.code (sub B [1, 1, 1, 1, 1, 1]) :: [])
noncomputable def S8 : List It := (.code (sub B [1, 1, 1, 1, 1, 1, 1]) :: [])
noncomputable def S16 : List It := (.code (sub B [1, 1, 1, 1, 1, 1, 1, 1]) :: [])
noncomputable def S17 : List It := (.code (sub B [1, 1, 1, 1, 1, 1, 1, 1, 1]) :: [])
noncomputable def S20 : List It := (.code (sub B [1, 1, 1, 1, 1, 1, 1, 1, 1, 1]) :: [])
noncomputable def S21 : List It := (.code (sub B [1, 1, 1, 1, 1, 1, 1, 1, 1, 1, 1]) :: [])
noncomputable def S23 : List It := (.code (sub B [1, 1, 1, 1, 1, 1, 1, 1, 1, 1, 1, 1]) :: [])
noncomputable def S25 : List It := (.code (sub B [1, 1, 1, 1, 1, 1, 1, 1, 1, 1, 1, 1, 1]) :: [])
noncomputable def S6 : List It := (.code (sub B [1, 1, 1, 1, 1, 0, 1]) :: S5)
noncomputable def S7 : List It := (.code (sub B [1, 1, 1, 1, 1, 0, 1, 0, 1]) :: S5)
noncomputable def S9 : List It := (.code (sub B [1, 1, 1, 1, 1, 1, 0, 1]) :: S8)
noncomputable def S10 : List It := (.blk 0 :: S8)
noncomputable def S18 : List It := (.code (sub B [1, 1, 1, 1, 1, 1, 1, 1, 0, 1]) :: S17)
noncomputable def S19 : List It := (.code (sub B [1, 1, 1, 1, 1, 1, 1, 1, 0, 1, 0, 1]) :: S17)
noncomputable def S22 : List It := (.code (sub B [1, 1, 1, 1, 1, 1, 1, 1, 1, 1, 0, 1]) :: S21)
noncomputable def S24 : List It := (.code (sub B [1, 1, 1, 1, 1, 1, 1, 1, 1, 1, 1, 0, 1]) :: S23)
noncomputable def S26 : List It := (.code (sub B [1, 1, 1, 1, 1, 1, 1, 1, 1, 1, 1, 0, 1, 0, 1]) :: S23)
noncomputable def S27 : List It := (.code (sub B [1, 1, 1, 1, 1, 1, 1, 1, 1, 1, 0, 1, 1, 0, 1]) :: S21)
noncomputable def S11 : List It := (.lp (sub B [1, 1, 1, 1, 1, 1, 0, 1, 0, 0]) :: S10)
noncomputable def S12 : List It := (.code (sub B [1, 1, 1, 1, 1, 1, 0, 1, 0, 0, 1, 1]) :: S11)
noncomputable def S13 : List It := (.code (sub B [1, 1, 1, 1, 1, 1, 0, 1, 0, 0, 1, 1, 1]) :: S11)
noncomputable def S14 : List It := (.blk 1 :: S13)
noncomputable def S15 : List It := (.code (sub B [1, 1, 1, 1, 1, 1, 0, 1, 0, 0, 1, 1, 0, 0, 1]) :: S14)
def L0 (t2b : Nat) (t2o : Nat) (t4b : Nat) (t4o : Nat) (t5b : Nat) (t5o : Nat) (t6b : Nat) (t6o : Nat) (t7 : Int) (t36 : Bool) (H : Heap) (r : Value × Heap) : Prop := ∀ J, KR Try.prog good Try.f50 S6 (mat J 85 [(2, .pointer (some ⟨t2b, t2o, none⟩)), (4, .pointer (some ⟨t4b, t4o, none⟩)), (5, .pointer (some ⟨t5b, t5o, none⟩)), (6, .pointer (some ⟨t6b, t6o, none⟩)), (7, .int .i64 t7), (36, .bool t36)]) H r
def L1 (t2b : Nat) (t2o : Nat) (t4b : Nat) (t4o : Nat) (t5b : Nat) (t5o : Nat) (t6b : Nat) (t6o : Nat) (t40a : Option Addr) (t40n : Nat) (t40k : Nat) (t41 : Int) (t42 : Int) (H : Heap) (r : Value × Heap) : Prop := ∀ J, KR Try.prog good Try.f50 S11 (mat J 85 [(2, .pointer (some ⟨t2b, t2o, none⟩)), (4, .pointer (some ⟨t4b, t4o, none⟩)), (5, .pointer (some ⟨t5b, t5o, none⟩)), (6, .pointer (some ⟨t6b, t6o, none⟩)), (40, .slice t40a t40n t40k), (41, .int .i64 t41), (42, .int .i64 t42)]) H r
def L2 (t2b : Nat) (t2o : Nat) (t4b : Nat) (t4o : Nat) (t5b : Nat) (t5o : Nat) (t6b : Nat) (t6o : Nat) (t10 : Int) (t68 : Bool) (H : Heap) (r : Value × Heap) : Prop := ∀ J, KR Try.prog good Try.f50 S18 (mat J 85 [(2, .pointer (some ⟨t2b, t2o, none⟩)), (4, .pointer (some ⟨t4b, t4o, none⟩)), (5, .pointer (some ⟨t5b, t5o, none⟩)), (6, .pointer (some ⟨t6b, t6o, none⟩)), (10, .int .i64 t10), (68, .bool t68)]) H r
theorem L0_step {t2b : Nat} {t2o : Nat} {t4b : Nat} {t4o : Nat} {t5b : Nat} {t5o : Nat} {t6b : Nat} {t6o : Nat} {t7 : Int} {t36 : Bool} {H : Heap} {r : Value × Heap} (h :
    if t36 = true then
    (∃ (t37c0 : Int) (t37c1 : Int) (t37c2 : Int) (t37c3 : Int) (t37c4a : Option Addr) (t37c4n : Nat) (t37c4k : Nat) (t37c5a : Option Addr) (t37c5n : Nat) (t37c5k : Nat), ldAll H t4b t4o [.int .i64 t37c0, .int .i64 t37c1, .int .i64 t37c2, .int .i64 t37c3, .slice t37c4a t37c4n t37c4k, .slice t37c5a t37c5n t37c5k] ∧
    (∃ (H_1 : Heap), stc H t2b t2o [.int .i64 t37c0, .int .i64 t37c1, .int .i64 t37c2, .int .i64 t37c3, .slice t37c4a t37c4n t37c4k, .slice t37c5a t37c5n t37c5k] = some H_1 ∧
    (∃ (r2c0 : Int) (r2c1 : Int) (r2c2 : Int) (r2c3 : Int) (r2c4a : Option Addr) (r2c4n : Nat) (r2c4k : Nat) (r2c5a : Option Addr) (r2c5n : Nat) (r2c5k : Nat), ldAll H_1 t2b t2o [.int .i64 r2c0, .int .i64 r2c1, .int .i64 r2c2, .int .i64 r2c3, .slice r2c4a r2c4n r2c4k, .slice r2c5a r2c5n r2c5k] ∧
    (r = (.tuple #[.agg #[.int .i64 r2c0, .int .i64 r2c1, .int .i64 r2c2, .int .i64 r2c3, .slice r2c4a r2c4n r2c4k, .slice r2c5a r2c5n r2c5k], .int .i64 3], H_1)))))
    else
    (∃ (t40a : Option Addr) (t40n : Nat) (t40k : Nat) (H_2 : Heap), xC Try.prog good 74 [.pointer (some ⟨t5b, t5o, none⟩), .int .i64 t7] H = some (.slice t40a t40n t40k, H_2) ∧
    (L1 (t2b) (t2o) (t4b) (t4o) (t5b) (t5o) (t6b) (t6o) (t40a) (t40n) (t40k) (((t40n : Nat) : Int)) 0 H_2 r))) :
    L0 t2b t2o t4b t4o t5b t5o t6b t6o t7 t36 H r := by
  intro J
  show KR _ _ _ (.code (sub B [1, 1, 1, 1, 1, 0, 1]) :: S5) _ _ _
  by_cases c14 : t36 = true
  · replace h := iteT c14 h
    refine KR.br true (by kernel_rfl) (vB (bT c14)) ?_
    refine KR.run 2 [(2, .pointer (some ⟨t2b, t2o, none⟩)), (4, .pointer (some ⟨t4b, t4o, none⟩))] 85 (s' := (.reg (opsAt (sub B [1, 1, 1, 1, 1, 0, 1, 0, 0])) [0, 1, 2] :: S7)) (by kernel_rfl) fun J => ?_
    obtain ⟨t37c0, t37c1, t37c2, t37c3, t37c4a, t37c4n, t37c4k, t37c5a, t37c5n, t37c5k, q15, h⟩ := h
    refine KR.rd (one_ldA (by kernel_rfl) q15) ?_
    obtain ⟨H_1, q16, h⟩ := h
    refine KR.se (one_st (by kernel_rfl) q16) ?_
    refine KR.run 2 [(2, .pointer (some ⟨t2b, t2o, none⟩)), (3, .int .i64 3)] 85 (s' := (.code (sub B [1, 1, 1, 1, 1, 0, 1, 0, 1]) :: S5)) (by kernel_rfl) fun J => ?_
    obtain ⟨r2c0, r2c1, r2c2, r2c3, r2c4a, r2c4n, r2c4k, r2c5a, r2c5n, r2c5k, q17, h⟩ := h
    exact KR.finR (l := [.cell 2 41, .tmp 3]) (vs := [.agg #[.int .i64 r2c0, .int .i64 r2c1, .int .i64 r2c2, .int .i64 r2c3, .slice r2c4a r2c4n r2c4k, .slice r2c5a r2c5n r2c5k], .int .i64 3]) (by kernel_rfl) (Res.cellA (by kernel_rfl) q17 (Res.tmp (by kernel_rfl) Res.nil)) (by kernel_rfl) h
  · replace h := iteF c14 h
    refine KR.br false (by kernel_rfl) (vB (bF c14)) ?_
    refine KR.run 6 [(2, .pointer (some ⟨t2b, t2o, none⟩)), (4, .pointer (some ⟨t4b, t4o, none⟩)), (5, .pointer (some ⟨t5b, t5o, none⟩)), (6, .pointer (some ⟨t6b, t6o, none⟩)), (38, .pointer (some ⟨t5b, t5o, none⟩)), (39, .int .i64 t7)] 85 (s' := (.reg (opsAt (sub B [1, 1, 1, 1, 1, 1, 0, 0])) [2, 3, 4] :: S9)) (by kernel_rfl) fun J => ?_
    obtain ⟨t40a, t40n, t40k, H_2, q18, h⟩ := h
    refine KR.se (one_ca (by kernel_rfl) q18) ?_
    exact KR.run 5 [(2, .pointer (some ⟨t2b, t2o, none⟩)), (4, .pointer (some ⟨t4b, t4o, none⟩)), (5, .pointer (some ⟨t5b, t5o, none⟩)), (6, .pointer (some ⟨t6b, t6o, none⟩)), (40, .slice t40a t40n t40k), (41, .int .i64 ((t40n : Nat) : Int)), (42, .int .i64 0)] 85 (s' := (.lp (sub B [1, 1, 1, 1, 1, 1, 0, 1, 0, 0]) :: S10)) (by kernel_rfl) h
theorem L1_step {t2b : Nat} {t2o : Nat} {t4b : Nat} {t4o : Nat} {t5b : Nat} {t5o : Nat} {t6b : Nat} {t6o : Nat} {t40a : Option Addr} {t40n : Nat} {t40k : Nat} {t41 : Int} {t42 : Int} {H : Heap} {r : Value × Heap} (h :
    if t42 < t41 then
    (∃ (t40ab t40ao : Nat), t40a = some ⟨t40ab, t40ao, none⟩ ∧
    ((0 : Int) ≤ t42 ∧ t42 < ((t40n : Nat) : Int) ∧
    (∃ (t45 : Int), ldc H t40ab (t40ao + Int.toNat t42 * 1) = some (.int .u8 t45) ∧
    (∃ (t47a : Option Addr) (t47n : Nat) (t47k : Nat), ldc H t6b (t6o + 4) = some (.slice t47a t47n t47k) ∧
    (∃ (H_1 : Heap), H_1 = H.push (.row [.int .i64 (IntKind.wrap .i64 t45)] true) ∧
    (∃ (t51a : Option Addr) (t51n : Nat) (t51k : Nat) (H_2 : Heap), papp H_1 1 8 t47a t47n t47k (some ⟨H.next, 0, none⟩) 1 (UNK 1) = some ((t51a, t51n, t51k), H_2) ∧
    (∃ (H_3 : Heap), stc H_2 t6b (t6o + 4) [.slice t51a t51n t51k] = some H_3 ∧
    (L1 (t2b) (t2o) (t4b) (t4o) (t5b) (t5o) (t6b) (t6o) ((some ⟨t40ab, t40ao, none⟩)) (t40n) (t40k) (t41) ((IntKind.wrap .i64 (t42 + 1))) H_3 r))))))))
    else
    (∃ (t55 : Int) (H_4 : Heap), xC Try.prog good 72 [.pointer (some ⟨t5b, t5o, none⟩)] H = some (.int .i64 t55, H_4) ∧
    (∃ (t59 : Int), ldc H_4 t5b (t5o + 1) = some (.int .i64 t59) ∧
    (if t59 = 0 then
    (if t55 < 1 then
    (L2 (t2b) (t2o) (t4b) (t4o) (t5b) (t5o) (t6b) (t6o) (t55) (true) H_4 r)
    else
    (L2 (t2b) (t2o) (t4b) (t4o) (t5b) (t5o) (t6b) (t6o) (t55) ((decide (t55 > 24))) H_4 r))
    else
    (L2 (t2b) (t2o) (t4b) (t4o) (t5b) (t5o) (t6b) (t6o) (t55) (false) H_4 r))))) :
    L1 t2b t2o t4b t4o t5b t5o t6b t6o t40a t40n t40k t41 t42 H r := by
  intro J
  show KR _ _ _ (.lp (sub B [1, 1, 1, 1, 1, 1, 0, 1, 0, 0]) :: S10) _ _ _
  refine KR.run 6 [(2, .pointer (some ⟨t2b, t2o, none⟩)), (4, .pointer (some ⟨t4b, t4o, none⟩)), (5, .pointer (some ⟨t5b, t5o, none⟩)), (6, .pointer (some ⟨t6b, t6o, none⟩)), (40, .slice t40a t40n t40k), (41, .int .i64 t41), (42, .int .i64 t42), (43, .bool (decide (t42 < t41)))] 85 (s' := (.code (sub B [1, 1, 1, 1, 1, 1, 0, 1, 0, 0, 1, 0]) :: S12)) (by kernel_rfl) fun J => ?_
  by_cases c19 : t42 < t41
  · replace h := iteT c19 h
    refine KR.br true (by kernel_rfl) (vB (dT c19)) ?_
    obtain ⟨t40ab, t40ao, rfl, h⟩ := h
    refine KR.run 5 [(2, .pointer (some ⟨t2b, t2o, none⟩)), (4, .pointer (some ⟨t4b, t4o, none⟩)), (5, .pointer (some ⟨t5b, t5o, none⟩)), (6, .pointer (some ⟨t6b, t6o, none⟩)), (40, .slice (some ⟨t40ab, t40ao, none⟩) t40n t40k), (41, .int .i64 t41), (42, .int .i64 t42)] 85 (s' := (.reg (opsAt (sub B [1, 1, 1, 1, 1, 1, 0, 1, 0, 0, 1, 1, 0, 0, 0])) [0, 1, 2] :: S15)) (by kernel_rfl) fun J => ?_
    obtain ⟨q20, q20x, h⟩ := h
    refine KR.p (one_ix 1 t40ab t40ao (by kernel_rfl) q20 q20x) ?_
    obtain ⟨t45, q21, h⟩ := h
    refine KR.rd (one_ld (by kernel_rfl) q21) ?_
    refine KR.run 4 [(2, .pointer (some ⟨t2b, t2o, none⟩)), (4, .pointer (some ⟨t4b, t4o, none⟩)), (5, .pointer (some ⟨t5b, t5o, none⟩)), (6, .pointer (some ⟨t6b, t6o, none⟩)), (9, .int .u8 t45), (40, .slice (some ⟨t40ab, t40ao, none⟩) t40n t40k), (41, .int .i64 t41), (42, .int .i64 t42), (46, .pointer (some ⟨t6b, (t6o + 4), none⟩))] 85 (s' := (.reg (opsAt (sub B [1, 1, 1, 1, 1, 1, 0, 1, 0, 0, 1, 1, 0, 0, 1])) [1, 2, 3, 4, 5, 6, 7] :: S14)) (by kernel_rfl) fun J => ?_
    obtain ⟨t47a, t47n, t47k, q22, h⟩ := h
    refine KR.rd (one_ld (by kernel_rfl) q22) ?_
    refine KR.run 2 [(2, .pointer (some ⟨t2b, t2o, none⟩)), (4, .pointer (some ⟨t4b, t4o, none⟩)), (5, .pointer (some ⟨t5b, t5o, none⟩)), (6, .pointer (some ⟨t6b, t6o, none⟩)), (40, .slice (some ⟨t40ab, t40ao, none⟩) t40n t40k), (41, .int .i64 t41), (42, .int .i64 t42), (47, .slice t47a t47n t47k), (49, .int .i64 (IntKind.wrap .i64 t45))] 85 (s' := (.reg (opsAt (sub B [1, 1, 1, 1, 1, 1, 0, 1, 0, 0, 1, 1, 0, 0, 1])) [4, 5, 6, 7] :: S14)) (by kernel_rfl) fun J => ?_
    obtain ⟨H_1, q23, h⟩ := h
    refine KR.mk (w := sRow 1 1 [.int .i64 (IntKind.wrap .i64 t45)]) (one_al (by kernel_rfl)) q23 ?_
    obtain ⟨t51a, t51n, t51k, H_2, q24, h⟩ := h
    refine KR.se (one_ap 1 8 (by kernel_rfl) q24) ?_
    refine KR.run 1 [(2, .pointer (some ⟨t2b, t2o, none⟩)), (4, .pointer (some ⟨t4b, t4o, none⟩)), (5, .pointer (some ⟨t5b, t5o, none⟩)), (6, .pointer (some ⟨t6b, t6o, none⟩)), (40, .slice (some ⟨t40ab, t40ao, none⟩) t40n t40k), (41, .int .i64 t41), (42, .int .i64 t42), (51, .slice t51a t51n t51k), (52, .pointer (some ⟨t6b, (t6o + 4), none⟩))] 85 (s' := (.reg (opsAt (sub B [1, 1, 1, 1, 1, 1, 0, 1, 0, 0, 1, 1, 0, 0, 1])) [7] :: S14)) (by kernel_rfl) fun J => ?_
    obtain ⟨H_3, q25, h⟩ := h
    refine KR.se (one_st (by kernel_rfl) q25) ?_
    exact KR.run 6 [(2, .pointer (some ⟨t2b, t2o, none⟩)), (4, .pointer (some ⟨t4b, t4o, none⟩)), (5, .pointer (some ⟨t5b, t5o, none⟩)), (6, .pointer (some ⟨t6b, t6o, none⟩)), (40, .slice (some ⟨t40ab, t40ao, none⟩) t40n t40k), (41, .int .i64 t41), (42, .int .i64 (IntKind.wrap .i64 (t42 + 1)))] 85 (s' := (.lp (sub B [1, 1, 1, 1, 1, 1, 0, 1, 0, 0]) :: S10)) (by kernel_rfl) h
  · replace h := iteF c19 h
    refine KR.br false (by kernel_rfl) (vB (dF c19)) ?_
    refine KR.run 4 [(2, .pointer (some ⟨t2b, t2o, none⟩)), (4, .pointer (some ⟨t4b, t4o, none⟩)), (5, .pointer (some ⟨t5b, t5o, none⟩)), (6, .pointer (some ⟨t6b, t6o, none⟩)), (54, .pointer (some ⟨t5b, t5o, none⟩))] 85 (s' := (.reg (opsAt (sub B [1, 1, 1, 1, 1, 1, 1, 0])) [1, 2] :: S16)) (by kernel_rfl) fun J => ?_
    obtain ⟨t55, H_4, q26, h⟩ := h
    refine KR.se (one_ca (by kernel_rfl) q26) ?_
    refine KR.run 8 [(2, .pointer (some ⟨t2b, t2o, none⟩)), (4, .pointer (some ⟨t4b, t4o, none⟩)), (5, .pointer (some ⟨t5b, t5o, none⟩)), (6, .pointer (some ⟨t6b, t6o, none⟩)), (10, .int .i64 t55), (58, .pointer (some ⟨t5b, (t5o + 1), none⟩))] 85 (s' := (.reg (opsAt (sub B [1, 1, 1, 1, 1, 1, 1, 1, 0, 0])) [3, 4, 5, 6, 7, 8, 9, 10, 11, 12] :: S18)) (by kernel_rfl) fun J => ?_
    obtain ⟨t59, q27, h⟩ := h
    refine KR.rd (one_ld (by kernel_rfl) q27) ?_
    refine KR.run 2 [(2, .pointer (some ⟨t2b, t2o, none⟩)), (4, .pointer (some ⟨t4b, t4o, none⟩)), (5, .pointer (some ⟨t5b, t5o, none⟩)), (6, .pointer (some ⟨t6b, t6o, none⟩)), (10, .int .i64 t55), (61, .bool (t59 == 0))] 85 (s' := (.reg (opsAt (sub B [1, 1, 1, 1, 1, 1, 1, 1, 0, 0])) [6, 7, 8, 9, 10, 11, 12] :: S18)) (by kernel_rfl) fun J => ?_
    by_cases c28 : t59 = 0
    · replace h := iteT c28 h
      refine KR.setV 61 (by kernel_rfl) (eT c28) ?_
      refine KR.run 3 [(2, .pointer (some ⟨t2b, t2o, none⟩)), (4, .pointer (some ⟨t4b, t4o, none⟩)), (5, .pointer (some ⟨t5b, t5o, none⟩)), (6, .pointer (some ⟨t6b, t6o, none⟩)), (10, .int .i64 t55), (61, .bool true), (64, .bool (decide (t55 < 1)))] 85 (s' := (.reg (opsAt (sub B [1, 1, 1, 1, 1, 1, 1, 1, 0, 0])) [9, 10, 11, 12] :: S18)) (by kernel_rfl) fun J => ?_
      by_cases c29 : t55 < 1
      · replace h := iteT c29 h
        refine KR.setV 64 (by kernel_rfl) (dT c29) ?_
        exact KR.run 5 [(2, .pointer (some ⟨t2b, t2o, none⟩)), (4, .pointer (some ⟨t4b, t4o, none⟩)), (5, .pointer (some ⟨t5b, t5o, none⟩)), (6, .pointer (some ⟨t6b, t6o, none⟩)), (10, .int .i64 t55), (68, .bool true)] 85 (s' := (.code (sub B [1, 1, 1, 1, 1, 1, 1, 1, 0, 1]) :: S17)) (by kernel_rfl) h
      · replace h := iteF c29 h
        refine KR.setV 64 (by kernel_rfl) (dF c29) ?_
        exact KR.run 5 [(2, .pointer (some ⟨t2b, t2o, none⟩)), (4, .pointer (some ⟨t4b, t4o, none⟩)), (5, .pointer (some ⟨t5b, t5o, none⟩)), (6, .pointer (some ⟨t6b, t6o, none⟩)), (10, .int .i64 t55), (68, .bool (decide (t55 > 24)))] 85 (s' := (.code (sub B [1, 1, 1, 1, 1, 1, 1, 1, 0, 1]) :: S17)) (by kernel_rfl) h
    · replace h := iteF c28 h
      refine KR.setV 61 (by kernel_rfl) (eF c28) ?_
      exact KR.run 8 [(2, .pointer (some ⟨t2b, t2o, none⟩)), (4, .pointer (some ⟨t4b, t4o, none⟩)), (5, .pointer (some ⟨t5b, t5o, none⟩)), (6, .pointer (some ⟨t6b, t6o, none⟩)), (10, .int .i64 t55), (68, .bool false)] 85 (s' := (.code (sub B [1, 1, 1, 1, 1, 1, 1, 1, 0, 1]) :: S17)) (by kernel_rfl) h
theorem L2_step {t2b : Nat} {t2o : Nat} {t4b : Nat} {t4o : Nat} {t5b : Nat} {t5o : Nat} {t6b : Nat} {t6o : Nat} {t10 : Int} {t68 : Bool} {H : Heap} {r : Value × Heap} (h :
    if t68 = true then
    (∃ (t69c0 : Int) (t69c1 : Int) (t69c2 : Int) (t69c3 : Int) (t69c4a : Option Addr) (t69c4n : Nat) (t69c4k : Nat) (t69c5a : Option Addr) (t69c5n : Nat) (t69c5k : Nat), ldAll H t4b t4o [.int .i64 t69c0, .int .i64 t69c1, .int .i64 t69c2, .int .i64 t69c3, .slice t69c4a t69c4n t69c4k, .slice t69c5a t69c5n t69c5k] ∧
    (∃ (H_1 : Heap), stc H t2b t2o [.int .i64 t69c0, .int .i64 t69c1, .int .i64 t69c2, .int .i64 t69c3, .slice t69c4a t69c4n t69c4k, .slice t69c5a t69c5n t69c5k] = some H_1 ∧
    (∃ (r2c0 : Int) (r2c1 : Int) (r2c2 : Int) (r2c3 : Int) (r2c4a : Option Addr) (r2c4n : Nat) (r2c4k : Nat) (r2c5a : Option Addr) (r2c5n : Nat) (r2c5k : Nat), ldAll H_1 t2b t2o [.int .i64 r2c0, .int .i64 r2c1, .int .i64 r2c2, .int .i64 r2c3, .slice r2c4a r2c4n r2c4k, .slice r2c5a r2c5n r2c5k] ∧
    (r = (.tuple #[.agg #[.int .i64 r2c0, .int .i64 r2c1, .int .i64 r2c2, .int .i64 r2c3, .slice r2c4a r2c4n r2c4k, .slice r2c5a r2c5n r2c5k], .int .i64 3], H_1)))))
    else
    (∃ (t72a : Option Addr) (t72n : Nat) (t72k : Nat) (H_2 : Heap), xC Try.prog good 74 [.pointer (some ⟨t5b, t5o, none⟩), .int .i64 t10] H = some (.slice t72a t72n t72k, H_2) ∧
    (∃ (H_3 : Heap), stc H_2 t6b (t6o + 5) [.slice t72a t72n t72k] = some H_3 ∧
    (∃ (t75 : Int) (H_4 : Heap), xC Try.prog good 75 [.pointer (some ⟨t5b, t5o, none⟩)] H_3 = some (.int .i64 t75, H_4) ∧
    (if t75 = 0 then
    (∃ (t80c0 : Int) (t80c1 : Int) (t80c2 : Int) (t80c3 : Int) (t80c4a : Option Addr) (t80c4n : Nat) (t80c4k : Nat) (t80c5a : Option Addr) (t80c5n : Nat) (t80c5k : Nat), ldAll H_4 t6b t6o [.int .i64 t80c0, .int .i64 t80c1, .int .i64 t80c2, .int .i64 t80c3, .slice t80c4a t80c4n t80c4k, .slice t80c5a t80c5n t80c5k] ∧
    (∃ (t81 : Bool) (H_5 : Heap), xC Try.prog good 48 [.agg #[.int .i64 t80c0, .int .i64 t80c1, .int .i64 t80c2, .int .i64 t80c3, .slice t80c4a t80c4n t80c4k, .slice t80c5a t80c5n t80c5k]] H_4 = some (.bool t81, H_5) ∧
    (if t81 = true then
    (∃ (t84c0 : Int) (t84c1 : Int) (t84c2 : Int) (t84c3 : Int) (t84c4a : Option Addr) (t84c4n : Nat) (t84c4k : Nat) (t84c5a : Option Addr) (t84c5n : Nat) (t84c5k : Nat), ldAll H_5 t6b t6o [.int .i64 t84c0, .int .i64 t84c1, .int .i64 t84c2, .int .i64 t84c3, .slice t84c4a t84c4n t84c4k, .slice t84c5a t84c5n t84c5k] ∧
    (∃ (H_6 : Heap), stc H_5 t2b t2o [.int .i64 t84c0, .int .i64 t84c1, .int .i64 t84c2, .int .i64 t84c3, .slice t84c4a t84c4n t84c4k, .slice t84c5a t84c5n t84c5k] = some H_6 ∧
    (∃ (r2c0_1 : Int) (r2c1_1 : Int) (r2c2_1 : Int) (r2c3_1 : Int) (r2c4a_1 : Option Addr) (r2c4n_1 : Nat) (r2c4k_1 : Nat) (r2c5a_1 : Option Addr) (r2c5n_1 : Nat) (r2c5k_1 : Nat), ldAll H_6 t2b t2o [.int .i64 r2c0_1, .int .i64 r2c1_1, .int .i64 r2c2_1, .int .i64 r2c3_1, .slice r2c4a_1 r2c4n_1 r2c4k_1, .slice r2c5a_1 r2c5n_1 r2c5k_1] ∧
    (r = (.tuple #[.agg #[.int .i64 r2c0_1, .int .i64 r2c1_1, .int .i64 r2c2_1, .int .i64 r2c3_1, .slice r2c4a_1 r2c4n_1 r2c4k_1, .slice r2c5a_1 r2c5n_1 r2c5k_1], .int .i64 0], H_6)))))
    else
    (∃ (t83c0 : Int) (t83c1 : Int) (t83c2 : Int) (t83c3 : Int) (t83c4a : Option Addr) (t83c4n : Nat) (t83c4k : Nat) (t83c5a : Option Addr) (t83c5n : Nat) (t83c5k : Nat), ldAll H_5 t4b t4o [.int .i64 t83c0, .int .i64 t83c1, .int .i64 t83c2, .int .i64 t83c3, .slice t83c4a t83c4n t83c4k, .slice t83c5a t83c5n t83c5k] ∧
    (∃ (H_7 : Heap), stc H_5 t2b t2o [.int .i64 t83c0, .int .i64 t83c1, .int .i64 t83c2, .int .i64 t83c3, .slice t83c4a t83c4n t83c4k, .slice t83c5a t83c5n t83c5k] = some H_7 ∧
    (∃ (r2c0_2 : Int) (r2c1_2 : Int) (r2c2_2 : Int) (r2c3_2 : Int) (r2c4a_2 : Option Addr) (r2c4n_2 : Nat) (r2c4k_2 : Nat) (r2c5a_2 : Option Addr) (r2c5n_2 : Nat) (r2c5k_2 : Nat), ldAll H_7 t2b t2o [.int .i64 r2c0_2, .int .i64 r2c1_2, .int .i64 r2c2_2, .int .i64 r2c3_2, .slice r2c4a_2 r2c4n_2 r2c4k_2, .slice r2c5a_2 r2c5n_2 r2c5k_2] ∧
    (r = (.tuple #[.agg #[.int .i64 r2c0_2, .int .i64 r2c1_2, .int .i64 r2c2_2, .int .i64 r2c3_2, .slice r2c4a_2 r2c4n_2 r2c4k_2, .slice r2c5a_2 r2c5n_2 r2c5k_2], .int .i64 3], H_7))))))))
    else
    (∃ (t78c0 : Int) (t78c1 : Int) (t78c2 : Int) (t78c3 : Int) (t78c4a : Option Addr) (t78c4n : Nat) (t78c4k : Nat) (t78c5a : Option Addr) (t78c5n : Nat) (t78c5k : Nat), ldAll H_4 t4b t4o [.int .i64 t78c0, .int .i64 t78c1, .int .i64 t78c2, .int .i64 t78c3, .slice t78c4a t78c4n t78c4k, .slice t78c5a t78c5n t78c5k] ∧
    (∃ (H_8 : Heap), stc H_4 t2b t2o [.int .i64 t78c0, .int .i64 t78c1, .int .i64 t78c2, .int .i64 t78c3, .slice t78c4a t78c4n t78c4k, .slice t78c5a t78c5n t78c5k] = some H_8 ∧
    (∃ (r2c0_3 : Int) (r2c1_3 : Int) (r2c2_3 : Int) (r2c3_3 : Int) (r2c4a_3 : Option Addr) (r2c4n_3 : Nat) (r2c4k_3 : Nat) (r2c5a_3 : Option Addr) (r2c5n_3 : Nat) (r2c5k_3 : Nat), ldAll H_8 t2b t2o [.int .i64 r2c0_3, .int .i64 r2c1_3, .int .i64 r2c2_3, .int .i64 r2c3_3, .slice r2c4a_3 r2c4n_3 r2c4k_3, .slice r2c5a_3 r2c5n_3 r2c5k_3] ∧
    (r = (.tuple #[.agg #[.int .i64 r2c0_3, .int .i64 r2c1_3, .int .i64 r2c2_3, .int .i64 r2c3_3, .slice r2c4a_3 r2c4n_3 r2c4k_3, .slice r2c5a_3 r2c5n_3 r2c5k_3], .int .i64 t75], H_8)))))))))) :
    L2 t2b t2o t4b t4o t5b t5o t6b t6o t10 t68 H r := by
  intro J
  show KR _ _ _ (.code (sub B [1, 1, 1, 1, 1, 1, 1, 1, 0, 1]) :: S17) _ _ _
  by_cases c30 : t68 = true
  · replace h := iteT c30 h
    refine KR.br true (by kernel_rfl) (vB (bT c30)) ?_
    refine KR.run 2 [(2, .pointer (some ⟨t2b, t2o, none⟩)), (4, .pointer (some ⟨t4b, t4o, none⟩))] 85 (s' := (.reg (opsAt (sub B [1, 1, 1, 1, 1, 1, 1, 1, 0, 1, 0, 0])) [0, 1, 2] :: S19)) (by kernel_rfl) fun J => ?_
    obtain ⟨t69c0, t69c1, t69c2, t69c3, t69c4a, t69c4n, t69c4k, t69c5a, t69c5n, t69c5k, q31, h⟩ := h
    refine KR.rd (one_ldA (by kernel_rfl) q31) ?_
    obtain ⟨H_1, q32, h⟩ := h
    refine KR.se (one_st (by kernel_rfl) q32) ?_
    refine KR.run 2 [(2, .pointer (some ⟨t2b, t2o, none⟩)), (3, .int .i64 3)] 85 (s' := (.code (sub B [1, 1, 1, 1, 1, 1, 1, 1, 0, 1, 0, 1]) :: S17)) (by kernel_rfl) fun J => ?_
    obtain ⟨r2c0, r2c1, r2c2, r2c3, r2c4a, r2c4n, r2c4k, r2c5a, r2c5n, r2c5k, q33, h⟩ := h
    exact KR.finR (l := [.cell 2 41, .tmp 3]) (vs := [.agg #[.int .i64 r2c0, .int .i64 r2c1, .int .i64 r2c2, .int .i64 r2c3, .slice r2c4a r2c4n r2c4k, .slice r2c5a r2c5n r2c5k], .int .i64 3]) (by kernel_rfl) (Res.cellA (by kernel_rfl) q33 (Res.tmp (by kernel_rfl) Res.nil)) (by kernel_rfl) h
  · replace h := iteF c30 h
    refine KR.br false (by kernel_rfl) (vB (bF c30)) ?_
    refine KR.run 5 [(2, .pointer (some ⟨t2b, t2o, none⟩)), (4, .pointer (some ⟨t4b, t4o, none⟩)), (5, .pointer (some ⟨t5b, t5o, none⟩)), (6, .pointer (some ⟨t6b, t6o, none⟩)), (70, .pointer (some ⟨t5b, t5o, none⟩)), (71, .int .i64 t10)] 85 (s' := (.reg (opsAt (sub B [1, 1, 1, 1, 1, 1, 1, 1, 1, 0])) [2, 3, 4] :: S20)) (by kernel_rfl) fun J => ?_
    obtain ⟨t72a, t72n, t72k, H_2, q34, h⟩ := h
    refine KR.se (one_ca (by kernel_rfl) q34) ?_
    refine KR.run 1 [(2, .pointer (some ⟨t2b, t2o, none⟩)), (4, .pointer (some ⟨t4b, t4o, none⟩)), (5, .pointer (some ⟨t5b, t5o, none⟩)), (6, .pointer (some ⟨t6b, t6o, none⟩)), (72, .slice t72a t72n t72k), (73, .pointer (some ⟨t6b, (t6o + 5), none⟩))] 85 (s' := (.reg (opsAt (sub B [1, 1, 1, 1, 1, 1, 1, 1, 1, 0])) [4] :: S20)) (by kernel_rfl) fun J => ?_
    obtain ⟨H_3, q35, h⟩ := h
    refine KR.se (one_st (by kernel_rfl) q35) ?_
    refine KR.run 5 [(2, .pointer (some ⟨t2b, t2o, none⟩)), (4, .pointer (some ⟨t4b, t4o, none⟩)), (6, .pointer (some ⟨t6b, t6o, none⟩)), (74, .pointer (some ⟨t5b, t5o, none⟩))] 85 (s' := (.reg (opsAt (sub B [1, 1, 1, 1, 1, 1, 1, 1, 1, 1, 0, 0])) [1, 2] :: S22)) (by kernel_rfl) fun J => ?_
    obtain ⟨t75, H_4, q36, h⟩ := h
    refine KR.se (one_ca (by kernel_rfl) q36) ?_
    refine KR.run 7 [(2, .pointer (some ⟨t2b, t2o, none⟩)), (4, .pointer (some ⟨t4b, t4o, none⟩)), (6, .pointer (some ⟨t6b, t6o, none⟩)), (11, .int .i64 t75), (77, .bool (!(t75 == 0)))] 85 (s' := (.code (sub B [1, 1, 1, 1, 1, 1, 1, 1, 1, 1, 0, 1, 1]) :: S21)) (by kernel_rfl) fun J => ?_
    by_cases c37 : t75 = 0
    · replace h := iteT c37 h
      refine KR.br false (by kernel_rfl) (vB (nB (eT c37))) ?_
      refine KR.run 4 [(2, .pointer (some ⟨t2b, t2o, none⟩)), (4, .pointer (some ⟨t4b, t4o, none⟩)), (6, .pointer (some ⟨t6b, t6o, none⟩))] 85 (s' := (.reg (opsAt (sub B [1, 1, 1, 1, 1, 1, 1, 1, 1, 1, 1, 0, 0])) [0, 1, 2] :: S24)) (by kernel_rfl) fun J => ?_
      obtain ⟨t80c0, t80c1, t80c2, t80c3, t80c4a, t80c4n, t80c4k, t80c5a, t80c5n, t80c5k, q38, h⟩ := h
      refine KR.rd (one_ldA (by kernel_rfl) q38) ?_
      obtain ⟨t81, H_5, q39, h⟩ := h
      refine KR.se (one_ca (by kernel_rfl) q39) ?_
      refine KR.run 2 [(2, .pointer (some ⟨t2b, t2o, none⟩)), (4, .pointer (some ⟨t4b, t4o, none⟩)), (6, .pointer (some ⟨t6b, t6o, none⟩)), (82, .bool (!t81))] 85 (s' := (.code (sub B [1, 1, 1, 1, 1, 1, 1, 1, 1, 1, 1, 0, 1]) :: S23)) (by kernel_rfl) fun J => ?_
      by_cases c40 : t81 = true
      · replace h := iteT c40 h
        refine KR.br false (by kernel_rfl) (vB (nB (bT c40))) ?_
        refine KR.run 3 [(2, .pointer (some ⟨t2b, t2o, none⟩)), (6, .pointer (some ⟨t6b, t6o, none⟩))] 85 (s' := (.reg (opsAt (sub B [1, 1, 1, 1, 1, 1, 1, 1, 1, 1, 1, 1, 0])) [0, 1, 2] :: S25)) (by kernel_rfl) fun J => ?_
        obtain ⟨t84c0, t84c1, t84c2, t84c3, t84c4a, t84c4n, t84c4k, t84c5a, t84c5n, t84c5k, q41, h⟩ := h
        refine KR.rd (one_ldA (by kernel_rfl) q41) ?_
        obtain ⟨H_6, q42, h⟩ := h
        refine KR.se (one_st (by kernel_rfl) q42) ?_
        refine KR.run 2 [(2, .pointer (some ⟨t2b, t2o, none⟩)), (3, .int .i64 0)] 85 (s' := (.code (sub B [1, 1, 1, 1, 1, 1, 1, 1, 1, 1, 1, 1, 1]) :: [])) (by kernel_rfl) fun J => ?_
        obtain ⟨r2c0_1, r2c1_1, r2c2_1, r2c3_1, r2c4a_1, r2c4n_1, r2c4k_1, r2c5a_1, r2c5n_1, r2c5k_1, q43, h⟩ := h
        exact KR.finR (l := [.cell 2 41, .tmp 3]) (vs := [.agg #[.int .i64 r2c0_1, .int .i64 r2c1_1, .int .i64 r2c2_1, .int .i64 r2c3_1, .slice r2c4a_1 r2c4n_1 r2c4k_1, .slice r2c5a_1 r2c5n_1 r2c5k_1], .int .i64 0]) (by kernel_rfl) (Res.cellA (by kernel_rfl) q43 (Res.tmp (by kernel_rfl) Res.nil)) (by kernel_rfl) h
      · replace h := iteF c40 h
        refine KR.br true (by kernel_rfl) (vB (nB (bF c40))) ?_
        refine KR.run 2 [(2, .pointer (some ⟨t2b, t2o, none⟩)), (4, .pointer (some ⟨t4b, t4o, none⟩))] 85 (s' := (.reg (opsAt (sub B [1, 1, 1, 1, 1, 1, 1, 1, 1, 1, 1, 0, 1, 0, 0])) [0, 1, 2] :: S26)) (by kernel_rfl) fun J => ?_
        obtain ⟨t83c0, t83c1, t83c2, t83c3, t83c4a, t83c4n, t83c4k, t83c5a, t83c5n, t83c5k, q44, h⟩ := h
        refine KR.rd (one_ldA (by kernel_rfl) q44) ?_
        obtain ⟨H_7, q45, h⟩ := h
        refine KR.se (one_st (by kernel_rfl) q45) ?_
        refine KR.run 2 [(2, .pointer (some ⟨t2b, t2o, none⟩)), (3, .int .i64 3)] 85 (s' := (.code (sub B [1, 1, 1, 1, 1, 1, 1, 1, 1, 1, 1, 0, 1, 0, 1]) :: S23)) (by kernel_rfl) fun J => ?_
        obtain ⟨r2c0_2, r2c1_2, r2c2_2, r2c3_2, r2c4a_2, r2c4n_2, r2c4k_2, r2c5a_2, r2c5n_2, r2c5k_2, q46, h⟩ := h
        exact KR.finR (l := [.cell 2 41, .tmp 3]) (vs := [.agg #[.int .i64 r2c0_2, .int .i64 r2c1_2, .int .i64 r2c2_2, .int .i64 r2c3_2, .slice r2c4a_2 r2c4n_2 r2c4k_2, .slice r2c5a_2 r2c5n_2 r2c5k_2], .int .i64 3]) (by kernel_rfl) (Res.cellA (by kernel_rfl) q46 (Res.tmp (by kernel_rfl) Res.nil)) (by kernel_rfl) h
    · replace h := iteF c37 h
      refine KR.br true (by kernel_rfl) (vB (nB (eF c37))) ?_
      refine KR.run 2 [(2, .pointer (some ⟨t2b, t2o, none⟩)), (4, .pointer (some ⟨t4b, t4o, none⟩)), (11, .int .i64 t75)] 85 (s' := (.reg (opsAt (sub B [1, 1, 1, 1, 1, 1, 1, 1, 1, 1, 0, 1, 1, 0, 0])) [0, 1, 2, 3] :: S27)) (by kernel_rfl) fun J => ?_
      obtain ⟨t78c0, t78c1, t78c2, t78c3, t78c4a, t78c4n, t78c4k, t78c5a, t78c5n, t78c5k, q47, h⟩ := h
      refine KR.rd (one_ldA (by kernel_rfl) q47) ?_
      refine KR.run 1 [(2, .pointer (some ⟨t2b, t2o, none⟩)), (78, .agg #[.int .i64 t78c0, .int .i64 t78c1, .int .i64 t78c2, .int .i64 t78c3, .slice t78c4a t78c4n t78c4k, .slice t78c5a t78c5n t78c5k]), (79, .int .i64 t75)] 85 (s' := (.reg (opsAt (sub B [1, 1, 1, 1, 1, 1, 1, 1, 1, 1, 0, 1, 1, 0, 0])) [2, 3] :: S27)) (by kernel_rfl) fun J => ?_
      obtain ⟨H_8, q48, h⟩ := h
      refine KR.se (one_st (by kernel_rfl) q48) ?_
      refine KR.run 2 [(2, .pointer (some ⟨t2b, t2o, none⟩)), (3, .int .i64 t75)] 85 (s' := (.code (sub B [1, 1, 1, 1, 1, 1, 1, 1, 1, 1, 0, 1, 1, 0, 1]) :: S21)) (by kernel_rfl) fun J => ?_
      obtain ⟨r2c0_3, r2c1_3, r2c2_3, r2c3_3, r2c4a_3, r2c4n_3, r2c4k_3, r2c5a_3, r2c5n_3, r2c5k_3, q49, h⟩ := h
      exact KR.finR (l := [.cell 2 41, .tmp 3]) (vs := [.agg #[.int .i64 r2c0_3, .int .i64 r2c1_3, .int .i64 r2c2_3, .int .i64 r2c3_3, .slice r2c4a_3 r2c4n_3 r2c4k_3, .slice r2c5a_3 r2c5n_3 r2c5k_3], .int .i64 t75]) (by kernel_rfl) (Res.cellA (by kernel_rfl) q49 (Res.tmp (by kernel_rfl) Res.nil)) (by kernel_rfl) h
theorem call {a0a : Option Addr} {a0n : Nat} {a0k : Nat} {H : Heap} {r : Value × Heap} (h :
    ∃ (H_1 : Heap), H_1 = H.push (.row [.int .i64 0, .int .i64 0, .int .i64 0, .int .i64 0, .slice none 0 0, .slice none 0 0] true) ∧
    (∃ (H_2 : Heap), H_2 = H_1.push (.row [.int .i64 0, .int .i64 0, .int .i64 0, .int .i64 0, .slice none 0 0, .slice none 0 0] true) ∧
    (∃ (H_3 : Heap), stc H_2 H_1.next 0 [.int .i64 0, .int .i64 0, .int .i64 0, .int .i64 0, .slice none 0 0, .slice none 0 0] = some H_3 ∧
    (∃ (H_4 : Heap), H_4 = H_3.push (.row [.slice a0a a0n a0k, .int .i64 0] true) ∧
    (∃ (t17 : Int) (H_5 : Heap), xC Try.prog good 72 [.pointer (some ⟨H_3.next, 0, none⟩)] H_4 = some (.int .i64 t17, H_5) ∧
    (∃ (t19 : Int) (H_6 : Heap), xC Try.prog good 72 [.pointer (some ⟨H_3.next, 0, none⟩)] H_5 = some (.int .i64 t19, H_6) ∧
    (∃ (t21 : Int) (H_7 : Heap), xC Try.prog good 73 [.pointer (some ⟨H_3.next, 0, none⟩), .int .i64 6] H_6 = some (.int .u64 t21, H_7) ∧
    (∃ (t24 : Int) (H_8 : Heap), xC Try.prog good 72 [.pointer (some ⟨H_3.next, 0, none⟩)] H_7 = some (.int .i64 t24, H_8) ∧
    (∃ (H_9 : Heap), H_9 = H_8.push (.row [.int .i64 0, .int .i64 0, .int .i64 0, .int .i64 0, .slice none 0 0, .slice none 0 0] true) ∧
    (∃ (H_10 : Heap), stc H_9 H_8.next 0 [.int .i64 t17, .int .i64 t19, .int .i64 (IntKind.wrap .i64 t21), .int .i64 t24, .slice none 0 0, .slice none 0 0] = some H_10 ∧
    (∃ (t27 : Int) (H_11 : Heap), xC Try.prog good 72 [.pointer (some ⟨H_3.next, 0, none⟩)] H_10 = some (.int .i64 t27, H_11) ∧
    (∃ (t31 : Int), ldc H_11 H_3.next 1 = some (.int .i64 t31) ∧
    (if t31 = 0 then
    (L0 (H.next) (0) (H_1.next) (0) (H_3.next) (0) (H_8.next) (0) (t27) ((decide (t27 > 16))) H_11 r)
    else
    (L0 (H.next) (0) (H_1.next) (0) (H_3.next) (0) (H_8.next) (0) (t27) (false) H_11 r)))))))))))))) :
    xC Try.prog good 50 [.slice a0a a0n a0k] H = some r := by
  refine KR.enter (fn := Try.f50) (c := B) (by kernel_rfl) (by kernel_rfl) ?_
  refine KR.run 2 [(0, .slice a0a a0n a0k)] 85 (s' := (.reg (opsAt (sub B [0])) [0, 1] :: S0)) (by kernel_rfl) fun J => ?_
  obtain ⟨H_1, q1, h⟩ := h
  refine KR.mk (w := pRow [.int .i64 0, .int .i64 0, .int .i64 0, .int .i64 0, .slice none 0 0, .slice none 0 0]) (one_al (by kernel_rfl)) q1 ?_
  refine KR.run 5 [(0, .slice a0a a0n a0k), (2, .pointer (some ⟨H.next, 0, none⟩)), (12, .agg #[.int .i64 0, .int .i64 0, .int .i64 0, .int .i64 0, .slice none 0 0, .slice none 0 0])] 85 (s' := (.reg (opsAt (sub B [1, 0])) [1, 2] :: S1)) (by kernel_rfl) fun J => ?_
  obtain ⟨H_2, q2, h⟩ := h
  refine KR.mk (w := pRow [.int .i64 0, .int .i64 0, .int .i64 0, .int .i64 0, .slice none 0 0, .slice none 0 0]) (one_al (by kernel_rfl)) q2 ?_
  obtain ⟨H_3, q3, h⟩ := h
  refine KR.se (one_st (by kernel_rfl) q3) ?_
  refine KR.run 5 [(2, .pointer (some ⟨H.next, 0, none⟩)), (4, .pointer (some ⟨H_1.next, 0, none⟩)), (14, .agg #[.slice a0a a0n a0k, .int .i64 0])] 85 (s' := (.reg (opsAt (sub B [1, 1, 0])) [2, 3] :: S2)) (by kernel_rfl) fun J => ?_
  obtain ⟨H_4, q4, h⟩ := h
  refine KR.mk (w := pRow [.slice a0a a0n a0k, .int .i64 0]) (one_al (by kernel_rfl)) q4 ?_
  refine KR.run 5 [(2, .pointer (some ⟨H.next, 0, none⟩)), (4, .pointer (some ⟨H_1.next, 0, none⟩)), (5, .pointer (some ⟨H_3.next, 0, none⟩)), (16, .pointer (some ⟨H_3.next, 0, none⟩))] 85 (s' := (.reg (opsAt (sub B [1, 1, 1, 0])) [1, 2, 3, 4, 5, 6, 7, 8, 9, 10, 11] :: S3)) (by kernel_rfl) fun J => ?_
  obtain ⟨t17, H_5, q5, h⟩ := h
  refine KR.se (one_ca (by kernel_rfl) q5) ?_
  refine KR.run 1 [(2, .pointer (some ⟨H.next, 0, none⟩)), (4, .pointer (some ⟨H_1.next, 0, none⟩)), (5, .pointer (some ⟨H_3.next, 0, none⟩)), (17, .int .i64 t17), (18, .pointer (some ⟨H_3.next, 0, none⟩))] 85 (s' := (.reg (opsAt (sub B [1, 1, 1, 0])) [3, 4, 5, 6, 7, 8, 9, 10, 11] :: S3)) (by kernel_rfl) fun J => ?_
  obtain ⟨t19, H_6, q6, h⟩ := h
  refine KR.se (one_ca (by kernel_rfl) q6) ?_
  refine KR.run 1 [(2, .pointer (some ⟨H.next, 0, none⟩)), (4, .pointer (some ⟨H_1.next, 0, none⟩)), (5, .pointer (some ⟨H_3.next, 0, none⟩)), (17, .int .i64 t17), (19, .int .i64 t19), (20, .pointer (some ⟨H_3.next, 0, none⟩))] 85 (s' := (.reg (opsAt (sub B [1, 1, 1, 0])) [5, 6, 7, 8, 9, 10, 11] :: S3)) (by kernel_rfl) fun J => ?_
  obtain ⟨t21, H_7, q7, h⟩ := h
  refine KR.se (one_ca (by kernel_rfl) q7) ?_
  refine KR.run 2 [(2, .pointer (some ⟨H.next, 0, none⟩)), (4, .pointer (some ⟨H_1.next, 0, none⟩)), (5, .pointer (some ⟨H_3.next, 0, none⟩)), (17, .int .i64 t17), (19, .int .i64 t19), (22, .int .i64 (IntKind.wrap .i64 t21)), (23, .pointer (some ⟨H_3.next, 0, none⟩))] 85 (s' := (.reg (opsAt (sub B [1, 1, 1, 0])) [8, 9, 10, 11] :: S3)) (by kernel_rfl) fun J => ?_
  obtain ⟨t24, H_8, q8, h⟩ := h
  refine KR.se (one_ca (by kernel_rfl) q8) ?_
  refine KR.run 1 [(2, .pointer (some ⟨H.next, 0, none⟩)), (4, .pointer (some ⟨H_1.next, 0, none⟩)), (5, .pointer (some ⟨H_3.next, 0, none⟩)), (25, .agg #[.int .i64 t17, .int .i64 t19, .int .i64 (IntKind.wrap .i64 t21), .int .i64 t24, .slice none 0 0, .slice none 0 0])] 85 (s' := (.reg (opsAt (sub B [1, 1, 1, 0])) [10, 11] :: S3)) (by kernel_rfl) fun J => ?_
  obtain ⟨H_9, q9, h⟩ := h
  refine KR.mk (w := pRow [.int .i64 0, .int .i64 0, .int .i64 0, .int .i64 0, .slice none 0 0, .slice none 0 0]) (one_al (by kernel_rfl)) q9 ?_
  obtain ⟨H_10, q10, h⟩ := h
  refine KR.se (one_st (by kernel_rfl) q10) ?_
  refine KR.run 4 [(2, .pointer (some ⟨H.next, 0, none⟩)), (4, .pointer (some ⟨H_1.next, 0, none⟩)), (5, .pointer (some ⟨H_3.next, 0, none⟩)), (6, .pointer (some ⟨H_8.next, 0, none⟩)), (26, .pointer (some ⟨H_3.next, 0, none⟩))] 85 (s' := (.reg (opsAt (sub B [1, 1, 1, 1, 0])) [1, 2] :: S4)) (by kernel_rfl) fun J => ?_
  obtain ⟨t27, H_11, q11, h⟩ := h
  refine KR.se (one_ca (by kernel_rfl) q11) ?_
  refine KR.run 8 [(2, .pointer (some ⟨H.next, 0, none⟩)), (4, .pointer (some ⟨H_1.next, 0, none⟩)), (5, .pointer (some ⟨H_3.next, 0, none⟩)), (6, .pointer (some ⟨H_8.next, 0, none⟩)), (7, .int .i64 t27), (30, .pointer (some ⟨H_3.next, 1, none⟩))] 85 (s' := (.reg (opsAt (sub B [1, 1, 1, 1, 1, 0, 0])) [3, 4, 5, 6, 7, 8] :: S6)) (by kernel_rfl) fun J => ?_
  obtain ⟨t31, q12, h⟩ := h
  refine KR.rd (one_ld (by kernel_rfl) q12) ?_
  refine KR.run 2 [(2, .pointer (some ⟨H.next, 0, none⟩)), (4, .pointer (some ⟨H_1.next, 0, none⟩)), (5, .pointer (some ⟨H_3.next, 0, none⟩)), (6, .pointer (some ⟨H_8.next, 0, none⟩)), (7, .int .i64 t27), (33, .bool (t31 == 0))] 85 (s' := (.reg (opsAt (sub B [1, 1, 1, 1, 1, 0, 0])) [6, 7, 8] :: S6)) (by kernel_rfl) fun J => ?_
  by_cases c13 : t31 = 0
  · replace h := iteT c13 h
    refine KR.setV 33 (by kernel_rfl) (eT c13) ?_
    exact KR.run 4 [(2, .pointer (some ⟨H.next, 0, none⟩)), (4, .pointer (some ⟨H_1.next, 0, none⟩)), (5, .pointer (some ⟨H_3.next, 0, none⟩)), (6, .pointer (some ⟨H_8.next, 0, none⟩)), (7, .int .i64 t27), (36, .bool (decide (t27 > 16)))] 85 (s' := (.code (sub B [1, 1, 1, 1, 1, 0, 1]) :: S5)) (by kernel_rfl) h
  · replace h := iteF c13 h
    refine KR.setV 33 (by kernel_rfl) (eF c13) ?_
    exact KR.run 4 [(2, .pointer (some ⟨H.next, 0, none⟩)), (4, .pointer (some ⟨H_1.next, 0, none⟩)), (5, .pointer (some ⟨H_3.next, 0, none⟩)), (6, .pointer (some ⟨H_8.next, 0, none⟩)), (7, .int .i64 t27), (36, .bool false)] 85 (s' := (.code (sub B [1, 1, 1, 1, 1, 0, 1]) :: S5)) (by kernel_rfl) h
end F50
/-! #### 69 campanile/route.next -/
namespace F69
noncomputable def B : Code := bodyOf Try.f69
noncomputable def S0 : List It := (.code (sub B [1, 1]) :: [])
theorem call {a0 : Option Addr} {H : Heap} {r : Value × Heap} (h :
    ∃ (t4 : Int) (H_1 : Heap), xC Try.prog good 18 [.pointer a0, .int .i64 8] H = some (.int .u64 t4, H_1) ∧
    (r = (.int .i64 (IntKind.wrap .i64 t4), H_1))) :
    xC Try.prog good 69 [.pointer a0] H = some r := by
  refine KR.enter (fn := Try.f69) (c := B) (by kernel_rfl) (by kernel_rfl) ?_
  refine KR.run 7 [(3, .pointer a0)] 6 (s' := (.reg (opsAt (sub B [1, 0])) [1, 2, 3] :: S0)) (by kernel_rfl) fun J => ?_
  obtain ⟨t4, H_1, q1, h⟩ := h
  refine KR.se (one_ca (by kernel_rfl) q1) ?_
  refine KR.run 3 [(2, .int .i64 (IntKind.wrap .i64 t4))] 6 (s' := (.code (sub B [1, 1]) :: [])) (by kernel_rfl) fun J => ?_
  exact KR.fin (by kernel_rfl) h
end F69
/-! #### 70 campanile/campanileref18.join -/
namespace F70
noncomputable def B : Code := bodyOf Try.f70
noncomputable def S0 : List It := (.code (sub B [1, 1, 1]) :: [])
noncomputable def S1 : List It := (.blk 0 :: S0)
noncomputable def S2 : List It := (.lp (sub B [1, 1, 0, 1, 0, 0]) :: S1)
noncomputable def S3 : List It := (.code (sub B [1, 1, 0, 1, 0, 0, 1, 1]) :: S2)
noncomputable def S4 : List It := (.code (sub B [1, 1, 0, 1, 0, 0, 1, 1, 1]) :: S2)
noncomputable def S5 : List It := (.blk 1 :: S4)
noncomputable def S6 : List It := (.code (sub B [1, 1, 0, 1, 0, 0, 1, 1, 0, 0, 1]) :: S5)
def L0 (t3a : Option Addr) (t3n : Nat) (t3k : Nat) (t6a : Option Addr) (t6n : Nat) (t6k : Nat) (t7 : Int) (t8 : Int) (H : Heap) (r : Value × Heap) : Prop := ∀ J, KR Try.prog good Try.f70 S2 (mat J 17 [(3, .slice t3a t3n t3k), (6, .slice t6a t6n t6k), (7, .int .i64 t7), (8, .int .i64 t8)]) H r
theorem L0_step {t3a : Option Addr} {t3n : Nat} {t3k : Nat} {t6a : Option Addr} {t6n : Nat} {t6k : Nat} {t7 : Int} {t8 : Int} {H : Heap} {r : Value × Heap} (h :
    if t8 < t7 then
    (∃ (t6ab t6ao : Nat), t6a = some ⟨t6ab, t6ao, none⟩ ∧
    ((0 : Int) ≤ t8 ∧ t8 < ((t6n : Nat) : Int) ∧
    (∃ (t11a : Option Addr) (t11n : Nat) (t11k : Nat), ldc H t6ab (t6ao + Int.toNat t8 * 1) = some (.slice t11a t11n t11k) ∧
    (∃ (t14a : Option Addr) (t14n : Nat) (t14k : Nat) (H_1 : Heap), papp H 1 1 t3a t3n t3k t11a t11n t11k = some ((t14a, t14n, t14k), H_1) ∧
    (L0 (t14a) (t14n) (t14k) ((some ⟨t6ab, t6ao, none⟩)) (t6n) (t6k) (t7) ((IntKind.wrap .i64 (t8 + 1))) H_1 r)))))
    else
    (r = (.slice t3a t3n t3k, H))) :
    L0 t3a t3n t3k t6a t6n t6k t7 t8 H r := by
  intro J
  show KR _ _ _ (.lp (sub B [1, 1, 0, 1, 0, 0]) :: S1) _ _ _
  refine KR.run 6 [(3, .slice t3a t3n t3k), (6, .slice t6a t6n t6k), (7, .int .i64 t7), (8, .int .i64 t8), (9, .bool (decide (t8 < t7)))] 17 (s' := (.code (sub B [1, 1, 0, 1, 0, 0, 1, 0]) :: S3)) (by kernel_rfl) fun J => ?_
  by_cases c1 : t8 < t7
  · replace h := iteT c1 h
    refine KR.br true (by kernel_rfl) (vB (dT c1)) ?_
    obtain ⟨t6ab, t6ao, rfl, h⟩ := h
    refine KR.run 5 [(3, .slice t3a t3n t3k), (6, .slice (some ⟨t6ab, t6ao, none⟩) t6n t6k), (7, .int .i64 t7), (8, .int .i64 t8)] 17 (s' := (.reg (opsAt (sub B [1, 1, 0, 1, 0, 0, 1, 1, 0, 0, 0])) [0, 1, 2] :: S6)) (by kernel_rfl) fun J => ?_
    obtain ⟨q2, q2x, h⟩ := h
    refine KR.p (one_ix 1 t6ab t6ao (by kernel_rfl) q2 q2x) ?_
    obtain ⟨t11a, t11n, t11k, q3, h⟩ := h
    refine KR.rd (one_ld (by kernel_rfl) q3) ?_
    refine KR.run 5 [(6, .slice (some ⟨t6ab, t6ao, none⟩) t6n t6k), (7, .int .i64 t7), (8, .int .i64 t8), (12, .slice t3a t3n t3k), (13, .slice t11a t11n t11k)] 17 (s' := (.reg (opsAt (sub B [1, 1, 0, 1, 0, 0, 1, 1, 0, 0, 1])) [2, 3] :: S5)) (by kernel_rfl) fun J => ?_
    obtain ⟨t14a, t14n, t14k, H_1, q4, h⟩ := h
    refine KR.se (one_ap 1 1 (by kernel_rfl) q4) ?_
    exact KR.run 7 [(3, .slice t14a t14n t14k), (6, .slice (some ⟨t6ab, t6ao, none⟩) t6n t6k), (7, .int .i64 t7), (8, .int .i64 (IntKind.wrap .i64 (t8 + 1)))] 17 (s' := (.lp (sub B [1, 1, 0, 1, 0, 0]) :: S1)) (by kernel_rfl) h
  · replace h := iteF c1 h
    refine KR.br false (by kernel_rfl) (vB (dF c1)) ?_
    refine KR.run 6 [(2, .slice t3a t3n t3k)] 17 (s' := (.code (sub B [1, 1, 1, 1]) :: [])) (by kernel_rfl) fun J => ?_
    exact KR.fin (by kernel_rfl) h
theorem call {a0a : Option Addr} {a0n : Nat} {a0k : Nat} {H : Heap} {r : Value × Heap} (h :
    L0 (none) (0) (0) (a0a) (a0n) (a0k) (((a0n : Nat) : Int)) 0 H r) :
    xC Try.prog good 70 [.slice a0a a0n a0k] H = some r := by
  refine KR.enter (fn := Try.f70) (c := B) (by kernel_rfl) (by kernel_rfl) ?_
  exact KR.run 17 [(3, .slice none 0 0), (6, .slice a0a a0n a0k), (7, .int .i64 ((a0n : Nat) : Int)), (8, .int .i64 0)] 17 (s' := (.lp (sub B [1, 1, 0, 1, 0, 0]) :: S1)) (by kernel_rfl) h
end F70
/-! #### 71 campanile/campanileref1.Bytes -/
namespace F71
noncomputable def B : Code := bodyOf Try.f71
noncomputable def S0 : List It := (.code (sub B [1, 1, 1]) :: [])
noncomputable def S1 : List It := (.blk 0 :: S0)
noncomputable def S2 : List It := (.lp (sub B [1, 1, 0, 1, 0, 0]) :: S1)
noncomputable def S3 : List It := (.code (sub B [1, 1, 0, 1, 0, 0, 1]) :: S2)
noncomputable def S4 : List It := (.code (sub B [1, 1, 0, 1, 0, 0, 1, 1]) :: S2)
noncomputable def S5 : List It := (.blk 1 :: S4)
def L0 (t0 : Int) (t5a : Option Addr) (t5n : Nat) (t5k : Nat) (t6 : Int) (H : Heap) (r : Value × Heap) : Prop := ∀ J, KR Try.prog good Try.f71 S2 (mat J 23 [(0, .int .u64 t0), (5, .slice t5a t5n t5k), (6, .int .i64 t6)]) H r
theorem L0_step {t0 : Int} {t5a : Option Addr} {t5n : Nat} {t5k : Nat} {t6 : Int} {H : Heap} {r : Value × Heap} (h :
    if t6 ≥ 0 then
    ((0 : Int) ≤ (IntKind.wrap .u64 (IntKind.wrap .i64 (8 * t6))) ∧
    (∃ (H_1 : Heap), H_1 = H.push (.row [.int .u8 (IntKind.wrap .u8 (ishr .u64 t0 (IntKind.wrap .u64 (IntKind.wrap .i64 (8 * t6)))))] true) ∧
    (∃ (t21a : Option Addr) (t21n : Nat) (t21k : Nat) (H_2 : Heap), papp H_1 1 1 t5a t5n t5k (some ⟨H.next, 0, none⟩) 1 (UNK 1) = some ((t21a, t21n, t21k), H_2) ∧
    (L0 (t0) (t21a) (t21n) (t21k) ((IntKind.wrap .i64 (t6 - 1))) H_2 r))))
    else
    (r = (.slice t5a t5n t5k, H))) :
    L0 t0 t5a t5n t5k t6 H r := by
  intro J
  show KR _ _ _ (.lp (sub B [1, 1, 0, 1, 0, 0]) :: S1) _ _ _
  refine KR.run 7 [(0, .int .u64 t0), (5, .slice t5a t5n t5k), (6, .int .i64 t6), (10, .bool (decide (t6 ≥ 0)))] 23 (s' := (.code (sub B [1, 1, 0, 1, 0, 0, 0, 1]) :: S3)) (by kernel_rfl) fun J => ?_
  by_cases c1 : t6 ≥ 0
  · replace h := iteT c1 h
    refine KR.br true (by kernel_rfl) (vB (dT c1)) ?_
    refine KR.run 9 [(0, .int .u64 t0), (6, .int .i64 t6), (13, .slice t5a t5n t5k), (14, .int .u64 t0), (17, .int .u64 (IntKind.wrap .u64 (IntKind.wrap .i64 (8 * t6))))] 23 (s' := (.reg (opsAt (sub B [1, 1, 0, 1, 0, 0, 1, 0, 0])) [5, 6, 7, 8, 9] :: S5)) (by kernel_rfl) fun J => ?_
    obtain ⟨q2, h⟩ := h
    refine KR.p (one_shr .u64 .u64 t0 (by kernel_rfl) q2) ?_
    refine KR.run 1 [(0, .int .u64 t0), (6, .int .i64 t6), (13, .slice t5a t5n t5k), (19, .int .u8 (IntKind.wrap .u8 (ishr .u64 t0 (IntKind.wrap .u64 (IntKind.wrap .i64 (8 * t6))))))] 23 (s' := (.reg (opsAt (sub B [1, 1, 0, 1, 0, 0, 1, 0, 0])) [7, 8, 9] :: S5)) (by kernel_rfl) fun J => ?_
    obtain ⟨H_1, q3, h⟩ := h
    refine KR.mk (w := sRow 1 1 [.int .u8 (IntKind.wrap .u8 (ishr .u64 t0 (IntKind.wrap .u64 (IntKind.wrap .i64 (8 * t6)))))]) (one_al (by kernel_rfl)) q3 ?_
    obtain ⟨t21a, t21n, t21k, H_2, q4, h⟩ := h
    refine KR.se (one_ap 1 1 (by kernel_rfl) q4) ?_
    exact KR.run 8 [(0, .int .u64 t0), (5, .slice t21a t21n t21k), (6, .int .i64 (IntKind.wrap .i64 (t6 - 1)))] 23 (s' := (.lp (sub B [1, 1, 0, 1, 0, 0]) :: S1)) (by kernel_rfl) h
  · replace h := iteF c1 h
    refine KR.br false (by kernel_rfl) (vB (dF c1)) ?_
    refine KR.run 6 [(4, .slice t5a t5n t5k)] 23 (s' := (.code (sub B [1, 1, 1, 1]) :: [])) (by kernel_rfl) fun J => ?_
    exact KR.fin (by kernel_rfl) h
theorem call {a0 : Int} {a1 : Int} {H : Heap} {r : Value × Heap} (h :
    L0 (a0) (none) (0) (0) ((IntKind.wrap .i64 (a1 - 1))) H r) :
    xC Try.prog good 71 [.int .u64 a0, .int .i64 a1] H = some r := by
  refine KR.enter (fn := Try.f71) (c := B) (by kernel_rfl) (by kernel_rfl) ?_
  exact KR.run 17 [(0, .int .u64 a0), (5, .slice none 0 0), (6, .int .i64 (IntKind.wrap .i64 (a1 - 1)))] 23 (s' := (.lp (sub B [1, 1, 0, 1, 0, 0]) :: S1)) (by kernel_rfl) h
end F71
/-! #### 72 (*campanile/campanileref1.Reader).U8 -/
namespace F72
noncomputable def B : Code := bodyOf Try.f72
noncomputable def S0 : List It := (.code (sub B [1, 1]) :: [])
theorem call {a0 : Option Addr} {H : Heap} {r : Value × Heap} (h :
    ∃ (t4 : Int) (H_1 : Heap), xC Try.prog good 73 [.pointer a0, .int .i64 1] H = some (.int .u64 t4, H_1) ∧
    (r = (.int .i64 (IntKind.wrap .i64 t4), H_1))) :
    xC Try.prog good 72 [.pointer a0] H = some r := by
  refine KR.enter (fn := Try.f72) (c := B) (by kernel_rfl) (by kernel_rfl) ?_
  refine KR.run 7 [(3, .pointer a0)] 6 (s' := (.reg (opsAt (sub B [1, 0])) [1, 2, 3] :: S0)) (by kernel_rfl) fun J => ?_
  obtain ⟨t4, H_1, q1, h⟩ := h
  refine KR.se (one_ca (by kernel_rfl) q1) ?_
  refine KR.run 3 [(2, .int .i64 (IntKind.wrap .i64 t4))] 6 (s' := (.code (sub B [1, 1]) :: [])) (by kernel_rfl) fun J => ?_
  exact KR.fin (by kernel_rfl) h
end F72
/-! #### 73 (*campanile/campanileref1.Reader).Num -/
namespace F73
noncomputable def B : Code := bodyOf Try.f73
noncomputable def S0 : List It := (.code (sub B [1, 1, 1]) :: [])
noncomputable def S1 : List It := (.code (sub B [1, 1, 0, 1]) :: S0)
noncomputable def S2 : List It := (.blk 0 :: S0)
noncomputable def S3 : List It := (.lp (sub B [1, 1, 0, 1, 0, 0]) :: S2)
noncomputable def S4 : List It := (.code (sub B [1, 1, 0, 1, 0, 0, 1, 1]) :: S3)
noncomputable def S5 : List It := (.code (sub B [1, 1, 0, 1, 0, 0, 1, 1, 1]) :: S3)
noncomputable def S6 : List It := (.blk 1 :: S5)
noncomputable def S7 : List It := (.code (sub B [1, 1, 0, 1, 0, 0, 1, 1, 0, 0, 1]) :: S6)
def L0 (t5 : Int) (t10a : Option Addr) (t10n : Nat) (t10k : Nat) (t11 : Int) (t12 : Int) (H : Heap) (r : Value × Heap) : Prop := ∀ J, KR Try.prog good Try.f73 S3 (mat J 23 [(5, .int .u64 t5), (10, .slice t10a t10n t10k), (11, .int .i64 t11), (12, .int .i64 t12)]) H r
theorem L0_step {t5 : Int} {t10a : Option Addr} {t10n : Nat} {t10k : Nat} {t11 : Int} {t12 : Int} {H : Heap} {r : Value × Heap} (h :
    if t12 < t11 then
    (∃ (t10ab t10ao : Nat), t10a = some ⟨t10ab, t10ao, none⟩ ∧
    ((0 : Int) ≤ t12 ∧ t12 < ((t10n : Nat) : Int) ∧
    (∃ (t15 : Int), ldc H t10ab (t10ao + Int.toNat t12 * 1) = some (.int .u8 t15) ∧
    (L0 ((ior .u64 (ishl .u64 t5 8) (IntKind.wrap .u64 t15))) ((some ⟨t10ab, t10ao, none⟩)) (t10n) (t10k) (t11) ((IntKind.wrap .i64 (t12 + 1))) H r))))
    else
    (r = (.int .u64 t5, H))) :
    L0 t5 t10a t10n t10k t11 t12 H r := by
  intro J
  show KR _ _ _ (.lp (sub B [1, 1, 0, 1, 0, 0]) :: S2) _ _ _
  refine KR.run 6 [(5, .int .u64 t5), (10, .slice t10a t10n t10k), (11, .int .i64 t11), (12, .int .i64 t12), (13, .bool (decide (t12 < t11)))] 23 (s' := (.code (sub B [1, 1, 0, 1, 0, 0, 1, 0]) :: S4)) (by kernel_rfl) fun J => ?_
  by_cases c2 : t12 < t11
  · replace h := iteT c2 h
    refine KR.br true (by kernel_rfl) (vB (dT c2)) ?_
    obtain ⟨t10ab, t10ao, rfl, h⟩ := h
    refine KR.run 5 [(5, .int .u64 t5), (10, .slice (some ⟨t10ab, t10ao, none⟩) t10n t10k), (11, .int .i64 t11), (12, .int .i64 t12)] 23 (s' := (.reg (opsAt (sub B [1, 1, 0, 1, 0, 0, 1, 1, 0, 0, 0])) [0, 1, 2] :: S7)) (by kernel_rfl) fun J => ?_
    obtain ⟨q3, q3x, h⟩ := h
    refine KR.p (one_ix 1 t10ab t10ao (by kernel_rfl) q3 q3x) ?_
    obtain ⟨t15, q4, h⟩ := h
    refine KR.rd (one_ld (by kernel_rfl) q4) ?_
    exact KR.run 15 [(5, .int .u64 (ior .u64 (ishl .u64 t5 8) (IntKind.wrap .u64 t15))), (10, .slice (some ⟨t10ab, t10ao, none⟩) t10n t10k), (11, .int .i64 t11), (12, .int .i64 (IntKind.wrap .i64 (t12 + 1)))] 23 (s' := (.lp (sub B [1, 1, 0, 1, 0, 0]) :: S2)) (by kernel_rfl) h
  · replace h := iteF c2 h
    refine KR.br false (by kernel_rfl) (vB (dF c2)) ?_
    refine KR.run 6 [(4, .int .u64 t5)] 23 (s' := (.code (sub B [1, 1, 1, 1]) :: [])) (by kernel_rfl) fun J => ?_
    exact KR.fin (by kernel_rfl) h
theorem call {a0 : Option Addr} {a1 : Int} {H : Heap} {r : Value × Heap} (h :
    ∃ (t10a : Option Addr) (t10n : Nat) (t10k : Nat) (H_1 : Heap), xC Try.prog good 74 [.pointer a0, .int .i64 a1] H = some (.slice t10a t10n t10k, H_1) ∧
    (L0 0 (t10a) (t10n) (t10k) (((t10n : Nat) : Int)) 0 H_1 r)) :
    xC Try.prog good 73 [.pointer a0, .int .i64 a1] H = some r := by
  refine KR.enter (fn := Try.f73) (c := B) (by kernel_rfl) (by kernel_rfl) ?_
  refine KR.run 13 [(5, .int .u64 0), (8, .pointer a0), (9, .int .i64 a1)] 23 (s' := (.reg (opsAt (sub B [1, 1, 0, 0])) [2, 3, 4] :: S1)) (by kernel_rfl) fun J => ?_
  obtain ⟨t10a, t10n, t10k, H_1, q1, h⟩ := h
  refine KR.se (one_ca (by kernel_rfl) q1) ?_
  exact KR.run 5 [(5, .int .u64 0), (10, .slice t10a t10n t10k), (11, .int .i64 ((t10n : Nat) : Int)), (12, .int .i64 0)] 23 (s' := (.lp (sub B [1, 1, 0, 1, 0, 0]) :: S2)) (by kernel_rfl) h
end F73
/-! #### 74 (*campanile/campanileref1.Reader).Raw -/
namespace F74
noncomputable def B : Code := bodyOf Try.f74
noncomputable def S0 : List It := (.code (sub B [1, 1, 1]) :: [])
noncomputable def S3 : List It := (.code (sub B [1, 1, 1, 1]) :: [])
noncomputable def S4 : List It := (.code (sub B [1, 1, 1, 1, 1]) :: [])
noncomputable def S1 : List It := (.code (sub B [1, 1, 0, 1]) :: S0)
noncomputable def S2 : List It := (.code (sub B [1, 1, 0, 1, 0, 1]) :: S0)
def L0 (t0b : Nat) (t0o : Nat) (t1 : Int) (t21 : Bool) (H : Heap) (r : Value × Heap) : Prop := ∀ J, KR Try.prog good Try.f74 S1 (mat J 45 [(0, .pointer (some ⟨t0b, t0o, none⟩)), (1, .int .i64 t1), (21, .bool t21)]) H r
theorem L0_step {t0b : Nat} {t0o : Nat} {t1 : Int} {t21 : Bool} {H : Heap} {r : Value × Heap} (h :
    if t21 = true then
    (∃ (H_1 : Heap), stc H t0b (t0o + 1) [.int .i64 2] = some H_1 ∧
    (∃ (H_2 : Heap), stc H_1 t0b t0o [.slice none 0 0] = some H_2 ∧
    (r = (.slice none 0 0, H_2))))
    else
    (∃ (t31a : Option Addr) (t31n : Nat) (t31k : Nat), ldc H t0b t0o = some (.slice t31a t31n t31k) ∧
    (∃ (t33a : Option Addr) (t33n : Nat) (t33k : Nat), psl 1 t31a t31n t31k none (some t1) none = some (t33a, t33n, t33k) ∧
    (∃ (t34a : Option Addr) (t34n : Nat) (t34k : Nat) (H_3 : Heap), papp H 1 1 none 0 0 t33a t33n t33k = some ((t34a, t34n, t34k), H_3) ∧
    (∃ (t39a : Option Addr) (t39n : Nat) (t39k : Nat), ldc H_3 t0b t0o = some (.slice t39a t39n t39k) ∧
    (∃ (t41a : Option Addr) (t41n : Nat) (t41k : Nat), psl 1 t39a t39n t39k (some t1) none none = some (t41a, t41n, t41k) ∧
    (∃ (H_4 : Heap), stc H_3 t0b t0o [.slice t41a t41n t41k] = some H_4 ∧
    (r = (.slice t34a t34n t34k, H_4))))))))) :
    L0 t0b t0o t1 t21 H r := by
  intro J
  show KR _ _ _ (.code (sub B [1, 1, 0, 1]) :: S0) _ _ _
  by_cases c4 : t21 = true
  · replace h := iteT c4 h
    refine KR.br true (by kernel_rfl) (vB (bT c4)) ?_
    refine KR.run 6 [(23, .pointer (some ⟨t0b, t0o, none⟩)), (25, .pointer (some ⟨t0b, (t0o + 1), none⟩))] 45 (s' := (.reg (opsAt (sub B [1, 1, 0, 1, 0, 0])) [4, 5, 6, 7] :: S2)) (by kernel_rfl) fun J => ?_
    obtain ⟨H_1, q5, h⟩ := h
    refine KR.se (one_st (by kernel_rfl) q5) ?_
    refine KR.run 2 [(27, .pointer (some ⟨t0b, t0o, none⟩))] 45 (s' := (.reg (opsAt (sub B [1, 1, 0, 1, 0, 0])) [7] :: S2)) (by kernel_rfl) fun J => ?_
    obtain ⟨H_2, q6, h⟩ := h
    refine KR.se (one_st (by kernel_rfl) q6) ?_
    refine KR.run 5 [(4, .slice none 0 0)] 45 (s' := (.code (sub B [1, 1, 0, 1, 0, 1, 1]) :: S0)) (by kernel_rfl) fun J => ?_
    exact KR.fin (by kernel_rfl) h
  · replace h := iteF c4 h
    refine KR.br false (by kernel_rfl) (vB (bF c4)) ?_
    refine KR.run 6 [(0, .pointer (some ⟨t0b, t0o, none⟩)), (1, .int .i64 t1), (30, .pointer (some ⟨t0b, t0o, none⟩))] 45 (s' := (.reg (opsAt (sub B [1, 1, 1, 0])) [3, 4, 5, 6, 7] :: S3)) (by kernel_rfl) fun J => ?_
    obtain ⟨t31a, t31n, t31k, q7, h⟩ := h
    refine KR.rd (one_ld (by kernel_rfl) q7) ?_
    refine KR.run 1 [(0, .pointer (some ⟨t0b, t0o, none⟩)), (1, .int .i64 t1), (31, .slice t31a t31n t31k), (32, .int .i64 t1)] 45 (s' := (.reg (opsAt (sub B [1, 1, 1, 0])) [5, 6, 7] :: S3)) (by kernel_rfl) fun J => ?_
    obtain ⟨t33a, t33n, t33k, q8, h⟩ := h
    refine KR.p (one_sl (by kernel_rfl) q8) ?_
    obtain ⟨t34a, t34n, t34k, H_3, q9, h⟩ := h
    refine KR.se (one_ap 1 1 (by kernel_rfl) q9) ?_
    refine KR.run 8 [(1, .int .i64 t1), (5, .slice t34a t34n t34k), (35, .pointer (some ⟨t0b, t0o, none⟩)), (38, .pointer (some ⟨t0b, t0o, none⟩))] 45 (s' := (.reg (opsAt (sub B [1, 1, 1, 1, 0])) [4, 5, 6, 7, 8, 9] :: S4)) (by kernel_rfl) fun J => ?_
    obtain ⟨t39a, t39n, t39k, q10, h⟩ := h
    refine KR.rd (one_ld (by kernel_rfl) q10) ?_
    refine KR.run 1 [(5, .slice t34a t34n t34k), (35, .pointer (some ⟨t0b, t0o, none⟩)), (39, .slice t39a t39n t39k), (40, .int .i64 t1)] 45 (s' := (.reg (opsAt (sub B [1, 1, 1, 1, 0])) [6, 7, 8, 9] :: S4)) (by kernel_rfl) fun J => ?_
    obtain ⟨t41a, t41n, t41k, q11, h⟩ := h
    refine KR.p (one_sl (by kernel_rfl) q11) ?_
    refine KR.run 2 [(5, .slice t34a t34n t34k), (41, .slice t41a t41n t41k), (43, .pointer (some ⟨t0b, t0o, none⟩))] 45 (s' := (.reg (opsAt (sub B [1, 1, 1, 1, 0])) [9] :: S4)) (by kernel_rfl) fun J => ?_
    obtain ⟨H_4, q12, h⟩ := h
    refine KR.se (one_st (by kernel_rfl) q12) ?_
    refine KR.run 6 [(4, .slice t34a t34n t34k)] 45 (s' := (.code (sub B [1, 1, 1, 1, 1, 1]) :: [])) (by kernel_rfl) fun J => ?_
    exact KR.fin (by kernel_rfl) h
theorem call {a0 : Option Addr} {a1 : Int} {H : Heap} {r : Value × Heap} (h :
    ∃ (a0b a0o : Nat), a0 = some ⟨a0b, a0o, none⟩ ∧
    (∃ (t11 : Int), ldc H a0b (a0o + 1) = some (.int .i64 t11) ∧
    (if t11 = 0 then
    (∃ (t18a : Option Addr) (t18n : Nat) (t18k : Nat), ldc H a0b a0o = some (.slice t18a t18n t18k) ∧
    (L0 (a0b) (a0o) ((imax 0 a1)) ((decide ((imax 0 a1) > ((t18n : Nat) : Int)))) H r))
    else
    (L0 (a0b) (a0o) ((imax 0 a1)) (true) H r)))) :
    xC Try.prog good 74 [.pointer a0, .int .i64 a1] H = some r := by
  refine KR.enter (fn := Try.f74) (c := B) (by kernel_rfl) (by kernel_rfl) ?_
  obtain ⟨a0b, a0o, rfl, h⟩ := h
  refine KR.run 16 [(0, .pointer (some ⟨a0b, a0o, none⟩)), (1, .int .i64 (imax 0 a1)), (10, .pointer (some ⟨a0b, (a0o + 1), none⟩))] 45 (s' := (.reg (opsAt (sub B [1, 1, 0, 0])) [3, 4, 5, 6, 7, 8, 9, 10, 11, 12, 13] :: S1)) (by kernel_rfl) fun J => ?_
  obtain ⟨t11, q1, h⟩ := h
  refine KR.rd (one_ld (by kernel_rfl) q1) ?_
  refine KR.run 2 [(0, .pointer (some ⟨a0b, a0o, none⟩)), (1, .int .i64 (imax 0 a1)), (13, .bool (!(t11 == 0)))] 45 (s' := (.reg (opsAt (sub B [1, 1, 0, 0])) [6, 7, 8, 9, 10, 11, 12, 13] :: S1)) (by kernel_rfl) fun J => ?_
  by_cases c2 : t11 = 0
  · replace h := iteT c2 h
    refine KR.setV 13 (by kernel_rfl) (nB (eT c2)) ?_
    refine KR.run 4 [(0, .pointer (some ⟨a0b, a0o, none⟩)), (1, .int .i64 (imax 0 a1)), (13, .bool false), (14, .int .i64 (imax 0 a1)), (17, .pointer (some ⟨a0b, a0o, none⟩))] 45 (s' := (.reg (opsAt (sub B [1, 1, 0, 0])) [10, 11, 12, 13] :: S1)) (by kernel_rfl) fun J => ?_
    obtain ⟨t18a, t18n, t18k, q3, h⟩ := h
    refine KR.rd (one_ld (by kernel_rfl) q3) ?_
    exact KR.run 4 [(0, .pointer (some ⟨a0b, a0o, none⟩)), (1, .int .i64 (imax 0 a1)), (21, .bool (decide ((imax 0 a1) > ((t18n : Nat) : Int))))] 45 (s' := (.code (sub B [1, 1, 0, 1]) :: S0)) (by kernel_rfl) h
  · replace h := iteF c2 h
    refine KR.setV 13 (by kernel_rfl) (nB (eF c2)) ?_
    exact KR.run 9 [(0, .pointer (some ⟨a0b, a0o, none⟩)), (1, .int .i64 (imax 0 a1)), (21, .bool true)] 45 (s' := (.code (sub B [1, 1, 0, 1]) :: S0)) (by kernel_rfl) h
end F74
/-! #### 75 (*campanile/campanileref1.Reader).End -/
namespace F75
noncomputable def B : Code := bodyOf Try.f75
noncomputable def S0 : List It := (.code (sub B [1, 1]) :: [])
noncomputable def S2 : List It := (.code (sub B [1, 1, 1]) :: [])
noncomputable def S1 : List It := (.code (sub B [1, 0, 1]) :: S0)
def L0 (t0b : Nat) (t0o : Nat) (t15 : Bool) (H : Heap) (r : Value × Heap) : Prop := ∀ J, KR Try.prog good Try.f75 S1 (mat J 20 [(0, .pointer (some ⟨t0b, t0o, none⟩)), (15, .bool t15)]) H r
theorem L0_step {t0b : Nat} {t0o : Nat} {t15 : Bool} {H : Heap} {r : Value × Heap} (h :
    if t15 = true then
    (r = (.int .i64 3, H))
    else
    (∃ (t19 : Int), ldc H t0b (t0o + 1) = some (.int .i64 t19) ∧
    (r = (.int .i64 t19, H)))) :
    L0 t0b t0o t15 H r := by
  intro J
  show KR _ _ _ (.code (sub B [1, 0, 1]) :: S0) _ _ _
  by_cases c4 : t15 = true
  · replace h := iteT c4 h
    refine KR.br true (by kernel_rfl) (vB (bT c4)) ?_
    refine KR.run 4 [(2, .int .i64 3)] 20 (s' := (.code (sub B [1, 0, 1, 0, 1]) :: S0)) (by kernel_rfl) fun J => ?_
    exact KR.fin (by kernel_rfl) h
  · replace h := iteF c4 h
    refine KR.br false (by kernel_rfl) (vB (bF c4)) ?_
    refine KR.run 6 [(18, .pointer (some ⟨t0b, (t0o + 1), none⟩))] 20 (s' := (.reg (opsAt (sub B [1, 1, 0])) [3, 4] :: S2)) (by kernel_rfl) fun J => ?_
    obtain ⟨t19, q5, h⟩ := h
    refine KR.rd (one_ld (by kernel_rfl) q5) ?_
    refine KR.run 2 [(2, .int .i64 t19)] 20 (s' := (.code (sub B [1, 1, 1]) :: [])) (by kernel_rfl) fun J => ?_
    exact KR.fin (by kernel_rfl) h
theorem call {a0 : Option Addr} {H : Heap} {r : Value × Heap} (h :
    ∃ (a0b a0o : Nat), a0 = some ⟨a0b, a0o, none⟩ ∧
    (∃ (t6 : Int), ldc H a0b (a0o + 1) = some (.int .i64 t6) ∧
    (if t6 = 0 then
    (∃ (t12a : Option Addr) (t12n : Nat) (t12k : Nat), ldc H a0b a0o = some (.slice t12a t12n t12k) ∧
    (L0 (a0b) (a0o) ((decide (((t12n : Nat) : Int) > 0))) H r))
    else
    (L0 (a0b) (a0o) (false) H r)))) :
    xC Try.prog good 75 [.pointer a0] H = some r := by
  refine KR.enter (fn := Try.f75) (c := B) (by kernel_rfl) (by kernel_rfl) ?_
  obtain ⟨a0b, a0o, rfl, h⟩ := h
  refine KR.run 10 [(0, .pointer (some ⟨a0b, a0o, none⟩)), (5, .pointer (some ⟨a0b, (a0o + 1), none⟩))] 20 (s' := (.reg (opsAt (sub B [1, 0, 0])) [3, 4, 5, 6, 7, 8, 9, 10, 11, 12] :: S1)) (by kernel_rfl) fun J => ?_
  obtain ⟨t6, q1, h⟩ := h
  refine KR.rd (one_ld (by kernel_rfl) q1) ?_
  refine KR.run 2 [(0, .pointer (some ⟨a0b, a0o, none⟩)), (8, .bool (t6 == 0))] 20 (s' := (.reg (opsAt (sub B [1, 0, 0])) [6, 7, 8, 9, 10, 11, 12] :: S1)) (by kernel_rfl) fun J => ?_
  by_cases c2 : t6 = 0
  · replace h := iteT c2 h
    refine KR.setV 8 (by kernel_rfl) (eT c2) ?_
    refine KR.run 3 [(0, .pointer (some ⟨a0b, a0o, none⟩)), (8, .bool true), (11, .pointer (some ⟨a0b, a0o, none⟩))] 20 (s' := (.reg (opsAt (sub B [1, 0, 0])) [9, 10, 11, 12] :: S1)) (by kernel_rfl) fun J => ?_
    obtain ⟨t12a, t12n, t12k, q3, h⟩ := h
    refine KR.rd (one_ld (by kernel_rfl) q3) ?_
    exact KR.run 4 [(0, .pointer (some ⟨a0b, a0o, none⟩)), (15, .bool (decide (((t12n : Nat) : Int) > 0)))] 20 (s' := (.code (sub B [1, 0, 1]) :: S0)) (by kernel_rfl) h
  · replace h := iteF c2 h
    refine KR.setV 8 (by kernel_rfl) (eF c2) ?_
    exact KR.run 8 [(0, .pointer (some ⟨a0b, a0o, none⟩)), (15, .bool false)] 20 (s' := (.code (sub B [1, 0, 1]) :: S0)) (by kernel_rfl) h
end F75
end Go.X
