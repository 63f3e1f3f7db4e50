/- The walks of the functions: printed. -/
import Derived.Test.YtomibdncbioijaaXzGd
set_option linter.unusedVariables false
set_option maxRecDepth 100000
namespace Go.X
open Go Go.RowKit Go.Proofs
/-! #### 26 (*campanile/cell.Table).Remove -/
namespace F26
noncomputable def B : Code := bodyOf Try.f26
noncomputable def S0 : List It := (.code (sub B [1]) :: [])
noncomputable def S1 : List It := (.code (sub B [1, 1]) :: [])
noncomputable def S3 : List It := (.code (sub B [1, 1, 1]) :: [])
noncomputable def S4 : List It := (.code (sub B [1, 1, 1, 1]) :: [])
noncomputable def S5 : List It := (.code (sub B [1, 1, 1, 1, 1]) :: [])
noncomputable def S2 : List It := (.code (sub B [1, 0, 1]) :: S1)
theorem call {a0 : Option Addr} {a1c0 : Int} {a1c1 : Int} {a1c2 : Int} {a1c3 : Int} {a1c4 : Int} {H : Heap} {r : Value × Heap} (h :
    ∃ (H_1 : Heap), H_1 = H.push (.row [.int .i64 a1c0, .int .i64 a1c1, .int .i64 a1c2, .int .i64 a1c3, .int .i64 a1c4] true) ∧
    (if (Option.isNone a0) = true then
    (r = (.int .i64 1, H_1))
    else
    (∃ (a0b a0o : Nat), a0 = some ⟨a0b, a0o, none⟩ ∧
    (∃ (t11a : Option Addr) (t11n : Nat) (t11k : Nat), ldc H_1 a0b (a0o + 4) = some (.slice t11a t11n t11k) ∧
    (∃ (t12c0 : Int) (t12c1 : Int) (t12c2 : Int) (t12c3 : Int) (t12c4 : Int), ldAll H_1 H.next 0 [.int .i64 t12c0, .int .i64 t12c1, .int .i64 t12c2, .int .i64 t12c3, .int .i64 t12c4] ∧
    (∃ (t13 : Int) (H_2 : Heap), xC Try.prog good 45 [.slice t11a t11n t11k, .agg #[.int .i64 t12c0, .int .i64 t12c1, .int .i64 t12c2, .int .i64 t12c3, .int .i64 t12c4]] H_1 = some (.int .i64 t13, H_2) ∧
    (if t13 < 0 then
    (r = (.int .i64 6, H_2))
    else
    (∃ (t20a : Option Addr) (t20n : Nat) (t20k : Nat), ldc H_2 a0b (a0o + 4) = some (.slice t20a t20n t20k) ∧
    (∃ (t24a : Option Addr) (t24n : Nat) (t24k : Nat) (H_3 : Heap), xC Try.prog good 46 [.slice t20a t20n t20k, .int .i64 t13, .int .i64 (IntKind.wrap .i64 (t13 + 1))] H_2 = some (.slice t24a t24n t24k, H_3) ∧
    (∃ (H_4 : Heap), stc H_3 a0b (a0o + 4) [.slice t24a t24n t24k] = some H_4 ∧
    (r = (.int .i64 0, H_4)))))))))))) :
    xC Try.prog good 26 [.pointer a0, .agg #[.int .i64 a1c0, .int .i64 a1c1, .int .i64 a1c2, .int .i64 a1c3, .int .i64 a1c4]] H = some r := by
  refine KR.enter (fn := Try.f26) (c := B) (by kernel_rfl) (by kernel_rfl) ?_
  refine KR.run 2 [(0, .pointer a0), (1, .agg #[.int .i64 a1c0, .int .i64 a1c1, .int .i64 a1c2, .int .i64 a1c3, .int .i64 a1c4])] 27 (s' := (.reg (opsAt (sub B [0])) [0, 1] :: S0)) (by kernel_rfl) fun J => ?_
  obtain ⟨H_1, q1, h⟩ := h
  refine KR.mk (w := pRow [.int .i64 a1c0, .int .i64 a1c1, .int .i64 a1c2, .int .i64 a1c3, .int .i64 a1c4]) (one_al (by kernel_rfl)) q1 ?_
  refine KR.run 6 [(0, .pointer a0), (3, .pointer (some ⟨H.next, 0, none⟩)), (6, .pointer a0)] 27 (s' := (.reg (opsAt (sub B [1, 0, 0])) [1] :: S2)) (by kernel_rfl) fun J => ?_
  refine KR.p (one_nl false a0 (by kernel_rfl)) ?_
  refine KR.run 1 [(0, .pointer a0), (3, .pointer (some ⟨H.next, 0, none⟩)), (7, .bool (Option.isNone a0))] 27 (s' := (.code (sub B [1, 0, 1]) :: S1)) (by kernel_rfl) fun J => ?_
  by_cases c3 : (Option.isNone a0) = true
  · replace h := iteT c3 h
    refine KR.br true (by kernel_rfl) (vB (bT c3)) ?_
    refine KR.run 4 [(4, .int .i64 1)] 27 (s' := (.code (sub B [1, 0, 1, 0, 1]) :: S1)) (by kernel_rfl) fun J => ?_
    exact KR.fin (by kernel_rfl) h
  · replace h := iteF c3 h
    refine KR.br false (by kernel_rfl) (vB (bF c3)) ?_
    refine KR.run 2 [(0, .pointer a0), (3, .pointer (some ⟨H.next, 0, none⟩))] 27 (s' := (.code (sub B [1, 1, 0]) :: S3)) (by kernel_rfl) fun J => ?_
    refine KR.sd (by kernel_rfl) ?_
    obtain ⟨a0b, a0o, rfl, h⟩ := h
    refine KR.run 3 [(0, .pointer (some ⟨a0b, a0o, none⟩)), (3, .pointer (some ⟨H.next, 0, none⟩)), (10, .pointer (some ⟨a0b, (a0o + 4), none⟩))] 27 (s' := (.reg (opsAt (sub B [1, 1, 0])) [3, 4, 5, 6] :: S3)) (by kernel_rfl) fun J => ?_
    obtain ⟨t11a, t11n, t11k, q4, h⟩ := h
    refine KR.rd (one_ld (by kernel_rfl) q4) ?_
    obtain ⟨t12c0, t12c1, t12c2, t12c3, t12c4, q5, h⟩ := h
    refine KR.rd (one_ldA (by kernel_rfl) q5) ?_
    obtain ⟨t13, H_2, q6, h⟩ := h
    refine KR.se (one_ca (by kernel_rfl) q6) ?_
    refine KR.run 8 [(0, .pointer (some ⟨a0b, a0o, none⟩)), (5, .int .i64 t13), (15, .bool (decide (t13 < 0)))] 27 (s' := (.code (sub B [1, 1, 1, 0, 1]) :: S4)) (by kernel_rfl) fun J => ?_
    by_cases c7 : t13 < 0
    · replace h := iteT c7 h
      refine KR.br true (by kernel_rfl) (vB (dT c7)) ?_
      refine KR.run 4 [(4, .int .i64 6)] 27 (s' := (.code (sub B [1, 1, 1, 0, 1, 0, 1]) :: S4)) (by kernel_rfl) fun J => ?_
      exact KR.fin (by kernel_rfl) h
    · replace h := iteF c7 h
      refine KR.br false (by kernel_rfl) (vB (dF c7)) ?_
      refine KR.run 7 [(5, .int .i64 t13), (16, .pointer (some ⟨a0b, a0o, none⟩)), (19, .pointer (some ⟨a0b, (a0o + 4), none⟩))] 27 (s' := (.reg (opsAt (sub B [1, 1, 1, 1, 0])) [4, 5, 6, 7, 8, 9, 10, 11] :: S5)) (by kernel_rfl) fun J => ?_
      obtain ⟨t20a, t20n, t20k, q8, h⟩ := h
      refine KR.rd (one_ld (by kernel_rfl) q8) ?_
      refine KR.run 3 [(16, .pointer (some ⟨a0b, a0o, none⟩)), (20, .slice t20a t20n t20k), (21, .int .i64 t13), (23, .int .i64 (IntKind.wrap .i64 (t13 + 1)))] 27 (s' := (.reg (opsAt (sub B [1, 1, 1, 1, 0])) [8, 9, 10, 11] :: S5)) (by kernel_rfl) fun J => ?_
      obtain ⟨t24a, t24n, t24k, H_3, q9, h⟩ := h
      refine KR.se (one_ca (by kernel_rfl) q9) ?_
      refine KR.run 2 [(24, .slice t24a t24n t24k), (26, .pointer (some ⟨a0b, (a0o + 4), none⟩))] 27 (s' := (.reg (opsAt (sub B [1, 1, 1, 1, 0])) [11] :: S5)) (by kernel_rfl) fun J => ?_
      obtain ⟨H_4, q10, h⟩ := h
      refine KR.se (one_st (by kernel_rfl) q10) ?_
      refine KR.run 5 [(4, .int .i64 0)] 27 (s' := (.code (sub B [1, 1, 1, 1, 1, 1]) :: [])) (by kernel_rfl) fun J => ?_
      exact KR.fin (by kernel_rfl) h
end F26
/-! #### 45 slices.Index[[]campanile/api.Cell,campanile/api.Cell] -/
namespace F45
noncomputable def B : Code := bodyOf Try.f45
noncomputable def S0 : List It := (.code (sub B [1]) :: [])
noncomputable def S1 : List It := (.code (sub B [1, 1]) :: [])
noncomputable def S2 : List It := (.blk 0 :: S1)
noncomputable def S3 : List It := (.lp (sub B [1, 0, 1, 0, 0]) :: S2)
noncomputable def S4 : List It := (.code (sub B [1, 0, 1, 0, 0, 1, 1]) :: S3)
noncomputable def S5 : List It := (.code (sub B [1, 0, 1, 0, 0, 1, 1, 1]) :: S3)
noncomputable def S6 : List It := (.blk 1 :: S5)
noncomputable def S7 : List It := (.code (sub B [1, 0, 1, 0, 0, 1, 1, 0, 0, 1, 1]) :: S6)
def L0 (t0a : Option Addr) (t0n : Nat) (t0k : Nat) (t3b : Nat) (t3o : Nat) (t7 : Int) (t8 : Int) (H : Heap) (r : Value × Heap) : Prop := ∀ J, KR Try.prog good Try.f45 S3 (mat J 19 [(0, .slice t0a t0n t0k), (3, .pointer (some ⟨t3b, t3o, none⟩)), (7, .int .i64 t7), (8, .int .i64 t8)]) H r
theorem L0_step {t0a : Option Addr} {t0n : Nat} {t0k : Nat} {t3b : Nat} {t3o : Nat} {t7 : Int} {t8 : Int} {H : Heap} {r : Value × Heap} (h :
    if t8 < t7 then
    (∃ (t11c0 : Int) (t11c1 : Int) (t11c2 : Int) (t11c3 : Int) (t11c4 : Int), ldAll H t3b t3o [.int .i64 t11c0, .int .i64 t11c1, .int .i64 t11c2, .int .i64 t11c3, .int .i64 t11c4] ∧
    (∃ (t0ab t0ao : Nat), t0a = some ⟨t0ab, t0ao, none⟩ ∧
    ((0 : Int) ≤ t8 ∧ t8 < ((t0n : Nat) : Int) ∧
    (∃ (t15c0 : Int) (t15c1 : Int) (t15c2 : Int) (t15c3 : Int) (t15c4 : Int), ldAll H t0ab (t0ao + Int.toNat t8 * 5) [.int .i64 t15c0, .int .i64 t15c1, .int .i64 t15c2, .int .i64 t15c3, .int .i64 t15c4] ∧
    (if ((t11c0 == t15c0) && ((t11c1 == t15c1) && ((t11c2 == t15c2) && ((t11c3 == t15c3) && ((t11c4 == t15c4) && true))))) = true then
    (r = (.int .i64 t8, H))
    else
    (L0 ((some ⟨t0ab, t0ao, none⟩)) (t0n) (t0k) (t3b) (t3o) (t7) ((IntKind.wrap .i64 (t8 + 1))) H r))))))
    else
    (r = (.int .i64 (-1), H))) :
    L0 t0a t0n t0k t3b t3o t7 t8 H r := by
  intro J
  show KR _ _ _ (.lp (sub B [1, 0, 1, 0, 0]) :: S2) _ _ _
  refine KR.run 6 [(0, .slice t0a t0n t0k), (3, .pointer (some ⟨t3b, t3o, none⟩)), (7, .int .i64 t7), (8, .int .i64 t8), (9, .bool (decide (t8 < t7)))] 19 (s' := (.code (sub B [1, 0, 1, 0, 0, 1, 0]) :: S4)) (by kernel_rfl) fun J => ?_
  by_cases c2 : t8 < t7
  · replace h := iteT c2 h
    refine KR.br true (by kernel_rfl) (vB (dT c2)) ?_
    refine KR.run 9 [(0, .slice t0a t0n t0k), (3, .pointer (some ⟨t3b, t3o, none⟩)), (5, .int .i64 t8), (7, .int .i64 t7), (8, .int .i64 t8)] 19 (s' := (.code (sub B [1, 0, 1, 0, 0, 1, 1, 0, 0, 1, 0]) :: S7)) (by kernel_rfl) fun J => ?_
    refine KR.sd (by kernel_rfl) ?_
    refine KR.run 0 [(0, .slice t0a t0n t0k), (3, .pointer (some ⟨t3b, t3o, none⟩)), (5, .int .i64 t8), (7, .int .i64 t7), (8, .int .i64 t8)] 19 (s' := (.reg (opsAt (sub B [1, 0, 1, 0, 0, 1, 1, 0, 0, 1, 0])) [0, 1, 2, 3, 4, 5] :: S7)) (by kernel_rfl) fun J => ?_
    obtain ⟨t11c0, t11c1, t11c2, t11c3, t11c4, q3, h⟩ := h
    refine KR.rd (one_ldA (by kernel_rfl) q3) ?_
    obtain ⟨t0ab, t0ao, rfl, h⟩ := h
    refine KR.run 2 [(0, .slice (some ⟨t0ab, t0ao, none⟩) t0n t0k), (3, .pointer (some ⟨t3b, t3o, none⟩)), (5, .int .i64 t8), (7, .int .i64 t7), (8, .int .i64 t8), (11, .agg #[.int .i64 t11c0, .int .i64 t11c1, .int .i64 t11c2, .int .i64 t11c3, .int .i64 t11c4]), (12, .slice (some ⟨t0ab, t0ao, none⟩) t0n t0k), (13, .int .i64 t8)] 19 (s' := (.reg (opsAt (sub B [1, 0, 1, 0, 0, 1, 1, 0, 0, 1, 0])) [3, 4, 5] :: S7)) (by kernel_rfl) fun J => ?_
    obtain ⟨q4, q4x, h⟩ := h
    refine KR.p (one_ix 5 t0ab t0ao (by kernel_rfl) q4 q4x) ?_
    obtain ⟨t15c0, t15c1, t15c2, t15c3, t15c4, q5, h⟩ := h
    refine KR.rd (one_ldA (by kernel_rfl) q5) ?_
    refine KR.run 2 [(0, .slice (some ⟨t0ab, t0ao, none⟩) t0n t0k), (3, .pointer (some ⟨t3b, t3o, none⟩)), (5, .int .i64 t8), (7, .int .i64 t7), (8, .int .i64 t8), (16, .bool ((t11c0 == t15c0) && ((t11c1 == t15c1) && ((t11c2 == t15c2) && ((t11c3 == t15c3) && ((t11c4 == t15c4) && true))))))] 19 (s' := (.code (sub B [1, 0, 1, 0, 0, 1, 1, 0, 0, 1, 1]) :: S6)) (by kernel_rfl) fun J => ?_
    by_cases c6 : ((t11c0 == t15c0) && ((t11c1 == t15c1) && ((t11c2 == t15c2) && ((t11c3 == t15c3) && ((t11c4 == t15c4) && true))))) = true
    · replace h := iteT c6 h
      refine KR.br true (by kernel_rfl) (vB (bT c6)) ?_
      refine KR.run 5 [(4, .int .i64 t8)] 19 (s' := (.code (sub B [1, 0, 1, 0, 0, 1, 1, 0, 0, 1, 1, 0, 1]) :: S6)) (by kernel_rfl) fun J => ?_
      exact KR.fin (by kernel_rfl) h
    · replace h := iteF c6 h
      refine KR.br false (by kernel_rfl) (vB (bF c6)) ?_
      exact KR.run 6 [(0, .slice (some ⟨t0ab, t0ao, none⟩) t0n t0k), (3, .pointer (some ⟨t3b, t3o, none⟩)), (7, .int .i64 t7), (8, .int .i64 (IntKind.wrap .i64 (t8 + 1)))] 19 (s' := (.lp (sub B [1, 0, 1, 0, 0]) :: S2)) (by kernel_rfl) h
  · replace h := iteF c2 h
    refine KR.br false (by kernel_rfl) (vB (dF c2)) ?_
    refine KR.run 5 [(4, .int .i64 (-1))] 19 (s' := (.code (sub B [1, 1, 1]) :: [])) (by kernel_rfl) fun J => ?_
    exact KR.fin (by kernel_rfl) h
theorem call {a0a : Option Addr} {a0n : Nat} {a0k : Nat} {a1c0 : Int} {a1c1 : Int} {a1c2 : Int} {a1c3 : Int} {a1c4 : Int} {H : Heap} {r : Value × Heap} (h :
    ∃ (H_1 : Heap), H_1 = H.push (.row [.int .i64 a1c0, .int .i64 a1c1, .int .i64 a1c2, .int .i64 a1c3, .int .i64 a1c4] true) ∧
    (L0 (a0a) (a0n) (a0k) (H.next) (0) (((a0n : Nat) : Int)) 0 H_1 r)) :
    xC Try.prog good 45 [.slice a0a a0n a0k, .agg #[.int .i64 a1c0, .int .i64 a1c1, .int .i64 a1c2, .int .i64 a1c3, .int .i64 a1c4]] H = some r := by
  refine KR.enter (fn := Try.f45) (c := B) (by kernel_rfl) (by kernel_rfl) ?_
  refine KR.run 2 [(0, .slice a0a a0n a0k), (1, .agg #[.int .i64 a1c0, .int .i64 a1c1, .int .i64 a1c2, .int .i64 a1c3, .int .i64 a1c4])] 19 (s' := (.reg (opsAt (sub B [0])) [0, 1] :: S0)) (by kernel_rfl) fun J => ?_
  obtain ⟨H_1, q1, h⟩ := h
  refine KR.mk (w := pRow [.int .i64 a1c0, .int .i64 a1c1, .int .i64 a1c2, .int .i64 a1c3, .int .i64 a1c4]) (one_al (by kernel_rfl)) q1 ?_
  exact KR.run 11 [(0, .slice a0a a0n a0k), (3, .pointer (some ⟨H.next, 0, none⟩)), (7, .int .i64 ((a0n : Nat) : Int)), (8, .int .i64 0)] 19 (s' := (.lp (sub B [1, 0, 1, 0, 0]) :: S2)) (by kernel_rfl) h
end F45
/-! #### 46 slices.Delete[[]campanile/api.Cell,campanile/api.Cell] -/
namespace F46
noncomputable def B : Code := bodyOf Try.f46
noncomputable def S0 : List It := (.code (sub B [1, 1]) :: [])
noncomputable def S1 : List It := (.code (sub B [1, 1, 1]) :: [])
noncomputable def S2 : List It := (.code (sub B [1, 1, 1, 1, 1]) :: [])
noncomputable def S3 : List It := (.code (sub B [1, 1, 1, 1, 1, 1]) :: [])
theorem call {a0a : Option Addr} {a0n : Nat} {a0k : Nat} {a1 : Int} {a2 : Int} {H : Heap} {r : Value × Heap} (h :
    ∃ (t13a : Option Addr) (t13n : Nat) (t13k : Nat), psl 5 a0a a0n a0k (some a1) (some a2) (some ((a0n : Nat) : Int)) = some (t13a, t13n, t13k) ∧
    (if a1 = a2 then
    (r = (.slice a0a a0n a0k, H))
    else
    (∃ (t22a : Option Addr) (t22n : Nat) (t22k : Nat), psl 5 a0a a0n a0k none (some a1) none = some (t22a, t22n, t22k) ∧
    (∃ (t25a : Option Addr) (t25n : Nat) (t25k : Nat), psl 5 a0a a0n a0k (some a2) none none = some (t25a, t25n, t25k) ∧
    (∃ (t26a : Option Addr) (t26n : Nat) (t26k : Nat) (H_1 : Heap), papp H 5 40 t22a t22n t22k t25a t25n t25k = some ((t26a, t26n, t26k), H_1) ∧
    (∃ (t31a : Option Addr) (t31n : Nat) (t31k : Nat), pslR H_1 5 t26a t26n t26k ((t26n : Nat) : Int) ((a0n : Nat) : Int) = some (t31a, t31n, t31k) ∧
    (∃ (H_2 : Heap), pclear H_1 [.int .i64 0, .int .i64 0, .int .i64 0, .int .i64 0, .int .i64 0] t31a t31n t31k = some H_2 ∧
    (r = (.slice t26a t26n t26k, H_2))))))))) :
    xC Try.prog good 46 [.slice a0a a0n a0k, .int .i64 a1, .int .i64 a2] H = some r := by
  refine KR.enter (fn := Try.f46) (c := B) (by kernel_rfl) (by kernel_rfl) ?_
  refine KR.run 11 [(0, .slice a0a a0n a0k), (1, .int .i64 a1), (2, .int .i64 a2), (8, .slice a0a a0n a0k), (9, .int .i64 a1), (10, .int .i64 a2), (12, .int .i64 ((a0n : Nat) : Int))] 33 (s' := (.reg (opsAt (sub B [1, 0])) [5] :: S0)) (by kernel_rfl) fun J => ?_
  obtain ⟨t13a, t13n, t13k, q1, h⟩ := h
  refine KR.p (one_sl (by kernel_rfl) q1) ?_
  refine KR.run 8 [(0, .slice a0a a0n a0k), (1, .int .i64 a1), (2, .int .i64 a2), (16, .bool (a1 == a2))] 33 (s' := (.code (sub B [1, 1, 0, 1]) :: S1)) (by kernel_rfl) fun J => ?_
  by_cases c2 : a1 = a2
  · replace h := iteT c2 h
    refine KR.br true (by kernel_rfl) (vB (eT c2)) ?_
    refine KR.run 5 [(6, .slice a0a a0n a0k)] 33 (s' := (.code (sub B [1, 1, 0, 1, 0, 1]) :: S1)) (by kernel_rfl) fun J => ?_
    exact KR.fin (by kernel_rfl) h
  · replace h := iteF c2 h
    refine KR.br false (by kernel_rfl) (vB (eF c2)) ?_
    refine KR.run 8 [(0, .slice a0a a0n a0k), (1, .int .i64 a1), (2, .int .i64 a2), (7, .int .i64 ((a0n : Nat) : Int))] 33 (s' := (.code (sub B [1, 1, 1, 1, 0]) :: S2)) (by kernel_rfl) fun J => ?_
    refine KR.sd (by kernel_rfl) ?_
    refine KR.run 2 [(0, .slice a0a a0n a0k), (2, .int .i64 a2), (7, .int .i64 ((a0n : Nat) : Int)), (20, .slice a0a a0n a0k), (21, .int .i64 a1)] 33 (s' := (.reg (opsAt (sub B [1, 1, 1, 1, 0])) [2, 3, 4, 5, 6, 7] :: S2)) (by kernel_rfl) fun J => ?_
    obtain ⟨t22a, t22n, t22k, q3, h⟩ := h
    refine KR.p (one_sl (by kernel_rfl) q3) ?_
    refine KR.run 2 [(7, .int .i64 ((a0n : Nat) : Int)), (22, .slice t22a t22n t22k), (23, .slice a0a a0n a0k), (24, .int .i64 a2)] 33 (s' := (.reg (opsAt (sub B [1, 1, 1, 1, 0])) [5, 6, 7] :: S2)) (by kernel_rfl) fun J => ?_
    obtain ⟨t25a, t25n, t25k, q4, h⟩ := h
    refine KR.p (one_sl (by kernel_rfl) q4) ?_
    obtain ⟨t26a, t26n, t26k, H_1, q5, h⟩ := h
    refine KR.se (one_ap 5 40 (by kernel_rfl) q5) ?_
    refine KR.run 8 [(0, .slice t26a t26n t26k), (27, .slice t26a t26n t26k), (29, .int .i64 ((t26n : Nat) : Int)), (30, .int .i64 ((a0n : Nat) : Int))] 33 (s' := (.reg (opsAt (sub B [1, 1, 1, 1, 1, 0])) [4, 5] :: S3)) (by kernel_rfl) fun J => ?_
    obtain ⟨t31a, t31n, t31k, q6, h⟩ := h
    refine KR.rd (one_sr (by kernel_rfl) q6) ?_
    obtain ⟨H_2, q7, h⟩ := h
    refine KR.se (one_cl (by kernel_rfl) q7) ?_
    refine KR.run 6 [(6, .slice t26a t26n t26k)] 33 (s' := (.code (sub B [1, 1, 1, 1, 1, 1, 1]) :: [])) (by kernel_rfl) fun J => ?_
    exact KR.fin (by kernel_rfl) h
end F46
/-! #### 54 slices.rotateRight[campanile/api.Cell] -/
namespace F54
noncomputable def B : Code := bodyOf Try.f54
theorem call {a0a : Option Addr} {a0n : Nat} {a0k : Nat} {a1 : Int} {H : Heap} {r : Value × Heap} (h :
    ∃ (H_1 : Heap), xC Try.prog good 56 [.slice a0a a0n a0k, .int .i64 (IntKind.wrap .i64 (((a0n : Nat) : Int) - a1))] H = some (.tuple #[], H_1) ∧
    (r = (.tuple #[], H_1))) :
    xC Try.prog good 54 [.slice a0a a0n a0k, .int .i64 a1] H = some r := by
  refine KR.enter (fn := Try.f54) (c := B) (by kernel_rfl) (by kernel_rfl) ?_
  refine KR.run 6 [(4, .slice a0a a0n a0k), (8, .int .i64 (IntKind.wrap .i64 (((a0n : Nat) : Int) - a1)))] 10 (s' := (.reg (opsAt (sub B [])) [5] :: [])) (by kernel_rfl) fun J => ?_
  obtain ⟨H_1, q1, h⟩ := h
  refine KR.se (one_ca (by kernel_rfl) q1) ?_
  refine KR.run 1 [] 10 (s' := []) (by kernel_rfl) fun J => ?_
  exact KR.fin0 (by kernel_rfl) h
end F54
/-! #### 56 slices.rotateLeft[campanile/api.Cell] -/
namespace F56
noncomputable def B : Code := bodyOf Try.f56
noncomputable def S0 : List It := (.code (sub B [1]) :: [])
noncomputable def S1 : List It := (.code (sub B [1, 1]) :: [])
theorem call {a0a : Option Addr} {a0n : Nat} {a0k : Nat} {a1 : Int} {H : Heap} {r : Value × Heap} (h :
    ∃ (t6a : Option Addr) (t6n : Nat) (t6k : Nat), psl 5 a0a a0n a0k none (some a1) none = some (t6a, t6n, t6k) ∧
    (∃ (H_1 : Heap), xC Try.prog good 57 [.slice t6a t6n t6k] H = some (.tuple #[], H_1) ∧
    (∃ (t10a : Option Addr) (t10n : Nat) (t10k : Nat), psl 5 a0a a0n a0k (some a1) none none = some (t10a, t10n, t10k) ∧
    (∃ (H_2 : Heap), xC Try.prog good 57 [.slice t10a t10n t10k] H_1 = some (.tuple #[], H_2) ∧
    (∃ (H_3 : Heap), xC Try.prog good 57 [.slice a0a a0n a0k] H_2 = some (.tuple #[], H_3) ∧
    (r = (.tuple #[], H_3))))))) :
    xC Try.prog good 56 [.slice a0a a0n a0k, .int .i64 a1] H = some r := by
  refine KR.enter (fn := Try.f56) (c := B) (by kernel_rfl) (by kernel_rfl) ?_
  refine KR.run 4 [(0, .slice a0a a0n a0k), (1, .int .i64 a1), (4, .slice a0a a0n a0k), (5, .int .i64 a1)] 14 (s' := (.reg (opsAt (sub B [0])) [2, 3] :: S0)) (by kernel_rfl) fun J => ?_
  obtain ⟨t6a, t6n, t6k, q1, h⟩ := h
  refine KR.p (one_sl (by kernel_rfl) q1) ?_
  obtain ⟨H_1, q2, h⟩ := h
  refine KR.se (one_ca (by kernel_rfl) q2) ?_
  refine KR.run 5 [(0, .slice a0a a0n a0k), (8, .slice a0a a0n a0k), (9, .int .i64 a1)] 14 (s' := (.reg (opsAt (sub B [1, 0])) [2, 3] :: S1)) (by kernel_rfl) fun J => ?_
  obtain ⟨t10a, t10n, t10k, q3, h⟩ := h
  refine KR.p (one_sl (by kernel_rfl) q3) ?_
  obtain ⟨H_2, q4, h⟩ := h
  refine KR.se (one_ca (by kernel_rfl) q4) ?_
  refine KR.run 3 [(12, .slice a0a a0n a0k)] 14 (s' := (.reg (opsAt (sub B [1, 1])) [1] :: [])) (by kernel_rfl) fun J => ?_
  obtain ⟨H_3, q5, h⟩ := h
  refine KR.se (one_ca (by kernel_rfl) q5) ?_
  refine KR.run 1 [] 14 (s' := []) (by kernel_rfl) fun J => ?_
  exact KR.fin0 (by kernel_rfl) h
end F56
/-! #### 57 slices.Reverse[[]campanile/api.Cell,campanile/api.Cell] -/
namespace F57
noncomputable def B : Code := bodyOf Try.f57
noncomputable def S0 : List It := (.blk 0 :: [])
noncomputable def S1 : List It := (.lp (sub B [1, 0, 0]) :: S0)
noncomputable def S2 : List It := (.code (sub B [1, 0, 0, 1]) :: S1)
noncomputable def S3 : List It := (.code (sub B [1, 0, 0, 1, 1]) :: S1)
noncomputable def S4 : List It := (.blk 1 :: S3)
def L0 (t0a : Option Addr) (t0n : Nat) (t0k : Nat) (t2 : Int) (t3 : Int) (H : Heap) (r : Value × Heap) : Prop := ∀ J, KR Try.prog good Try.f57 S1 (mat J 28 [(0, .slice t0a t0n t0k), (2, .int .i64 t2), (3, .int .i64 t3)]) H r
theorem L0_step {t0a : Option Addr} {t0n : Nat} {t0k : Nat} {t2 : Int} {t3 : Int} {H : Heap} {r : Value × Heap} (h :
    if t2 < t3 then
    (∃ (t0ab t0ao : Nat), t0a = some ⟨t0ab, t0ao, none⟩ ∧
    ((0 : Int) ≤ t3 ∧ t3 < ((t0n : Nat) : Int) ∧
    (∃ (t21c0 : Int) (t21c1 : Int) (t21c2 : Int) (t21c3 : Int) (t21c4 : Int), ldAll H t0ab (t0ao + Int.toNat t3 * 5) [.int .i64 t21c0, .int .i64 t21c1, .int .i64 t21c2, .int .i64 t21c3, .int .i64 t21c4] ∧
    ((0 : Int) ≤ t2 ∧ t2 < ((t0n : Nat) : Int) ∧
    (∃ (t25c0 : Int) (t25c1 : Int) (t25c2 : Int) (t25c3 : Int) (t25c4 : Int), ldAll H t0ab (t0ao + Int.toNat t2 * 5) [.int .i64 t25c0, .int .i64 t25c1, .int .i64 t25c2, .int .i64 t25c3, .int .i64 t25c4] ∧
    ((0 : Int) ≤ t2 ∧ t2 < ((t0n : Nat) : Int) ∧
    (∃ (H_1 : Heap), stc H t0ab (t0ao + Int.toNat t2 * 5) [.int .i64 t21c0, .int .i64 t21c1, .int .i64 t21c2, .int .i64 t21c3, .int .i64 t21c4] = some H_1 ∧
    ((0 : Int) ≤ t3 ∧ t3 < ((t0n : Nat) : Int) ∧
    (∃ (H_2 : Heap), stc H_1 t0ab (t0ao + Int.toNat t3 * 5) [.int .i64 t25c0, .int .i64 t25c1, .int .i64 t25c2, .int .i64 t25c3, .int .i64 t25c4] = some H_2 ∧
    (L0 ((some ⟨t0ab, t0ao, none⟩)) (t0n) (t0k) ((IntKind.wrap .i64 (t2 + 1))) ((IntKind.wrap .i64 (t3 - 1))) H_2 r))))))))))
    else
    (r = (.tuple #[], H))) :
    L0 t0a t0n t0k t2 t3 H r := by
  intro J
  show KR _ _ _ (.lp (sub B [1, 0, 0]) :: S0) _ _ _
  refine KR.run 8 [(0, .slice t0a t0n t0k), (2, .int .i64 t2), (3, .int .i64 t3), (9, .bool (decide (t2 < t3)))] 28 (s' := (.code (sub B [1, 0, 0, 0, 1]) :: S2)) (by kernel_rfl) fun J => ?_
  by_cases c1 : t2 < t3
  · replace h := iteT c1 h
    refine KR.br true (by kernel_rfl) (vB (dT c1)) ?_
    refine KR.run 3 [(0, .slice t0a t0n t0k), (2, .int .i64 t2), (3, .int .i64 t3)] 28 (s' := (.code (sub B [1, 0, 0, 1, 0, 0]) :: S4)) (by kernel_rfl) fun J => ?_
    refine KR.sd (by kernel_rfl) ?_
    obtain ⟨t0ab, t0ao, rfl, h⟩ := h
    refine KR.run 6 [(0, .slice (some ⟨t0ab, t0ao, none⟩) t0n t0k), (2, .int .i64 t2), (3, .int .i64 t3), (14, .slice (some ⟨t0ab, t0ao, none⟩) t0n t0k), (15, .int .i64 t2), (16, .slice (some ⟨t0ab, t0ao, none⟩) t0n t0k), (17, .int .i64 t3), (18, .slice (some ⟨t0ab, t0ao, none⟩) t0n t0k), (19, .int .i64 t3)] 28 (s' := (.reg (opsAt (sub B [1, 0, 0, 1, 0, 0])) [6, 7, 8, 9, 10, 11, 12, 13, 14, 15] :: S4)) (by kernel_rfl) fun J => ?_
    obtain ⟨q2, q2x, h⟩ := h
    refine KR.p (one_ix 5 t0ab t0ao (by kernel_rfl) q2 q2x) ?_
    obtain ⟨t21c0, t21c1, t21c2, t21c3, t21c4, q3, h⟩ := h
    refine KR.rd (one_ldA (by kernel_rfl) q3) ?_
    refine KR.run 2 [(0, .slice (some ⟨t0ab, t0ao, none⟩) t0n t0k), (2, .int .i64 t2), (3, .int .i64 t3), (14, .slice (some ⟨t0ab, t0ao, none⟩) t0n t0k), (15, .int .i64 t2), (16, .slice (some ⟨t0ab, t0ao, none⟩) t0n t0k), (17, .int .i64 t3), (21, .agg #[.int .i64 t21c0, .int .i64 t21c1, .int .i64 t21c2, .int .i64 t21c3, .int .i64 t21c4]), (22, .slice (some ⟨t0ab, t0ao, none⟩) t0n t0k), (23, .int .i64 t2)] 28 (s' := (.reg (opsAt (sub B [1, 0, 0, 1, 0, 0])) [10, 11, 12, 13, 14, 15] :: S4)) (by kernel_rfl) fun J => ?_
    obtain ⟨q4, q4x, h⟩ := h
    refine KR.p (one_ix 5 t0ab t0ao (by kernel_rfl) q4 q4x) ?_
    obtain ⟨t25c0, t25c1, t25c2, t25c3, t25c4, q5, h⟩ := h
    refine KR.rd (one_ldA (by kernel_rfl) q5) ?_
    obtain ⟨q6, q6x, h⟩ := h
    refine KR.p (one_ix 5 t0ab t0ao (by kernel_rfl) q6 q6x) ?_
    obtain ⟨H_1, q7, h⟩ := h
    refine KR.se (one_st (by kernel_rfl) q7) ?_
    obtain ⟨q8, q8x, h⟩ := h
    refine KR.p (one_ix 5 t0ab t0ao (by kernel_rfl) q8 q8x) ?_
    obtain ⟨H_2, q9, h⟩ := h
    refine KR.se (one_st (by kernel_rfl) q9) ?_
    exact KR.run 10 [(0, .slice (some ⟨t0ab, t0ao, none⟩) t0n t0k), (2, .int .i64 (IntKind.wrap .i64 (t2 + 1))), (3, .int .i64 (IntKind.wrap .i64 (t3 - 1)))] 28 (s' := (.lp (sub B [1, 0, 0]) :: S0)) (by kernel_rfl) h
  · replace h := iteF c1 h
    refine KR.br false (by kernel_rfl) (vB (dF c1)) ?_
    refine KR.run 1 [] 28 (s' := []) (by kernel_rfl) fun J => ?_
    exact KR.fin0 (by kernel_rfl) h
theorem call {a0a : Option Addr} {a0n : Nat} {a0k : Nat} {H : Heap} {r : Value × Heap} (h :
    L0 (a0a) (a0n) (a0k) 0 ((IntKind.wrap .i64 (((a0n : Nat) : Int) - 1))) H r) :
    xC Try.prog good 57 [.slice a0a a0n a0k] H = some r := by
  refine KR.enter (fn := Try.f57) (c := B) (by kernel_rfl) (by kernel_rfl) ?_
  exact KR.run 10 [(0, .slice a0a a0n a0k), (2, .int .i64 0), (3, .int .i64 (IntKind.wrap .i64 (((a0n : Nat) : Int) - 1)))] 28 (s' := (.lp (sub B [1, 0, 0]) :: S0)) (by kernel_rfl) h
end F57
end Go.X
