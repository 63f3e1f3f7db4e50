/- The walks of the functions: printed. -/
import Derived.Test.YtomibdncbioijaaXzGd
set_option linter.unusedVariables false
set_option maxRecDepth 100000
namespace Go.X
open Go Go.RowKit Go.Proofs
/-! #### 16 campanile/cell.New -/
namespace F16
noncomputable def B : Code := bodyOf Try.f16
noncomputable def S0 : List It := (.code (sub B [1, 1]) :: [])
theorem call  {H : Heap} {r : Value × Heap} (h :
    ∃ (H_1 : Heap), H_1 = H.push (.row [.int .i64 0, .int .i64 0, .int .i64 0, .int .i64 0, .slice none 0 0] true) ∧
    (r = (.pointer (some ⟨H.next, 0, none⟩), H_1))) :
    xC Try.prog good 16 [] H = some r := by
  refine KR.enter (fn := Try.f16) (c := B) (by kernel_rfl) (by kernel_rfl) ?_
  refine KR.run 7 [(1, .agg #[.int .i64 0, .int .i64 0, .int .i64 0, .int .i64 0, .slice none 0 0])] 3 (s' := (.reg (opsAt (sub B [1, 0])) [1, 2] :: S0)) (by kernel_rfl) fun J => ?_
  obtain ⟨H_1, q1, h⟩ := h
  refine KR.mk (w := pRow [.int .i64 0, .int .i64 0, .int .i64 0, .int .i64 0, .slice none 0 0]) (one_al (by kernel_rfl)) q1 ?_
  refine KR.run 2 [(0, .pointer (some ⟨H.next, 0, none⟩))] 3 (s' := (.code (sub B [1, 1]) :: [])) (by kernel_rfl) fun J => ?_
  exact KR.fin (by kernel_rfl) h
end F16
/-! #### 18 (*campanile/cell.Table).Add -/
namespace F18
noncomputable def B : Code := bodyOf Try.f18
noncomputable def S0 : List It := (.code (sub B [1]) :: [])
noncomputable def S1 : List It := (.code (sub B [1, 1]) :: [])
noncomputable def S7 : List It := (.code (sub B [1, 1, 1]) :: [])
noncomputable def S8 : List It := (.code (sub B [1, 1, 1, 1]) :: [])
noncomputable def S2 : List It := (.blk 0 :: S1)
noncomputable def S3 : List It := (.code (sub B [1, 0, 0, 1]) :: S2)
noncomputable def S4 : List It := (.code (sub B [1, 0, 0, 1, 1, 1]) :: S2)
noncomputable def S5 : List It := (.code (sub B [1, 0, 0, 1, 1, 1, 1, 1]) :: S2)
noncomputable def S6 : List It := (.code (sub B [1, 0, 0, 1, 1, 1, 1, 1, 1, 1]) :: S2)
def L0 (t0 : Option Addr) (t3b : Nat) (t3o : Nat) (t7 : Bool) (H : Heap) (r : Value × Heap) : Prop := ∀ J, KR Try.prog good Try.f18 S3 (mat J 60 [(0, .pointer t0), (3, .pointer (some ⟨t3b, t3o, none⟩)), (7, .bool t7)]) H r
theorem L0_step {t0 : Option Addr} {t3b : Nat} {t3o : Nat} {t7 : Bool} {H : Heap} {r : Value × Heap} (h :
    if t7 = true then
    (r = (.int .i64 1, H))
    else
    (∃ (t17 : Int), ldc H t3b (t3o + 1) = some (.int .i64 t17) ∧
    (∃ (t20 : Int), ldc H t3b t3o = some (.int .i64 t20) ∧
    (∃ (t0b t0o : Nat), t0 = some ⟨t0b, t0o, none⟩ ∧
    ((0 : Int) ≤ t20 ∧ t20 < (4 : Int) ∧
    (∃ (t24 : Int), ldc H t0b (t0o + Int.toNat t20 * 1) = some (.int .i64 t24) ∧
    (if t17 ≥ t24 then
    (r = (.int .i64 6, H))
    else
    (∃ (t30a : Option Addr) (t30n : Nat) (t30k : Nat), ldc H t0b (t0o + 4) = some (.slice t30a t30n t30k) ∧
    (∃ (t32 : Bool) (H_1 : Heap), xC Try.prog good 39 [.slice t30a t30n t30k, .func (.func 40) #[] #[.pointer (some ⟨t3b, t3o, none⟩)]] H = some (.bool t32, H_1) ∧
    (if t32 = true then
    (r = (.int .i64 9, H_1))
    else
    (∃ (t37a : Option Addr) (t37n : Nat) (t37k : Nat), ldc H_1 t0b (t0o + 4) = some (.slice t37a t37n t37k) ∧
    (if ((t37n : Nat) : Int) ≥ 64 then
    (r = (.int .i64 5, H_1))
    else
    (∃ (t44a : Option Addr) (t44n : Nat) (t44k : Nat), ldc H_1 t0b (t0o + 4) = some (.slice t44a t44n t44k) ∧
    (∃ (t45c0 : Int) (t45c1 : Int) (t45c2 : Int) (t45c3 : Int) (t45c4 : Int), ldAll H_1 t3b t3o [.int .i64 t45c0, .int .i64 t45c1, .int .i64 t45c2, .int .i64 t45c3, .int .i64 t45c4] ∧
    (∃ (t46r0 : Int) (t46r1 : Bool) (H_2 : Heap), xC Try.prog good 41 [.slice t44a t44n t44k, .agg #[.int .i64 t45c0, .int .i64 t45c1, .int .i64 t45c2, .int .i64 t45c3, .int .i64 t45c4], .func (.func 42) #[] #[]] H_1 = some (.tuple #[.int .i64 t46r0, .bool t46r1], H_2) ∧
    (∃ (t53a : Option Addr) (t53n : Nat) (t53k : Nat), ldc H_2 t0b (t0o + 4) = some (.slice t53a t53n t53k) ∧
    (∃ (t55c0 : Int) (t55c1 : Int) (t55c2 : Int) (t55c3 : Int) (t55c4 : Int), ldAll H_2 t3b t3o [.int .i64 t55c0, .int .i64 t55c1, .int .i64 t55c2, .int .i64 t55c3, .int .i64 t55c4] ∧
    (∃ (H_3 : Heap), H_3 = H_2.push (.row [.int .i64 t55c0, .int .i64 t55c1, .int .i64 t55c2, .int .i64 t55c3, .int .i64 t55c4] true) ∧
    (∃ (t57a : Option Addr) (t57n : Nat) (t57k : Nat) (H_4 : Heap), xC Try.prog good 43 [.slice t53a t53n t53k, .int .i64 t46r0, .slice (some ⟨H_2.next, 0, none⟩) 1 (UNK 5)] H_3 = some (.slice t57a t57n t57k, H_4) ∧
    (∃ (H_5 : Heap), stc H_4 t0b (t0o + 4) [.slice t57a t57n t57k] = some H_5 ∧
    (ldc H_3 t0b (t0o + 4) = some (.slice t53a t53n t53k) ∧
    (r = (.int .i64 0, H_5))))))))))))))))))))))) :
    L0 t0 t3b t3o t7 H r := by
  intro J
  show KR _ _ _ (.code (sub B [1, 0, 0, 1]) :: S2) _ _ _
  by_cases c6 : t7 = true
  · replace h := iteT c6 h
    refine KR.br true (by kernel_rfl) (vB (bT c6)) ?_
    refine KR.run 4 [(4, .int .i64 1)] 60 (s' := (.code (sub B [1, 0, 0, 1, 0, 1]) :: S2)) (by kernel_rfl) fun J => ?_
    exact KR.fin (by kernel_rfl) h
  · replace h := iteF c6 h
    refine KR.br false (by kernel_rfl) (vB (bF c6)) ?_
    refine KR.run 1 [(0, .pointer t0), (3, .pointer (some ⟨t3b, t3o, none⟩))] 60 (s' := (.code (sub B [1, 0, 0, 1, 1, 0]) :: S4)) (by kernel_rfl) fun J => ?_
    refine KR.sd (by kernel_rfl) ?_
    refine KR.run 1 [(0, .pointer t0), (3, .pointer (some ⟨t3b, t3o, none⟩)), (16, .pointer (some ⟨t3b, (t3o + 1), none⟩))] 60 (s' := (.reg (opsAt (sub B [1, 0, 0, 1, 1, 0])) [1, 2, 3, 4, 5, 6, 7, 8, 9, 10] :: S4)) (by kernel_rfl) fun J => ?_
    obtain ⟨t17, q7, h⟩ := h
    refine KR.rd (one_ld (by kernel_rfl) q7) ?_
    refine KR.run 2 [(0, .pointer t0), (3, .pointer (some ⟨t3b, t3o, none⟩)), (17, .int .i64 t17), (18, .pointer t0), (19, .pointer (some ⟨t3b, t3o, none⟩))] 60 (s' := (.reg (opsAt (sub B [1, 0, 0, 1, 1, 0])) [4, 5, 6, 7, 8, 9, 10] :: S4)) (by kernel_rfl) fun J => ?_
    obtain ⟨t20, q8, h⟩ := h
    refine KR.rd (one_ld (by kernel_rfl) q8) ?_
    obtain ⟨t0b, t0o, rfl, h⟩ := h
    refine KR.run 2 [(0, .pointer (some ⟨t0b, t0o, none⟩)), (3, .pointer (some ⟨t3b, t3o, none⟩)), (17, .int .i64 t17), (20, .int .i64 t20), (22, .pointer (some ⟨t0b, t0o, none⟩))] 60 (s' := (.reg (opsAt (sub B [1, 0, 0, 1, 1, 0])) [7, 8, 9, 10] :: S4)) (by kernel_rfl) fun J => ?_
    obtain ⟨q9, q9x, h⟩ := h
    refine KR.p (one_ix 1 t0b t0o (by kernel_rfl) q9 q9x) ?_
    obtain ⟨t24, q10, h⟩ := h
    refine KR.rd (one_ld (by kernel_rfl) q10) ?_
    refine KR.run 3 [(0, .pointer (some ⟨t0b, t0o, none⟩)), (3, .pointer (some ⟨t3b, t3o, none⟩)), (15, .bool (decide (t17 ≥ t24)))] 60 (s' := (.code (sub B [1, 0, 0, 1, 1, 1]) :: S2)) (by kernel_rfl) fun J => ?_
    by_cases c11 : t17 ≥ t24
    · replace h := iteT c11 h
      refine KR.br true (by kernel_rfl) (vB (dT c11)) ?_
      refine KR.run 4 [(4, .int .i64 6)] 60 (s' := (.code (sub B [1, 0, 0, 1, 1, 1, 0, 1]) :: S2)) (by kernel_rfl) fun J => ?_
      exact KR.fin (by kernel_rfl) h
    · replace h := iteF c11 h
      refine KR.br false (by kernel_rfl) (vB (dF c11)) ?_
      refine KR.run 5 [(0, .pointer (some ⟨t0b, t0o, none⟩)), (3, .pointer (some ⟨t3b, t3o, none⟩)), (29, .pointer (some ⟨t0b, (t0o + 4), none⟩))] 60 (s' := (.reg (opsAt (sub B [1, 0, 0, 1, 1, 1, 1, 0])) [3, 4, 5, 6] :: S5)) (by kernel_rfl) fun J => ?_
      obtain ⟨t30a, t30n, t30k, q12, h⟩ := h
      refine KR.rd (one_ld (by kernel_rfl) q12) ?_
      refine KR.run 1 [(0, .pointer (some ⟨t0b, t0o, none⟩)), (3, .pointer (some ⟨t3b, t3o, none⟩)), (30, .slice t30a t30n t30k), (31, .func (.func 40) #[] #[.pointer (some ⟨t3b, t3o, none⟩)])] 60 (s' := (.reg (opsAt (sub B [1, 0, 0, 1, 1, 1, 1, 0])) [5, 6] :: S5)) (by kernel_rfl) fun J => ?_
      obtain ⟨t32, H_1, q13, h⟩ := h
      refine KR.se (one_ca (by kernel_rfl) q13) ?_
      refine KR.run 2 [(0, .pointer (some ⟨t0b, t0o, none⟩)), (3, .pointer (some ⟨t3b, t3o, none⟩)), (26, .bool t32)] 60 (s' := (.code (sub B [1, 0, 0, 1, 1, 1, 1, 1]) :: S2)) (by kernel_rfl) fun J => ?_
      by_cases c14 : t32 = true
      · replace h := iteT c14 h
        refine KR.br true (by kernel_rfl) (vB (bT c14)) ?_
        refine KR.run 4 [(4, .int .i64 9)] 60 (s' := (.code (sub B [1, 0, 0, 1, 1, 1, 1, 1, 0, 1]) :: S2)) (by kernel_rfl) fun J => ?_
        exact KR.fin (by kernel_rfl) h
      · replace h := iteF c14 h
        refine KR.br false (by kernel_rfl) (vB (bF c14)) ?_
        refine KR.run 5 [(0, .pointer (some ⟨t0b, t0o, none⟩)), (3, .pointer (some ⟨t3b, t3o, none⟩)), (36, .pointer (some ⟨t0b, (t0o + 4), none⟩))] 60 (s' := (.reg (opsAt (sub B [1, 0, 0, 1, 1, 1, 1, 1, 1, 0])) [3, 4, 5, 6] :: S6)) (by kernel_rfl) fun J => ?_
        obtain ⟨t37a, t37n, t37k, q15, h⟩ := h
        refine KR.rd (one_ld (by kernel_rfl) q15) ?_
        refine KR.run 4 [(0, .pointer (some ⟨t0b, t0o, none⟩)), (3, .pointer (some ⟨t3b, t3o, none⟩)), (33, .bool (decide (((t37n : Nat) : Int) ≥ 64)))] 60 (s' := (.code (sub B [1, 0, 0, 1, 1, 1, 1, 1, 1, 1]) :: S2)) (by kernel_rfl) fun J => ?_
        by_cases c16 : ((t37n : Nat) : Int) ≥ 64
        · replace h := iteT c16 h
          refine KR.br true (by kernel_rfl) (vB (dT c16)) ?_
          refine KR.run 4 [(4, .int .i64 5)] 60 (s' := (.code (sub B [1, 0, 0, 1, 1, 1, 1, 1, 1, 1, 0, 1]) :: S2)) (by kernel_rfl) fun J => ?_
          exact KR.fin (by kernel_rfl) h
        · replace h := iteF c16 h
          refine KR.br false (by kernel_rfl) (vB (dF c16)) ?_
          refine KR.run 3 [(0, .pointer (some ⟨t0b, t0o, none⟩)), (3, .pointer (some ⟨t3b, t3o, none⟩))] 60 (s' := (.code (sub B [1, 1, 0]) :: S7)) (by kernel_rfl) fun J => ?_
          refine KR.sd (by kernel_rfl) ?_
          refine KR.run 3 [(0, .pointer (some ⟨t0b, t0o, none⟩)), (3, .pointer (some ⟨t3b, t3o, none⟩)), (43, .pointer (some ⟨t0b, (t0o + 4), none⟩))] 60 (s' := (.reg (opsAt (sub B [1, 1, 0])) [3, 4, 5, 6, 7, 8, 9, 10] :: S7)) (by kernel_rfl) fun J => ?_
          obtain ⟨t44a, t44n, t44k, q17, h⟩ := h
          refine KR.rd (one_ld (by kernel_rfl) q17) ?_
          obtain ⟨t45c0, t45c1, t45c2, t45c3, t45c4, q18, h⟩ := h
          refine KR.rd (one_ldA (by kernel_rfl) q18) ?_
          obtain ⟨t46r0, t46r1, H_2, q19, h⟩ := h
          refine KR.se (one_ca (by kernel_rfl) q19) ?_
          refine KR.run 7 [(0, .pointer (some ⟨t0b, t0o, none⟩)), (3, .pointer (some ⟨t3b, t3o, none⟩)), (5, .int .i64 t46r0)] 60 (s' := (.code (sub B [1, 1, 1, 0]) :: S8)) (by kernel_rfl) fun J => ?_
          refine KE.start H_2 (by kernel_rfl) (by kernel_rfl) ?_
          refine KE.run 4 [(3, .pointer (some ⟨t3b, t3o, none⟩)), (5, .int .i64 t46r0), (49, .pointer (some ⟨t0b, t0o, none⟩)), (52, .pointer (some ⟨t0b, (t0o + 4), none⟩))] 60 4 (by kernel_rfl) fun J => ?_
          obtain ⟨t53a, t53n, t53k, q20, h⟩ := h
          refine KE.rdF (one_ld (by kernel_rfl) q20) (by kernel_rfl) ?_
          refine KE.run 1 [(3, .pointer (some ⟨t3b, t3o, none⟩)), (49, .pointer (some ⟨t0b, t0o, none⟩)), (53, .slice t53a t53n t53k), (54, .int .i64 t46r0)] 60 6 (by kernel_rfl) fun J => ?_
          obtain ⟨t55c0, t55c1, t55c2, t55c3, t55c4, q21, h⟩ := h
          refine KE.rdN (one_ldA (by kernel_rfl) q21) (by kernel_rfl) ?_
          obtain ⟨H_3, q22, h⟩ := h
          refine KE.mk (w := sRow 1 5 [.int .i64 t55c0, .int .i64 t55c1, .int .i64 t55c2, .int .i64 t55c3, .int .i64 t55c4]) (one_al (by kernel_rfl)) (by kernel_rfl) (by kernel_rfl) q22 ?_
          obtain ⟨t57a, t57n, t57k, H_4, q23, h⟩ := h
          refine KE.se (one_ca (by kernel_rfl) q23) (by kernel_rfl) ?_
          refine KE.run 2 [(57, .slice t57a t57n t57k), (59, .pointer (some ⟨t0b, (t0o + 4), none⟩))] 60 11 (by kernel_rfl) fun J => ?_
          obtain ⟨H_5, q24, h⟩ := h
          refine KE.se (one_st (by kernel_rfl) q24) (by kernel_rfl) ?_
          obtain ⟨q25, h⟩ := h
          refine KE.fin (H' := H_5) (by kernel_rfl) (rdsS (rfl) (rd_ok (Hs := [H_3]) (by kernel_rfl) (by kernel_rfl) ⟨one_ld (by kernel_rfl) q25, trivial⟩)) (by kernel_rfl) ?_
          refine KR.run 4 [(4, .int .i64 0)] 60 (s' := (.code (sub B [1, 1, 1, 1, 1]) :: [])) (by kernel_rfl) fun J => ?_
          exact KR.fin (by kernel_rfl) h
theorem call {a0 : Option Addr} {a1c0 : Int} {a1c1 : Int} {a1c2 : Int} {a1c3 : Int} {a1c4 : Int} {H : Heap} {r : Value × Heap} (h :
    ∃ (H_1 : Heap), H_1 = H.push (.row [.int .i64 a1c0, .int .i64 a1c1, .int .i64 a1c2, .int .i64 a1c3, .int .i64 a1c4] true) ∧
    (if (Option.isNone a0) = true then
    (L0 (a0) (H.next) (0) (true) H_1 r)
    else
    (∃ (t11c0 : Int) (t11c1 : Int) (t11c2 : Int) (t11c3 : Int) (t11c4 : Int), ldAll H_1 H.next 0 [.int .i64 t11c0, .int .i64 t11c1, .int .i64 t11c2, .int .i64 t11c3, .int .i64 t11c4] ∧
    (∃ (t12 : Bool) (H_2 : Heap), xC Try.prog good 17 [.agg #[.int .i64 t11c0, .int .i64 t11c1, .int .i64 t11c2, .int .i64 t11c3, .int .i64 t11c4]] H_1 = some (.bool t12, H_2) ∧
    (L0 (a0) (H.next) (0) ((!t12)) H_2 r))))) :
    xC Try.prog good 18 [.pointer a0, .agg #[.int .i64 a1c0, .int .i64 a1c1, .int .i64 a1c2, .int .i64 a1c3, .int .i64 a1c4]] H = some r := by
  refine KR.enter (fn := Try.f18) (c := B) (by kernel_rfl) (by kernel_rfl) ?_
  refine KR.run 2 [(0, .pointer a0), (1, .agg #[.int .i64 a1c0, .int .i64 a1c1, .int .i64 a1c2, .int .i64 a1c3, .int .i64 a1c4])] 60 (s' := (.reg (opsAt (sub B [0])) [0, 1] :: S0)) (by kernel_rfl) fun J => ?_
  obtain ⟨H_1, q1, h⟩ := h
  refine KR.mk (w := pRow [.int .i64 a1c0, .int .i64 a1c1, .int .i64 a1c2, .int .i64 a1c3, .int .i64 a1c4]) (one_al (by kernel_rfl)) q1 ?_
  refine KR.run 7 [(0, .pointer a0), (3, .pointer (some ⟨H.next, 0, none⟩)), (8, .pointer a0)] 60 (s' := (.reg (opsAt (sub B [1, 0, 0, 0])) [1, 2, 3, 4, 5, 6, 7] :: S3)) (by kernel_rfl) fun J => ?_
  refine KR.p (one_nl false a0 (by kernel_rfl)) ?_
  refine KR.run 1 [(0, .pointer a0), (3, .pointer (some ⟨H.next, 0, none⟩)), (10, .bool (Option.isNone a0))] 60 (s' := (.reg (opsAt (sub B [1, 0, 0, 0])) [3, 4, 5, 6, 7] :: S3)) (by kernel_rfl) fun J => ?_
  by_cases c3 : (Option.isNone a0) = true
  · replace h := iteT c3 h
    refine KR.setV 10 (by kernel_rfl) (bT c3) ?_
    exact KR.run 6 [(0, .pointer a0), (3, .pointer (some ⟨H.next, 0, none⟩)), (7, .bool true)] 60 (s' := (.code (sub B [1, 0, 0, 1]) :: S2)) (by kernel_rfl) h
  · replace h := iteF c3 h
    refine KR.setV 10 (by kernel_rfl) (bF c3) ?_
    obtain ⟨t11c0, t11c1, t11c2, t11c3, t11c4, q4, h⟩ := h
    refine KR.rd (one_ldA (by kernel_rfl) q4) ?_
    obtain ⟨t12, H_2, q5, h⟩ := h
    refine KR.se (one_ca (by kernel_rfl) q5) ?_
    exact KR.run 4 [(0, .pointer a0), (3, .pointer (some ⟨H.next, 0, none⟩)), (7, .bool (!t12))] 60 (s' := (.code (sub B [1, 0, 0, 1]) :: S2)) (by kernel_rfl) h
end F18
/-! #### 19 campanile/campanilelaw8.awake -/
namespace F19
noncomputable def B : Code := bodyOf Try.f19
noncomputable def S0 : List It := (.code (sub B [1, 1]) :: [])
noncomputable def S1 : List It := (.code (sub B [1, 1, 1]) :: [])
noncomputable def S2 : List It := (.code (sub B [1, 1, 1, 1]) :: [])
noncomputable def S3 : List It := (.code (sub B [1, 1, 1, 1, 1]) :: [])
theorem call  {H : Heap} {r : Value × Heap} (h :
    ∃ (t5 : Option Addr) (H_1 : Heap), xC Try.prog good 16 [] H = some (.pointer t5, H_1) ∧
    (∃ (t7 : Int) (H_2 : Heap), xC Try.prog good 20 [.pointer t5, .int .i64 0, .int .i64 5] H_1 = some (.int .i64 t7, H_2) ∧
    (∃ (t10 : Int) (H_3 : Heap), xC Try.prog good 18 [.pointer t5, .agg #[.int .i64 0, .int .i64 2, .int .i64 0, .int .i64 1, .int .i64 3]] H_2 = some (.int .i64 t10, H_3) ∧
    (∃ (t12a : Option Addr) (t12n : Nat) (t12k : Nat) (H_4 : Heap), xC Try.prog good 21 [.pointer t5, .int .i64 7] H_3 = some (.slice t12a t12n t12k, H_4) ∧
    (if t7 = 0 then
    (if t10 = 0 then
    (if ((t12n : Nat) : Int) = 1 then
    (∃ (t12ab t12ao : Nat), t12a = some ⟨t12ab, t12ao, none⟩ ∧
    ((0 : Int) ≤ 0 ∧ 0 < ((t12n : Nat) : Int) ∧
    (∃ (t28 : Int), ldc H_4 t12ab (t12ao + 4) = some (.int .i64 t28) ∧
    (if t28 = 3 then
    (∃ (t33a : Option Addr) (t33n : Nat) (t33k : Nat) (H_5 : Heap), xC Try.prog good 21 [.pointer t5, .int .i64 8] H_4 = some (.slice t33a t33n t33k, H_5) ∧
    (r = (.bool (((t33n : Nat) : Int) == 0), H_5)))
    else
    (r = (.bool false, H_4))))))
    else
    (r = (.bool false, H_4)))
    else
    (r = (.bool false, H_4)))
    else
    (r = (.bool false, H_4))))))) :
    xC Try.prog good 19 [] H = some r := by
  refine KR.enter (fn := Try.f19) (c := B) (by kernel_rfl) (by kernel_rfl) ?_
  refine KR.run 6 [] 37 (s' := (.reg (opsAt (sub B [1, 0])) [0, 1] :: S0)) (by kernel_rfl) fun J => ?_
  obtain ⟨t5, H_1, q1, h⟩ := h
  refine KR.se (one_ca (by kernel_rfl) q1) ?_
  refine KR.run 5 [(1, .pointer t5), (6, .pointer t5)] 37 (s' := (.reg (opsAt (sub B [1, 1, 0])) [1, 2, 3, 4, 5, 6] :: S1)) (by kernel_rfl) fun J => ?_
  obtain ⟨t7, H_2, q2, h⟩ := h
  refine KR.se (one_ca (by kernel_rfl) q2) ?_
  refine KR.run 2 [(1, .pointer t5), (7, .int .i64 t7), (8, .pointer t5), (9, .agg #[.int .i64 0, .int .i64 2, .int .i64 0, .int .i64 1, .int .i64 3])] 37 (s' := (.reg (opsAt (sub B [1, 1, 0])) [4, 5, 6] :: S1)) (by kernel_rfl) fun J => ?_
  obtain ⟨t10, H_3, q3, h⟩ := h
  refine KR.se (one_ca (by kernel_rfl) q3) ?_
  refine KR.run 6 [(1, .pointer t5), (2, .int .i64 t7), (3, .int .i64 t10), (11, .pointer t5)] 37 (s' := (.reg (opsAt (sub B [1, 1, 1, 0])) [1, 2] :: S2)) (by kernel_rfl) fun J => ?_
  obtain ⟨t12a, t12n, t12k, H_4, q4, h⟩ := h
  refine KR.se (one_ca (by kernel_rfl) q4) ?_
  refine KR.run 7 [(1, .pointer t5), (3, .int .i64 t10), (4, .slice t12a t12n t12k), (15, .bool (t7 == 0))] 37 (s' := (.reg (opsAt (sub B [1, 1, 1, 1, 0])) [3, 4, 5, 6, 7, 8, 9, 10, 11, 12, 13, 14, 15, 16, 17, 18, 19, 20, 21, 22, 23, 24] :: S3)) (by kernel_rfl) fun J => ?_
  by_cases c5 : t7 = 0
  · replace h := iteT c5 h
    refine KR.setV 15 (by kernel_rfl) (eT c5) ?_
    refine KR.run 4 [(1, .pointer t5), (4, .slice t12a t12n t12k), (19, .bool (t10 == 0))] 37 (s' := (.reg (opsAt (sub B [1, 1, 1, 1, 0])) [7, 8, 9, 10, 11, 12, 13, 14, 15, 16, 17, 18, 19, 20, 21, 22, 23, 24] :: S3)) (by kernel_rfl) fun J => ?_
    by_cases c6 : t10 = 0
    · replace h := iteT c6 h
      refine KR.setV 19 (by kernel_rfl) (eT c6) ?_
      refine KR.run 5 [(1, .pointer t5), (4, .slice t12a t12n t12k), (24, .bool (((t12n : Nat) : Int) == 1))] 37 (s' := (.reg (opsAt (sub B [1, 1, 1, 1, 0])) [12, 13, 14, 15, 16, 17, 18, 19, 20, 21, 22, 23, 24] :: S3)) (by kernel_rfl) fun J => ?_
      by_cases c7 : ((t12n : Nat) : Int) = 1
      · replace h := iteT c7 h
        refine KR.setV 24 (by kernel_rfl) (eT c7) ?_
        obtain ⟨t12ab, t12ao, rfl, h⟩ := h
        refine KR.run 1 [(1, .pointer t5), (24, .bool true), (25, .slice (some ⟨t12ab, t12ao, none⟩) t12n t12k)] 37 (s' := (.reg (opsAt (sub B [1, 1, 1, 1, 0])) [13, 14, 15, 16, 17, 18, 19, 20, 21, 22, 23, 24] :: S3)) (by kernel_rfl) fun J => ?_
        obtain ⟨q8, q8x, h⟩ := h
        refine KR.p (one_ix 5 t12ab t12ao (by kernel_rfl) q8 q8x) ?_
        refine KR.run 1 [(1, .pointer t5), (24, .bool true), (27, .pointer (some ⟨t12ab, (t12ao + 4), none⟩))] 37 (s' := (.reg (opsAt (sub B [1, 1, 1, 1, 0])) [15, 16, 17, 18, 19, 20, 21, 22, 23, 24] :: S3)) (by kernel_rfl) fun J => ?_
        obtain ⟨t28, q9, h⟩ := h
        refine KR.rd (one_ld (by kernel_rfl) q9) ?_
        refine KR.run 3 [(1, .pointer t5), (31, .bool (t28 == 3))] 37 (s' := (.reg (opsAt (sub B [1, 1, 1, 1, 0])) [19, 20, 21, 22, 23, 24] :: S3)) (by kernel_rfl) fun J => ?_
        by_cases c10 : t28 = 3
        · replace h := iteT c10 h
          refine KR.setV 31 (by kernel_rfl) (eT c10) ?_
          refine KR.run 1 [(31, .bool true), (32, .pointer t5)] 37 (s' := (.reg (opsAt (sub B [1, 1, 1, 1, 0])) [20, 21, 22, 23, 24] :: S3)) (by kernel_rfl) fun J => ?_
          obtain ⟨t33a, t33n, t33k, H_5, q11, h⟩ := h
          refine KR.se (one_ca (by kernel_rfl) q11) ?_
          refine KR.run 5 [(0, .bool (((t33n : Nat) : Int) == 0))] 37 (s' := (.code (sub B [1, 1, 1, 1, 1]) :: [])) (by kernel_rfl) fun J => ?_
          exact KR.fin (by kernel_rfl) h
        · replace h := iteF c10 h
          refine KR.setV 31 (by kernel_rfl) (eF c10) ?_
          refine KR.run 7 [(0, .bool false)] 37 (s' := (.code (sub B [1, 1, 1, 1, 1]) :: [])) (by kernel_rfl) fun J => ?_
          exact KR.fin (by kernel_rfl) h
      · replace h := iteF c7 h
        refine KR.setV 24 (by kernel_rfl) (eF c7) ?_
        refine KR.run 14 [(0, .bool false)] 37 (s' := (.code (sub B [1, 1, 1, 1, 1]) :: [])) (by kernel_rfl) fun J => ?_
        exact KR.fin (by kernel_rfl) h
    · replace h := iteF c6 h
      refine KR.setV 19 (by kernel_rfl) (eF c6) ?_
      refine KR.run 19 [(0, .bool false)] 37 (s' := (.code (sub B [1, 1, 1, 1, 1]) :: [])) (by kernel_rfl) fun J => ?_
      exact KR.fin (by kernel_rfl) h
  · replace h := iteF c5 h
    refine KR.setV 15 (by kernel_rfl) (eF c5) ?_
    refine KR.run 23 [(0, .bool false)] 37 (s' := (.code (sub B [1, 1, 1, 1, 1]) :: [])) (by kernel_rfl) fun J => ?_
    exact KR.fin (by kernel_rfl) h
end F19
/-! #### 20 (*campanile/cell.Table).Frame -/
namespace F20
noncomputable def B : Code := bodyOf Try.f20
noncomputable def S0 : List It := (.code (sub B [1]) :: [])
noncomputable def S1 : List It := (.code (sub B [1, 1]) :: [])
noncomputable def S5 : List It := (.code (sub B [1, 1, 1]) :: [])
noncomputable def S2 : List It := (.blk 0 :: S1)
noncomputable def S3 : List It := (.code (sub B [1, 0, 0, 1]) :: S2)
noncomputable def S4 : List It := (.code (sub B [1, 0, 0, 1, 1, 1]) :: S2)
def L0 (t0 : Option Addr) (t4b : Nat) (t4o : Nat) (t5b : Nat) (t5o : Nat) (t7 : Bool) (H : Heap) (r : Value × Heap) : Prop := ∀ J, KR Try.prog good Try.f20 S3 (mat J 33 [(0, .pointer t0), (4, .pointer (some ⟨t4b, t4o, none⟩)), (5, .pointer (some ⟨t5b, t5o, none⟩)), (7, .bool t7)]) H r
theorem L0_step {t0 : Option Addr} {t4b : Nat} {t4o : Nat} {t5b : Nat} {t5o : Nat} {t7 : Bool} {H : Heap} {r : Value × Heap} (h :
    if t7 = true then
    (r = (.int .i64 1, H))
    else
    (∃ (t0b t0o : Nat), t0 = some ⟨t0b, t0o, none⟩ ∧
    (∃ (t24a : Option Addr) (t24n : Nat) (t24k : Nat), ldc H t0b (t0o + 4) = some (.slice t24a t24n t24k) ∧
    (∃ (t26 : Bool) (H_1 : Heap), xC Try.prog good 39 [.slice t24a t24n t24k, .func (.func 44) #[] #[.pointer (some ⟨t4b, t4o, none⟩), .pointer (some ⟨t5b, t5o, none⟩)]] H = some (.bool t26, H_1) ∧
    (if t26 = true then
    (r = (.int .i64 9, H_1))
    else
    (∃ (t28 : Int), ldc H_1 t4b t4o = some (.int .i64 t28) ∧
    (∃ (t29 : Int), ldc H_1 t5b t5o = some (.int .i64 t29) ∧
    ((0 : Int) ≤ t28 ∧ t28 < (4 : Int) ∧
    (∃ (H_2 : Heap), stc H_1 t0b (t0o + Int.toNat t28 * 1) [.int .i64 t29] = some H_2 ∧
    (r = (.int .i64 0, H_2))))))))))) :
    L0 t0 t4b t4o t5b t5o t7 H r := by
  intro J
  show KR _ _ _ (.code (sub B [1, 0, 0, 1]) :: S2) _ _ _
  by_cases c10 : t7 = true
  · replace h := iteT c10 h
    refine KR.br true (by kernel_rfl) (vB (bT c10)) ?_
    refine KR.run 4 [(6, .int .i64 1)] 33 (s' := (.code (sub B [1, 0, 0, 1, 0, 1]) :: S2)) (by kernel_rfl) fun J => ?_
    exact KR.fin (by kernel_rfl) h
  · replace h := iteF c10 h
    refine KR.br false (by kernel_rfl) (vB (bF c10)) ?_
    obtain ⟨t0b, t0o, rfl, h⟩ := h
    refine KR.run 5 [(0, .pointer (some ⟨t0b, t0o, none⟩)), (4, .pointer (some ⟨t4b, t4o, none⟩)), (5, .pointer (some ⟨t5b, t5o, none⟩)), (23, .pointer (some ⟨t0b, (t0o + 4), none⟩))] 33 (s' := (.reg (opsAt (sub B [1, 0, 0, 1, 1, 0])) [3, 4, 5, 6] :: S4)) (by kernel_rfl) fun J => ?_
    obtain ⟨t24a, t24n, t24k, q11, h⟩ := h
    refine KR.rd (one_ld (by kernel_rfl) q11) ?_
    refine KR.run 1 [(0, .pointer (some ⟨t0b, t0o, none⟩)), (4, .pointer (some ⟨t4b, t4o, none⟩)), (5, .pointer (some ⟨t5b, t5o, none⟩)), (24, .slice t24a t24n t24k), (25, .func (.func 44) #[] #[.pointer (some ⟨t4b, t4o, none⟩), .pointer (some ⟨t5b, t5o, none⟩)])] 33 (s' := (.reg (opsAt (sub B [1, 0, 0, 1, 1, 0])) [5, 6] :: S4)) (by kernel_rfl) fun J => ?_
    obtain ⟨t26, H_1, q12, h⟩ := h
    refine KR.se (one_ca (by kernel_rfl) q12) ?_
    refine KR.run 2 [(0, .pointer (some ⟨t0b, t0o, none⟩)), (4, .pointer (some ⟨t4b, t4o, none⟩)), (5, .pointer (some ⟨t5b, t5o, none⟩)), (20, .bool t26)] 33 (s' := (.code (sub B [1, 0, 0, 1, 1, 1]) :: S2)) (by kernel_rfl) fun J => ?_
    by_cases c13 : t26 = true
    · replace h := iteT c13 h
      refine KR.br true (by kernel_rfl) (vB (bT c13)) ?_
      refine KR.run 4 [(6, .int .i64 9)] 33 (s' := (.code (sub B [1, 0, 0, 1, 1, 1, 0, 1]) :: S2)) (by kernel_rfl) fun J => ?_
      exact KR.fin (by kernel_rfl) h
    · replace h := iteF c13 h
      refine KR.br false (by kernel_rfl) (vB (bF c13)) ?_
      refine KR.run 3 [(0, .pointer (some ⟨t0b, t0o, none⟩)), (4, .pointer (some ⟨t4b, t4o, none⟩)), (5, .pointer (some ⟨t5b, t5o, none⟩))] 33 (s' := (.code (sub B [1, 1, 0]) :: S5)) (by kernel_rfl) fun J => ?_
      refine KR.sd (by kernel_rfl) ?_
      refine KR.run 1 [(4, .pointer (some ⟨t4b, t4o, none⟩)), (5, .pointer (some ⟨t5b, t5o, none⟩)), (27, .pointer (some ⟨t0b, t0o, none⟩))] 33 (s' := (.reg (opsAt (sub B [1, 1, 0])) [1, 2, 3, 4, 5, 6] :: S5)) (by kernel_rfl) fun J => ?_
      obtain ⟨t28, q14, h⟩ := h
      refine KR.rd (one_ld (by kernel_rfl) q14) ?_
      obtain ⟨t29, q15, h⟩ := h
      refine KR.rd (one_ld (by kernel_rfl) q15) ?_
      refine KR.run 2 [(28, .int .i64 t28), (29, .int .i64 t29), (31, .pointer (some ⟨t0b, t0o, none⟩))] 33 (s' := (.reg (opsAt (sub B [1, 1, 0])) [5, 6] :: S5)) (by kernel_rfl) fun J => ?_
      obtain ⟨q16, q16x, h⟩ := h
      refine KR.p (one_ix 1 t0b t0o (by kernel_rfl) q16 q16x) ?_
      obtain ⟨H_2, q17, h⟩ := h
      refine KR.se (one_st (by kernel_rfl) q17) ?_
      refine KR.run 5 [(6, .int .i64 0)] 33 (s' := (.code (sub B [1, 1, 1, 1]) :: [])) (by kernel_rfl) fun J => ?_
      exact KR.fin (by kernel_rfl) h
theorem call {a0 : Option Addr} {a1 : Int} {a2 : Int} {H : Heap} {r : Value × Heap} (h :
    ∃ (H_1 : Heap), H_1 = H.push (.row [.int .i64 a1] true) ∧
    (∃ (H_2 : Heap), H_2 = H_1.push (.row [.int .i64 a2] true) ∧
    (if (Option.isNone a0) = true then
    (L0 (a0) (H.next) (0) (H_1.next) (0) (true) H_2 r)
    else
    (∃ (t11 : Int), ldc H_2 H.next 0 = some (.int .i64 t11) ∧
    (∃ (t12 : Bool) (H_3 : Heap), xC Try.prog good 38 [.int .i64 t11, .int .i64 0, .int .i64 3] H_2 = some (.bool t12, H_3) ∧
    (if t12 = true then
    (∃ (t16 : Int), ldc H_3 H_1.next 0 = some (.int .i64 t16) ∧
    (∃ (t17 : Bool) (H_4 : Heap), xC Try.prog good 38 [.int .i64 t16, .int .i64 0, .int .i64 200] H_3 = some (.bool t17, H_4) ∧
    (L0 (a0) (H.next) (0) (H_1.next) (0) ((!t17)) H_4 r)))
    else
    (L0 (a0) (H.next) (0) (H_1.next) (0) (true) H_3 r))))))) :
    xC Try.prog good 20 [.pointer a0, .int .i64 a1, .int .i64 a2] H = some r := by
  refine KR.enter (fn := Try.f20) (c := B) (by kernel_rfl) (by kernel_rfl) ?_
  refine KR.run 2 [(0, .pointer a0), (1, .int .i64 a1), (2, .int .i64 a2)] 33 (s' := (.reg (opsAt (sub B [0])) [0, 1, 2] :: S0)) (by kernel_rfl) fun J => ?_
  obtain ⟨H_1, q1, h⟩ := h
  refine KR.mk (w := pRow [.int .i64 a1]) (one_al (by kernel_rfl)) q1 ?_
  obtain ⟨H_2, q2, h⟩ := h
  refine KR.mk (w := pRow [.int .i64 a2]) (one_al (by kernel_rfl)) q2 ?_
  refine KR.run 7 [(0, .pointer a0), (4, .pointer (some ⟨H.next, 0, none⟩)), (5, .pointer (some ⟨H_1.next, 0, none⟩)), (8, .pointer a0)] 33 (s' := (.reg (opsAt (sub B [1, 0, 0, 0])) [1, 2, 3, 4, 5, 6, 7, 8, 9, 10, 11, 12] :: S3)) (by kernel_rfl) fun J => ?_
  refine KR.p (one_nl false a0 (by kernel_rfl)) ?_
  refine KR.run 1 [(0, .pointer a0), (4, .pointer (some ⟨H.next, 0, none⟩)), (5, .pointer (some ⟨H_1.next, 0, none⟩)), (10, .bool (Option.isNone a0))] 33 (s' := (.reg (opsAt (sub B [1, 0, 0, 0])) [3, 4, 5, 6, 7, 8, 9, 10, 11, 12] :: S3)) (by kernel_rfl) fun J => ?_
  by_cases c4 : (Option.isNone a0) = true
  · replace h := iteT c4 h
    refine KR.setV 10 (by kernel_rfl) (bT c4) ?_
    exact KR.run 11 [(0, .pointer a0), (4, .pointer (some ⟨H.next, 0, none⟩)), (5, .pointer (some ⟨H_1.next, 0, none⟩)), (7, .bool true)] 33 (s' := (.code (sub B [1, 0, 0, 1]) :: S2)) (by kernel_rfl) h
  · replace h := iteF c4 h
    refine KR.setV 10 (by kernel_rfl) (bF c4) ?_
    obtain ⟨t11, q5, h⟩ := h
    refine KR.rd (one_ld (by kernel_rfl) q5) ?_
    obtain ⟨t12, H_3, q6, h⟩ := h
    refine KR.se (one_ca (by kernel_rfl) q6) ?_
    refine KR.run 3 [(0, .pointer a0), (4, .pointer (some ⟨H.next, 0, none⟩)), (5, .pointer (some ⟨H_1.next, 0, none⟩)), (15, .bool (!t12))] 33 (s' := (.reg (opsAt (sub B [1, 0, 0, 0])) [8, 9, 10, 11, 12] :: S3)) (by kernel_rfl) fun J => ?_
    by_cases c7 : t12 = true
    · replace h := iteT c7 h
      refine KR.setV 15 (by kernel_rfl) (nB (bT c7)) ?_
      obtain ⟨t16, q8, h⟩ := h
      refine KR.rd (one_ld (by kernel_rfl) q8) ?_
      obtain ⟨t17, H_4, q9, h⟩ := h
      refine KR.se (one_ca (by kernel_rfl) q9) ?_
      exact KR.run 4 [(0, .pointer a0), (4, .pointer (some ⟨H.next, 0, none⟩)), (5, .pointer (some ⟨H_1.next, 0, none⟩)), (7, .bool (!t17))] 33 (s' := (.code (sub B [1, 0, 0, 1]) :: S2)) (by kernel_rfl) h
    · replace h := iteF c7 h
      refine KR.setV 15 (by kernel_rfl) (nB (bF c7)) ?_
      exact KR.run 6 [(0, .pointer a0), (4, .pointer (some ⟨H.next, 0, none⟩)), (5, .pointer (some ⟨H_1.next, 0, none⟩)), (7, .bool true)] 33 (s' := (.code (sub B [1, 0, 0, 1]) :: S2)) (by kernel_rfl) h
end F20
/-! #### 21 (*campanile/cell.Table).Active -/
namespace F21
noncomputable def B : Code := bodyOf Try.f21
noncomputable def S0 : List It := (.code (sub B [1, 1]) :: [])
noncomputable def S2 : List It := (.code (sub B [1, 1, 1, 1]) :: [])
noncomputable def S1 : List It := (.code (sub B [1, 0, 1]) :: S0)
noncomputable def S3 : List It := (.code (sub B [1, 1, 1, 0, 1]) :: S2)
noncomputable def S4 : List It := (.blk 0 :: S2)
noncomputable def S5 : List It := (.lp (sub B [1, 1, 1, 0, 1, 0, 0]) :: S4)
noncomputable def S6 : List It := (.code (sub B [1, 1, 1, 0, 1, 0, 0, 1, 1]) :: S5)
noncomputable def S7 : List It := (.code (sub B [1, 1, 1, 0, 1, 0, 0, 1, 1, 1]) :: S5)
noncomputable def S8 : List It := (.blk 1 :: S7)
noncomputable def S9 : List It := (.code (sub B [1, 1, 1, 0, 1, 0, 0, 1, 1, 0, 0, 1]) :: S8)
noncomputable def S10 : List It := (.code (sub B [1, 1, 1, 0, 1, 0, 0, 1, 1, 0, 0, 1, 1]) :: S8)
def L0 (t0 : Option Addr) (t1 : Int) (t17 : Bool) (H : Heap) (r : Value × Heap) : Prop := ∀ J, KR Try.prog good Try.f21 S1 (mat J 45 [(0, .pointer t0), (1, .int .i64 t1), (17, .bool t17)]) H r
def L1 (t0b : Nat) (t0o : Nat) (t1 : Int) (t5a : Option Addr) (t5n : Nat) (t5k : Nat) (t21a : Option Addr) (t21n : Nat) (t21k : Nat) (t22 : Int) (t23 : Int) (H : Heap) (r : Value × Heap) : Prop := ∀ J, KR Try.prog good Try.f21 S5 (mat J 45 [(0, .pointer (some ⟨t0b, t0o, none⟩)), (1, .int .i64 t1), (5, .slice t5a t5n t5k), (21, .slice t21a t21n t21k), (22, .int .i64 t22), (23, .int .i64 t23)]) H r
theorem L0_step {t0 : Option Addr} {t1 : Int} {t17 : Bool} {H : Heap} {r : Value × Heap} (h :
    if t17 = true then
    (r = (.slice none 0 0, H))
    else
    (∃ (t0b t0o : Nat), t0 = some ⟨t0b, t0o, none⟩ ∧
    (∃ (t21a : Option Addr) (t21n : Nat) (t21k : Nat), ldc H t0b (t0o + 4) = some (.slice t21a t21n t21k) ∧
    (L1 (t0b) (t0o) (t1) (none) (0) (0) (t21a) (t21n) (t21k) (((t21n : Nat) : Int)) 0 H r)))) :
    L0 t0 t1 t17 H r := by
  intro J
  show KR _ _ _ (.code (sub B [1, 0, 1]) :: S0) _ _ _
  by_cases c4 : t17 = true
  · replace h := iteT c4 h
    refine KR.br true (by kernel_rfl) (vB (bT c4)) ?_
    refine KR.run 4 [(4, .slice none 0 0)] 45 (s' := (.code (sub B [1, 0, 1, 0, 1]) :: S0)) (by kernel_rfl) fun J => ?_
    exact KR.fin (by kernel_rfl) h
  · replace h := iteF c4 h
    refine KR.br false (by kernel_rfl) (vB (bF c4)) ?_
    obtain ⟨t0b, t0o, rfl, h⟩ := h
    refine KR.run 11 [(0, .pointer (some ⟨t0b, t0o, none⟩)), (1, .int .i64 t1), (5, .slice none 0 0), (20, .pointer (some ⟨t0b, (t0o + 4), none⟩))] 45 (s' := (.reg (opsAt (sub B [1, 1, 1, 0, 0])) [3, 4, 5] :: S3)) (by kernel_rfl) fun J => ?_
    obtain ⟨t21a, t21n, t21k, q5, h⟩ := h
    refine KR.rd (one_ld (by kernel_rfl) q5) ?_
    exact KR.run 5 [(0, .pointer (some ⟨t0b, t0o, none⟩)), (1, .int .i64 t1), (5, .slice none 0 0), (21, .slice t21a t21n t21k), (22, .int .i64 ((t21n : Nat) : Int)), (23, .int .i64 0)] 45 (s' := (.lp (sub B [1, 1, 1, 0, 1, 0, 0]) :: S4)) (by kernel_rfl) h
theorem L1_step {t0b : Nat} {t0o : Nat} {t1 : Int} {t5a : Option Addr} {t5n : Nat} {t5k : Nat} {t21a : Option Addr} {t21n : Nat} {t21k : Nat} {t22 : Int} {t23 : Int} {H : Heap} {r : Value × Heap} (h :
    if t23 < t22 then
    (∃ (t21ab t21ao : Nat), t21a = some ⟨t21ab, t21ao, none⟩ ∧
    ((0 : Int) ≤ t23 ∧ t23 < ((t21n : Nat) : Int) ∧
    (∃ (t26c0 : Int) (t26c1 : Int) (t26c2 : Int) (t26c3 : Int) (t26c4 : Int), ldAll H t21ab (t21ao + Int.toNat t23 * 5) [.int .i64 t26c0, .int .i64 t26c1, .int .i64 t26c2, .int .i64 t26c3, .int .i64 t26c4] ∧
    (∃ (H_1 : Heap), H_1 = H.push (.row [.int .i64 0, .int .i64 0, .int .i64 0, .int .i64 0, .int .i64 0] true) ∧
    (∃ (H_2 : Heap), stc H_1 H.next 0 [.int .i64 t26c0, .int .i64 t26c1, .int .i64 t26c2, .int .i64 t26c3, .int .i64 t26c4] = some H_2 ∧
    (∃ (t28 : Int), ldc H_2 H.next 1 = some (.int .i64 t28) ∧
    (∃ (t32 : Int), ldc H_2 H.next 0 = some (.int .i64 t32) ∧
    ((0 : Int) ≤ t32 ∧ t32 < (4 : Int) ∧
    (∃ (t36 : Int), ldc H_2 t0b (t0o + Int.toNat t32 * 1) = some (.int .i64 t36) ∧
    (t36 ≠ 0 ∧
    (if t28 = (Int.tmod t1 t36) then
    (∃ (t40c0 : Int) (t40c1 : Int) (t40c2 : Int) (t40c3 : Int) (t40c4 : Int), ldAll H_2 H.next 0 [.int .i64 t40c0, .int .i64 t40c1, .int .i64 t40c2, .int .i64 t40c3, .int .i64 t40c4] ∧
    (∃ (H_3 : Heap), H_3 = H_2.push (.row [.int .i64 t40c0, .int .i64 t40c1, .int .i64 t40c2, .int .i64 t40c3, .int .i64 t40c4] true) ∧
    (∃ (t42a : Option Addr) (t42n : Nat) (t42k : Nat) (H_4 : Heap), papp H_3 5 40 t5a t5n t5k (some ⟨H_2.next, 0, none⟩) 1 (UNK 5) = some ((t42a, t42n, t42k), H_4) ∧
    (L1 (t0b) (t0o) (t1) (t42a) (t42n) (t42k) ((some ⟨t21ab, t21ao, none⟩)) (t21n) (t21k) (t22) ((IntKind.wrap .i64 (t23 + 1))) H_4 r))))
    else
    (L1 (t0b) (t0o) (t1) (t5a) (t5n) (t5k) ((some ⟨t21ab, t21ao, none⟩)) (t21n) (t21k) (t22) ((IntKind.wrap .i64 (t23 + 1))) H_2 r))))))))))))
    else
    (r = (.slice t5a t5n t5k, H))) :
    L1 t0b t0o t1 t5a t5n t5k t21a t21n t21k t22 t23 H r := by
  intro J
  show KR _ _ _ (.lp (sub B [1, 1, 1, 0, 1, 0, 0]) :: S4) _ _ _
  refine KR.run 6 [(0, .pointer (some ⟨t0b, t0o, none⟩)), (1, .int .i64 t1), (5, .slice t5a t5n t5k), (21, .slice t21a t21n t21k), (22, .int .i64 t22), (23, .int .i64 t23), (24, .bool (decide (t23 < t22)))] 45 (s' := (.code (sub B [1, 1, 1, 0, 1, 0, 0, 1, 0]) :: S6)) (by kernel_rfl) fun J => ?_
  by_cases c6 : t23 < t22
  · replace h := iteT c6 h
    refine KR.br true (by kernel_rfl) (vB (dT c6)) ?_
    obtain ⟨t21ab, t21ao, rfl, h⟩ := h
    refine KR.run 5 [(0, .pointer (some ⟨t0b, t0o, none⟩)), (1, .int .i64 t1), (5, .slice t5a t5n t5k), (21, .slice (some ⟨t21ab, t21ao, none⟩) t21n t21k), (22, .int .i64 t22), (23, .int .i64 t23)] 45 (s' := (.reg (opsAt (sub B [1, 1, 1, 0, 1, 0, 0, 1, 1, 0, 0, 0])) [0, 1, 2, 3] :: S9)) (by kernel_rfl) fun J => ?_
    obtain ⟨q7, q7x, h⟩ := h
    refine KR.p (one_ix 5 t21ab t21ao (by kernel_rfl) q7 q7x) ?_
    obtain ⟨t26c0, t26c1, t26c2, t26c3, t26c4, q8, h⟩ := h
    refine KR.rd (one_ldA (by kernel_rfl) q8) ?_
    obtain ⟨H_1, q9, h⟩ := h
    refine KR.mk (w := pRow [.int .i64 0, .int .i64 0, .int .i64 0, .int .i64 0, .int .i64 0]) (one_al (by kernel_rfl)) q9 ?_
    obtain ⟨H_2, q10, h⟩ := h
    refine KR.se (one_st (by kernel_rfl) q10) ?_
    refine KR.run 2 [(0, .pointer (some ⟨t0b, t0o, none⟩)), (1, .int .i64 t1), (5, .slice t5a t5n t5k), (7, .pointer (some ⟨H.next, 0, none⟩)), (21, .slice (some ⟨t21ab, t21ao, none⟩) t21n t21k), (22, .int .i64 t22), (23, .int .i64 t23)] 45 (s' := (.code (sub B [1, 1, 1, 0, 1, 0, 0, 1, 1, 0, 0, 1, 0]) :: S10)) (by kernel_rfl) fun J => ?_
    refine KR.sd (by kernel_rfl) ?_
    refine KR.run 1 [(0, .pointer (some ⟨t0b, t0o, none⟩)), (1, .int .i64 t1), (5, .slice t5a t5n t5k), (7, .pointer (some ⟨H.next, 0, none⟩)), (21, .slice (some ⟨t21ab, t21ao, none⟩) t21n t21k), (22, .int .i64 t22), (23, .int .i64 t23), (27, .pointer (some ⟨H.next, 1, none⟩))] 45 (s' := (.reg (opsAt (sub B [1, 1, 1, 0, 1, 0, 0, 1, 1, 0, 0, 1, 0])) [1, 2, 3, 4, 5, 6, 7, 8, 9, 10, 11] :: S10)) (by kernel_rfl) fun J => ?_
    obtain ⟨t28, q11, h⟩ := h
    refine KR.rd (one_ld (by kernel_rfl) q11) ?_
    refine KR.run 3 [(0, .pointer (some ⟨t0b, t0o, none⟩)), (1, .int .i64 t1), (5, .slice t5a t5n t5k), (7, .pointer (some ⟨H.next, 0, none⟩)), (21, .slice (some ⟨t21ab, t21ao, none⟩) t21n t21k), (22, .int .i64 t22), (23, .int .i64 t23), (28, .int .i64 t28), (29, .int .i64 t1), (30, .pointer (some ⟨t0b, t0o, none⟩)), (31, .pointer (some ⟨H.next, 0, none⟩))] 45 (s' := (.reg (opsAt (sub B [1, 1, 1, 0, 1, 0, 0, 1, 1, 0, 0, 1, 0])) [5, 6, 7, 8, 9, 10, 11] :: S10)) (by kernel_rfl) fun J => ?_
    obtain ⟨t32, q12, h⟩ := h
    refine KR.rd (one_ld (by kernel_rfl) q12) ?_
    refine KR.run 2 [(0, .pointer (some ⟨t0b, t0o, none⟩)), (1, .int .i64 t1), (5, .slice t5a t5n t5k), (7, .pointer (some ⟨H.next, 0, none⟩)), (21, .slice (some ⟨t21ab, t21ao, none⟩) t21n t21k), (22, .int .i64 t22), (23, .int .i64 t23), (28, .int .i64 t28), (29, .int .i64 t1), (32, .int .i64 t32), (34, .pointer (some ⟨t0b, t0o, none⟩))] 45 (s' := (.reg (opsAt (sub B [1, 1, 1, 0, 1, 0, 0, 1, 1, 0, 0, 1, 0])) [8, 9, 10, 11] :: S10)) (by kernel_rfl) fun J => ?_
    obtain ⟨q13, q13x, h⟩ := h
    refine KR.p (one_ix 1 t0b t0o (by kernel_rfl) q13 q13x) ?_
    obtain ⟨t36, q14, h⟩ := h
    refine KR.rd (one_ld (by kernel_rfl) q14) ?_
    obtain ⟨q15, h⟩ := h
    refine KR.p (one_rem .i64 t1 (by kernel_rfl) q15) ?_
    refine KR.run 2 [(0, .pointer (some ⟨t0b, t0o, none⟩)), (1, .int .i64 t1), (5, .slice t5a t5n t5k), (7, .pointer (some ⟨H.next, 0, none⟩)), (21, .slice (some ⟨t21ab, t21ao, none⟩) t21n t21k), (22, .int .i64 t22), (23, .int .i64 t23), (38, .bool (t28 == (Int.tmod t1 t36)))] 45 (s' := (.code (sub B [1, 1, 1, 0, 1, 0, 0, 1, 1, 0, 0, 1, 1]) :: S8)) (by kernel_rfl) fun J => ?_
    by_cases c16 : t28 = (Int.tmod t1 t36)
    · replace h := iteT c16 h
      refine KR.br true (by kernel_rfl) (vB (eT c16)) ?_
      refine KR.run 2 [(0, .pointer (some ⟨t0b, t0o, none⟩)), (1, .int .i64 t1), (7, .pointer (some ⟨H.next, 0, none⟩)), (21, .slice (some ⟨t21ab, t21ao, none⟩) t21n t21k), (22, .int .i64 t22), (23, .int .i64 t23), (39, .slice t5a t5n t5k)] 45 (s' := (.reg (opsAt (sub B [1, 1, 1, 0, 1, 0, 0, 1, 1, 0, 0, 1, 1, 0])) [1, 2, 3, 4] :: S8)) (by kernel_rfl) fun J => ?_
      obtain ⟨t40c0, t40c1, t40c2, t40c3, t40c4, q17, h⟩ := h
      refine KR.rd (one_ldA (by kernel_rfl) q17) ?_
      obtain ⟨H_3, q18, h⟩ := h
      refine KR.mk (w := sRow 1 5 [.int .i64 t40c0, .int .i64 t40c1, .int .i64 t40c2, .int .i64 t40c3, .int .i64 t40c4]) (one_al (by kernel_rfl)) q18 ?_
      obtain ⟨t42a, t42n, t42k, H_4, q19, h⟩ := h
      refine KR.se (one_ap 5 40 (by kernel_rfl) q19) ?_
      exact KR.run 7 [(0, .pointer (some ⟨t0b, t0o, none⟩)), (1, .int .i64 t1), (5, .slice t42a t42n t42k), (21, .slice (some ⟨t21ab, t21ao, none⟩) t21n t21k), (22, .int .i64 t22), (23, .int .i64 (IntKind.wrap .i64 (t23 + 1)))] 45 (s' := (.lp (sub B [1, 1, 1, 0, 1, 0, 0]) :: S4)) (by kernel_rfl) h
    · replace h := iteF c16 h
      refine KR.br false (by kernel_rfl) (vB (eF c16)) ?_
      exact KR.run 6 [(0, .pointer (some ⟨t0b, t0o, none⟩)), (1, .int .i64 t1), (5, .slice t5a t5n t5k), (21, .slice (some ⟨t21ab, t21ao, none⟩) t21n t21k), (22, .int .i64 t22), (23, .int .i64 (IntKind.wrap .i64 (t23 + 1)))] 45 (s' := (.lp (sub B [1, 1, 1, 0, 1, 0, 0]) :: S4)) (by kernel_rfl) h
  · replace h := iteF c6 h
    refine KR.br false (by kernel_rfl) (vB (dF c6)) ?_
    refine KR.run 6 [(4, .slice t5a t5n t5k)] 45 (s' := (.code (sub B [1, 1, 1, 1, 1]) :: [])) (by kernel_rfl) fun J => ?_
    exact KR.fin (by kernel_rfl) h
theorem call {a0 : Option Addr} {a1 : Int} {H : Heap} {r : Value × Heap} (h :
    if (Option.isNone a0) = true then
    (L0 (a0) (a1) (true) H r)
    else
    (if a1 < 0 then
    (L0 (a0) (a1) (true) H r)
    else
    (L0 (a0) (a1) ((decide (a1 ≥ 1099511627776))) H r))) :
    xC Try.prog good 21 [.pointer a0, .int .i64 a1] H = some r := by
  refine KR.enter (fn := Try.f21) (c := B) (by kernel_rfl) (by kernel_rfl) ?_
  refine KR.run 8 [(0, .pointer a0), (1, .int .i64 a1), (8, .pointer a0)] 45 (s' := (.reg (opsAt (sub B [1, 0, 0])) [1, 2, 3, 4, 5, 6, 7, 8, 9] :: S1)) (by kernel_rfl) fun J => ?_
  refine KR.p (one_nl false a0 (by kernel_rfl)) ?_
  refine KR.run 1 [(0, .pointer a0), (1, .int .i64 a1), (10, .bool (Option.isNone a0))] 45 (s' := (.reg (opsAt (sub B [1, 0, 0])) [3, 4, 5, 6, 7, 8, 9] :: S1)) (by kernel_rfl) fun J => ?_
  by_cases c2 : (Option.isNone a0) = true
  · replace h := iteT c2 h
    refine KR.setV 10 (by kernel_rfl) (bT c2) ?_
    exact KR.run 8 [(0, .pointer a0), (1, .int .i64 a1), (17, .bool true)] 45 (s' := (.code (sub B [1, 0, 1]) :: S0)) (by kernel_rfl) h
  · replace h := iteF c2 h
    refine KR.setV 10 (by kernel_rfl) (bF c2) ?_
    refine KR.run 4 [(0, .pointer a0), (1, .int .i64 a1), (14, .bool (decide (a1 < 0)))] 45 (s' := (.reg (opsAt (sub B [1, 0, 0])) [7, 8, 9] :: S1)) (by kernel_rfl) fun J => ?_
    by_cases c3 : a1 < 0
    · replace h := iteT c3 h
      refine KR.setV 14 (by kernel_rfl) (dT c3) ?_
      exact KR.run 4 [(0, .pointer a0), (1, .int .i64 a1), (17, .bool true)] 45 (s' := (.code (sub B [1, 0, 1]) :: S0)) (by kernel_rfl) h
    · replace h := iteF c3 h
      refine KR.setV 14 (by kernel_rfl) (dF c3) ?_
      exact KR.run 4 [(0, .pointer a0), (1, .int .i64 a1), (17, .bool (decide (a1 ≥ 1099511627776)))] 45 (s' := (.code (sub B [1, 0, 1]) :: S0)) (by kernel_rfl) h
end F21
/-! #### 24 (*campanile/cell.Table).Length -/
namespace F24
noncomputable def B : Code := bodyOf Try.f24
noncomputable def S0 : List It := (.code (sub B [1, 1]) :: [])
noncomputable def S2 : List It := (.code (sub B [1, 1, 1]) :: [])
noncomputable def S1 : List It := (.code (sub B [1, 0, 1]) :: S0)
def L0 (t0 : Option Addr) (t1 : Int) (t11 : Bool) (H : Heap) (r : Value × Heap) : Prop := ∀ J, KR Try.prog good Try.f24 S1 (mat J 18 [(0, .pointer t0), (1, .int .i64 t1), (11, .bool t11)]) H r
theorem L0_step {t0 : Option Addr} {t1 : Int} {t11 : Bool} {H : Heap} {r : Value × Heap} (h :
    if t11 = true then
    (r = (.int .i64 0, H))
    else
    (∃ (t0b t0o : Nat), t0 = some ⟨t0b, t0o, none⟩ ∧
    ((0 : Int) ≤ t1 ∧ t1 < (4 : Int) ∧
    (∃ (t17 : Int), ldc H t0b (t0o + Int.toNat t1 * 1) = some (.int .i64 t17) ∧
    (r = (.int .i64 t17, H)))))) :
    L0 t0 t1 t11 H r := by
  intro J
  show KR _ _ _ (.code (sub B [1, 0, 1]) :: S0) _ _ _
  by_cases c4 : t11 = true
  · replace h := iteT c4 h
    refine KR.br true (by kernel_rfl) (vB (bT c4)) ?_
    refine KR.run 4 [(4, .int .i64 0)] 18 (s' := (.code (sub B [1, 0, 1, 0, 1]) :: S0)) (by kernel_rfl) fun J => ?_
    exact KR.fin (by kernel_rfl) h
  · replace h := iteF c4 h
    refine KR.br false (by kernel_rfl) (vB (bF c4)) ?_
    obtain ⟨t0b, t0o, rfl, h⟩ := h
    refine KR.run 7 [(13, .int .i64 t1), (15, .pointer (some ⟨t0b, t0o, none⟩))] 18 (s' := (.reg (opsAt (sub B [1, 1, 0])) [4, 5, 6] :: S2)) (by kernel_rfl) fun J => ?_
    obtain ⟨q5, q5x, h⟩ := h
    refine KR.p (one_ix 1 t0b t0o (by kernel_rfl) q5 q5x) ?_
    obtain ⟨t17, q6, h⟩ := h
    refine KR.rd (one_ld (by kernel_rfl) q6) ?_
    refine KR.run 2 [(4, .int .i64 t17)] 18 (s' := (.code (sub B [1, 1, 1]) :: [])) (by kernel_rfl) fun J => ?_
    exact KR.fin (by kernel_rfl) h
theorem call {a0 : Option Addr} {a1 : Int} {H : Heap} {r : Value × Heap} (h :
    if (Option.isNone a0) = true then
    (L0 (a0) (a1) (true) H r)
    else
    (∃ (t9 : Bool) (H_1 : Heap), xC Try.prog good 38 [.int .i64 a1, .int .i64 0, .int .i64 3] H = some (.bool t9, H_1) ∧
    (L0 (a0) (a1) ((!t9)) H_1 r))) :
    xC Try.prog good 24 [.pointer a0, .int .i64 a1] H = some r := by
  refine KR.enter (fn := Try.f24) (c := B) (by kernel_rfl) (by kernel_rfl) ?_
  refine KR.run 8 [(0, .pointer a0), (1, .int .i64 a1), (5, .pointer a0)] 18 (s' := (.reg (opsAt (sub B [1, 0, 0])) [1, 2, 3, 4, 5, 6] :: S1)) (by kernel_rfl) fun J => ?_
  refine KR.p (one_nl false a0 (by kernel_rfl)) ?_
  refine KR.run 1 [(0, .pointer a0), (1, .int .i64 a1), (7, .bool (Option.isNone a0))] 18 (s' := (.reg (opsAt (sub B [1, 0, 0])) [3, 4, 5, 6] :: S1)) (by kernel_rfl) fun J => ?_
  by_cases c2 : (Option.isNone a0) = true
  · replace h := iteT c2 h
    refine KR.setV 7 (by kernel_rfl) (bT c2) ?_
    exact KR.run 5 [(0, .pointer a0), (1, .int .i64 a1), (11, .bool true)] 18 (s' := (.code (sub B [1, 0, 1]) :: S0)) (by kernel_rfl) h
  · replace h := iteF c2 h
    refine KR.setV 7 (by kernel_rfl) (bF c2) ?_
    refine KR.run 1 [(0, .pointer a0), (1, .int .i64 a1), (7, .bool false), (8, .int .i64 a1)] 18 (s' := (.reg (opsAt (sub B [1, 0, 0])) [4, 5, 6] :: S1)) (by kernel_rfl) fun J => ?_
    obtain ⟨t9, H_1, q3, h⟩ := h
    refine KR.se (one_ca (by kernel_rfl) q3) ?_
    exact KR.run 3 [(0, .pointer a0), (1, .int .i64 a1), (11, .bool (!t9))] 18 (s' := (.code (sub B [1, 0, 1]) :: S0)) (by kernel_rfl) h
end F24
/-! #### 25 (*campanile/cell.Table).All -/
namespace F25
noncomputable def B : Code := bodyOf Try.f25
noncomputable def S0 : List It := (.code (sub B [1, 1]) :: [])
noncomputable def S2 : List It := (.code (sub B [1, 1, 1]) :: [])
noncomputable def S1 : List It := (.code (sub B [1, 0, 1]) :: S0)
theorem call {a0 : Option Addr} {H : Heap} {r : Value × Heap} (h :
    if (Option.isNone a0) = true then
    (r = (.slice none 0 0, H))
    else
    (∃ (a0b a0o : Nat), a0 = some ⟨a0b, a0o, none⟩ ∧
    (∃ (t8a : Option Addr) (t8n : Nat) (t8k : Nat), ldc H a0b (a0o + 4) = some (.slice t8a t8n t8k) ∧
    (∃ (t9a : Option Addr) (t9n : Nat) (t9k : Nat) (H_1 : Heap), xC Try.prog good 33 [.slice t8a t8n t8k] H = some (.slice t9a t9n t9k, H_1) ∧
    (r = (.slice t9a t9n t9k, H_1)))))) :
    xC Try.prog good 25 [.pointer a0] H = some r := by
  refine KR.enter (fn := Try.f25) (c := B) (by kernel_rfl) (by kernel_rfl) ?_
  refine KR.run 8 [(0, .pointer a0), (3, .pointer a0)] 10 (s' := (.reg (opsAt (sub B [1, 0, 0])) [1] :: S1)) (by kernel_rfl) fun J => ?_
  refine KR.p (one_nl false a0 (by kernel_rfl)) ?_
  refine KR.run 1 [(0, .pointer a0), (4, .bool (Option.isNone a0))] 10 (s' := (.code (sub B [1, 0, 1]) :: S0)) (by kernel_rfl) fun J => ?_
  by_cases c2 : (Option.isNone a0) = true
  · replace h := iteT c2 h
    refine KR.br true (by kernel_rfl) (vB (bT c2)) ?_
    refine KR.run 4 [(2, .slice none 0 0)] 10 (s' := (.code (sub B [1, 0, 1, 0, 1]) :: S0)) (by kernel_rfl) fun J => ?_
    exact KR.fin (by kernel_rfl) h
  · replace h := iteF c2 h
    refine KR.br false (by kernel_rfl) (vB (bF c2)) ?_
    obtain ⟨a0b, a0o, rfl, h⟩ := h
    refine KR.run 6 [(7, .pointer (some ⟨a0b, (a0o + 4), none⟩))] 10 (s' := (.reg (opsAt (sub B [1, 1, 0])) [3, 4, 5] :: S2)) (by kernel_rfl) fun J => ?_
    obtain ⟨t8a, t8n, t8k, q3, h⟩ := h
    refine KR.rd (one_ld (by kernel_rfl) q3) ?_
    obtain ⟨t9a, t9n, t9k, H_1, q4, h⟩ := h
    refine KR.se (one_ca (by kernel_rfl) q4) ?_
    refine KR.run 2 [(2, .slice t9a t9n t9k)] 10 (s' := (.code (sub B [1, 1, 1]) :: [])) (by kernel_rfl) fun J => ?_
    exact KR.fin (by kernel_rfl) h
end F25
/-! #### 39 slices.ContainsFunc[[]campanile/api.Cell,campanile/api.Cell] -/
namespace F39
noncomputable def B : Code := bodyOf Try.f39
noncomputable def S0 : List It := (.code (sub B [1, 1]) :: [])
theorem call {a0a : Option Addr} {a0n : Nat} {a0k : Nat} {a1 : Value} {H : Heap} {r : Value × Heap} (h :
    ∃ (t7 : Int) (H_1 : Heap), xC Try.prog good 49 [.slice a0a a0n a0k, a1] H = some (.int .i64 t7, H_1) ∧
    (r = (.bool (decide (t7 ≥ 0)), H_1))) :
    xC Try.prog good 39 [.slice a0a a0n a0k, a1] H = some r := by
  refine KR.enter (fn := Try.f39) (c := B) (by kernel_rfl) (by kernel_rfl) ?_
  refine KR.run 8 [(5, .slice a0a a0n a0k), (6, a1)] 9 (s' := (.reg (opsAt (sub B [1, 0])) [2, 3, 4] :: S0)) (by kernel_rfl) fun J => ?_
  obtain ⟨t7, H_1, q1, h⟩ := h
  refine KR.se (one_ca (by kernel_rfl) q1) ?_
  refine KR.run 3 [(4, .bool (decide (t7 ≥ 0)))] 9 (s' := (.code (sub B [1, 1]) :: [])) (by kernel_rfl) fun J => ?_
  exact KR.fin (by kernel_rfl) h
end F39
/-! #### 40 (*campanile/cell.Table).Add$1 -/
namespace F40
noncomputable def B : Code := bodyOf Try.f40
noncomputable def S0 : List It := (.code (sub B [1]) :: [])
noncomputable def S1 : List It := (.code (sub B [1, 1]) :: [])
theorem call {a0c0 : Int} {a0c1 : Int} {a0c2 : Int} {a0c3 : Int} {a0c4 : Int} {f0 : Option Addr} {H : Heap} {r : Value × Heap} (h :
    ∃ (H_1 : Heap), H_1 = H.push (.row [.int .i64 a0c0, .int .i64 a0c1, .int .i64 a0c2, .int .i64 a0c3, .int .i64 a0c4] true) ∧
    (∃ (t5 : Int), ldc H_1 H.next 0 = some (.int .i64 t5) ∧
    (∃ (f0b f0o : Nat), f0 = some ⟨f0b, f0o, none⟩ ∧
    (∃ (t7 : Int), ldc H_1 f0b f0o = some (.int .i64 t7) ∧
    (if t5 = t7 then
    (∃ (t11 : Int), ldc H_1 H.next 1 = some (.int .i64 t11) ∧
    (∃ (t13 : Int), ldc H_1 f0b (f0o + 1) = some (.int .i64 t13) ∧
    (if t11 = t13 then
    (∃ (t18 : Int), ldc H_1 H.next 2 = some (.int .i64 t18) ∧
    (∃ (t20 : Int), ldc H_1 f0b (f0o + 2) = some (.int .i64 t20) ∧
    (r = (.bool (t18 == t20), H_1))))
    else
    (r = (.bool false, H_1)))))
    else
    (r = (.bool false, H_1))))))) :
    xC Try.prog good 40 [.agg #[.int .i64 a0c0, .int .i64 a0c1, .int .i64 a0c2, .int .i64 a0c3, .int .i64 a0c4], .pointer f0] H = some r := by
  refine KR.enter (fn := Try.f40) (c := B) (by kernel_rfl) (by kernel_rfl) ?_
  refine KR.run 2 [(0, .agg #[.int .i64 a0c0, .int .i64 a0c1, .int .i64 a0c2, .int .i64 a0c3, .int .i64 a0c4]), (1, .pointer f0)] 23 (s' := (.reg (opsAt (sub B [0])) [0, 1] :: S0)) (by kernel_rfl) fun J => ?_
  obtain ⟨H_1, q1, h⟩ := h
  refine KR.mk (w := pRow [.int .i64 a0c0, .int .i64 a0c1, .int .i64 a0c2, .int .i64 a0c3, .int .i64 a0c4]) (one_al (by kernel_rfl)) q1 ?_
  refine KR.run 5 [(1, .pointer f0), (2, .pointer (some ⟨H.next, 0, none⟩)), (4, .pointer (some ⟨H.next, 0, none⟩))] 23 (s' := (.reg (opsAt (sub B [1, 0])) [1, 2, 3, 4, 5, 6, 7, 8, 9, 10, 11, 12, 13, 14, 15, 16, 17, 18, 19] :: S1)) (by kernel_rfl) fun J => ?_
  obtain ⟨t5, q2, h⟩ := h
  refine KR.rd (one_ld (by kernel_rfl) q2) ?_
  obtain ⟨f0b, f0o, rfl, h⟩ := h
  refine KR.run 1 [(1, .pointer (some ⟨f0b, f0o, none⟩)), (2, .pointer (some ⟨H.next, 0, none⟩)), (5, .int .i64 t5), (6, .pointer (some ⟨f0b, f0o, none⟩))] 23 (s' := (.reg (opsAt (sub B [1, 0])) [3, 4, 5, 6, 7, 8, 9, 10, 11, 12, 13, 14, 15, 16, 17, 18, 19] :: S1)) (by kernel_rfl) fun J => ?_
  obtain ⟨t7, q3, h⟩ := h
  refine KR.rd (one_ld (by kernel_rfl) q3) ?_
  refine KR.run 2 [(1, .pointer (some ⟨f0b, f0o, none⟩)), (2, .pointer (some ⟨H.next, 0, none⟩)), (9, .bool (t5 == t7))] 23 (s' := (.reg (opsAt (sub B [1, 0])) [6, 7, 8, 9, 10, 11, 12, 13, 14, 15, 16, 17, 18, 19] :: S1)) (by kernel_rfl) fun J => ?_
  by_cases c4 : t5 = t7
  · replace h := iteT c4 h
    refine KR.setV 9 (by kernel_rfl) (eT c4) ?_
    refine KR.run 1 [(1, .pointer (some ⟨f0b, f0o, none⟩)), (2, .pointer (some ⟨H.next, 0, none⟩)), (9, .bool true), (10, .pointer (some ⟨H.next, 1, none⟩))] 23 (s' := (.reg (opsAt (sub B [1, 0])) [7, 8, 9, 10, 11, 12, 13, 14, 15, 16, 17, 18, 19] :: S1)) (by kernel_rfl) fun J => ?_
    obtain ⟨t11, q5, h⟩ := h
    refine KR.rd (one_ld (by kernel_rfl) q5) ?_
    refine KR.run 1 [(1, .pointer (some ⟨f0b, f0o, none⟩)), (2, .pointer (some ⟨H.next, 0, none⟩)), (9, .bool true), (11, .int .i64 t11), (12, .pointer (some ⟨f0b, (f0o + 1), none⟩))] 23 (s' := (.reg (opsAt (sub B [1, 0])) [9, 10, 11, 12, 13, 14, 15, 16, 17, 18, 19] :: S1)) (by kernel_rfl) fun J => ?_
    obtain ⟨t13, q6, h⟩ := h
    refine KR.rd (one_ld (by kernel_rfl) q6) ?_
    refine KR.run 3 [(1, .pointer (some ⟨f0b, f0o, none⟩)), (2, .pointer (some ⟨H.next, 0, none⟩)), (16, .bool (t11 == t13))] 23 (s' := (.reg (opsAt (sub B [1, 0])) [13, 14, 15, 16, 17, 18, 19] :: S1)) (by kernel_rfl) fun J => ?_
    by_cases c7 : t11 = t13
    · replace h := iteT c7 h
      refine KR.setV 16 (by kernel_rfl) (eT c7) ?_
      refine KR.run 1 [(1, .pointer (some ⟨f0b, f0o, none⟩)), (16, .bool true), (17, .pointer (some ⟨H.next, 2, none⟩))] 23 (s' := (.reg (opsAt (sub B [1, 0])) [14, 15, 16, 17, 18, 19] :: S1)) (by kernel_rfl) fun J => ?_
      obtain ⟨t18, q8, h⟩ := h
      refine KR.rd (one_ld (by kernel_rfl) q8) ?_
      refine KR.run 1 [(16, .bool true), (18, .int .i64 t18), (19, .pointer (some ⟨f0b, (f0o + 2), none⟩))] 23 (s' := (.reg (opsAt (sub B [1, 0])) [16, 17, 18, 19] :: S1)) (by kernel_rfl) fun J => ?_
      obtain ⟨t20, q9, h⟩ := h
      refine KR.rd (one_ld (by kernel_rfl) q9) ?_
      refine KR.run 4 [(3, .bool (t18 == t20))] 23 (s' := (.code (sub B [1, 1]) :: [])) (by kernel_rfl) fun J => ?_
      exact KR.fin (by kernel_rfl) h
    · replace h := iteF c7 h
      refine KR.setV 16 (by kernel_rfl) (eF c7) ?_
      refine KR.run 8 [(3, .bool false)] 23 (s' := (.code (sub B [1, 1]) :: [])) (by kernel_rfl) fun J => ?_
      exact KR.fin (by kernel_rfl) h
  · replace h := iteF c4 h
    refine KR.setV 9 (by kernel_rfl) (eF c4) ?_
    refine KR.run 15 [(3, .bool false)] 23 (s' := (.code (sub B [1, 1]) :: [])) (by kernel_rfl) fun J => ?_
    exact KR.fin (by kernel_rfl) h
end F40
/-! #### 41 slices.BinarySearchFunc[[]campanile/api.Cell,campanile/api.Cell,campanile/api.Cell] -/
namespace F41
noncomputable def B : Code := bodyOf Try.f41
noncomputable def S0 : List It := (.code (sub B [1]) :: [])
noncomputable def S1 : List It := (.code (sub B [1, 1, 1, 1]) :: [])
noncomputable def S7 : List It := (.code (sub B [1, 1, 1, 1, 1]) :: [])
noncomputable def S2 : List It := (.blk 0 :: S1)
noncomputable def S3 : List It := (.lp (sub B [1, 1, 1, 0, 0, 0]) :: S2)
noncomputable def S4 : List It := (.code (sub B [1, 1, 1, 0, 0, 0, 1]) :: S3)
noncomputable def S5 : List It := (.blk 1 :: S3)
noncomputable def S6 : List It := (.code (sub B [1, 1, 1, 0, 0, 0, 1, 0, 1, 1]) :: S5)
def L0 (t0a : Option Addr) (t0n : Nat) (t0k : Nat) (t2 : Value) (t4b : Nat) (t4o : Nat) (t8 : Int) (t9 : Int) (t10 : Int) (H : Heap) (r : Value × Heap) : Prop := ∀ J, KR Try.prog good Try.f41 S3 (mat J 49 [(0, .slice t0a t0n t0k), (2, t2), (4, .pointer (some ⟨t4b, t4o, none⟩)), (8, .int .i64 t8), (9, .int .i64 t9), (10, .int .i64 t10)]) H r
theorem L0_step {t0a : Option Addr} {t0n : Nat} {t0k : Nat} {t2 : Value} {t4b : Nat} {t4o : Nat} {t8 : Int} {t9 : Int} {t10 : Int} {H : Heap} {r : Value × Heap} (h :
    if t9 < t10 then
    (∃ (t0ab t0ao : Nat), t0a = some ⟨t0ab, t0ao, none⟩ ∧
    ((0 : Int) ≤ (IntKind.wrap .i64 (ishr .u64 (IntKind.wrap .u64 (IntKind.wrap .i64 (t9 + t10))) 1)) ∧ (IntKind.wrap .i64 (ishr .u64 (IntKind.wrap .u64 (IntKind.wrap .i64 (t9 + t10))) 1)) < ((t0n : Nat) : Int) ∧
    (∃ (t28c0 : Int) (t28c1 : Int) (t28c2 : Int) (t28c3 : Int) (t28c4 : Int), ldAll H t0ab (t0ao + Int.toNat (IntKind.wrap .i64 (ishr .u64 (IntKind.wrap .u64 (IntKind.wrap .i64 (t9 + t10))) 1)) * 5) [.int .i64 t28c0, .int .i64 t28c1, .int .i64 t28c2, .int .i64 t28c3, .int .i64 t28c4] ∧
    (∃ (t29c0 : Int) (t29c1 : Int) (t29c2 : Int) (t29c3 : Int) (t29c4 : Int), ldAll H t4b t4o [.int .i64 t29c0, .int .i64 t29c1, .int .i64 t29c2, .int .i64 t29c3, .int .i64 t29c4] ∧
    (∃ (t2g : Nat) (t2x t2y : Array Value), t2 = .func (.func t2g) t2x t2y ∧
    (fnGoes Try.prog t2g = true ∧ ∃ (t30 : Int) (H_1 : Heap), xC Try.prog good t2g (Array.toList t2x ++ [.agg #[.int .i64 t28c0, .int .i64 t28c1, .int .i64 t28c2, .int .i64 t28c3, .int .i64 t28c4], .agg #[.int .i64 t29c0, .int .i64 t29c1, .int .i64 t29c2, .int .i64 t29c3, .int .i64 t29c4]] ++ Array.toList t2y) H = some (.int .i64 t30, H_1) ∧
    (if t30 < 0 then
    (L0 ((some ⟨t0ab, t0ao, none⟩)) (t0n) (t0k) (.func (.func t2g) t2x t2y) (t4b) (t4o) (t8) ((IntKind.wrap .i64 ((IntKind.wrap .i64 (ishr .u64 (IntKind.wrap .u64 (IntKind.wrap .i64 (t9 + t10))) 1)) + 1))) (t10) H_1 r)
    else
    (L0 ((some ⟨t0ab, t0ao, none⟩)) (t0n) (t0k) (.func (.func t2g) t2x t2y) (t4b) (t4o) (t8) (t9) ((IntKind.wrap .i64 (ishr .u64 (IntKind.wrap .u64 (IntKind.wrap .i64 (t9 + t10))) 1))) H_1 r))))))))
    else
    (if t9 < t8 then
    (∃ (t0ab_1 t0ao_1 : Nat), t0a = some ⟨t0ab_1, t0ao_1, none⟩ ∧
    ((0 : Int) ≤ t9 ∧ t9 < ((t0n : Nat) : Int) ∧
    (∃ (t44c0 : Int) (t44c1 : Int) (t44c2 : Int) (t44c3 : Int) (t44c4 : Int), ldAll H t0ab_1 (t0ao_1 + Int.toNat t9 * 5) [.int .i64 t44c0, .int .i64 t44c1, .int .i64 t44c2, .int .i64 t44c3, .int .i64 t44c4] ∧
    (∃ (t45c0 : Int) (t45c1 : Int) (t45c2 : Int) (t45c3 : Int) (t45c4 : Int), ldAll H t4b t4o [.int .i64 t45c0, .int .i64 t45c1, .int .i64 t45c2, .int .i64 t45c3, .int .i64 t45c4] ∧
    (∃ (t2g_1 : Nat) (t2x_1 t2y_1 : Array Value), t2 = .func (.func t2g_1) t2x_1 t2y_1 ∧
    (fnGoes Try.prog t2g_1 = true ∧ ∃ (t46 : Int) (H_2 : Heap), xC Try.prog good t2g_1 (Array.toList t2x_1 ++ [.agg #[.int .i64 t44c0, .int .i64 t44c1, .int .i64 t44c2, .int .i64 t44c3, .int .i64 t44c4], .agg #[.int .i64 t45c0, .int .i64 t45c1, .int .i64 t45c2, .int .i64 t45c3, .int .i64 t45c4]] ++ Array.toList t2y_1) H = some (.int .i64 t46, H_2) ∧
    (r = (.tuple #[.int .i64 t9, .bool (t46 == 0)], H_2))))))))
    else
    (r = (.tuple #[.int .i64 t9, .bool false], H)))) :
    L0 t0a t0n t0k t2 t4b t4o t8 t9 t10 H r := by
  intro J
  show KR _ _ _ (.lp (sub B [1, 1, 1, 0, 0, 0]) :: S2) _ _ _
  refine KR.run 8 [(0, .slice t0a t0n t0k), (2, t2), (4, .pointer (some ⟨t4b, t4o, none⟩)), (8, .int .i64 t8), (9, .int .i64 t9), (10, .int .i64 t10), (17, .bool (decide (t9 < t10)))] 49 (s' := (.code (sub B [1, 1, 1, 0, 0, 0, 0, 1]) :: S4)) (by kernel_rfl) fun J => ?_
  by_cases c2 : t9 < t10
  · replace h := iteT c2 h
    refine KR.br true (by kernel_rfl) (vB (dT c2)) ?_
    refine KR.run 13 [(0, .slice t0a t0n t0k), (2, t2), (4, .pointer (some ⟨t4b, t4o, none⟩)), (8, .int .i64 t8), (9, .int .i64 t9), (10, .int .i64 t10), (11, .int .i64 (IntKind.wrap .i64 (ishr .u64 (IntKind.wrap .u64 (IntKind.wrap .i64 (t9 + t10))) 1)))] 49 (s' := (.code (sub B [1, 1, 1, 0, 0, 0, 1, 0, 1, 0]) :: S6)) (by kernel_rfl) fun J => ?_
    refine KR.sd (by kernel_rfl) ?_
    obtain ⟨t0ab, t0ao, rfl, h⟩ := h
    refine KR.run 3 [(0, .slice (some ⟨t0ab, t0ao, none⟩) t0n t0k), (2, t2), (4, .pointer (some ⟨t4b, t4o, none⟩)), (8, .int .i64 t8), (9, .int .i64 t9), (10, .int .i64 t10), (11, .int .i64 (IntKind.wrap .i64 (ishr .u64 (IntKind.wrap .u64 (IntKind.wrap .i64 (t9 + t10))) 1))), (24, t2), (25, .slice (some ⟨t0ab, t0ao, none⟩) t0n t0k), (26, .int .i64 (IntKind.wrap .i64 (ishr .u64 (IntKind.wrap .u64 (IntKind.wrap .i64 (t9 + t10))) 1)))] 49 (s' := (.reg (opsAt (sub B [1, 1, 1, 0, 0, 0, 1, 0, 1, 0])) [3, 4, 5, 6, 7] :: S6)) (by kernel_rfl) fun J => ?_
    obtain ⟨q3, q3x, h⟩ := h
    refine KR.p (one_ix 5 t0ab t0ao (by kernel_rfl) q3 q3x) ?_
    obtain ⟨t28c0, t28c1, t28c2, t28c3, t28c4, q4, h⟩ := h
    refine KR.rd (one_ldA (by kernel_rfl) q4) ?_
    obtain ⟨t29c0, t29c1, t29c2, t29c3, t29c4, q5, h⟩ := h
    refine KR.rd (one_ldA (by kernel_rfl) q5) ?_
    obtain ⟨t2g, t2x, t2y, rfl, h⟩ := h
    obtain ⟨q7x, t30, H_1, q7, h⟩ := h
    refine KR.se (one_fv (by kernel_rfl) q7x q7) ?_
    refine KR.run 2 [(0, .slice (some ⟨t0ab, t0ao, none⟩) t0n t0k), (2, .func (.func t2g) t2x t2y), (4, .pointer (some ⟨t4b, t4o, none⟩)), (8, .int .i64 t8), (9, .int .i64 t9), (10, .int .i64 t10), (11, .int .i64 (IntKind.wrap .i64 (ishr .u64 (IntKind.wrap .u64 (IntKind.wrap .i64 (t9 + t10))) 1))), (31, .bool (decide (t30 < 0)))] 49 (s' := (.code (sub B [1, 1, 1, 0, 0, 0, 1, 0, 1, 1]) :: S5)) (by kernel_rfl) fun J => ?_
    by_cases c8 : t30 < 0
    · replace h := iteT c8 h
      refine KR.br true (by kernel_rfl) (vB (dT c8)) ?_
      exact KR.run 6 [(0, .slice (some ⟨t0ab, t0ao, none⟩) t0n t0k), (2, .func (.func t2g) t2x t2y), (4, .pointer (some ⟨t4b, t4o, none⟩)), (8, .int .i64 t8), (9, .int .i64 (IntKind.wrap .i64 ((IntKind.wrap .i64 (ishr .u64 (IntKind.wrap .u64 (IntKind.wrap .i64 (t9 + t10))) 1)) + 1))), (10, .int .i64 t10)] 49 (s' := (.lp (sub B [1, 1, 1, 0, 0, 0]) :: S2)) (by kernel_rfl) h
    · replace h := iteF c8 h
      refine KR.br false (by kernel_rfl) (vB (dF c8)) ?_
      exact KR.run 5 [(0, .slice (some ⟨t0ab, t0ao, none⟩) t0n t0k), (2, .func (.func t2g) t2x t2y), (4, .pointer (some ⟨t4b, t4o, none⟩)), (8, .int .i64 t8), (9, .int .i64 t9), (10, .int .i64 (IntKind.wrap .i64 (ishr .u64 (IntKind.wrap .u64 (IntKind.wrap .i64 (t9 + t10))) 1)))] 49 (s' := (.lp (sub B [1, 1, 1, 0, 0, 0]) :: S2)) (by kernel_rfl) h
  · replace h := iteF c2 h
    refine KR.br false (by kernel_rfl) (vB (dF c2)) ?_
    refine KR.run 2 [(0, .slice t0a t0n t0k), (2, t2), (4, .pointer (some ⟨t4b, t4o, none⟩)), (8, .int .i64 t8), (9, .int .i64 t9)] 49 (s' := (.code (sub B [1, 1, 1, 1, 0]) :: S7)) (by kernel_rfl) fun J => ?_
    refine KR.sd (by kernel_rfl) ?_
    refine KR.run 5 [(0, .slice t0a t0n t0k), (2, t2), (4, .pointer (some ⟨t4b, t4o, none⟩)), (9, .int .i64 t9), (35, .int .i64 t9), (39, .bool (decide (t9 < t8)))] 49 (s' := (.reg (opsAt (sub B [1, 1, 1, 1, 0])) [5, 6, 7, 8, 9, 10, 11, 12, 13, 14, 15] :: S7)) (by kernel_rfl) fun J => ?_
    by_cases c9 : t9 < t8
    · replace h := iteT c9 h
      refine KR.setV 39 (by kernel_rfl) (dT c9) ?_
      obtain ⟨t0ab_1, t0ao_1, rfl, h⟩ := h
      refine KR.run 3 [(4, .pointer (some ⟨t4b, t4o, none⟩)), (35, .int .i64 t9), (39, .bool true), (40, t2), (41, .slice (some ⟨t0ab_1, t0ao_1, none⟩) t0n t0k), (42, .int .i64 t9)] 49 (s' := (.reg (opsAt (sub B [1, 1, 1, 1, 0])) [8, 9, 10, 11, 12, 13, 14, 15] :: S7)) (by kernel_rfl) fun J => ?_
      obtain ⟨q10, q10x, h⟩ := h
      refine KR.p (one_ix 5 t0ab_1 t0ao_1 (by kernel_rfl) q10 q10x) ?_
      obtain ⟨t44c0, t44c1, t44c2, t44c3, t44c4, q11, h⟩ := h
      refine KR.rd (one_ldA (by kernel_rfl) q11) ?_
      obtain ⟨t45c0, t45c1, t45c2, t45c3, t45c4, q12, h⟩ := h
      refine KR.rd (one_ldA (by kernel_rfl) q12) ?_
      obtain ⟨t2g_1, t2x_1, t2y_1, rfl, h⟩ := h
      obtain ⟨q14x, t46, H_2, q14, h⟩ := h
      refine KR.se (one_fv (by kernel_rfl) q14x q14) ?_
      refine KR.run 5 [(6, .int .i64 t9), (7, .bool (t46 == 0))] 49 (s' := (.code (sub B [1, 1, 1, 1, 1]) :: [])) (by kernel_rfl) fun J => ?_
      exact KR.fin (by kernel_rfl) h
    · replace h := iteF c9 h
      refine KR.setV 39 (by kernel_rfl) (dF c9) ?_
      refine KR.run 12 [(6, .int .i64 t9), (7, .bool false)] 49 (s' := (.code (sub B [1, 1, 1, 1, 1]) :: [])) (by kernel_rfl) fun J => ?_
      exact KR.fin (by kernel_rfl) h
theorem call {a0a : Option Addr} {a0n : Nat} {a0k : Nat} {a1c0 : Int} {a1c1 : Int} {a1c2 : Int} {a1c3 : Int} {a1c4 : Int} {a2 : Value} {H : Heap} {r : Value × Heap} (h :
    ∃ (H_1 : Heap), H_1 = H.push (.row [.int .i64 a1c0, .int .i64 a1c1, .int .i64 a1c2, .int .i64 a1c3, .int .i64 a1c4] true) ∧
    (L0 (a0a) (a0n) (a0k) (a2) (H.next) (0) (((a0n : Nat) : Int)) 0 (((a0n : Nat) : Int)) H_1 r)) :
    xC Try.prog good 41 [.slice a0a a0n a0k, .agg #[.int .i64 a1c0, .int .i64 a1c1, .int .i64 a1c2, .int .i64 a1c3, .int .i64 a1c4], a2] H = some r := by
  refine KR.enter (fn := Try.f41) (c := B) (by kernel_rfl) (by kernel_rfl) ?_
  refine KR.run 2 [(0, .slice a0a a0n a0k), (1, .agg #[.int .i64 a1c0, .int .i64 a1c1, .int .i64 a1c2, .int .i64 a1c3, .int .i64 a1c4]), (2, a2)] 49 (s' := (.reg (opsAt (sub B [0])) [0, 1, 2] :: S0)) (by kernel_rfl) fun J => ?_
  obtain ⟨H_1, q1, h⟩ := h
  refine KR.mk (w := pRow [.int .i64 a1c0, .int .i64 a1c1, .int .i64 a1c2, .int .i64 a1c3, .int .i64 a1c4]) (one_al (by kernel_rfl)) q1 ?_
  exact KR.run 18 [(0, .slice a0a a0n a0k), (2, a2), (4, .pointer (some ⟨H.next, 0, none⟩)), (8, .int .i64 ((a0n : Nat) : Int)), (9, .int .i64 0), (10, .int .i64 ((a0n : Nat) : Int))] 49 (s' := (.lp (sub B [1, 1, 1, 0, 0, 0]) :: S2)) (by kernel_rfl) h
end F41
/-! #### 44 (*campanile/cell.Table).Frame$1 -/
namespace F44
noncomputable def B : Code := bodyOf Try.f44
noncomputable def S0 : List It := (.code (sub B [1]) :: [])
noncomputable def S1 : List It := (.code (sub B [1, 1]) :: [])
theorem call {a0c0 : Int} {a0c1 : Int} {a0c2 : Int} {a0c3 : Int} {a0c4 : Int} {f0 : Option Addr} {f1 : Option Addr} {H : Heap} {r : Value × Heap} (h :
    ∃ (H_1 : Heap), H_1 = H.push (.row [.int .i64 a0c0, .int .i64 a0c1, .int .i64 a0c2, .int .i64 a0c3, .int .i64 a0c4] true) ∧
    (∃ (t6 : Int), ldc H_1 H.next 0 = some (.int .i64 t6) ∧
    (∃ (f0b f0o : Nat), f0 = some ⟨f0b, f0o, none⟩ ∧
    (∃ (t7 : Int), ldc H_1 f0b f0o = some (.int .i64 t7) ∧
    (if t6 = t7 then
    (∃ (t11 : Int), ldc H_1 H.next 1 = some (.int .i64 t11) ∧
    (∃ (f1b f1o : Nat), f1 = some ⟨f1b, f1o, none⟩ ∧
    (∃ (t12 : Int), ldc H_1 f1b f1o = some (.int .i64 t12) ∧
    (r = (.bool (decide (t11 ≥ t12)), H_1)))))
    else
    (r = (.bool false, H_1))))))) :
    xC Try.prog good 44 [.agg #[.int .i64 a0c0, .int .i64 a0c1, .int .i64 a0c2, .int .i64 a0c3, .int .i64 a0c4], .pointer f0, .pointer f1] H = some r := by
  refine KR.enter (fn := Try.f44) (c := B) (by kernel_rfl) (by kernel_rfl) ?_
  refine KR.run 2 [(0, .agg #[.int .i64 a0c0, .int .i64 a0c1, .int .i64 a0c2, .int .i64 a0c3, .int .i64 a0c4]), (1, .pointer f0), (2, .pointer f1)] 15 (s' := (.reg (opsAt (sub B [0])) [0, 1] :: S0)) (by kernel_rfl) fun J => ?_
  obtain ⟨H_1, q1, h⟩ := h
  refine KR.mk (w := pRow [.int .i64 a0c0, .int .i64 a0c1, .int .i64 a0c2, .int .i64 a0c3, .int .i64 a0c4]) (one_al (by kernel_rfl)) q1 ?_
  refine KR.run 5 [(1, .pointer f0), (2, .pointer f1), (3, .pointer (some ⟨H.next, 0, none⟩)), (5, .pointer (some ⟨H.next, 0, none⟩))] 15 (s' := (.reg (opsAt (sub B [1, 0])) [1, 2, 3, 4, 5, 6, 7, 8, 9, 10] :: S1)) (by kernel_rfl) fun J => ?_
  obtain ⟨t6, q2, h⟩ := h
  refine KR.rd (one_ld (by kernel_rfl) q2) ?_
  obtain ⟨f0b, f0o, rfl, h⟩ := h
  obtain ⟨t7, q4, h⟩ := h
  refine KR.rd (one_ld (by kernel_rfl) q4) ?_
  refine KR.run 2 [(2, .pointer f1), (3, .pointer (some ⟨H.next, 0, none⟩)), (9, .bool (t6 == t7))] 15 (s' := (.reg (opsAt (sub B [1, 0])) [5, 6, 7, 8, 9, 10] :: S1)) (by kernel_rfl) fun J => ?_
  by_cases c5 : t6 = t7
  · replace h := iteT c5 h
    refine KR.setV 9 (by kernel_rfl) (eT c5) ?_
    refine KR.run 1 [(2, .pointer f1), (9, .bool true), (10, .pointer (some ⟨H.next, 1, none⟩))] 15 (s' := (.reg (opsAt (sub B [1, 0])) [6, 7, 8, 9, 10] :: S1)) (by kernel_rfl) fun J => ?_
    obtain ⟨t11, q6, h⟩ := h
    refine KR.rd (one_ld (by kernel_rfl) q6) ?_
    obtain ⟨f1b, f1o, rfl, h⟩ := h
    obtain ⟨t12, q8, h⟩ := h
    refine KR.rd (one_ld (by kernel_rfl) q8) ?_
    refine KR.run 4 [(4, .bool (decide (t11 ≥ t12)))] 15 (s' := (.code (sub B [1, 1]) :: [])) (by kernel_rfl) fun J => ?_
    exact KR.fin (by kernel_rfl) h
  · replace h := iteF c5 h
    refine KR.setV 9 (by kernel_rfl) (eF c5) ?_
    refine KR.run 7 [(4, .bool false)] 15 (s' := (.code (sub B [1, 1]) :: [])) (by kernel_rfl) fun J => ?_
    exact KR.fin (by kernel_rfl) h
end F44
end Go.X
