/- The walks of the functions: printed. -/
import Derived.Test.YtomibdncbioijaaXzGd
set_option linter.unusedVariables false
set_option maxRecDepth 100000
namespace Go.X
open Go Go.RowKit Go.Proofs
/-! #### 27 (*campanile/campanileref8.Table).Frame -/
namespace F27
noncomputable def B : Code := bodyOf Try.f27
noncomputable def S0 : List It := (.code (sub B [1, 1]) :: [])
noncomputable def S2 : List It := (.code (sub B [1, 1, 1]) :: [])
noncomputable def S11 : List It := (.code (sub B [1, 1, 1, 1]) :: [])
noncomputable def S1 : List It := (.code (sub B [1, 0, 1]) :: S0)
noncomputable def S3 : List It := (.code (sub B [1, 1, 0, 1]) :: S2)
noncomputable def S4 : List It := (.blk 0 :: S2)
noncomputable def S5 : List It := (.lp (sub B [1, 1, 0, 1, 0, 0]) :: S4)
noncomputable def S6 : List It := (.code (sub B [1, 1, 0, 1, 0, 0, 1, 1]) :: S5)
noncomputable def S7 : List It := (.code (sub B [1, 1, 0, 1, 0, 0, 1, 1, 1]) :: S5)
noncomputable def S8 : List It := (.blk 1 :: S7)
noncomputable def S9 : List It := (.code (sub B [1, 1, 0, 1, 0, 0, 1, 1, 0, 0, 1]) :: S8)
noncomputable def S10 : List It := (.code (sub B [1, 1, 0, 1, 0, 0, 1, 1, 0, 0, 1, 1]) :: S8)
def L0 (t0 : Option Addr) (t1 : Int) (t2 : Int) (t22 : Bool) (H : Heap) (r : Value × Heap) : Prop := ∀ J, KR Try.prog good Try.f27 S1 (mat J 49 [(0, .pointer t0), (1, .int .i64 t1), (2, .int .i64 t2), (22, .bool t22)]) H r
def L1 (t0b : Nat) (t0o : Nat) (t1 : Int) (t2 : Int) (t26a : Option Addr) (t26n : Nat) (t26k : Nat) (t27 : Int) (t28 : Int) (H : Heap) (r : Value × Heap) : Prop := ∀ J, KR Try.prog good Try.f27 S5 (mat J 49 [(0, .pointer (some ⟨t0b, t0o, none⟩)), (1, .int .i64 t1), (2, .int .i64 t2), (26, .slice t26a t26n t26k), (27, .int .i64 t27), (28, .int .i64 t28)]) H r
def L2 (t0b : Nat) (t0o : Nat) (t1 : Int) (t2 : Int) (t26b : Nat) (t26o : Nat) (t26n : Nat) (t26k : Nat) (t27 : Int) (t28 : Int) (t41 : Bool) (H : Heap) (r : Value × Heap) : Prop := ∀ J, KR Try.prog good Try.f27 S10 (mat J 49 [(0, .pointer (some ⟨t0b, t0o, none⟩)), (1, .int .i64 t1), (2, .int .i64 t2), (26, .slice (some ⟨t26b, t26o, none⟩) t26n t26k), (27, .int .i64 t27), (28, .int .i64 t28), (41, .bool t41)]) H r
theorem L0_step {t0 : Option Addr} {t1 : Int} {t2 : Int} {t22 : Bool} {H : Heap} {r : Value × Heap} (h :
    if t22 = true then
    (r = (.int .i64 1, H))
    else
    (∃ (t0b t0o : Nat), t0 = some ⟨t0b, t0o, none⟩ ∧
    (∃ (t26a : Option Addr) (t26n : Nat) (t26k : Nat), ldc H t0b (t0o + 4) = some (.slice t26a t26n t26k) ∧
    (L1 (t0b) (t0o) (t1) (t2) (t26a) (t26n) (t26k) (((t26n : Nat) : Int)) 0 H r)))) :
    L0 t0 t1 t2 t22 H r := by
  intro J
  show KR _ _ _ (.code (sub B [1, 0, 1]) :: S0) _ _ _
  by_cases c4 : t22 = true
  · replace h := iteT c4 h
    refine KR.br true (by kernel_rfl) (vB (bT c4)) ?_
    refine KR.run 4 [(6, .int .i64 1)] 49 (s' := (.code (sub B [1, 0, 1, 0, 1]) :: S0)) (by kernel_rfl) fun J => ?_
    exact KR.fin (by kernel_rfl) h
  · replace h := iteF c4 h
    refine KR.br false (by kernel_rfl) (vB (bF c4)) ?_
    obtain ⟨t0b, t0o, rfl, h⟩ := h
    refine KR.run 7 [(0, .pointer (some ⟨t0b, t0o, none⟩)), (1, .int .i64 t1), (2, .int .i64 t2), (25, .pointer (some ⟨t0b, (t0o + 4), none⟩))] 49 (s' := (.reg (opsAt (sub B [1, 1, 0, 0])) [3, 4, 5] :: S3)) (by kernel_rfl) fun J => ?_
    obtain ⟨t26a, t26n, t26k, q5, h⟩ := h
    refine KR.rd (one_ld (by kernel_rfl) q5) ?_
    exact KR.run 5 [(0, .pointer (some ⟨t0b, t0o, none⟩)), (1, .int .i64 t1), (2, .int .i64 t2), (26, .slice t26a t26n t26k), (27, .int .i64 ((t26n : Nat) : Int)), (28, .int .i64 0)] 49 (s' := (.lp (sub B [1, 1, 0, 1, 0, 0]) :: S4)) (by kernel_rfl) h
theorem L1_step {t0b : Nat} {t0o : Nat} {t1 : Int} {t2 : Int} {t26a : Option Addr} {t26n : Nat} {t26k : Nat} {t27 : Int} {t28 : Int} {H : Heap} {r : Value × Heap} (h :
    if t28 < t27 then
    (∃ (t26ab t26ao : Nat), t26a = some ⟨t26ab, t26ao, none⟩ ∧
    ((0 : Int) ≤ t28 ∧ t28 < ((t26n : Nat) : Int) ∧
    (∃ (t31c0 : Int) (t31c1 : Int) (t31c2 : Int) (t31c3 : Int) (t31c4 : Int), ldAll H t26ab (t26ao + Int.toNat t28 * 5) [.int .i64 t31c0, .int .i64 t31c1, .int .i64 t31c2, .int .i64 t31c3, .int .i64 t31c4] ∧
    (∃ (H_1 : Heap), H_1 = H.push (.row [.int .i64 0, .int .i64 0, .int .i64 0, .int .i64 0, .int .i64 0] true) ∧
    (∃ (H_2 : Heap), stc H_1 H.next 0 [.int .i64 t31c0, .int .i64 t31c1, .int .i64 t31c2, .int .i64 t31c3, .int .i64 t31c4] = some H_2 ∧
    (∃ (t33 : Int), ldc H_2 H.next 0 = some (.int .i64 t33) ∧
    (if t33 = t1 then
    (∃ (t38 : Int), ldc H_2 H.next 1 = some (.int .i64 t38) ∧
    (L2 (t0b) (t0o) (t1) (t2) (t26ab) (t26ao) (t26n) (t26k) (t27) (t28) ((decide (t38 ≥ t2))) H_2 r))
    else
    (L2 (t0b) (t0o) (t1) (t2) (t26ab) (t26ao) (t26n) (t26k) (t27) (t28) (false) H_2 r))))))))
    else
    ((0 : Int) ≤ t1 ∧ t1 < (4 : Int) ∧
    (∃ (H_3 : Heap), stc H t0b (t0o + Int.toNat t1 * 1) [.int .i64 t2] = some H_3 ∧
    (r = (.int .i64 0, H_3))))) :
    L1 t0b t0o t1 t2 t26a t26n t26k t27 t28 H r := by
  intro J
  show KR _ _ _ (.lp (sub B [1, 1, 0, 1, 0, 0]) :: S4) _ _ _
  refine KR.run 6 [(0, .pointer (some ⟨t0b, t0o, none⟩)), (1, .int .i64 t1), (2, .int .i64 t2), (26, .slice t26a t26n t26k), (27, .int .i64 t27), (28, .int .i64 t28), (29, .bool (decide (t28 < t27)))] 49 (s' := (.code (sub B [1, 1, 0, 1, 0, 0, 1, 0]) :: S6)) (by kernel_rfl) fun J => ?_
  by_cases c6 : t28 < t27
  · replace h := iteT c6 h
    refine KR.br true (by kernel_rfl) (vB (dT c6)) ?_
    obtain ⟨t26ab, t26ao, rfl, h⟩ := h
    refine KR.run 5 [(0, .pointer (some ⟨t0b, t0o, none⟩)), (1, .int .i64 t1), (2, .int .i64 t2), (26, .slice (some ⟨t26ab, t26ao, none⟩) t26n t26k), (27, .int .i64 t27), (28, .int .i64 t28)] 49 (s' := (.reg (opsAt (sub B [1, 1, 0, 1, 0, 0, 1, 1, 0, 0, 0])) [0, 1, 2, 3] :: S9)) (by kernel_rfl) fun J => ?_
    obtain ⟨q7, q7x, h⟩ := h
    refine KR.p (one_ix 5 t26ab t26ao (by kernel_rfl) q7 q7x) ?_
    obtain ⟨t31c0, t31c1, t31c2, t31c3, t31c4, q8, h⟩ := h
    refine KR.rd (one_ldA (by kernel_rfl) q8) ?_
    obtain ⟨H_1, q9, h⟩ := h
    refine KR.mk (w := pRow [.int .i64 0, .int .i64 0, .int .i64 0, .int .i64 0, .int .i64 0]) (one_al (by kernel_rfl)) q9 ?_
    obtain ⟨H_2, q10, h⟩ := h
    refine KR.se (one_st (by kernel_rfl) q10) ?_
    refine KR.run 4 [(0, .pointer (some ⟨t0b, t0o, none⟩)), (1, .int .i64 t1), (2, .int .i64 t2), (8, .pointer (some ⟨H.next, 0, none⟩)), (26, .slice (some ⟨t26ab, t26ao, none⟩) t26n t26k), (27, .int .i64 t27), (28, .int .i64 t28), (32, .pointer (some ⟨H.next, 0, none⟩))] 49 (s' := (.reg (opsAt (sub B [1, 1, 0, 1, 0, 0, 1, 1, 0, 0, 1, 0])) [1, 2, 3, 4, 5, 6, 7, 8, 9] :: S10)) (by kernel_rfl) fun J => ?_
    obtain ⟨t33, q11, h⟩ := h
    refine KR.rd (one_ld (by kernel_rfl) q11) ?_
    refine KR.run 3 [(0, .pointer (some ⟨t0b, t0o, none⟩)), (1, .int .i64 t1), (2, .int .i64 t2), (8, .pointer (some ⟨H.next, 0, none⟩)), (26, .slice (some ⟨t26ab, t26ao, none⟩) t26n t26k), (27, .int .i64 t27), (28, .int .i64 t28), (36, .bool (t33 == t1))] 49 (s' := (.reg (opsAt (sub B [1, 1, 0, 1, 0, 0, 1, 1, 0, 0, 1, 0])) [5, 6, 7, 8, 9] :: S10)) (by kernel_rfl) fun J => ?_
    by_cases c12 : t33 = t1
    · replace h := iteT c12 h
      refine KR.setV 36 (by kernel_rfl) (eT c12) ?_
      refine KR.run 1 [(0, .pointer (some ⟨t0b, t0o, none⟩)), (1, .int .i64 t1), (2, .int .i64 t2), (26, .slice (some ⟨t26ab, t26ao, none⟩) t26n t26k), (27, .int .i64 t27), (28, .int .i64 t28), (36, .bool true), (37, .pointer (some ⟨H.next, 1, none⟩))] 49 (s' := (.reg (opsAt (sub B [1, 1, 0, 1, 0, 0, 1, 1, 0, 0, 1, 0])) [6, 7, 8, 9] :: S10)) (by kernel_rfl) fun J => ?_
      obtain ⟨t38, q13, h⟩ := h
      refine KR.rd (one_ld (by kernel_rfl) q13) ?_
      exact KR.run 4 [(0, .pointer (some ⟨t0b, t0o, none⟩)), (1, .int .i64 t1), (2, .int .i64 t2), (26, .slice (some ⟨t26ab, t26ao, none⟩) t26n t26k), (27, .int .i64 t27), (28, .int .i64 t28), (41, .bool (decide (t38 ≥ t2)))] 49 (s' := (.code (sub B [1, 1, 0, 1, 0, 0, 1, 1, 0, 0, 1, 1]) :: S8)) (by kernel_rfl) h
    · replace h := iteF c12 h
      refine KR.setV 36 (by kernel_rfl) (eF c12) ?_
      exact KR.run 6 [(0, .pointer (some ⟨t0b, t0o, none⟩)), (1, .int .i64 t1), (2, .int .i64 t2), (26, .slice (some ⟨t26ab, t26ao, none⟩) t26n t26k), (27, .int .i64 t27), (28, .int .i64 t28), (41, .bool false)] 49 (s' := (.code (sub B [1, 1, 0, 1, 0, 0, 1, 1, 0, 0, 1, 1]) :: S8)) (by kernel_rfl) h
  · replace h := iteF c6 h
    refine KR.br false (by kernel_rfl) (vB (dF c6)) ?_
    refine KR.run 8 [(44, .int .i64 t1), (45, .int .i64 t2), (47, .pointer (some ⟨t0b, t0o, none⟩))] 49 (s' := (.reg (opsAt (sub B [1, 1, 1, 0])) [5, 6] :: S11)) (by kernel_rfl) fun J => ?_
    obtain ⟨q14, q14x, h⟩ := h
    refine KR.p (one_ix 1 t0b t0o (by kernel_rfl) q14 q14x) ?_
    obtain ⟨H_3, q15, h⟩ := h
    refine KR.se (one_st (by kernel_rfl) q15) ?_
    refine KR.run 5 [(6, .int .i64 0)] 49 (s' := (.code (sub B [1, 1, 1, 1, 1]) :: [])) (by kernel_rfl) fun J => ?_
    exact KR.fin (by kernel_rfl) h
theorem L2_step {t0b : Nat} {t0o : Nat} {t1 : Int} {t2 : Int} {t26b : Nat} {t26o : Nat} {t26n : Nat} {t26k : Nat} {t27 : Int} {t28 : Int} {t41 : Bool} {H : Heap} {r : Value × Heap} (h :
    if t41 = true then
    (r = (.int .i64 9, H))
    else
    (L1 (t0b) (t0o) (t1) (t2) ((some ⟨t26b, t26o, none⟩)) (t26n) (t26k) (t27) ((IntKind.wrap .i64 (t28 + 1))) H r)) :
    L2 t0b t0o t1 t2 t26b t26o t26n t26k t27 t28 t41 H r := by
  intro J
  show KR _ _ _ (.code (sub B [1, 1, 0, 1, 0, 0, 1, 1, 0, 0, 1, 1]) :: S8) _ _ _
  by_cases c16 : t41 = true
  · replace h := iteT c16 h
    refine KR.br true (by kernel_rfl) (vB (bT c16)) ?_
    refine KR.run 4 [(6, .int .i64 9)] 49 (s' := (.code (sub B [1, 1, 0, 1, 0, 0, 1, 1, 0, 0, 1, 1, 0, 1]) :: S8)) (by kernel_rfl) fun J => ?_
    exact KR.fin (by kernel_rfl) h
  · replace h := iteF c16 h
    refine KR.br false (by kernel_rfl) (vB (bF c16)) ?_
    exact KR.run 6 [(0, .pointer (some ⟨t0b, t0o, none⟩)), (1, .int .i64 t1), (2, .int .i64 t2), (26, .slice (some ⟨t26b, t26o, none⟩) t26n t26k), (27, .int .i64 t27), (28, .int .i64 (IntKind.wrap .i64 (t28 + 1)))] 49 (s' := (.lp (sub B [1, 1, 0, 1, 0, 0]) :: S4)) (by kernel_rfl) h
theorem call {a0 : Option Addr} {a1 : Int} {a2 : Int} {H : Heap} {r : Value × Heap} (h :
    if a1 < 0 then
    (L0 (a0) (a1) (a2) (true) H r)
    else
    (if a1 ≥ 4 then
    (L0 (a0) (a1) (a2) (true) H r)
    else
    (if a2 < 0 then
    (L0 (a0) (a1) (a2) (true) H r)
    else
    (L0 (a0) (a1) (a2) ((decide (a2 > 200))) H r)))) :
    xC Try.prog good 27 [.pointer a0, .int .i64 a1, .int .i64 a2] H = some r := by
  refine KR.enter (fn := Try.f27) (c := B) (by kernel_rfl) (by kernel_rfl) ?_
  refine KR.run 10 [(0, .pointer a0), (1, .int .i64 a1), (2, .int .i64 a2), (11, .bool (decide (a1 < 0)))] 49 (s' := (.reg (opsAt (sub B [1, 0, 0])) [3, 4, 5, 6, 7, 8, 9, 10, 11, 12, 13] :: S1)) (by kernel_rfl) fun J => ?_
  by_cases c1 : a1 < 0
  · replace h := iteT c1 h
    refine KR.setV 11 (by kernel_rfl) (dT c1) ?_
    exact KR.run 12 [(0, .pointer a0), (1, .int .i64 a1), (2, .int .i64 a2), (22, .bool true)] 49 (s' := (.code (sub B [1, 0, 1]) :: S0)) (by kernel_rfl) h
  · replace h := iteF c1 h
    refine KR.setV 11 (by kernel_rfl) (dF c1) ?_
    refine KR.run 4 [(0, .pointer a0), (1, .int .i64 a1), (2, .int .i64 a2), (15, .bool (decide (a1 ≥ 4)))] 49 (s' := (.reg (opsAt (sub B [1, 0, 0])) [7, 8, 9, 10, 11, 12, 13] :: S1)) (by kernel_rfl) fun J => ?_
    by_cases c2 : a1 ≥ 4
    · replace h := iteT c2 h
      refine KR.setV 15 (by kernel_rfl) (dT c2) ?_
      exact KR.run 8 [(0, .pointer a0), (1, .int .i64 a1), (2, .int .i64 a2), (22, .bool true)] 49 (s' := (.code (sub B [1, 0, 1]) :: S0)) (by kernel_rfl) h
    · replace h := iteF c2 h
      refine KR.setV 15 (by kernel_rfl) (dF c2) ?_
      refine KR.run 4 [(0, .pointer a0), (1, .int .i64 a1), (2, .int .i64 a2), (19, .bool (decide (a2 < 0)))] 49 (s' := (.reg (opsAt (sub B [1, 0, 0])) [11, 12, 13] :: S1)) (by kernel_rfl) fun J => ?_
      by_cases c3 : a2 < 0
      · replace h := iteT c3 h
        refine KR.setV 19 (by kernel_rfl) (dT c3) ?_
        exact KR.run 4 [(0, .pointer a0), (1, .int .i64 a1), (2, .int .i64 a2), (22, .bool true)] 49 (s' := (.code (sub B [1, 0, 1]) :: S0)) (by kernel_rfl) h
      · replace h := iteF c3 h
        refine KR.setV 19 (by kernel_rfl) (dF c3) ?_
        exact KR.run 4 [(0, .pointer a0), (1, .int .i64 a1), (2, .int .i64 a2), (22, .bool (decide (a2 > 200)))] 49 (s' := (.code (sub B [1, 0, 1]) :: S0)) (by kernel_rfl) h
end F27
/-! #### 28 (*campanile/campanileref8.Table).Add -/
namespace F28
noncomputable def B : Code := bodyOf Try.f28
noncomputable def S0 : List It := (.code (sub B [1]) :: [])
noncomputable def S1 : List It := (.code (sub B [1, 1]) :: [])
noncomputable def S3 : List It := (.code (sub B [1, 1, 1]) :: [])
noncomputable def S5 : List It := (.code (sub B [1, 1, 1, 1]) :: [])
noncomputable def S14 : List It := (.code (sub B [1, 1, 1, 1, 1]) :: [])
noncomputable def S16 : List It := (.code (sub B [1, 1, 1, 1, 1, 1]) :: [])
noncomputable def S2 : List It := (.code (sub B [1, 0, 1]) :: S1)
noncomputable def S4 : List It := (.code (sub B [1, 1, 0, 1]) :: S3)
noncomputable def S6 : List It := (.code (sub B [1, 1, 1, 0, 1]) :: S5)
noncomputable def S7 : List It := (.blk 0 :: S5)
noncomputable def S15 : List It := (.code (sub B [1, 1, 1, 1, 0, 1]) :: S14)
noncomputable def S8 : List It := (.lp (sub B [1, 1, 1, 0, 1, 0, 0]) :: S7)
noncomputable def S9 : List It := (.code (sub B [1, 1, 1, 0, 1, 0, 0, 1, 1]) :: S8)
noncomputable def S10 : List It := (.code (sub B [1, 1, 1, 0, 1, 0, 0, 1, 1, 1]) :: S8)
noncomputable def S11 : List It := (.blk 1 :: S10)
noncomputable def S12 : List It := (.code (sub B [1, 1, 1, 0, 1, 0, 0, 1, 1, 0, 0, 1]) :: S11)
noncomputable def S13 : List It := (.code (sub B [1, 1, 1, 0, 1, 0, 0, 1, 1, 0, 0, 1, 1]) :: S11)
def L0 (t0b : Nat) (t0o : Nat) (t3b : Nat) (t3o : Nat) (t23a : Option Addr) (t23n : Nat) (t23k : Nat) (t24 : Int) (t25 : Int) (H : Heap) (r : Value × Heap) : Prop := ∀ J, KR Try.prog good Try.f28 S8 (mat J 66 [(0, .pointer (some ⟨t0b, t0o, none⟩)), (3, .pointer (some ⟨t3b, t3o, none⟩)), (23, .slice t23a t23n t23k), (24, .int .i64 t24), (25, .int .i64 t25)]) H r
def L1 (t0b : Nat) (t0o : Nat) (t3b : Nat) (t3o : Nat) (t23b : Nat) (t23o : Nat) (t23n : Nat) (t23k : Nat) (t24 : Int) (t25 : Int) (t47 : Bool) (H : Heap) (r : Value × Heap) : Prop := ∀ J, KR Try.prog good Try.f28 S13 (mat J 66 [(0, .pointer (some ⟨t0b, t0o, none⟩)), (3, .pointer (some ⟨t3b, t3o, none⟩)), (23, .slice (some ⟨t23b, t23o, none⟩) t23n t23k), (24, .int .i64 t24), (25, .int .i64 t25), (47, .bool t47)]) H r
theorem L0_step {t0b : Nat} {t0o : Nat} {t3b : Nat} {t3o : Nat} {t23a : Option Addr} {t23n : Nat} {t23k : Nat} {t24 : Int} {t25 : Int} {H : Heap} {r : Value × Heap} (h :
    if t25 < t24 then
    (∃ (t23ab t23ao : Nat), t23a = some ⟨t23ab, t23ao, none⟩ ∧
    ((0 : Int) ≤ t25 ∧ t25 < ((t23n : Nat) : Int) ∧
    (∃ (t28c0 : Int) (t28c1 : Int) (t28c2 : Int) (t28c3 : Int) (t28c4 : Int), ldAll H t23ab (t23ao + Int.toNat t25 * 5) [.int .i64 t28c0, .int .i64 t28c1, .int .i64 t28c2, .int .i64 t28c3, .int .i64 t28c4] ∧
    (∃ (H_1 : Heap), H_1 = H.push (.row [.int .i64 0, .int .i64 0, .int .i64 0, .int .i64 0, .int .i64 0] true) ∧
    (∃ (H_2 : Heap), stc H_1 H.next 0 [.int .i64 t28c0, .int .i64 t28c1, .int .i64 t28c2, .int .i64 t28c3, .int .i64 t28c4] = some H_2 ∧
    (∃ (t30 : Int), ldc H_2 H.next 0 = some (.int .i64 t30) ∧
    (∃ (t32 : Int), ldc H_2 t3b t3o = some (.int .i64 t32) ∧
    (if t30 = t32 then
    (∃ (t36 : Int), ldc H_2 H.next 1 = some (.int .i64 t36) ∧
    (∃ (t38 : Int), ldc H_2 t3b (t3o + 1) = some (.int .i64 t38) ∧
    (if t36 = t38 then
    (∃ (t43 : Int), ldc H_2 H.next 2 = some (.int .i64 t43) ∧
    (∃ (t45 : Int), ldc H_2 t3b (t3o + 2) = some (.int .i64 t45) ∧
    (L1 (t0b) (t0o) (t3b) (t3o) (t23ab) (t23ao) (t23n) (t23k) (t24) (t25) ((t43 == t45)) H_2 r)))
    else
    (L1 (t0b) (t0o) (t3b) (t3o) (t23ab) (t23ao) (t23n) (t23k) (t24) (t25) (false) H_2 r))))
    else
    (L1 (t0b) (t0o) (t3b) (t3o) (t23ab) (t23ao) (t23n) (t23k) (t24) (t25) (false) H_2 r)))))))))
    else
    (∃ (t52a : Option Addr) (t52n : Nat) (t52k : Nat), ldc H t0b (t0o + 4) = some (.slice t52a t52n t52k) ∧
    (if ((t52n : Nat) : Int) ≥ 64 then
    (r = (.int .i64 5, H))
    else
    (∃ (t59a : Option Addr) (t59n : Nat) (t59k : Nat), ldc H t0b (t0o + 4) = some (.slice t59a t59n t59k) ∧
    (∃ (t60c0 : Int) (t60c1 : Int) (t60c2 : Int) (t60c3 : Int) (t60c4 : Int), ldAll H t3b t3o [.int .i64 t60c0, .int .i64 t60c1, .int .i64 t60c2, .int .i64 t60c3, .int .i64 t60c4] ∧
    (∃ (H_3 : Heap), H_3 = H.push (.row [.int .i64 t60c0, .int .i64 t60c1, .int .i64 t60c2, .int .i64 t60c3, .int .i64 t60c4] true) ∧
    (∃ (t62a : Option Addr) (t62n : Nat) (t62k : Nat) (H_4 : Heap), papp H_3 5 40 t59a t59n t59k (some ⟨H.next, 0, none⟩) 1 (UNK 5) = some ((t62a, t62n, t62k), H_4) ∧
    (∃ (t63a : Option Addr) (t63n : Nat) (t63k : Nat) (H_5 : Heap), xC Try.prog good 47 [.slice t62a t62n t62k] H_4 = some (.slice t63a t63n t63k, H_5) ∧
    (∃ (H_6 : Heap), stc H_5 t0b (t0o + 4) [.slice t63a t63n t63k] = some H_6 ∧
    (ldc H_3 t0b (t0o + 4) = some (.slice t59a t59n t59k) ∧
    (r = (.int .i64 0, H_6)))))))))))) :
    L0 t0b t0o t3b t3o t23a t23n t23k t24 t25 H r := by
  intro J
  show KR _ _ _ (.lp (sub B [1, 1, 1, 0, 1, 0, 0]) :: S7) _ _ _
  refine KR.run 6 [(0, .pointer (some ⟨t0b, t0o, none⟩)), (3, .pointer (some ⟨t3b, t3o, none⟩)), (23, .slice t23a t23n t23k), (24, .int .i64 t24), (25, .int .i64 t25), (26, .bool (decide (t25 < t24)))] 66 (s' := (.code (sub B [1, 1, 1, 0, 1, 0, 0, 1, 0]) :: S9)) (by kernel_rfl) fun J => ?_
  by_cases c11 : t25 < t24
  · replace h := iteT c11 h
    refine KR.br true (by kernel_rfl) (vB (dT c11)) ?_
    obtain ⟨t23ab, t23ao, rfl, h⟩ := h
    refine KR.run 5 [(0, .pointer (some ⟨t0b, t0o, none⟩)), (3, .pointer (some ⟨t3b, t3o, none⟩)), (23, .slice (some ⟨t23ab, t23ao, none⟩) t23n t23k), (24, .int .i64 t24), (25, .int .i64 t25)] 66 (s' := (.reg (opsAt (sub B [1, 1, 1, 0, 1, 0, 0, 1, 1, 0, 0, 0])) [0, 1, 2, 3] :: S12)) (by kernel_rfl) fun J => ?_
    obtain ⟨q12, q12x, h⟩ := h
    refine KR.p (one_ix 5 t23ab t23ao (by kernel_rfl) q12 q12x) ?_
    obtain ⟨t28c0, t28c1, t28c2, t28c3, t28c4, q13, h⟩ := h
    refine KR.rd (one_ldA (by kernel_rfl) q13) ?_
    obtain ⟨H_1, q14, h⟩ := h
    refine KR.mk (w := pRow [.int .i64 0, .int .i64 0, .int .i64 0, .int .i64 0, .int .i64 0]) (one_al (by kernel_rfl)) q14 ?_
    obtain ⟨H_2, q15, h⟩ := h
    refine KR.se (one_st (by kernel_rfl) q15) ?_
    refine KR.run 4 [(0, .pointer (some ⟨t0b, t0o, none⟩)), (3, .pointer (some ⟨t3b, t3o, none⟩)), (6, .pointer (some ⟨H.next, 0, none⟩)), (23, .slice (some ⟨t23ab, t23ao, none⟩) t23n t23k), (24, .int .i64 t24), (25, .int .i64 t25), (29, .pointer (some ⟨H.next, 0, none⟩))] 66 (s' := (.reg (opsAt (sub B [1, 1, 1, 0, 1, 0, 0, 1, 1, 0, 0, 1, 0])) [1, 2, 3, 4, 5, 6, 7, 8, 9, 10, 11, 12, 13, 14, 15, 16, 17, 18] :: S13)) (by kernel_rfl) fun J => ?_
    obtain ⟨t30, q16, h⟩ := h
    refine KR.rd (one_ld (by kernel_rfl) q16) ?_
    refine KR.run 1 [(0, .pointer (some ⟨t0b, t0o, none⟩)), (3, .pointer (some ⟨t3b, t3o, none⟩)), (6, .pointer (some ⟨H.next, 0, none⟩)), (23, .slice (some ⟨t23ab, t23ao, none⟩) t23n t23k), (24, .int .i64 t24), (25, .int .i64 t25), (30, .int .i64 t30), (31, .pointer (some ⟨t3b, t3o, none⟩))] 66 (s' := (.reg (opsAt (sub B [1, 1, 1, 0, 1, 0, 0, 1, 1, 0, 0, 1, 0])) [3, 4, 5, 6, 7, 8, 9, 10, 11, 12, 13, 14, 15, 16, 17, 18] :: S13)) (by kernel_rfl) fun J => ?_
    obtain ⟨t32, q17, h⟩ := h
    refine KR.rd (one_ld (by kernel_rfl) q17) ?_
    refine KR.run 2 [(0, .pointer (some ⟨t0b, t0o, none⟩)), (3, .pointer (some ⟨t3b, t3o, none⟩)), (6, .pointer (some ⟨H.next, 0, none⟩)), (23, .slice (some ⟨t23ab, t23ao, none⟩) t23n t23k), (24, .int .i64 t24), (25, .int .i64 t25), (34, .bool (t30 == t32))] 66 (s' := (.reg (opsAt (sub B [1, 1, 1, 0, 1, 0, 0, 1, 1, 0, 0, 1, 0])) [6, 7, 8, 9, 10, 11, 12, 13, 14, 15, 16, 17, 18] :: S13)) (by kernel_rfl) fun J => ?_
    by_cases c18 : t30 = t32
    · replace h := iteT c18 h
      refine KR.setV 34 (by kernel_rfl) (eT c18) ?_
      refine KR.run 1 [(0, .pointer (some ⟨t0b, t0o, none⟩)), (3, .pointer (some ⟨t3b, t3o, none⟩)), (6, .pointer (some ⟨H.next, 0, none⟩)), (23, .slice (some ⟨t23ab, t23ao, none⟩) t23n t23k), (24, .int .i64 t24), (25, .int .i64 t25), (34, .bool true), (35, .pointer (some ⟨H.next, 1, none⟩))] 66 (s' := (.reg (opsAt (sub B [1, 1, 1, 0, 1, 0, 0, 1, 1, 0, 0, 1, 0])) [7, 8, 9, 10, 11, 12, 13, 14, 15, 16, 17, 18] :: S13)) (by kernel_rfl) fun J => ?_
      obtain ⟨t36, q19, h⟩ := h
      refine KR.rd (one_ld (by kernel_rfl) q19) ?_
      refine KR.run 1 [(0, .pointer (some ⟨t0b, t0o, none⟩)), (3, .pointer (some ⟨t3b, t3o, none⟩)), (6, .pointer (some ⟨H.next, 0, none⟩)), (23, .slice (some ⟨t23ab, t23ao, none⟩) t23n t23k), (24, .int .i64 t24), (25, .int .i64 t25), (34, .bool true), (36, .int .i64 t36), (37, .pointer (some ⟨t3b, (t3o + 1), none⟩))] 66 (s' := (.reg (opsAt (sub B [1, 1, 1, 0, 1, 0, 0, 1, 1, 0, 0, 1, 0])) [9, 10, 11, 12, 13, 14, 15, 16, 17, 18] :: S13)) (by kernel_rfl) fun J => ?_
      obtain ⟨t38, q20, h⟩ := h
      refine KR.rd (one_ld (by kernel_rfl) q20) ?_
      refine KR.run 3 [(0, .pointer (some ⟨t0b, t0o, none⟩)), (3, .pointer (some ⟨t3b, t3o, none⟩)), (6, .pointer (some ⟨H.next, 0, none⟩)), (23, .slice (some ⟨t23ab, t23ao, none⟩) t23n t23k), (24, .int .i64 t24), (25, .int .i64 t25), (41, .bool (t36 == t38))] 66 (s' := (.reg (opsAt (sub B [1, 1, 1, 0, 1, 0, 0, 1, 1, 0, 0, 1, 0])) [13, 14, 15, 16, 17, 18] :: S13)) (by kernel_rfl) fun J => ?_
      by_cases c21 : t36 = t38
      · replace h := iteT c21 h
        refine KR.setV 41 (by kernel_rfl) (eT c21) ?_
        refine KR.run 1 [(0, .pointer (some ⟨t0b, t0o, none⟩)), (3, .pointer (some ⟨t3b, t3o, none⟩)), (23, .slice (some ⟨t23ab, t23ao, none⟩) t23n t23k), (24, .int .i64 t24), (25, .int .i64 t25), (41, .bool true), (42, .pointer (some ⟨H.next, 2, none⟩))] 66 (s' := (.reg (opsAt (sub B [1, 1, 1, 0, 1, 0, 0, 1, 1, 0, 0, 1, 0])) [14, 15, 16, 17, 18] :: S13)) (by kernel_rfl) fun J => ?_
        obtain ⟨t43, q22, h⟩ := h
        refine KR.rd (one_ld (by kernel_rfl) q22) ?_
        refine KR.run 1 [(0, .pointer (some ⟨t0b, t0o, none⟩)), (3, .pointer (some ⟨t3b, t3o, none⟩)), (23, .slice (some ⟨t23ab, t23ao, none⟩) t23n t23k), (24, .int .i64 t24), (25, .int .i64 t25), (41, .bool true), (43, .int .i64 t43), (44, .pointer (some ⟨t3b, (t3o + 2), none⟩))] 66 (s' := (.reg (opsAt (sub B [1, 1, 1, 0, 1, 0, 0, 1, 1, 0, 0, 1, 0])) [16, 17, 18] :: S13)) (by kernel_rfl) fun J => ?_
        obtain ⟨t45, q23, h⟩ := h
        refine KR.rd (one_ld (by kernel_rfl) q23) ?_
        exact KR.run 3 [(0, .pointer (some ⟨t0b, t0o, none⟩)), (3, .pointer (some ⟨t3b, t3o, none⟩)), (23, .slice (some ⟨t23ab, t23ao, none⟩) t23n t23k), (24, .int .i64 t24), (25, .int .i64 t25), (47, .bool (t43 == t45))] 66 (s' := (.code (sub B [1, 1, 1, 0, 1, 0, 0, 1, 1, 0, 0, 1, 1]) :: S11)) (by kernel_rfl) h
      · replace h := iteF c21 h
        refine KR.setV 41 (by kernel_rfl) (eF c21) ?_
        exact KR.run 7 [(0, .pointer (some ⟨t0b, t0o, none⟩)), (3, .pointer (some ⟨t3b, t3o, none⟩)), (23, .slice (some ⟨t23ab, t23ao, none⟩) t23n t23k), (24, .int .i64 t24), (25, .int .i64 t25), (47, .bool false)] 66 (s' := (.code (sub B [1, 1, 1, 0, 1, 0, 0, 1, 1, 0, 0, 1, 1]) :: S11)) (by kernel_rfl) h
    · replace h := iteF c18 h
      refine KR.setV 34 (by kernel_rfl) (eF c18) ?_
      exact KR.run 14 [(0, .pointer (some ⟨t0b, t0o, none⟩)), (3, .pointer (some ⟨t3b, t3o, none⟩)), (23, .slice (some ⟨t23ab, t23ao, none⟩) t23n t23k), (24, .int .i64 t24), (25, .int .i64 t25), (47, .bool false)] 66 (s' := (.code (sub B [1, 1, 1, 0, 1, 0, 0, 1, 1, 0, 0, 1, 1]) :: S11)) (by kernel_rfl) h
  · replace h := iteF c11 h
    refine KR.br false (by kernel_rfl) (vB (dF c11)) ?_
    refine KR.run 7 [(0, .pointer (some ⟨t0b, t0o, none⟩)), (3, .pointer (some ⟨t3b, t3o, none⟩)), (51, .pointer (some ⟨t0b, (t0o + 4), none⟩))] 66 (s' := (.reg (opsAt (sub B [1, 1, 1, 1, 0, 0])) [3, 4, 5] :: S15)) (by kernel_rfl) fun J => ?_
    obtain ⟨t52a, t52n, t52k, q24, h⟩ := h
    refine KR.rd (one_ld (by kernel_rfl) q24) ?_
    refine KR.run 3 [(0, .pointer (some ⟨t0b, t0o, none⟩)), (3, .pointer (some ⟨t3b, t3o, none⟩)), (54, .bool (decide (((t52n : Nat) : Int) ≥ 64)))] 66 (s' := (.code (sub B [1, 1, 1, 1, 0, 1]) :: S14)) (by kernel_rfl) fun J => ?_
    by_cases c25 : ((t52n : Nat) : Int) ≥ 64
    · replace h := iteT c25 h
      refine KR.br true (by kernel_rfl) (vB (dT c25)) ?_
      refine KR.run 4 [(4, .int .i64 5)] 66 (s' := (.code (sub B [1, 1, 1, 1, 0, 1, 0, 1]) :: S14)) (by kernel_rfl) fun J => ?_
      exact KR.fin (by kernel_rfl) h
    · replace h := iteF c25 h
      refine KR.br false (by kernel_rfl) (vB (dF c25)) ?_
      refine KR.run 2 [(0, .pointer (some ⟨t0b, t0o, none⟩)), (3, .pointer (some ⟨t3b, t3o, none⟩))] 66 (s' := (.code (sub B [1, 1, 1, 1, 1, 0]) :: S16)) (by kernel_rfl) fun J => ?_
      refine KE.start H (by kernel_rfl) (by kernel_rfl) ?_
      refine KE.run 4 [(3, .pointer (some ⟨t3b, t3o, none⟩)), (55, .pointer (some ⟨t0b, t0o, none⟩)), (58, .pointer (some ⟨t0b, (t0o + 4), none⟩))] 66 4 (by kernel_rfl) fun J => ?_
      obtain ⟨t59a, t59n, t59k, q26, h⟩ := h
      refine KE.rdF (one_ld (by kernel_rfl) q26) (by kernel_rfl) ?_
      obtain ⟨t60c0, t60c1, t60c2, t60c3, t60c4, q27, h⟩ := h
      refine KE.rdN (one_ldA (by kernel_rfl) q27) (by kernel_rfl) ?_
      obtain ⟨H_3, q28, h⟩ := h
      refine KE.mk (w := sRow 1 5 [.int .i64 t60c0, .int .i64 t60c1, .int .i64 t60c2, .int .i64 t60c3, .int .i64 t60c4]) (one_al (by kernel_rfl)) (by kernel_rfl) (by kernel_rfl) q28 ?_
      obtain ⟨t62a, t62n, t62k, H_4, q29, h⟩ := h
      refine KE.se (one_ap 5 40 (by kernel_rfl) q29) (by kernel_rfl) ?_
      obtain ⟨t63a, t63n, t63k, H_5, q30, h⟩ := h
      refine KE.se (one_ca (by kernel_rfl) q30) (by kernel_rfl) ?_
      refine KE.run 2 [(63, .slice t63a t63n t63k), (65, .pointer (some ⟨t0b, (t0o + 4), none⟩))] 66 11 (by kernel_rfl) fun J => ?_
      obtain ⟨H_6, q31, h⟩ := h
      refine KE.se (one_st (by kernel_rfl) q31) (by kernel_rfl) ?_
      obtain ⟨q32, h⟩ := h
      refine KE.fin (H' := H_6) (by kernel_rfl) (rdsS (rfl) (rd_ok (Hs := [H_3]) (by kernel_rfl) (by kernel_rfl) ⟨one_ld (by kernel_rfl) q32, trivial⟩)) (by kernel_rfl) ?_
      refine KR.run 4 [(4, .int .i64 0)] 66 (s' := (.code (sub B [1, 1, 1, 1, 1, 1, 1]) :: [])) (by kernel_rfl) fun J => ?_
      exact KR.fin (by kernel_rfl) h
theorem L1_step {t0b : Nat} {t0o : Nat} {t3b : Nat} {t3o : Nat} {t23b : Nat} {t23o : Nat} {t23n : Nat} {t23k : Nat} {t24 : Int} {t25 : Int} {t47 : Bool} {H : Heap} {r : Value × Heap} (h :
    if t47 = true then
    (r = (.int .i64 9, H))
    else
    (L0 (t0b) (t0o) (t3b) (t3o) ((some ⟨t23b, t23o, none⟩)) (t23n) (t23k) (t24) ((IntKind.wrap .i64 (t25 + 1))) H r)) :
    L1 t0b t0o t3b t3o t23b t23o t23n t23k t24 t25 t47 H r := by
  intro J
  show KR _ _ _ (.code (sub B [1, 1, 1, 0, 1, 0, 0, 1, 1, 0, 0, 1, 1]) :: S11) _ _ _
  by_cases c33 : t47 = true
  · replace h := iteT c33 h
    refine KR.br true (by kernel_rfl) (vB (bT c33)) ?_
    refine KR.run 4 [(4, .int .i64 9)] 66 (s' := (.code (sub B [1, 1, 1, 0, 1, 0, 0, 1, 1, 0, 0, 1, 1, 0, 1]) :: S11)) (by kernel_rfl) fun J => ?_
    exact KR.fin (by kernel_rfl) h
  · replace h := iteF c33 h
    refine KR.br false (by kernel_rfl) (vB (bF c33)) ?_
    exact KR.run 6 [(0, .pointer (some ⟨t0b, t0o, none⟩)), (3, .pointer (some ⟨t3b, t3o, none⟩)), (23, .slice (some ⟨t23b, t23o, none⟩) t23n t23k), (24, .int .i64 t24), (25, .int .i64 (IntKind.wrap .i64 (t25 + 1)))] 66 (s' := (.lp (sub B [1, 1, 1, 0, 1, 0, 0]) :: S7)) (by kernel_rfl) h
theorem call {a0 : Option Addr} {a1c0 : Int} {a1c1 : Int} {a1c2 : Int} {a1c3 : Int} {a1c4 : Int} {H : Heap} {r : Value × Heap} (h :
    ∃ (H_1 : Heap), H_1 = H.push (.row [.int .i64 a1c0, .int .i64 a1c1, .int .i64 a1c2, .int .i64 a1c3, .int .i64 a1c4] true) ∧
    (∃ (t7c0 : Int) (t7c1 : Int) (t7c2 : Int) (t7c3 : Int) (t7c4 : Int), ldAll H_1 H.next 0 [.int .i64 t7c0, .int .i64 t7c1, .int .i64 t7c2, .int .i64 t7c3, .int .i64 t7c4] ∧
    (∃ (t8 : Bool) (H_2 : Heap), xC Try.prog good 15 [.agg #[.int .i64 t7c0, .int .i64 t7c1, .int .i64 t7c2, .int .i64 t7c3, .int .i64 t7c4]] H_1 = some (.bool t8, H_2) ∧
    (if t8 = true then
    (∃ (t12 : Int), ldc H_2 H.next 0 = some (.int .i64 t12) ∧
    (∃ (a0b a0o : Nat), a0 = some ⟨a0b, a0o, none⟩ ∧
    ((0 : Int) ≤ t12 ∧ t12 < (4 : Int) ∧
    (∃ (t16 : Int), ldc H_2 a0b (a0o + Int.toNat t12 * 1) = some (.int .i64 t16) ∧
    (∃ (t18 : Int), ldc H_2 H.next 1 = some (.int .i64 t18) ∧
    (if t16 ≤ t18 then
    (r = (.int .i64 6, H_2))
    else
    (∃ (t23a : Option Addr) (t23n : Nat) (t23k : Nat), ldc H_2 a0b (a0o + 4) = some (.slice t23a t23n t23k) ∧
    (L0 (a0b) (a0o) (H.next) (0) (t23a) (t23n) (t23k) (((t23n : Nat) : Int)) 0 H_2 r))))))))
    else
    (r = (.int .i64 1, H_2)))))) :
    xC Try.prog good 28 [.pointer a0, .agg #[.int .i64 a1c0, .int .i64 a1c1, .int .i64 a1c2, .int .i64 a1c3, .int .i64 a1c4]] H = some r := by
  refine KR.enter (fn := Try.f28) (c := B) (by kernel_rfl) (by kernel_rfl) ?_
  refine KR.run 2 [(0, .pointer a0), (1, .agg #[.int .i64 a1c0, .int .i64 a1c1, .int .i64 a1c2, .int .i64 a1c3, .int .i64 a1c4])] 66 (s' := (.reg (opsAt (sub B [0])) [0, 1] :: S0)) (by kernel_rfl) fun J => ?_
  obtain ⟨H_1, q1, h⟩ := h
  refine KR.mk (w := pRow [.int .i64 a1c0, .int .i64 a1c1, .int .i64 a1c2, .int .i64 a1c3, .int .i64 a1c4]) (one_al (by kernel_rfl)) q1 ?_
  refine KR.run 5 [(0, .pointer a0), (3, .pointer (some ⟨H.next, 0, none⟩))] 66 (s' := (.reg (opsAt (sub B [1, 0, 0])) [0, 1, 2] :: S2)) (by kernel_rfl) fun J => ?_
  obtain ⟨t7c0, t7c1, t7c2, t7c3, t7c4, q2, h⟩ := h
  refine KR.rd (one_ldA (by kernel_rfl) q2) ?_
  obtain ⟨t8, H_2, q3, h⟩ := h
  refine KR.se (one_ca (by kernel_rfl) q3) ?_
  refine KR.run 2 [(0, .pointer a0), (3, .pointer (some ⟨H.next, 0, none⟩)), (9, .bool (!t8))] 66 (s' := (.code (sub B [1, 0, 1]) :: S1)) (by kernel_rfl) fun J => ?_
  by_cases c4 : t8 = true
  · replace h := iteT c4 h
    refine KR.br false (by kernel_rfl) (vB (nB (bT c4))) ?_
    refine KR.run 3 [(0, .pointer a0), (3, .pointer (some ⟨H.next, 0, none⟩))] 66 (s' := (.code (sub B [1, 1, 0, 0]) :: S4)) (by kernel_rfl) fun J => ?_
    refine KR.sd (by kernel_rfl) ?_
    refine KR.run 2 [(0, .pointer a0), (3, .pointer (some ⟨H.next, 0, none⟩)), (10, .pointer a0), (11, .pointer (some ⟨H.next, 0, none⟩))] 66 (s' := (.reg (opsAt (sub B [1, 1, 0, 0])) [2, 3, 4, 5, 6, 7, 8, 9] :: S4)) (by kernel_rfl) fun J => ?_
    obtain ⟨t12, q5, h⟩ := h
    refine KR.rd (one_ld (by kernel_rfl) q5) ?_
    obtain ⟨a0b, a0o, rfl, h⟩ := h
    refine KR.run 2 [(0, .pointer (some ⟨a0b, a0o, none⟩)), (3, .pointer (some ⟨H.next, 0, none⟩)), (12, .int .i64 t12), (14, .pointer (some ⟨a0b, a0o, none⟩))] 66 (s' := (.reg (opsAt (sub B [1, 1, 0, 0])) [5, 6, 7, 8, 9] :: S4)) (by kernel_rfl) fun J => ?_
    obtain ⟨q6, q6x, h⟩ := h
    refine KR.p (one_ix 1 a0b a0o (by kernel_rfl) q6 q6x) ?_
    obtain ⟨t16, q7, h⟩ := h
    refine KR.rd (one_ld (by kernel_rfl) q7) ?_
    refine KR.run 1 [(0, .pointer (some ⟨a0b, a0o, none⟩)), (3, .pointer (some ⟨H.next, 0, none⟩)), (16, .int .i64 t16), (17, .pointer (some ⟨H.next, 1, none⟩))] 66 (s' := (.reg (opsAt (sub B [1, 1, 0, 0])) [8, 9] :: S4)) (by kernel_rfl) fun J => ?_
    obtain ⟨t18, q8, h⟩ := h
    refine KR.rd (one_ld (by kernel_rfl) q8) ?_
    refine KR.run 2 [(0, .pointer (some ⟨a0b, a0o, none⟩)), (3, .pointer (some ⟨H.next, 0, none⟩)), (19, .bool (decide (t16 ≤ t18)))] 66 (s' := (.code (sub B [1, 1, 0, 1]) :: S3)) (by kernel_rfl) fun J => ?_
    by_cases c9 : t16 ≤ t18
    · replace h := iteT c9 h
      refine KR.br true (by kernel_rfl) (vB (dT c9)) ?_
      refine KR.run 4 [(4, .int .i64 6)] 66 (s' := (.code (sub B [1, 1, 0, 1, 0, 1]) :: S3)) (by kernel_rfl) fun J => ?_
      exact KR.fin (by kernel_rfl) h
    · replace h := iteF c9 h
      refine KR.br false (by kernel_rfl) (vB (dF c9)) ?_
      refine KR.run 7 [(0, .pointer (some ⟨a0b, a0o, none⟩)), (3, .pointer (some ⟨H.next, 0, none⟩)), (22, .pointer (some ⟨a0b, (a0o + 4), none⟩))] 66 (s' := (.reg (opsAt (sub B [1, 1, 1, 0, 0])) [3, 4, 5] :: S6)) (by kernel_rfl) fun J => ?_
      obtain ⟨t23a, t23n, t23k, q10, h⟩ := h
      refine KR.rd (one_ld (by kernel_rfl) q10) ?_
      exact KR.run 5 [(0, .pointer (some ⟨a0b, a0o, none⟩)), (3, .pointer (some ⟨H.next, 0, none⟩)), (23, .slice t23a t23n t23k), (24, .int .i64 ((t23n : Nat) : Int)), (25, .int .i64 0)] 66 (s' := (.lp (sub B [1, 1, 1, 0, 1, 0, 0]) :: S7)) (by kernel_rfl) h
  · replace h := iteF c4 h
    refine KR.br true (by kernel_rfl) (vB (nB (bF c4))) ?_
    refine KR.run 4 [(4, .int .i64 1)] 66 (s' := (.code (sub B [1, 0, 1, 0, 1]) :: S1)) (by kernel_rfl) fun J => ?_
    exact KR.fin (by kernel_rfl) h
end F28
/-! #### 29 (*campanile/campanileref8.Table).Remove -/
namespace F29
noncomputable def B : Code := bodyOf Try.f29
noncomputable def S0 : List It := (.code (sub B [1]) :: [])
noncomputable def S1 : List It := (.code (sub B [1, 1]) :: [])
noncomputable def S2 : List It := (.code (sub B [1, 0, 1]) :: S1)
noncomputable def S3 : List It := (.blk 0 :: S1)
noncomputable def S4 : List It := (.lp (sub B [1, 0, 1, 0, 0]) :: S3)
noncomputable def S5 : List It := (.code (sub B [1, 0, 1, 0, 0, 1, 1]) :: S4)
noncomputable def S6 : List It := (.code (sub B [1, 0, 1, 0, 0, 1, 1, 1]) :: S4)
noncomputable def S7 : List It := (.blk 1 :: S6)
noncomputable def S8 : List It := (.code (sub B [1, 0, 1, 0, 0, 1, 1, 0, 0, 1]) :: S7)
noncomputable def S9 : List It := (.code (sub B [1, 0, 1, 0, 0, 1, 1, 0, 0, 1, 1]) :: S7)
noncomputable def S10 : List It := (.code (sub B [1, 0, 1, 0, 0, 1, 1, 0, 0, 1, 1, 0, 1]) :: S7)
def L0 (t0b : Nat) (t0o : Nat) (t3b : Nat) (t3o : Nat) (t10a : Option Addr) (t10n : Nat) (t10k : Nat) (t11 : Int) (t12 : Int) (H : Heap) (r : Value × Heap) : Prop := ∀ J, KR Try.prog good Try.f29 S4 (mat J 39 [(0, .pointer (some ⟨t0b, t0o, none⟩)), (3, .pointer (some ⟨t3b, t3o, none⟩)), (10, .slice t10a t10n t10k), (11, .int .i64 t11), (12, .int .i64 t12)]) H r
theorem L0_step {t0b : Nat} {t0o : Nat} {t3b : Nat} {t3o : Nat} {t10a : Option Addr} {t10n : Nat} {t10k : Nat} {t11 : Int} {t12 : Int} {H : Heap} {r : Value × Heap} (h :
    if t12 < t11 then
    (∃ (t10ab t10ao : Nat), t10a = some ⟨t10ab, t10ao, none⟩ ∧
    ((0 : Int) ≤ t12 ∧ t12 < ((t10n : Nat) : Int) ∧
    (∃ (t16c0 : Int) (t16c1 : Int) (t16c2 : Int) (t16c3 : Int) (t16c4 : Int), ldAll H t10ab (t10ao + Int.toNat t12 * 5) [.int .i64 t16c0, .int .i64 t16c1, .int .i64 t16c2, .int .i64 t16c3, .int .i64 t16c4] ∧
    (∃ (H_1 : Heap), H_1 = H.push (.row [.int .i64 0, .int .i64 0, .int .i64 0, .int .i64 0, .int .i64 0] true) ∧
    (∃ (H_2 : Heap), stc H_1 H.next 0 [.int .i64 t16c0, .int .i64 t16c1, .int .i64 t16c2, .int .i64 t16c3, .int .i64 t16c4] = some H_2 ∧
    (∃ (t17c0 : Int) (t17c1 : Int) (t17c2 : Int) (t17c3 : Int) (t17c4 : Int), ldAll H_2 H.next 0 [.int .i64 t17c0, .int .i64 t17c1, .int .i64 t17c2, .int .i64 t17c3, .int .i64 t17c4] ∧
    (∃ (t18c0 : Int) (t18c1 : Int) (t18c2 : Int) (t18c3 : Int) (t18c4 : Int), ldAll H_2 t3b t3o [.int .i64 t18c0, .int .i64 t18c1, .int .i64 t18c2, .int .i64 t18c3, .int .i64 t18c4] ∧
    (if ((t17c0 == t18c0) && ((t17c1 == t18c1) && ((t17c2 == t18c2) && ((t17c3 == t18c3) && ((t17c4 == t18c4) && true))))) = true then
    (∃ (t24a : Option Addr) (t24n : Nat) (t24k : Nat), ldc H_2 t0b (t0o + 4) = some (.slice t24a t24n t24k) ∧
    (∃ (t26a : Option Addr) (t26n : Nat) (t26k : Nat), psl 5 t24a t24n t24k none (some t12) none = some (t26a, t26n, t26k) ∧
    (∃ (t27a : Option Addr) (t27n : Nat) (t27k : Nat) (H_3 : Heap), papp H_2 5 40 none 0 0 t26a t26n t26k = some ((t27a, t27n, t27k), H_3) ∧
    (∃ (t31a : Option Addr) (t31n : Nat) (t31k : Nat), ldc H_2 t0b (t0o + 4) = some (.slice t31a t31n t31k) ∧
    (∃ (t34a : Option Addr) (t34n : Nat) (t34k : Nat), psl 5 t31a t31n t31k (some (IntKind.wrap .i64 (t12 + 1))) none none = some (t34a, t34n, t34k) ∧
    (∃ (t35a : Option Addr) (t35n : Nat) (t35k : Nat) (H_4 : Heap), papp H_3 5 40 t27a t27n t27k t34a t34n t34k = some ((t35a, t35n, t35k), H_4) ∧
    (∃ (H_5 : Heap), stc H_4 t0b (t0o + 4) [.slice t35a t35n t35k] = some H_5 ∧
    (ldc H_3 t0b (t0o + 4) = some (.slice t31a t31n t31k) ∧
    (r = (.int .i64 0, H_5))))))))))
    else
    (L0 (t0b) (t0o) (t3b) (t3o) ((some ⟨t10ab, t10ao, none⟩)) (t10n) (t10k) (t11) ((IntKind.wrap .i64 (t12 + 1))) H_2 r)))))))))
    else
    (r = (.int .i64 6, H))) :
    L0 t0b t0o t3b t3o t10a t10n t10k t11 t12 H r := by
  intro J
  show KR _ _ _ (.lp (sub B [1, 0, 1, 0, 0]) :: S3) _ _ _
  refine KR.run 6 [(0, .pointer (some ⟨t0b, t0o, none⟩)), (3, .pointer (some ⟨t3b, t3o, none⟩)), (10, .slice t10a t10n t10k), (11, .int .i64 t11), (12, .int .i64 t12), (13, .bool (decide (t12 < t11)))] 39 (s' := (.code (sub B [1, 0, 1, 0, 0, 1, 0]) :: S5)) (by kernel_rfl) fun J => ?_
  by_cases c3 : t12 < t11
  · replace h := iteT c3 h
    refine KR.br true (by kernel_rfl) (vB (dT c3)) ?_
    obtain ⟨t10ab, t10ao, rfl, h⟩ := h
    refine KR.run 6 [(0, .pointer (some ⟨t0b, t0o, none⟩)), (3, .pointer (some ⟨t3b, t3o, none⟩)), (10, .slice (some ⟨t10ab, t10ao, none⟩) t10n t10k), (11, .int .i64 t11), (12, .int .i64 t12), (14, .int .i64 t12)] 39 (s' := (.reg (opsAt (sub B [1, 0, 1, 0, 0, 1, 1, 0, 0, 0])) [1, 2, 3, 4, 5] :: S8)) (by kernel_rfl) fun J => ?_
    obtain ⟨q4, q4x, h⟩ := h
    refine KR.p (one_ix 5 t10ab t10ao (by kernel_rfl) q4 q4x) ?_
    obtain ⟨t16c0, t16c1, t16c2, t16c3, t16c4, q5, h⟩ := h
    refine KR.rd (one_ldA (by kernel_rfl) q5) ?_
    obtain ⟨H_1, q6, h⟩ := h
    refine KR.mk (w := pRow [.int .i64 0, .int .i64 0, .int .i64 0, .int .i64 0, .int .i64 0]) (one_al (by kernel_rfl)) q6 ?_
    refine KR.run 1 [(0, .pointer (some ⟨t0b, t0o, none⟩)), (3, .pointer (some ⟨t3b, t3o, none⟩)), (5, .int .i64 t12), (6, .pointer (some ⟨H.next, 0, none⟩)), (10, .slice (some ⟨t10ab, t10ao, none⟩) t10n t10k), (11, .int .i64 t11), (12, .int .i64 t12), (16, .agg #[.int .i64 t16c0, .int .i64 t16c1, .int .i64 t16c2, .int .i64 t16c3, .int .i64 t16c4])] 39 (s' := (.reg (opsAt (sub B [1, 0, 1, 0, 0, 1, 1, 0, 0, 0])) [5] :: S8)) (by kernel_rfl) fun J => ?_
    obtain ⟨H_2, q7, h⟩ := h
    refine KR.se (one_st (by kernel_rfl) q7) ?_
    refine KR.run 3 [(0, .pointer (some ⟨t0b, t0o, none⟩)), (3, .pointer (some ⟨t3b, t3o, none⟩)), (5, .int .i64 t12), (6, .pointer (some ⟨H.next, 0, none⟩)), (10, .slice (some ⟨t10ab, t10ao, none⟩) t10n t10k), (11, .int .i64 t11), (12, .int .i64 t12)] 39 (s' := (.reg (opsAt (sub B [1, 0, 1, 0, 0, 1, 1, 0, 0, 1, 0])) [0, 1, 2] :: S9)) (by kernel_rfl) fun J => ?_
    obtain ⟨t17c0, t17c1, t17c2, t17c3, t17c4, q8, h⟩ := h
    refine KR.rd (one_ldA (by kernel_rfl) q8) ?_
    obtain ⟨t18c0, t18c1, t18c2, t18c3, t18c4, q9, h⟩ := h
    refine KR.rd (one_ldA (by kernel_rfl) q9) ?_
    refine KR.run 2 [(0, .pointer (some ⟨t0b, t0o, none⟩)), (3, .pointer (some ⟨t3b, t3o, none⟩)), (5, .int .i64 t12), (10, .slice (some ⟨t10ab, t10ao, none⟩) t10n t10k), (11, .int .i64 t11), (12, .int .i64 t12), (19, .bool ((t17c0 == t18c0) && ((t17c1 == t18c1) && ((t17c2 == t18c2) && ((t17c3 == t18c3) && ((t17c4 == t18c4) && true))))))] 39 (s' := (.code (sub B [1, 0, 1, 0, 0, 1, 1, 0, 0, 1, 1]) :: S7)) (by kernel_rfl) fun J => ?_
    by_cases c10 : ((t17c0 == t18c0) && ((t17c1 == t18c1) && ((t17c2 == t18c2) && ((t17c3 == t18c3) && ((t17c4 == t18c4) && true))))) = true
    · replace h := iteT c10 h
      refine KR.br true (by kernel_rfl) (vB (bT c10)) ?_
      refine KR.run 1 [(0, .pointer (some ⟨t0b, t0o, none⟩)), (5, .int .i64 t12)] 39 (s' := (.code (sub B [1, 0, 1, 0, 0, 1, 1, 0, 0, 1, 1, 0, 0]) :: S10)) (by kernel_rfl) fun J => ?_
      refine KE.start H_2 (by kernel_rfl) (by kernel_rfl) ?_
      refine KE.run 4 [(0, .pointer (some ⟨t0b, t0o, none⟩)), (5, .int .i64 t12), (20, .pointer (some ⟨t0b, t0o, none⟩)), (23, .pointer (some ⟨t0b, (t0o + 4), none⟩))] 39 4 (by kernel_rfl) fun J => ?_
      obtain ⟨t24a, t24n, t24k, q11, h⟩ := h
      refine KE.rdN (one_ld (by kernel_rfl) q11) (by kernel_rfl) ?_
      refine KE.run 1 [(0, .pointer (some ⟨t0b, t0o, none⟩)), (5, .int .i64 t12), (20, .pointer (some ⟨t0b, t0o, none⟩)), (24, .slice t24a t24n t24k), (25, .int .i64 t12)] 39 6 (by kernel_rfl) fun J => ?_
      obtain ⟨t26a, t26n, t26k, q12, h⟩ := h
      refine KE.p (one_sl (by kernel_rfl) q12) ?_
      obtain ⟨t27a, t27n, t27k, H_3, q13, h⟩ := h
      refine KE.se (one_ap 5 40 (by kernel_rfl) q13) (by kernel_rfl) ?_
      refine KE.run 3 [(5, .int .i64 t12), (20, .pointer (some ⟨t0b, t0o, none⟩)), (27, .slice t27a t27n t27k), (30, .pointer (some ⟨t0b, (t0o + 4), none⟩))] 39 11 (by kernel_rfl) fun J => ?_
      obtain ⟨t31a, t31n, t31k, q14, h⟩ := h
      refine KE.rdF (one_ld (by kernel_rfl) q14) (by kernel_rfl) ?_
      refine KE.run 2 [(20, .pointer (some ⟨t0b, t0o, none⟩)), (27, .slice t27a t27n t27k), (31, .slice t31a t31n t31k), (33, .int .i64 (IntKind.wrap .i64 (t12 + 1)))] 39 14 (by kernel_rfl) fun J => ?_
      obtain ⟨t34a, t34n, t34k, q15, h⟩ := h
      refine KE.p (one_sl (by kernel_rfl) q15) ?_
      obtain ⟨t35a, t35n, t35k, H_4, q16, h⟩ := h
      refine KE.se (one_ap 5 40 (by kernel_rfl) q16) (by kernel_rfl) ?_
      refine KE.run 2 [(35, .slice t35a t35n t35k), (37, .pointer (some ⟨t0b, (t0o + 4), none⟩))] 39 18 (by kernel_rfl) fun J => ?_
      obtain ⟨H_5, q17, h⟩ := h
      refine KE.se (one_st (by kernel_rfl) q17) (by kernel_rfl) ?_
      obtain ⟨q18, h⟩ := h
      refine KE.fin (H' := H_5) (by kernel_rfl) (rdsS (rfl) (rd_ok (Hs := [H_3]) (by kernel_rfl) (by kernel_rfl) ⟨one_ld (by kernel_rfl) q18, trivial⟩)) (by kernel_rfl) ?_
      refine KR.run 4 [(4, .int .i64 0)] 39 (s' := (.code (sub B [1, 0, 1, 0, 0, 1, 1, 0, 0, 1, 1, 0, 1, 1]) :: S7)) (by kernel_rfl) fun J => ?_
      exact KR.fin (by kernel_rfl) h
    · replace h := iteF c10 h
      refine KR.br false (by kernel_rfl) (vB (bF c10)) ?_
      exact KR.run 6 [(0, .pointer (some ⟨t0b, t0o, none⟩)), (3, .pointer (some ⟨t3b, t3o, none⟩)), (10, .slice (some ⟨t10ab, t10ao, none⟩) t10n t10k), (11, .int .i64 t11), (12, .int .i64 (IntKind.wrap .i64 (t12 + 1)))] 39 (s' := (.lp (sub B [1, 0, 1, 0, 0]) :: S3)) (by kernel_rfl) h
  · replace h := iteF c3 h
    refine KR.br false (by kernel_rfl) (vB (dF c3)) ?_
    refine KR.run 5 [(4, .int .i64 6)] 39 (s' := (.code (sub B [1, 1, 1]) :: [])) (by kernel_rfl) fun J => ?_
    exact KR.fin (by kernel_rfl) h
theorem call {a0 : Option Addr} {a1c0 : Int} {a1c1 : Int} {a1c2 : Int} {a1c3 : Int} {a1c4 : Int} {H : Heap} {r : Value × Heap} (h :
    ∃ (H_1 : Heap), H_1 = H.push (.row [.int .i64 a1c0, .int .i64 a1c1, .int .i64 a1c2, .int .i64 a1c3, .int .i64 a1c4] true) ∧
    (∃ (a0b a0o : Nat), a0 = some ⟨a0b, a0o, none⟩ ∧
    (∃ (t10a : Option Addr) (t10n : Nat) (t10k : Nat), ldc H_1 a0b (a0o + 4) = some (.slice t10a t10n t10k) ∧
    (L0 (a0b) (a0o) (H.next) (0) (t10a) (t10n) (t10k) (((t10n : Nat) : Int)) 0 H_1 r)))) :
    xC Try.prog good 29 [.pointer a0, .agg #[.int .i64 a1c0, .int .i64 a1c1, .int .i64 a1c2, .int .i64 a1c3, .int .i64 a1c4]] H = some r := by
  refine KR.enter (fn := Try.f29) (c := B) (by kernel_rfl) (by kernel_rfl) ?_
  refine KR.run 2 [(0, .pointer a0), (1, .agg #[.int .i64 a1c0, .int .i64 a1c1, .int .i64 a1c2, .int .i64 a1c3, .int .i64 a1c4])] 39 (s' := (.reg (opsAt (sub B [0])) [0, 1] :: S0)) (by kernel_rfl) fun J => ?_
  obtain ⟨H_1, q1, h⟩ := h
  refine KR.mk (w := pRow [.int .i64 a1c0, .int .i64 a1c1, .int .i64 a1c2, .int .i64 a1c3, .int .i64 a1c4]) (one_al (by kernel_rfl)) q1 ?_
  obtain ⟨a0b, a0o, rfl, h⟩ := h
  refine KR.run 8 [(0, .pointer (some ⟨a0b, a0o, none⟩)), (3, .pointer (some ⟨H.next, 0, none⟩)), (9, .pointer (some ⟨a0b, (a0o + 4), none⟩))] 39 (s' := (.reg (opsAt (sub B [1, 0, 0])) [3, 4, 5] :: S2)) (by kernel_rfl) fun J => ?_
  obtain ⟨t10a, t10n, t10k, q2, h⟩ := h
  refine KR.rd (one_ld (by kernel_rfl) q2) ?_
  exact KR.run 5 [(0, .pointer (some ⟨a0b, a0o, none⟩)), (3, .pointer (some ⟨H.next, 0, none⟩)), (10, .slice t10a t10n t10k), (11, .int .i64 ((t10n : Nat) : Int)), (12, .int .i64 0)] 39 (s' := (.lp (sub B [1, 0, 1, 0, 0]) :: S3)) (by kernel_rfl) h
end F29
/-! #### 30 campanile/campanileref8.SameCells -/
namespace F30
noncomputable def B : Code := bodyOf Try.f30
noncomputable def S0 : List It := (.code (sub B [1, 1]) :: [])
noncomputable def S1 : List It := (.code (sub B [1, 1, 1]) :: [])
noncomputable def S2 : List It := (.blk 0 :: S1)
noncomputable def S3 : List It := (.lp (sub B [1, 1, 0, 1, 0, 0]) :: S2)
noncomputable def S4 : List It := (.code (sub B [1, 1, 0, 1, 0, 0, 1, 1]) :: S3)
noncomputable def S5 : List It := (.code (sub B [1, 1, 0, 1, 0, 0, 1, 1, 1]) :: S3)
noncomputable def S6 : List It := (.blk 1 :: S5)
noncomputable def S7 : List It := (.code (sub B [1, 1, 0, 1, 0, 0, 1, 1, 0, 0, 1, 1]) :: S6)
def L0 (t0a : Option Addr) (t0n : Nat) (t0k : Nat) (t1a : Option Addr) (t1n : Nat) (t1k : Nat) (t12 : Int) (t13 : Int) (H : Heap) (r : Value × Heap) : Prop := ∀ J, KR Try.prog good Try.f30 S3 (mat J 26 [(0, .slice t0a t0n t0k), (1, .slice t1a t1n t1k), (12, .int .i64 t12), (13, .int .i64 t13)]) H r
theorem L0_step {t0a : Option Addr} {t0n : Nat} {t0k : Nat} {t1a : Option Addr} {t1n : Nat} {t1k : Nat} {t12 : Int} {t13 : Int} {H : Heap} {r : Value × Heap} (h :
    if t13 < t12 then
    (∃ (t0ab t0ao : Nat), t0a = some ⟨t0ab, t0ao, none⟩ ∧
    ((0 : Int) ≤ t13 ∧ t13 < ((t0n : Nat) : Int) ∧
    (∃ (t19c0 : Int) (t19c1 : Int) (t19c2 : Int) (t19c3 : Int) (t19c4 : Int), ldAll H t0ab (t0ao + Int.toNat t13 * 5) [.int .i64 t19c0, .int .i64 t19c1, .int .i64 t19c2, .int .i64 t19c3, .int .i64 t19c4] ∧
    (∃ (t1ab t1ao : Nat), t1a = some ⟨t1ab, t1ao, none⟩ ∧
    ((0 : Int) ≤ t13 ∧ t13 < ((t1n : Nat) : Int) ∧
    (∃ (t23c0 : Int) (t23c1 : Int) (t23c2 : Int) (t23c3 : Int) (t23c4 : Int), ldAll H t1ab (t1ao + Int.toNat t13 * 5) [.int .i64 t23c0, .int .i64 t23c1, .int .i64 t23c2, .int .i64 t23c3, .int .i64 t23c4] ∧
    (if ((t19c0 == t23c0) && ((t19c1 == t23c1) && ((t19c2 == t23c2) && ((t19c3 == t23c3) && ((t19c4 == t23c4) && true))))) = true then
    (L0 ((some ⟨t0ab, t0ao, none⟩)) (t0n) (t0k) ((some ⟨t1ab, t1ao, none⟩)) (t1n) (t1k) (t12) ((IntKind.wrap .i64 (t13 + 1))) H r)
    else
    (r = (.bool false, H)))))))))
    else
    (r = (.bool true, H))) :
    L0 t0a t0n t0k t1a t1n t1k t12 t13 H r := by
  intro J
  show KR _ _ _ (.lp (sub B [1, 1, 0, 1, 0, 0]) :: S2) _ _ _
  refine KR.run 6 [(0, .slice t0a t0n t0k), (1, .slice t1a t1n t1k), (12, .int .i64 t12), (13, .int .i64 t13), (14, .bool (decide (t13 < t12)))] 26 (s' := (.code (sub B [1, 1, 0, 1, 0, 0, 1, 0]) :: S4)) (by kernel_rfl) fun J => ?_
  by_cases c2 : t13 < t12
  · replace h := iteT c2 h
    refine KR.br true (by kernel_rfl) (vB (dT c2)) ?_
    refine KR.run 9 [(0, .slice t0a t0n t0k), (1, .slice t1a t1n t1k), (5, .int .i64 t13), (12, .int .i64 t12), (13, .int .i64 t13)] 26 (s' := (.code (sub B [1, 1, 0, 1, 0, 0, 1, 1, 0, 0, 1, 0]) :: S7)) (by kernel_rfl) fun J => ?_
    refine KR.sd (by kernel_rfl) ?_
    obtain ⟨t0ab, t0ao, rfl, h⟩ := h
    refine KR.run 2 [(0, .slice (some ⟨t0ab, t0ao, none⟩) t0n t0k), (1, .slice t1a t1n t1k), (5, .int .i64 t13), (12, .int .i64 t12), (13, .int .i64 t13), (16, .slice (some ⟨t0ab, t0ao, none⟩) t0n t0k), (17, .int .i64 t13)] 26 (s' := (.reg (opsAt (sub B [1, 1, 0, 1, 0, 0, 1, 1, 0, 0, 1, 0])) [2, 3, 4, 5, 6, 7, 8] :: S7)) (by kernel_rfl) fun J => ?_
    obtain ⟨q3, q3x, h⟩ := h
    refine KR.p (one_ix 5 t0ab t0ao (by kernel_rfl) q3 q3x) ?_
    obtain ⟨t19c0, t19c1, t19c2, t19c3, t19c4, q4, h⟩ := h
    refine KR.rd (one_ldA (by kernel_rfl) q4) ?_
    obtain ⟨t1ab, t1ao, rfl, h⟩ := h
    refine KR.run 2 [(0, .slice (some ⟨t0ab, t0ao, none⟩) t0n t0k), (1, .slice (some ⟨t1ab, t1ao, none⟩) t1n t1k), (12, .int .i64 t12), (13, .int .i64 t13), (19, .agg #[.int .i64 t19c0, .int .i64 t19c1, .int .i64 t19c2, .int .i64 t19c3, .int .i64 t19c4]), (20, .slice (some ⟨t1ab, t1ao, none⟩) t1n t1k), (21, .int .i64 t13)] 26 (s' := (.reg (opsAt (sub B [1, 1, 0, 1, 0, 0, 1, 1, 0, 0, 1, 0])) [6, 7, 8] :: S7)) (by kernel_rfl) fun J => ?_
    obtain ⟨q5, q5x, h⟩ := h
    refine KR.p (one_ix 5 t1ab t1ao (by kernel_rfl) q5 q5x) ?_
    obtain ⟨t23c0, t23c1, t23c2, t23c3, t23c4, q6, h⟩ := h
    refine KR.rd (one_ldA (by kernel_rfl) q6) ?_
    refine KR.run 2 [(0, .slice (some ⟨t0ab, t0ao, none⟩) t0n t0k), (1, .slice (some ⟨t1ab, t1ao, none⟩) t1n t1k), (12, .int .i64 t12), (13, .int .i64 t13), (24, .bool (!((t19c0 == t23c0) && ((t19c1 == t23c1) && ((t19c2 == t23c2) && ((t19c3 == t23c3) && ((t19c4 == t23c4) && true)))))))] 26 (s' := (.code (sub B [1, 1, 0, 1, 0, 0, 1, 1, 0, 0, 1, 1]) :: S6)) (by kernel_rfl) fun J => ?_
    by_cases c7 : ((t19c0 == t23c0) && ((t19c1 == t23c1) && ((t19c2 == t23c2) && ((t19c3 == t23c3) && ((t19c4 == t23c4) && true))))) = true
    · replace h := iteT c7 h
      refine KR.br false (by kernel_rfl) (vB (nB (bT c7))) ?_
      exact KR.run 6 [(0, .slice (some ⟨t0ab, t0ao, none⟩) t0n t0k), (1, .slice (some ⟨t1ab, t1ao, none⟩) t1n t1k), (12, .int .i64 t12), (13, .int .i64 (IntKind.wrap .i64 (t13 + 1)))] 26 (s' := (.lp (sub B [1, 1, 0, 1, 0, 0]) :: S2)) (by kernel_rfl) h
    · replace h := iteF c7 h
      refine KR.br true (by kernel_rfl) (vB (nB (bF c7))) ?_
      refine KR.run 4 [(4, .bool false)] 26 (s' := (.code (sub B [1, 1, 0, 1, 0, 0, 1, 1, 0, 0, 1, 1, 0, 1]) :: S6)) (by kernel_rfl) fun J => ?_
      exact KR.fin (by kernel_rfl) h
  · replace h := iteF c2 h
    refine KR.br false (by kernel_rfl) (vB (dF c2)) ?_
    refine KR.run 5 [(4, .bool true)] 26 (s' := (.code (sub B [1, 1, 1, 1]) :: [])) (by kernel_rfl) fun J => ?_
    exact KR.fin (by kernel_rfl) h
theorem call {a0a : Option Addr} {a0n : Nat} {a0k : Nat} {a1a : Option Addr} {a1n : Nat} {a1k : Nat} {H : Heap} {r : Value × Heap} (h :
    if ((a0n : Nat) : Int) = ((a1n : Nat) : Int) then
    (L0 (a0a) (a0n) (a0k) (a1a) (a1n) (a1k) (((a0n : Nat) : Int)) 0 H r)
    else
    (r = (.bool false, H))) :
    xC Try.prog good 30 [.slice a0a a0n a0k, .slice a1a a1n a1k] H = some r := by
  refine KR.enter (fn := Try.f30) (c := B) (by kernel_rfl) (by kernel_rfl) ?_
  refine KR.run 13 [(0, .slice a0a a0n a0k), (1, .slice a1a a1n a1k), (10, .bool (!(((a0n : Nat) : Int) == ((a1n : Nat) : Int))))] 26 (s' := (.code (sub B [1, 0, 1]) :: S0)) (by kernel_rfl) fun J => ?_
  by_cases c1 : ((a0n : Nat) : Int) = ((a1n : Nat) : Int)
  · replace h := iteT c1 h
    refine KR.br false (by kernel_rfl) (vB (nB (eT c1))) ?_
    exact KR.run 10 [(0, .slice a0a a0n a0k), (1, .slice a1a a1n a1k), (12, .int .i64 ((a0n : Nat) : Int)), (13, .int .i64 0)] 26 (s' := (.lp (sub B [1, 1, 0, 1, 0, 0]) :: S2)) (by kernel_rfl) h
  · replace h := iteF c1 h
    refine KR.br true (by kernel_rfl) (vB (nB (eF c1))) ?_
    refine KR.run 4 [(4, .bool false)] 26 (s' := (.code (sub B [1, 0, 1, 0, 1]) :: S0)) (by kernel_rfl) fun J => ?_
    exact KR.fin (by kernel_rfl) h
end F30
/-! #### 31 (*campanile/campanileref8.Table).Active -/
namespace F31
noncomputable def B : Code := bodyOf Try.f31
noncomputable def S0 : List It := (.code (sub B [1, 1, 1]) :: [])
noncomputable def S2 : List It := (.code (sub B [1, 1, 1, 1]) :: [])
noncomputable def S1 : List It := (.code (sub B [1, 1, 0, 1]) :: S0)
noncomputable def S3 : List It := (.code (sub B [1, 1, 1, 0, 1]) :: S2)
noncomputable def S4 : List It := (.blk 0 :: S2)
noncomputable def S5 : List It := (.lp (sub B [1, 1, 1, 0, 1, 0, 0]) :: S4)
noncomputable def S6 : List It := (.code (sub B [1, 1, 1, 0, 1, 0, 0, 1, 1]) :: S5)
noncomputable def S7 : List It := (.code (sub B [1, 1, 1, 0, 1, 0, 0, 1, 1, 1]) :: S5)
noncomputable def S8 : List It := (.blk 1 :: S7)
noncomputable def S9 : List It := (.code (sub B [1, 1, 1, 0, 1, 0, 0, 1, 1, 0, 0, 1]) :: S8)
noncomputable def S10 : List It := (.code (sub B [1, 1, 1, 0, 1, 0, 0, 1, 1, 0, 0, 1, 1]) :: S8)
def L0 (t0b : Nat) (t0o : Nat) (t1 : Int) (t5a : Option Addr) (t5n : Nat) (t5k : Nat) (t14a : Option Addr) (t14n : Nat) (t14k : Nat) (t15 : Int) (t16 : Int) (H : Heap) (r : Value × Heap) : Prop := ∀ J, KR Try.prog good Try.f31 S5 (mat J 38 [(0, .pointer (some ⟨t0b, t0o, none⟩)), (1, .int .i64 t1), (5, .slice t5a t5n t5k), (14, .slice t14a t14n t14k), (15, .int .i64 t15), (16, .int .i64 t16)]) H r
theorem L0_step {t0b : Nat} {t0o : Nat} {t1 : Int} {t5a : Option Addr} {t5n : Nat} {t5k : Nat} {t14a : Option Addr} {t14n : Nat} {t14k : Nat} {t15 : Int} {t16 : Int} {H : Heap} {r : Value × Heap} (h :
    if t16 < t15 then
    (∃ (t14ab t14ao : Nat), t14a = some ⟨t14ab, t14ao, none⟩ ∧
    ((0 : Int) ≤ t16 ∧ t16 < ((t14n : Nat) : Int) ∧
    (∃ (t19c0 : Int) (t19c1 : Int) (t19c2 : Int) (t19c3 : Int) (t19c4 : Int), ldAll H t14ab (t14ao + Int.toNat t16 * 5) [.int .i64 t19c0, .int .i64 t19c1, .int .i64 t19c2, .int .i64 t19c3, .int .i64 t19c4] ∧
    (∃ (H_1 : Heap), H_1 = H.push (.row [.int .i64 0, .int .i64 0, .int .i64 0, .int .i64 0, .int .i64 0] true) ∧
    (∃ (H_2 : Heap), stc H_1 H.next 0 [.int .i64 t19c0, .int .i64 t19c1, .int .i64 t19c2, .int .i64 t19c3, .int .i64 t19c4] = some H_2 ∧
    (∃ (t21 : Int), ldc H_2 H.next 1 = some (.int .i64 t21) ∧
    (∃ (t25 : Int), ldc H_2 H.next 0 = some (.int .i64 t25) ∧
    ((0 : Int) ≤ t25 ∧ t25 < (4 : Int) ∧
    (∃ (t29 : Int), ldc H_2 t0b (t0o + Int.toNat t25 * 1) = some (.int .i64 t29) ∧
    (t29 ≠ 0 ∧
    (if t21 = (Int.tmod t1 t29) then
    (∃ (t33c0 : Int) (t33c1 : Int) (t33c2 : Int) (t33c3 : Int) (t33c4 : Int), ldAll H_2 H.next 0 [.int .i64 t33c0, .int .i64 t33c1, .int .i64 t33c2, .int .i64 t33c3, .int .i64 t33c4] ∧
    (∃ (H_3 : Heap), H_3 = H_2.push (.row [.int .i64 t33c0, .int .i64 t33c1, .int .i64 t33c2, .int .i64 t33c3, .int .i64 t33c4] true) ∧
    (∃ (t35a : Option Addr) (t35n : Nat) (t35k : Nat) (H_4 : Heap), papp H_3 5 40 t5a t5n t5k (some ⟨H_2.next, 0, none⟩) 1 (UNK 5) = some ((t35a, t35n, t35k), H_4) ∧
    (L0 (t0b) (t0o) (t1) (t35a) (t35n) (t35k) ((some ⟨t14ab, t14ao, none⟩)) (t14n) (t14k) (t15) ((IntKind.wrap .i64 (t16 + 1))) H_4 r))))
    else
    (L0 (t0b) (t0o) (t1) (t5a) (t5n) (t5k) ((some ⟨t14ab, t14ao, none⟩)) (t14n) (t14k) (t15) ((IntKind.wrap .i64 (t16 + 1))) H_2 r))))))))))))
    else
    (r = (.slice t5a t5n t5k, H))) :
    L0 t0b t0o t1 t5a t5n t5k t14a t14n t14k t15 t16 H r := by
  intro J
  show KR _ _ _ (.lp (sub B [1, 1, 1, 0, 1, 0, 0]) :: S4) _ _ _
  refine KR.run 6 [(0, .pointer (some ⟨t0b, t0o, none⟩)), (1, .int .i64 t1), (5, .slice t5a t5n t5k), (14, .slice t14a t14n t14k), (15, .int .i64 t15), (16, .int .i64 t16), (17, .bool (decide (t16 < t15)))] 38 (s' := (.code (sub B [1, 1, 1, 0, 1, 0, 0, 1, 0]) :: S6)) (by kernel_rfl) fun J => ?_
  by_cases c4 : t16 < t15
  · replace h := iteT c4 h
    refine KR.br true (by kernel_rfl) (vB (dT c4)) ?_
    obtain ⟨t14ab, t14ao, rfl, h⟩ := h
    refine KR.run 5 [(0, .pointer (some ⟨t0b, t0o, none⟩)), (1, .int .i64 t1), (5, .slice t5a t5n t5k), (14, .slice (some ⟨t14ab, t14ao, none⟩) t14n t14k), (15, .int .i64 t15), (16, .int .i64 t16)] 38 (s' := (.reg (opsAt (sub B [1, 1, 1, 0, 1, 0, 0, 1, 1, 0, 0, 0])) [0, 1, 2, 3] :: S9)) (by kernel_rfl) fun J => ?_
    obtain ⟨q5, q5x, h⟩ := h
    refine KR.p (one_ix 5 t14ab t14ao (by kernel_rfl) q5 q5x) ?_
    obtain ⟨t19c0, t19c1, t19c2, t19c3, t19c4, q6, h⟩ := h
    refine KR.rd (one_ldA (by kernel_rfl) q6) ?_
    obtain ⟨H_1, q7, h⟩ := h
    refine KR.mk (w := pRow [.int .i64 0, .int .i64 0, .int .i64 0, .int .i64 0, .int .i64 0]) (one_al (by kernel_rfl)) q7 ?_
    obtain ⟨H_2, q8, h⟩ := h
    refine KR.se (one_st (by kernel_rfl) q8) ?_
    refine KR.run 2 [(0, .pointer (some ⟨t0b, t0o, none⟩)), (1, .int .i64 t1), (5, .slice t5a t5n t5k), (7, .pointer (some ⟨H.next, 0, none⟩)), (14, .slice (some ⟨t14ab, t14ao, none⟩) t14n t14k), (15, .int .i64 t15), (16, .int .i64 t16)] 38 (s' := (.code (sub B [1, 1, 1, 0, 1, 0, 0, 1, 1, 0, 0, 1, 0]) :: S10)) (by kernel_rfl) fun J => ?_
    refine KR.sd (by kernel_rfl) ?_
    refine KR.run 1 [(0, .pointer (some ⟨t0b, t0o, none⟩)), (1, .int .i64 t1), (5, .slice t5a t5n t5k), (7, .pointer (some ⟨H.next, 0, none⟩)), (14, .slice (some ⟨t14ab, t14ao, none⟩) t14n t14k), (15, .int .i64 t15), (16, .int .i64 t16), (20, .pointer (some ⟨H.next, 1, none⟩))] 38 (s' := (.reg (opsAt (sub B [1, 1, 1, 0, 1, 0, 0, 1, 1, 0, 0, 1, 0])) [1, 2, 3, 4, 5, 6, 7, 8, 9, 10, 11] :: S10)) (by kernel_rfl) fun J => ?_
    obtain ⟨t21, q9, h⟩ := h
    refine KR.rd (one_ld (by kernel_rfl) q9) ?_
    refine KR.run 3 [(0, .pointer (some ⟨t0b, t0o, none⟩)), (1, .int .i64 t1), (5, .slice t5a t5n t5k), (7, .pointer (some ⟨H.next, 0, none⟩)), (14, .slice (some ⟨t14ab, t14ao, none⟩) t14n t14k), (15, .int .i64 t15), (16, .int .i64 t16), (21, .int .i64 t21), (22, .int .i64 t1), (23, .pointer (some ⟨t0b, t0o, none⟩)), (24, .pointer (some ⟨H.next, 0, none⟩))] 38 (s' := (.reg (opsAt (sub B [1, 1, 1, 0, 1, 0, 0, 1, 1, 0, 0, 1, 0])) [5, 6, 7, 8, 9, 10, 11] :: S10)) (by kernel_rfl) fun J => ?_
    obtain ⟨t25, q10, h⟩ := h
    refine KR.rd (one_ld (by kernel_rfl) q10) ?_
    refine KR.run 2 [(0, .pointer (some ⟨t0b, t0o, none⟩)), (1, .int .i64 t1), (5, .slice t5a t5n t5k), (7, .pointer (some ⟨H.next, 0, none⟩)), (14, .slice (some ⟨t14ab, t14ao, none⟩) t14n t14k), (15, .int .i64 t15), (16, .int .i64 t16), (21, .int .i64 t21), (22, .int .i64 t1), (25, .int .i64 t25), (27, .pointer (some ⟨t0b, t0o, none⟩))] 38 (s' := (.reg (opsAt (sub B [1, 1, 1, 0, 1, 0, 0, 1, 1, 0, 0, 1, 0])) [8, 9, 10, 11] :: S10)) (by kernel_rfl) fun J => ?_
    obtain ⟨q11, q11x, h⟩ := h
    refine KR.p (one_ix 1 t0b t0o (by kernel_rfl) q11 q11x) ?_
    obtain ⟨t29, q12, h⟩ := h
    refine KR.rd (one_ld (by kernel_rfl) q12) ?_
    obtain ⟨q13, h⟩ := h
    refine KR.p (one_rem .i64 t1 (by kernel_rfl) q13) ?_
    refine KR.run 2 [(0, .pointer (some ⟨t0b, t0o, none⟩)), (1, .int .i64 t1), (5, .slice t5a t5n t5k), (7, .pointer (some ⟨H.next, 0, none⟩)), (14, .slice (some ⟨t14ab, t14ao, none⟩) t14n t14k), (15, .int .i64 t15), (16, .int .i64 t16), (31, .bool (t21 == (Int.tmod t1 t29)))] 38 (s' := (.code (sub B [1, 1, 1, 0, 1, 0, 0, 1, 1, 0, 0, 1, 1]) :: S8)) (by kernel_rfl) fun J => ?_
    by_cases c14 : t21 = (Int.tmod t1 t29)
    · replace h := iteT c14 h
      refine KR.br true (by kernel_rfl) (vB (eT c14)) ?_
      refine KR.run 2 [(0, .pointer (some ⟨t0b, t0o, none⟩)), (1, .int .i64 t1), (7, .pointer (some ⟨H.next, 0, none⟩)), (14, .slice (some ⟨t14ab, t14ao, none⟩) t14n t14k), (15, .int .i64 t15), (16, .int .i64 t16), (32, .slice t5a t5n t5k)] 38 (s' := (.reg (opsAt (sub B [1, 1, 1, 0, 1, 0, 0, 1, 1, 0, 0, 1, 1, 0])) [1, 2, 3, 4] :: S8)) (by kernel_rfl) fun J => ?_
      obtain ⟨t33c0, t33c1, t33c2, t33c3, t33c4, q15, h⟩ := h
      refine KR.rd (one_ldA (by kernel_rfl) q15) ?_
      obtain ⟨H_3, q16, h⟩ := h
      refine KR.mk (w := sRow 1 5 [.int .i64 t33c0, .int .i64 t33c1, .int .i64 t33c2, .int .i64 t33c3, .int .i64 t33c4]) (one_al (by kernel_rfl)) q16 ?_
      obtain ⟨t35a, t35n, t35k, H_4, q17, h⟩ := h
      refine KR.se (one_ap 5 40 (by kernel_rfl) q17) ?_
      exact KR.run 7 [(0, .pointer (some ⟨t0b, t0o, none⟩)), (1, .int .i64 t1), (5, .slice t35a t35n t35k), (14, .slice (some ⟨t14ab, t14ao, none⟩) t14n t14k), (15, .int .i64 t15), (16, .int .i64 (IntKind.wrap .i64 (t16 + 1)))] 38 (s' := (.lp (sub B [1, 1, 1, 0, 1, 0, 0]) :: S4)) (by kernel_rfl) h
    · replace h := iteF c14 h
      refine KR.br false (by kernel_rfl) (vB (eF c14)) ?_
      exact KR.run 6 [(0, .pointer (some ⟨t0b, t0o, none⟩)), (1, .int .i64 t1), (5, .slice t5a t5n t5k), (14, .slice (some ⟨t14ab, t14ao, none⟩) t14n t14k), (15, .int .i64 t15), (16, .int .i64 (IntKind.wrap .i64 (t16 + 1)))] 38 (s' := (.lp (sub B [1, 1, 1, 0, 1, 0, 0]) :: S4)) (by kernel_rfl) h
  · replace h := iteF c4 h
    refine KR.br false (by kernel_rfl) (vB (dF c4)) ?_
    refine KR.run 6 [(4, .slice t5a t5n t5k)] 38 (s' := (.code (sub B [1, 1, 1, 1, 1]) :: [])) (by kernel_rfl) fun J => ?_
    exact KR.fin (by kernel_rfl) h
theorem call {a0 : Option Addr} {a1 : Int} {H : Heap} {r : Value × Heap} (h :
    ∃ (t9 : Bool) (H_1 : Heap), xC Try.prog good 48 [.int .i64 a1] H = some (.bool t9, H_1) ∧
    (if t9 = true then
    (∃ (a0b a0o : Nat), a0 = some ⟨a0b, a0o, none⟩ ∧
    (∃ (t14a : Option Addr) (t14n : Nat) (t14k : Nat), ldc H_1 a0b (a0o + 4) = some (.slice t14a t14n t14k) ∧
    (L0 (a0b) (a0o) (a1) (none) (0) (0) (t14a) (t14n) (t14k) (((t14n : Nat) : Int)) 0 H_1 r)))
    else
    (r = (.slice none 0 0, H_1)))) :
    xC Try.prog good 31 [.pointer a0, .int .i64 a1] H = some r := by
  refine KR.enter (fn := Try.f31) (c := B) (by kernel_rfl) (by kernel_rfl) ?_
  refine KR.run 12 [(0, .pointer a0), (1, .int .i64 a1), (5, .slice none 0 0), (8, .int .i64 a1)] 38 (s' := (.reg (opsAt (sub B [1, 1, 0, 0])) [1, 2] :: S1)) (by kernel_rfl) fun J => ?_
  obtain ⟨t9, H_1, q1, h⟩ := h
  refine KR.se (one_ca (by kernel_rfl) q1) ?_
  refine KR.run 2 [(0, .pointer a0), (1, .int .i64 a1), (5, .slice none 0 0), (10, .bool (!t9))] 38 (s' := (.code (sub B [1, 1, 0, 1]) :: S0)) (by kernel_rfl) fun J => ?_
  by_cases c2 : t9 = true
  · replace h := iteT c2 h
    refine KR.br false (by kernel_rfl) (vB (nB (bT c2))) ?_
    obtain ⟨a0b, a0o, rfl, h⟩ := h
    refine KR.run 7 [(0, .pointer (some ⟨a0b, a0o, none⟩)), (1, .int .i64 a1), (5, .slice none 0 0), (13, .pointer (some ⟨a0b, (a0o + 4), none⟩))] 38 (s' := (.reg (opsAt (sub B [1, 1, 1, 0, 0])) [3, 4, 5] :: S3)) (by kernel_rfl) fun J => ?_
    obtain ⟨t14a, t14n, t14k, q3, h⟩ := h
    refine KR.rd (one_ld (by kernel_rfl) q3) ?_
    exact KR.run 5 [(0, .pointer (some ⟨a0b, a0o, none⟩)), (1, .int .i64 a1), (5, .slice none 0 0), (14, .slice t14a t14n t14k), (15, .int .i64 ((t14n : Nat) : Int)), (16, .int .i64 0)] 38 (s' := (.lp (sub B [1, 1, 1, 0, 1, 0, 0]) :: S4)) (by kernel_rfl) h
  · replace h := iteF c2 h
    refine KR.br true (by kernel_rfl) (vB (nB (bF c2))) ?_
    refine KR.run 4 [(4, .slice none 0 0)] 38 (s' := (.code (sub B [1, 1, 0, 1, 0, 1]) :: S0)) (by kernel_rfl) fun J => ?_
    exact KR.fin (by kernel_rfl) h
end F31
/-! #### 47 campanile/campanileref8.Sorted -/
namespace F47
noncomputable def B : Code := bodyOf Try.f47
noncomputable def S0 : List It := (.code (sub B [1, 1, 1]) :: [])
noncomputable def S1 : List It := (.blk 0 :: S0)
noncomputable def S2 : List It := (.lp (sub B [1, 1, 0, 1, 0, 0]) :: S1)
noncomputable def S3 : List It := (.code (sub B [1, 1, 0, 1, 0, 0, 1, 1]) :: S2)
noncomputable def S4 : List It := (.code (sub B [1, 1, 0, 1, 0, 0, 1, 1, 1]) :: S2)
noncomputable def S5 : List It := (.blk 1 :: S4)
noncomputable def S6 : List It := (.code (sub B [1, 1, 0, 1, 0, 0, 1, 1, 0, 0, 1]) :: S5)
noncomputable def S7 : List It := (.code (sub B [1, 1, 0, 1, 0, 0, 1, 1, 0, 0, 1, 1, 1]) :: S5)
noncomputable def S8 : List It := (.blk 2 :: S7)
noncomputable def S9 : List It := (.lp (sub B [1, 1, 0, 1, 0, 0, 1, 1, 0, 0, 1, 1, 0, 0, 0]) :: S8)
noncomputable def S10 : List It := (.code (sub B [1, 1, 0, 1, 0, 0, 1, 1, 0, 0, 1, 1, 0, 0, 0, 1]) :: S9)
noncomputable def S11 : List It := (.code (sub B [1, 1, 0, 1, 0, 0, 1, 1, 0, 0, 1, 1, 0, 0, 0, 0, 1]) :: S10)
def L0 (t3a : Option Addr) (t3n : Nat) (t3k : Nat) (t7a : Option Addr) (t7n : Nat) (t7k : Nat) (t8 : Int) (t9 : Int) (H : Heap) (r : Value × Heap) : Prop := ∀ J, KR Try.prog good Try.f47 S2 (mat J 41 [(3, .slice t3a t3n t3k), (7, .slice t7a t7n t7k), (8, .int .i64 t8), (9, .int .i64 t9)]) H r
def L1 (t3a : Option Addr) (t3n : Nat) (t3k : Nat) (t5b : Nat) (t5o : Nat) (t6 : Int) (t7b : Nat) (t7o : Nat) (t7n : Nat) (t7k : Nat) (t8 : Int) (t9 : Int) (H : Heap) (r : Value × Heap) : Prop := ∀ J, KR Try.prog good Try.f47 S9 (mat J 41 [(3, .slice t3a t3n t3k), (5, .pointer (some ⟨t5b, t5o, none⟩)), (6, .int .i64 t6), (7, .slice (some ⟨t7b, t7o, none⟩) t7n t7k), (8, .int .i64 t8), (9, .int .i64 t9)]) H r
def L2 (t3a : Option Addr) (t3n : Nat) (t3k : Nat) (t5b : Nat) (t5o : Nat) (t6 : Int) (t7b : Nat) (t7o : Nat) (t7n : Nat) (t7k : Nat) (t8 : Int) (t9 : Int) (t25 : Bool) (H : Heap) (r : Value × Heap) : Prop := ∀ J, KR Try.prog good Try.f47 S11 (mat J 41 [(3, .slice t3a t3n t3k), (5, .pointer (some ⟨t5b, t5o, none⟩)), (6, .int .i64 t6), (7, .slice (some ⟨t7b, t7o, none⟩) t7n t7k), (8, .int .i64 t8), (9, .int .i64 t9), (25, .bool t25)]) H r
theorem L0_step {t3a : Option Addr} {t3n : Nat} {t3k : Nat} {t7a : Option Addr} {t7n : Nat} {t7k : Nat} {t8 : Int} {t9 : Int} {H : Heap} {r : Value × Heap} (h :
    if t9 < t8 then
    (∃ (t7ab t7ao : Nat), t7a = some ⟨t7ab, t7ao, none⟩ ∧
    ((0 : Int) ≤ t9 ∧ t9 < ((t7n : Nat) : Int) ∧
    (∃ (t12c0 : Int) (t12c1 : Int) (t12c2 : Int) (t12c3 : Int) (t12c4 : Int), ldAll H t7ab (t7ao + Int.toNat t9 * 5) [.int .i64 t12c0, .int .i64 t12c1, .int .i64 t12c2, .int .i64 t12c3, .int .i64 t12c4] ∧
    (∃ (H_1 : Heap), H_1 = H.push (.row [.int .i64 0, .int .i64 0, .int .i64 0, .int .i64 0, .int .i64 0] true) ∧
    (∃ (H_2 : Heap), stc H_1 H.next 0 [.int .i64 t12c0, .int .i64 t12c1, .int .i64 t12c2, .int .i64 t12c3, .int .i64 t12c4] = some H_2 ∧
    (L1 (t3a) (t3n) (t3k) (H.next) (0) 0 (t7ab) (t7ao) (t7n) (t7k) (t8) (t9) H_2 r))))))
    else
    (r = (.slice t3a t3n t3k, H))) :
    L0 t3a t3n t3k t7a t7n t7k t8 t9 H r := by
  intro J
  show KR _ _ _ (.lp (sub B [1, 1, 0, 1, 0, 0]) :: S1) _ _ _
  refine KR.run 6 [(3, .slice t3a t3n t3k), (7, .slice t7a t7n t7k), (8, .int .i64 t8), (9, .int .i64 t9), (10, .bool (decide (t9 < t8)))] 41 (s' := (.code (sub B [1, 1, 0, 1, 0, 0, 1, 0]) :: S3)) (by kernel_rfl) fun J => ?_
  by_cases c1 : t9 < t8
  · replace h := iteT c1 h
    refine KR.br true (by kernel_rfl) (vB (dT c1)) ?_
    obtain ⟨t7ab, t7ao, rfl, h⟩ := h
    refine KR.run 5 [(3, .slice t3a t3n t3k), (7, .slice (some ⟨t7ab, t7ao, none⟩) t7n t7k), (8, .int .i64 t8), (9, .int .i64 t9)] 41 (s' := (.reg (opsAt (sub B [1, 1, 0, 1, 0, 0, 1, 1, 0, 0, 0])) [0, 1, 2, 3] :: S6)) (by kernel_rfl) fun J => ?_
    obtain ⟨q2, q2x, h⟩ := h
    refine KR.p (one_ix 5 t7ab t7ao (by kernel_rfl) q2 q2x) ?_
    obtain ⟨t12c0, t12c1, t12c2, t12c3, t12c4, q3, h⟩ := h
    refine KR.rd (one_ldA (by kernel_rfl) q3) ?_
    obtain ⟨H_1, q4, h⟩ := h
    refine KR.mk (w := pRow [.int .i64 0, .int .i64 0, .int .i64 0, .int .i64 0, .int .i64 0]) (one_al (by kernel_rfl)) q4 ?_
    obtain ⟨H_2, q5, h⟩ := h
    refine KR.se (one_st (by kernel_rfl) q5) ?_
    exact KR.run 8 [(3, .slice t3a t3n t3k), (5, .pointer (some ⟨H.next, 0, none⟩)), (6, .int .i64 0), (7, .slice (some ⟨t7ab, t7ao, none⟩) t7n t7k), (8, .int .i64 t8), (9, .int .i64 t9)] 41 (s' := (.lp (sub B [1, 1, 0, 1, 0, 0, 1, 1, 0, 0, 1, 1, 0, 0, 0]) :: S8)) (by kernel_rfl) h
  · replace h := iteF c1 h
    refine KR.br false (by kernel_rfl) (vB (dF c1)) ?_
    refine KR.run 6 [(2, .slice t3a t3n t3k)] 41 (s' := (.code (sub B [1, 1, 1, 1]) :: [])) (by kernel_rfl) fun J => ?_
    exact KR.fin (by kernel_rfl) h
theorem L1_step {t3a : Option Addr} {t3n : Nat} {t3k : Nat} {t5b : Nat} {t5o : Nat} {t6 : Int} {t7b : Nat} {t7o : Nat} {t7n : Nat} {t7k : Nat} {t8 : Int} {t9 : Int} {H : Heap} {r : Value × Heap} (h :
    if t6 < ((t3n : Nat) : Int) then
    (∃ (t18c0 : Int) (t18c1 : Int) (t18c2 : Int) (t18c3 : Int) (t18c4 : Int), ldAll H t5b t5o [.int .i64 t18c0, .int .i64 t18c1, .int .i64 t18c2, .int .i64 t18c3, .int .i64 t18c4] ∧
    (∃ (t3ab t3ao : Nat), t3a = some ⟨t3ab, t3ao, none⟩ ∧
    ((0 : Int) ≤ t6 ∧ t6 < ((t3n : Nat) : Int) ∧
    (∃ (t22c0 : Int) (t22c1 : Int) (t22c2 : Int) (t22c3 : Int) (t22c4 : Int), ldAll H t3ab (t3ao + Int.toNat t6 * 5) [.int .i64 t22c0, .int .i64 t22c1, .int .i64 t22c2, .int .i64 t22c3, .int .i64 t22c4] ∧
    (∃ (t23 : Bool) (H_1 : Heap), xC Try.prog good 23 [.agg #[.int .i64 t18c0, .int .i64 t18c1, .int .i64 t18c2, .int .i64 t18c3, .int .i64 t18c4], .agg #[.int .i64 t22c0, .int .i64 t22c1, .int .i64 t22c2, .int .i64 t22c3, .int .i64 t22c4]] H = some (.bool t23, H_1) ∧
    (L2 ((some ⟨t3ab, t3ao, none⟩)) (t3n) (t3k) (t5b) (t5o) (t6) (t7b) (t7o) (t7n) (t7k) (t8) (t9) ((!t23)) H_1 r))))))
    else
    (L2 (t3a) (t3n) (t3k) (t5b) (t5o) (t6) (t7b) (t7o) (t7n) (t7k) (t8) (t9) (false) H r)) :
    L1 t3a t3n t3k t5b t5o t6 t7b t7o t7n t7k t8 t9 H r := by
  intro J
  show KR _ _ _ (.lp (sub B [1, 1, 0, 1, 0, 0, 1, 1, 0, 0, 1, 1, 0, 0, 0]) :: S8) _ _ _
  refine KR.run 3 [(3, .slice t3a t3n t3k), (5, .pointer (some ⟨t5b, t5o, none⟩)), (6, .int .i64 t6), (7, .slice (some ⟨t7b, t7o, none⟩) t7n t7k), (8, .int .i64 t8), (9, .int .i64 t9)] 41 (s' := (.code (sub B [1, 1, 0, 1, 0, 0, 1, 1, 0, 0, 1, 1, 0, 0, 0, 0, 0]) :: S11)) (by kernel_rfl) fun J => ?_
  refine KR.sd (by kernel_rfl) ?_
  refine KR.run 5 [(3, .slice t3a t3n t3k), (5, .pointer (some ⟨t5b, t5o, none⟩)), (6, .int .i64 t6), (7, .slice (some ⟨t7b, t7o, none⟩) t7n t7k), (8, .int .i64 t8), (9, .int .i64 t9), (17, .bool (decide (t6 < ((t3n : Nat) : Int))))] 41 (s' := (.reg (opsAt (sub B [1, 1, 0, 1, 0, 0, 1, 1, 0, 0, 1, 1, 0, 0, 0, 0, 0])) [5, 6, 7, 8, 9, 10, 11, 12] :: S11)) (by kernel_rfl) fun J => ?_
  by_cases c6 : t6 < ((t3n : Nat) : Int)
  · replace h := iteT c6 h
    refine KR.setV 17 (by kernel_rfl) (dT c6) ?_
    obtain ⟨t18c0, t18c1, t18c2, t18c3, t18c4, q7, h⟩ := h
    refine KR.rd (one_ldA (by kernel_rfl) q7) ?_
    obtain ⟨t3ab, t3ao, rfl, h⟩ := h
    refine KR.run 2 [(3, .slice (some ⟨t3ab, t3ao, none⟩) t3n t3k), (5, .pointer (some ⟨t5b, t5o, none⟩)), (6, .int .i64 t6), (7, .slice (some ⟨t7b, t7o, none⟩) t7n t7k), (8, .int .i64 t8), (9, .int .i64 t9), (17, .bool true), (18, .agg #[.int .i64 t18c0, .int .i64 t18c1, .int .i64 t18c2, .int .i64 t18c3, .int .i64 t18c4]), (19, .slice (some ⟨t3ab, t3ao, none⟩) t3n t3k), (20, .int .i64 t6)] 41 (s' := (.reg (opsAt (sub B [1, 1, 0, 1, 0, 0, 1, 1, 0, 0, 1, 1, 0, 0, 0, 0, 0])) [8, 9, 10, 11, 12] :: S11)) (by kernel_rfl) fun J => ?_
    obtain ⟨q8, q8x, h⟩ := h
    refine KR.p (one_ix 5 t3ab t3ao (by kernel_rfl) q8 q8x) ?_
    obtain ⟨t22c0, t22c1, t22c2, t22c3, t22c4, q9, h⟩ := h
    refine KR.rd (one_ldA (by kernel_rfl) q9) ?_
    obtain ⟨t23, H_1, q10, h⟩ := h
    refine KR.se (one_ca (by kernel_rfl) q10) ?_
    exact KR.run 3 [(3, .slice (some ⟨t3ab, t3ao, none⟩) t3n t3k), (5, .pointer (some ⟨t5b, t5o, none⟩)), (6, .int .i64 t6), (7, .slice (some ⟨t7b, t7o, none⟩) t7n t7k), (8, .int .i64 t8), (9, .int .i64 t9), (25, .bool (!t23))] 41 (s' := (.code (sub B [1, 1, 0, 1, 0, 0, 1, 1, 0, 0, 1, 1, 0, 0, 0, 0, 1]) :: S10)) (by kernel_rfl) h
  · replace h := iteF c6 h
    refine KR.setV 17 (by kernel_rfl) (dF c6) ?_
    exact KR.run 9 [(3, .slice t3a t3n t3k), (5, .pointer (some ⟨t5b, t5o, none⟩)), (6, .int .i64 t6), (7, .slice (some ⟨t7b, t7o, none⟩) t7n t7k), (8, .int .i64 t8), (9, .int .i64 t9), (25, .bool false)] 41 (s' := (.code (sub B [1, 1, 0, 1, 0, 0, 1, 1, 0, 0, 1, 1, 0, 0, 0, 0, 1]) :: S10)) (by kernel_rfl) h
theorem L2_step {t3a : Option Addr} {t3n : Nat} {t3k : Nat} {t5b : Nat} {t5o : Nat} {t6 : Int} {t7b : Nat} {t7o : Nat} {t7n : Nat} {t7k : Nat} {t8 : Int} {t9 : Int} {t25 : Bool} {H : Heap} {r : Value × Heap} (h :
    if t25 = true then
    (L1 (t3a) (t3n) (t3k) (t5b) (t5o) ((IntKind.wrap .i64 (t6 + 1))) (t7b) (t7o) (t7n) (t7k) (t8) (t9) H r)
    else
    (∃ (t30a : Option Addr) (t30n : Nat) (t30k : Nat), psl 5 t3a t3n t3k none (some t6) none = some (t30a, t30n, t30k) ∧
    (∃ (t31a : Option Addr) (t31n : Nat) (t31k : Nat) (H_1 : Heap), papp (reserve H 12) 5 40 none 0 0 t30a t30n t30k = some ((t31a, t31n, t31k), H_1) ∧
    (∃ (t32c0 : Int) (t32c1 : Int) (t32c2 : Int) (t32c3 : Int) (t32c4 : Int), ldAll (reserve H 12) t5b t5o [.int .i64 t32c0, .int .i64 t32c1, .int .i64 t32c2, .int .i64 t32c3, .int .i64 t32c4] ∧
    (∃ (t34a : Option Addr) (t34n : Nat) (t34k : Nat) (H_3 : Heap), papp (H_1.set (H.next + 5) (.row [.int .i64 t32c0, .int .i64 t32c1, .int .i64 t32c2, .int .i64 t32c3, .int .i64 t32c4] true)) 5 40 t31a t31n t31k (some ⟨(H.next + 5), 0, none⟩) 1 (UNK 5) = some ((t34a, t34n, t34k), H_3) ∧
    (∃ (t37a : Option Addr) (t37n : Nat) (t37k : Nat), psl 5 t3a t3n t3k (some t6) none none = some (t37a, t37n, t37k) ∧
    (∃ (t38a : Option Addr) (t38n : Nat) (t38k : Nat) (H_4 : Heap), papp H_3 5 40 t34a t34n t34k t37a t37n t37k = some ((t38a, t38n, t38k), H_4) ∧
    (ldAll H_1 t5b t5o [.int .i64 t32c0, .int .i64 t32c1, .int .i64 t32c2, .int .i64 t32c3, .int .i64 t32c4] ∧
    (L0 (t38a) (t38n) (t38k) ((some ⟨t7b, t7o, none⟩)) (t7n) (t7k) (t8) ((IntKind.wrap .i64 (t9 + 1))) H_4 r))))))))) :
    L2 t3a t3n t3k t5b t5o t6 t7b t7o t7n t7k t8 t9 t25 H r := by
  intro J
  show KR _ _ _ (.code (sub B [1, 1, 0, 1, 0, 0, 1, 1, 0, 0, 1, 1, 0, 0, 0, 0, 1]) :: S10) _ _ _
  by_cases c11 : t25 = true
  · replace h := iteT c11 h
    refine KR.br true (by kernel_rfl) (vB (bT c11)) ?_
    exact KR.run 8 [(3, .slice t3a t3n t3k), (5, .pointer (some ⟨t5b, t5o, none⟩)), (6, .int .i64 (IntKind.wrap .i64 (t6 + 1))), (7, .slice (some ⟨t7b, t7o, none⟩) t7n t7k), (8, .int .i64 t8), (9, .int .i64 t9)] 41 (s' := (.lp (sub B [1, 1, 0, 1, 0, 0, 1, 1, 0, 0, 1, 1, 0, 0, 0]) :: S8)) (by kernel_rfl) h
  · replace h := iteF c11 h
    refine KR.br false (by kernel_rfl) (vB (bF c11)) ?_
    refine KR.run 1 [(3, .slice t3a t3n t3k), (5, .pointer (some ⟨t5b, t5o, none⟩)), (6, .int .i64 t6), (7, .slice (some ⟨t7b, t7o, none⟩) t7n t7k), (8, .int .i64 t8), (9, .int .i64 t9)] 41 (s' := (.code (sub B [1, 1, 0, 1, 0, 0, 1, 1, 0, 0, 1, 1, 1]) :: S5)) (by kernel_rfl) fun J => ?_
    refine KE.start (reserve H 12) (by kernel_rfl) (by kernel_rfl) ?_
    refine KE.run 2 [(3, .slice t3a t3n t3k), (5, .pointer (some ⟨t5b, t5o, none⟩)), (6, .int .i64 t6), (7, .slice (some ⟨t7b, t7o, none⟩) t7n t7k), (8, .int .i64 t8), (9, .int .i64 t9), (28, .slice t3a t3n t3k), (29, .int .i64 t6)] 41 2 (by kernel_rfl) fun J => ?_
    obtain ⟨t30a, t30n, t30k, q12, h⟩ := h
    refine KE.p (one_sl (by kernel_rfl) q12) ?_
    obtain ⟨t31a, t31n, t31k, H_1, q13, h⟩ := h
    refine KE.se (one_ap 5 40 (by kernel_rfl) q13) (by kernel_rfl) ?_
    obtain ⟨t32c0, t32c1, t32c2, t32c3, t32c4, q14, h⟩ := h
    refine KE.rdF (one_ldA (by kernel_rfl) q14) (by kernel_rfl) ?_
    refine KE.al (w := sRow 1 5 [.int .i64 t32c0, .int .i64 t32c1, .int .i64 t32c2, .int .i64 t32c3, .int .i64 t32c4]) (one_al (by kernel_rfl)) (by kernel_rfl) ?_
    obtain ⟨t34a, t34n, t34k, H_3, q16, h⟩ := h
    refine KE.se (one_ap 5 40 (by kernel_rfl) q16) (by kernel_rfl) ?_
    refine KE.run 2 [(7, .slice (some ⟨t7b, t7o, none⟩) t7n t7k), (8, .int .i64 t8), (9, .int .i64 t9), (34, .slice t34a t34n t34k), (35, .slice t3a t3n t3k), (36, .int .i64 t6)] 41 9 (by kernel_rfl) fun J => ?_
    obtain ⟨t37a, t37n, t37k, q17, h⟩ := h
    refine KE.p (one_sl (by kernel_rfl) q17) ?_
    obtain ⟨t38a, t38n, t38k, H_4, q18, h⟩ := h
    refine KE.se (one_ap 5 40 (by kernel_rfl) q18) (by kernel_rfl) ?_
    refine KE.run 1 [(3, .slice t38a t38n t38k), (7, .slice (some ⟨t7b, t7o, none⟩) t7n t7k), (8, .int .i64 t8), (9, .int .i64 t9)] 41 12 (by kernel_rfl) fun J => ?_
    obtain ⟨q19, h⟩ := h
    refine KE.fin (H' := H_4) (by kernel_rfl) (rdsS (rfl) (rd_ok (Hs := [H_1]) (by kernel_rfl) (by kernel_rfl) ⟨one_ldA (by kernel_rfl) q19, trivial⟩)) (by kernel_rfl) ?_
    exact KR.run 5 [(3, .slice t38a t38n t38k), (7, .slice (some ⟨t7b, t7o, none⟩) t7n t7k), (8, .int .i64 t8), (9, .int .i64 (IntKind.wrap .i64 (t9 + 1)))] 41 (s' := (.lp (sub B [1, 1, 0, 1, 0, 0]) :: S1)) (by kernel_rfl) h
theorem call {a0a : Option Addr} {a0n : Nat} {a0k : Nat} {H : Heap} {r : Value × Heap} (h :
    L0 (none) (0) (0) (a0a) (a0n) (a0k) (((a0n : Nat) : Int)) 0 H r) :
    xC Try.prog good 47 [.slice a0a a0n a0k] H = some r := by
  refine KR.enter (fn := Try.f47) (c := B) (by kernel_rfl) (by kernel_rfl) ?_
  exact KR.run 17 [(3, .slice none 0 0), (7, .slice a0a a0n a0k), (8, .int .i64 ((a0n : Nat) : Int)), (9, .int .i64 0)] 41 (s' := (.lp (sub B [1, 1, 0, 1, 0, 0]) :: S1)) (by kernel_rfl) h
end F47
/-! #### 48 campanile/campanileref1.ASN -/
namespace F48
noncomputable def B : Code := bodyOf Try.f48
noncomputable def S0 : List It := (.code (sub B [1, 1]) :: [])
theorem call {a0 : Int} {H : Heap} {r : Value × Heap} (h :
    if a0 ≥ 0 then
    (r = (.bool (decide (a0 < 1099511627776)), H))
    else
    (r = (.bool false, H))) :
    xC Try.prog good 48 [.int .i64 a0] H = some r := by
  refine KR.enter (fn := Try.f48) (c := B) (by kernel_rfl) (by kernel_rfl) ?_
  refine KR.run 9 [(0, .int .i64 a0), (5, .bool (decide (a0 ≥ 0)))] 9 (s' := (.reg (opsAt (sub B [1, 0])) [3, 4, 5, 6] :: S0)) (by kernel_rfl) fun J => ?_
  by_cases c1 : a0 ≥ 0
  · replace h := iteT c1 h
    refine KR.setV 5 (by kernel_rfl) (dT c1) ?_
    refine KR.run 5 [(2, .bool (decide (a0 < 1099511627776)))] 9 (s' := (.code (sub B [1, 1]) :: [])) (by kernel_rfl) fun J => ?_
    exact KR.fin (by kernel_rfl) h
  · replace h := iteF c1 h
    refine KR.setV 5 (by kernel_rfl) (dF c1) ?_
    refine KR.run 5 [(2, .bool false)] 9 (s' := (.code (sub B [1, 1]) :: [])) (by kernel_rfl) fun J => ?_
    exact KR.fin (by kernel_rfl) h
end F48
end Go.X
