/- The walks of the functions: printed. -/
import Derived.Test.YtdnokmjobpbhhaaXzGc
set_option linter.unusedVariables false
set_option maxRecDepth 100000
namespace Go.X
open Go Go.RowKit Go.Proofs
/-! #### 4 campanile/campanilelaw19.RouteTurns -/
namespace F4
noncomputable def B : Code := bodyOf Try.f4
noncomputable def S0 : List It := (.code (sub B [1, 1]) :: [])
noncomputable def S2 : List It := (.code (sub B [1, 1, 1]) :: [])
noncomputable def S3 : List It := (.code (sub B [1, 1, 1, 1]) :: [])
noncomputable def S5 : List It := (.code (sub B [1, 1, 1, 1, 1]) :: [])
noncomputable def S6 : List It := (.code (sub B [1, 1, 1, 1, 1, 1]) :: [])
noncomputable def S15 : List It := (.code (sub B [1, 1, 1, 1, 1, 1, 1]) :: [])
noncomputable def S1 : List It := (.code (sub B [1, 0, 1, 0, 1]) :: S0)
noncomputable def S4 : List It := (.code (sub B [1, 1, 1, 0, 1]) :: S3)
noncomputable def S7 : List It := (.blk 0 :: S6)
noncomputable def S8 : List It := (.code (sub B [1, 1, 1, 0, 1, 0, 1]) :: S3)
noncomputable def S9 : List It := (.lp (sub B [1, 1, 1, 1, 1, 0, 1, 0, 0]) :: S7)
noncomputable def S10 : List It := (.code (sub B [1, 1, 1, 1, 1, 0, 1, 0, 0, 1, 1]) :: S9)
noncomputable def S11 : List It := (.code (sub B [1, 1, 1, 1, 1, 0, 1, 0, 0, 1, 1, 1]) :: S9)
noncomputable def S12 : List It := (.blk 1 :: S11)
noncomputable def S13 : List It := (.code (sub B [1, 1, 1, 1, 1, 0, 1, 0, 0, 1, 1, 0, 0, 1]) :: S12)
noncomputable def S14 : List It := (.code (sub B [1, 1, 1, 1, 1, 0, 1, 0, 0, 1, 1, 0, 0, 1, 1]) :: S12)
def L0 (t3a : Option Addr) (t3n : Nat) (t3k : Nat) (t26a : Option Addr) (t26n : Nat) (t26k : Nat) (t27 : Int) (t28 : Int) (H : Heap) (r : Value × Heap) : Prop := ∀ J, KR Try.prog good Try.f4 S9 (mat J 45 [(3, .slice t3a t3n t3k), (26, .slice t26a t26n t26k), (27, .int .i64 t27), (28, .int .i64 t28)]) H r
theorem L0_step {t3a : Option Addr} {t3n : Nat} {t3k : Nat} {t26a : Option Addr} {t26n : Nat} {t26k : Nat} {t27 : Int} {t28 : Int} {H : Heap} {r : Value × Heap} (h :
    if t28 < t27 then
    (∃ (t26ab t26ao : Nat), t26a = some ⟨t26ab, t26ao, none⟩ ∧
    ((0 : Int) ≤ t28 ∧ t28 < ((t26n : Nat) : Int) ∧
    (∃ (t32 : Int), ldc H t26ab (t26ao + Int.toNat t28 * 1) = some (.int .i64 t32) ∧
    (∃ (t3ab t3ao : Nat), t3a = some ⟨t3ab, t3ao, none⟩ ∧
    ((0 : Int) ≤ (IntKind.wrap .i64 ((IntKind.wrap .i64 (((t3n : Nat) : Int) - 1)) - t28)) ∧ (IntKind.wrap .i64 ((IntKind.wrap .i64 (((t3n : Nat) : Int) - 1)) - t28)) < ((t3n : Nat) : Int) ∧
    (∃ (t40 : Int), ldc H t3ab (t3ao + Int.toNat (IntKind.wrap .i64 ((IntKind.wrap .i64 (((t3n : Nat) : Int) - 1)) - t28)) * 1) = some (.int .i64 t40) ∧
    (if t40 = t32 then
    (L0 ((some ⟨t3ab, t3ao, none⟩)) (t3n) (t3k) ((some ⟨t26ab, t26ao, none⟩)) (t26n) (t26k) (t27) ((IntKind.wrap .i64 (t28 + 1))) H r)
    else
    (r = (.bool false, H)))))))))
    else
    (∃ (t44 : Bool) (H_1 : Heap), xC Try.prog good 20 [] H = some (.bool t44, H_1) ∧
    (r = (.bool t44, H_1)))) :
    L0 t3a t3n t3k t26a t26n t26k t27 t28 H r := by
  intro J
  show KR _ _ _ (.lp (sub B [1, 1, 1, 1, 1, 0, 1, 0, 0]) :: S7) _ _ _
  refine KR.run 6 [(3, .slice t3a t3n t3k), (26, .slice t26a t26n t26k), (27, .int .i64 t27), (28, .int .i64 t28), (29, .bool (decide (t28 < t27)))] 45 (s' := (.code (sub B [1, 1, 1, 1, 1, 0, 1, 0, 0, 1, 0]) :: S10)) (by kernel_rfl) fun J => ?_
  by_cases c9 : t28 < t27
  · replace h := iteT c9 h
    refine KR.br true (by kernel_rfl) (vB (dT c9)) ?_
    obtain ⟨t26ab, t26ao, rfl, h⟩ := h
    refine KR.run 6 [(3, .slice t3a t3n t3k), (26, .slice (some ⟨t26ab, t26ao, none⟩) t26n t26k), (27, .int .i64 t27), (28, .int .i64 t28), (30, .int .i64 t28)] 45 (s' := (.reg (opsAt (sub B [1, 1, 1, 1, 1, 0, 1, 0, 0, 1, 1, 0, 0, 0])) [1, 2, 3, 4] :: S13)) (by kernel_rfl) fun J => ?_
    obtain ⟨q10, q10x, h⟩ := h
    refine KR.p (one_ix 1 t26ab t26ao (by kernel_rfl) q10 q10x) ?_
    obtain ⟨t32, q11, h⟩ := h
    refine KR.rd (one_ld (by kernel_rfl) q11) ?_
    obtain ⟨t3ab, t3ao, rfl, h⟩ := h
    refine KR.run 11 [(3, .slice (some ⟨t3ab, t3ao, none⟩) t3n t3k), (5, .int .i64 t32), (26, .slice (some ⟨t26ab, t26ao, none⟩) t26n t26k), (27, .int .i64 t27), (28, .int .i64 t28), (33, .slice (some ⟨t3ab, t3ao, none⟩) t3n t3k), (38, .int .i64 (IntKind.wrap .i64 ((IntKind.wrap .i64 (((t3n : Nat) : Int) - 1)) - t28)))] 45 (s' := (.reg (opsAt (sub B [1, 1, 1, 1, 1, 0, 1, 0, 0, 1, 1, 0, 0, 1, 0])) [6, 7, 8, 9] :: S14)) (by kernel_rfl) fun J => ?_
    obtain ⟨q12, q12x, h⟩ := h
    refine KR.p (one_ix 1 t3ab t3ao (by kernel_rfl) q12 q12x) ?_
    obtain ⟨t40, q13, h⟩ := h
    refine KR.rd (one_ld (by kernel_rfl) q13) ?_
    refine KR.run 3 [(3, .slice (some ⟨t3ab, t3ao, none⟩) t3n t3k), (26, .slice (some ⟨t26ab, t26ao, none⟩) t26n t26k), (27, .int .i64 t27), (28, .int .i64 t28), (42, .bool (!(t40 == t32)))] 45 (s' := (.code (sub B [1, 1, 1, 1, 1, 0, 1, 0, 0, 1, 1, 0, 0, 1, 1]) :: S12)) (by kernel_rfl) fun J => ?_
    by_cases c14 : t40 = t32
    · replace h := iteT c14 h
      refine KR.br false (by kernel_rfl) (vB (nB (eT c14))) ?_
      exact KR.run 6 [(3, .slice (some ⟨t3ab, t3ao, none⟩) t3n t3k), (26, .slice (some ⟨t26ab, t26ao, none⟩) t26n t26k), (27, .int .i64 t27), (28, .int .i64 (IntKind.wrap .i64 (t28 + 1)))] 45 (s' := (.lp (sub B [1, 1, 1, 1, 1, 0, 1, 0, 0]) :: S7)) (by kernel_rfl) h
    · replace h := iteF c14 h
      refine KR.br true (by kernel_rfl) (vB (nB (eF c14))) ?_
      refine KR.run 4 [(2, .bool false)] 45 (s' := (.code (sub B [1, 1, 1, 1, 1, 0, 1, 0, 0, 1, 1, 0, 0, 1, 1, 0, 1]) :: S12)) (by kernel_rfl) fun J => ?_
      exact KR.fin (by kernel_rfl) h
  · replace h := iteF c9 h
    refine KR.br false (by kernel_rfl) (vB (dF c9)) ?_
    refine KR.run 3 [] 45 (s' := (.reg (opsAt (sub B [1, 1, 1, 1, 1, 1, 0])) [0, 1] :: S15)) (by kernel_rfl) fun J => ?_
    obtain ⟨t44, H_1, q15, h⟩ := h
    refine KR.se (one_ca (by kernel_rfl) q15) ?_
    refine KR.run 2 [(2, .bool t44)] 45 (s' := (.code (sub B [1, 1, 1, 1, 1, 1, 1]) :: [])) (by kernel_rfl) fun J => ?_
    exact KR.fin (by kernel_rfl) h
theorem call {a0a : Option Addr} {a0n : Nat} {a0k : Nat} {H : Heap} {r : Value × Heap} (h :
    if ((a0n : Nat) : Int) > 60 then
    (∃ (t9 : Bool) (H_1 : Heap), xC Try.prog good 20 [] H = some (.bool t9, H_1) ∧
    (r = (.bool t9, H_1)))
    else
    (∃ (t11a : Option Addr) (t11n : Nat) (t11k : Nat) (H_2 : Heap), xC Try.prog good 21 [.slice a0a a0n a0k] H = some (.slice t11a t11n t11k, H_2) ∧
    (∃ (t13 : Bool) (H_3 : Heap), xC Try.prog good 22 [.slice a0a a0n a0k] H_2 = some (.bool t13, H_3) ∧
    (if t13 = true then
    (if ((t11n : Nat) : Int) = ((a0n : Nat) : Int) then
    (L0 (t11a) (t11n) (t11k) (a0a) (a0n) (a0k) (((a0n : Nat) : Int)) 0 H_3 r)
    else
    (r = (.bool false, H_3)))
    else
    (if ((t11n : Nat) : Int) = 0 then
    (∃ (t19 : Bool) (H_4 : Heap), xC Try.prog good 20 [] H_3 = some (.bool t19, H_4) ∧
    (r = (.bool t19, H_4)))
    else
    (r = (.bool false, H_3))))))) :
    xC Try.prog good 4 [.slice a0a a0n a0k] H = some r := by
  refine KR.enter (fn := Try.f4) (c := B) (by kernel_rfl) (by kernel_rfl) ?_
  refine KR.run 11 [(0, .slice a0a a0n a0k), (8, .bool (decide (((a0n : Nat) : Int) > 60)))] 45 (s' := (.code (sub B [1, 0, 1]) :: S0)) (by kernel_rfl) fun J => ?_
  by_cases c1 : ((a0n : Nat) : Int) > 60
  · replace h := iteT c1 h
    refine KR.br true (by kernel_rfl) (vB (dT c1)) ?_
    refine KR.run 2 [] 45 (s' := (.reg (opsAt (sub B [1, 0, 1, 0, 0])) [0, 1] :: S1)) (by kernel_rfl) fun J => ?_
    obtain ⟨t9, H_1, q2, h⟩ := h
    refine KR.se (one_ca (by kernel_rfl) q2) ?_
    refine KR.run 2 [(2, .bool t9)] 45 (s' := (.code (sub B [1, 0, 1, 0, 1]) :: S0)) (by kernel_rfl) fun J => ?_
    exact KR.fin (by kernel_rfl) h
  · replace h := iteF c1 h
    refine KR.br false (by kernel_rfl) (vB (dF c1)) ?_
    refine KR.run 4 [(0, .slice a0a a0n a0k), (10, .slice a0a a0n a0k)] 45 (s' := (.reg (opsAt (sub B [1, 1, 0])) [1, 2] :: S2)) (by kernel_rfl) fun J => ?_
    obtain ⟨t11a, t11n, t11k, H_2, q3, h⟩ := h
    refine KR.se (one_ca (by kernel_rfl) q3) ?_
    refine KR.run 6 [(0, .slice a0a a0n a0k), (3, .slice t11a t11n t11k), (12, .slice a0a a0n a0k)] 45 (s' := (.reg (opsAt (sub B [1, 1, 1, 0, 0])) [1, 2] :: S4)) (by kernel_rfl) fun J => ?_
    obtain ⟨t13, H_3, q4, h⟩ := h
    refine KR.se (one_ca (by kernel_rfl) q4) ?_
    refine KR.run 2 [(0, .slice a0a a0n a0k), (3, .slice t11a t11n t11k), (14, .bool (!t13))] 45 (s' := (.code (sub B [1, 1, 1, 0, 1]) :: S3)) (by kernel_rfl) fun J => ?_
    by_cases c5 : t13 = true
    · replace h := iteT c5 h
      refine KR.br false (by kernel_rfl) (vB (nB (bT c5))) ?_
      refine KR.run 10 [(0, .slice a0a a0n a0k), (3, .slice t11a t11n t11k), (25, .bool (!(((t11n : Nat) : Int) == ((a0n : Nat) : Int))))] 45 (s' := (.code (sub B [1, 1, 1, 1, 0, 1]) :: S5)) (by kernel_rfl) fun J => ?_
      by_cases c6 : ((t11n : Nat) : Int) = ((a0n : Nat) : Int)
      · replace h := iteT c6 h
        refine KR.br false (by kernel_rfl) (vB (nB (eT c6))) ?_
        exact KR.run 10 [(3, .slice t11a t11n t11k), (26, .slice a0a a0n a0k), (27, .int .i64 ((a0n : Nat) : Int)), (28, .int .i64 0)] 45 (s' := (.lp (sub B [1, 1, 1, 1, 1, 0, 1, 0, 0]) :: S7)) (by kernel_rfl) h
      · replace h := iteF c6 h
        refine KR.br true (by kernel_rfl) (vB (nB (eF c6))) ?_
        refine KR.run 4 [(2, .bool false)] 45 (s' := (.code (sub B [1, 1, 1, 1, 0, 1, 0, 1]) :: S5)) (by kernel_rfl) fun J => ?_
        exact KR.fin (by kernel_rfl) h
    · replace h := iteF c5 h
      refine KR.br true (by kernel_rfl) (vB (nB (bF c5))) ?_
      refine KR.run 6 [(18, .bool (((t11n : Nat) : Int) == 0))] 45 (s' := (.reg (opsAt (sub B [1, 1, 1, 0, 1, 0, 0])) [4, 5, 6] :: S8)) (by kernel_rfl) fun J => ?_
      by_cases c7 : ((t11n : Nat) : Int) = 0
      · replace h := iteT c7 h
        refine KR.setV 18 (by kernel_rfl) (eT c7) ?_
        obtain ⟨t19, H_4, q8, h⟩ := h
        refine KR.se (one_ca (by kernel_rfl) q8) ?_
        refine KR.run 3 [(2, .bool t19)] 45 (s' := (.code (sub B [1, 1, 1, 0, 1, 0, 1]) :: S3)) (by kernel_rfl) fun J => ?_
        exact KR.fin (by kernel_rfl) h
      · replace h := iteF c7 h
        refine KR.setV 18 (by kernel_rfl) (eF c7) ?_
        refine KR.run 4 [(2, .bool false)] 45 (s' := (.code (sub B [1, 1, 1, 0, 1, 0, 1]) :: S3)) (by kernel_rfl) fun J => ?_
        exact KR.fin (by kernel_rfl) h
end F4
/-! #### 6 campanile/campanilelaw19.RouteLife -/
namespace F6
noncomputable def B : Code := bodyOf Try.f6
noncomputable def S0 : List It := (.code (sub B [1]) :: [])
noncomputable def S1 : List It := (.code (sub B [1, 1]) :: [])
noncomputable def S4 : List It := (.code (sub B [1, 1, 1]) :: [])
noncomputable def S5 : List It := (.code (sub B [1, 1, 1, 1]) :: [])
noncomputable def S6 : List It := (.code (sub B [1, 1, 1, 1, 1]) :: [])
noncomputable def S9 : List It := (.code (sub B [1, 1, 1, 1, 1, 1]) :: [])
noncomputable def S11 : List It := (.code (sub B [1, 1, 1, 1, 1, 1, 1]) :: [])
noncomputable def S13 : List It := (.code (sub B [1, 1, 1, 1, 1, 1, 1, 1]) :: [])
noncomputable def S14 : List It := (.code (sub B [1, 1, 1, 1, 1, 1, 1, 1, 1]) :: [])
noncomputable def S2 : List It := (.code (sub B [1, 0, 1]) :: S1)
noncomputable def S3 : List It := (.code (sub B [1, 0, 1, 0, 1]) :: S1)
noncomputable def S7 : List It := (.code (sub B [1, 1, 1, 1, 0, 1]) :: S6)
noncomputable def S8 : List It := (.code (sub B [1, 1, 1, 1, 0, 1, 0, 1]) :: S6)
noncomputable def S10 : List It := (.code (sub B [1, 1, 1, 1, 1, 0, 1]) :: S9)
noncomputable def S12 : List It := (.code (sub B [1, 1, 1, 1, 1, 1, 0, 1]) :: S11)
def L0 (t1 : Int) (t2b : Nat) (t2o : Nat) (t26 : Bool) (H : Heap) (r : Value × Heap) : Prop := ∀ J, KR Try.prog good Try.f6 S2 (mat J 180 [(1, .int .i64 t1), (2, .pointer (some ⟨t2b, t2o, none⟩)), (26, .bool t26)]) H r
def L1 (t1 : Int) (t2b : Nat) (t2o : Nat) (t6 : Int) (t7b : Nat) (t7o : Nat) (t8 : Int) (t9 : Int) (t109 : Bool) (H : Heap) (r : Value × Heap) : Prop := ∀ J, KR Try.prog good Try.f6 S10 (mat J 180 [(1, .int .i64 t1), (2, .pointer (some ⟨t2b, t2o, none⟩)), (6, .int .i64 t6), (7, .pointer (some ⟨t7b, t7o, none⟩)), (8, .int .i64 t8), (9, .int .i64 t9), (109, .bool t109)]) H r
def L2 (t1 : Int) (t2b : Nat) (t2o : Nat) (t6 : Int) (t9 : Int) (t146 : Bool) (H : Heap) (r : Value × Heap) : Prop := ∀ J, KR Try.prog good Try.f6 S12 (mat J 180 [(1, .int .i64 t1), (2, .pointer (some ⟨t2b, t2o, none⟩)), (6, .int .i64 t6), (9, .int .i64 t9), (146, .bool t146)]) H r
theorem L0_step {t1 : Int} {t2b : Nat} {t2o : Nat} {t26 : Bool} {H : Heap} {r : Value × Heap} (h :
    if t26 = true then
    (∃ (t27 : Bool) (H_1 : Heap), xC Try.prog good 20 [] H = some (.bool t27, H_1) ∧
    (r = (.bool t27, H_1)))
    else
    (∃ (t29c0 : Int) (t29c1 : Int) (t29c2 : Int) (t29c3 : Int) (t29c4a : Option Addr) (t29c4n : Nat) (t29c4k : Nat) (t29c5a : Option Addr) (t29c5n : Nat) (t29c5k : Nat), ldAll H t2b t2o [.int .i64 t29c0, .int .i64 t29c1, .int .i64 t29c2, .int .i64 t29c3, .slice t29c4a t29c4n t29c4k, .slice t29c5a t29c5n t29c5k] ∧
    (∃ (t31r0c0 : Int) (t31r0c1 : Int) (t31r0c2 : Int) (t31r0c3 : Int) (t31r0c4a : Option Addr) (t31r0c4n : Nat) (t31r0c4k : Nat) (t31r0c5a : Option Addr) (t31r0c5n : Nat) (t31r0c5k : Nat) (t31r1 : Int) (H_2 : Heap), xC Try.prog good 24 [.agg #[.int .i64 t29c0, .int .i64 t29c1, .int .i64 t29c2, .int .i64 t29c3, .slice t29c4a t29c4n t29c4k, .slice t29c5a t29c5n t29c5k], .int .i64 t1] H = some (.tuple #[.agg #[.int .i64 t31r0c0, .int .i64 t31r0c1, .int .i64 t31r0c2, .int .i64 t31r0c3, .slice t31r0c4a t31r0c4n t31r0c4k, .slice t31r0c5a t31r0c5n t31r0c5k], .int .i64 t31r1], H_2) ∧
    (∃ (H_3 : Heap), H_3 = H_2.push (.row [.int .i64 0, .int .i64 0, .int .i64 0, .int .i64 0, .slice none 0 0, .slice none 0 0] true) ∧
    (∃ (H_4 : Heap), stc H_3 H_2.next 0 [.int .i64 t31r0c0, .int .i64 t31r0c1, .int .i64 t31r0c2, .int .i64 t31r0c3, .slice t31r0c4a t31r0c4n t31r0c4k, .slice t31r0c5a t31r0c5n t31r0c5k] = some H_4 ∧
    (∃ (t35c0 : Int) (t35c1 : Int) (t35c2 : Int) (t35c3 : Int) (t35c4a : Option Addr) (t35c4n : Nat) (t35c4k : Nat) (t35c5a : Option Addr) (t35c5n : Nat) (t35c5k : Nat), ldAll H_4 t2b t2o [.int .i64 t35c0, .int .i64 t35c1, .int .i64 t35c2, .int .i64 t35c3, .slice t35c4a t35c4n t35c4k, .slice t35c5a t35c5n t35c5k] ∧
    (∃ (t37r0c0 : Int) (t37r0c1 : Int) (t37r0c2 : Int) (t37r0c3 : Int) (t37r0c4a : Option Addr) (t37r0c4n : Nat) (t37r0c4k : Nat) (t37r0c5a : Option Addr) (t37r0c5n : Nat) (t37r0c5k : Nat) (t37r1 : Int) (t37r2 : Int) (H_5 : Heap), xC Try.prog good 26 [.agg #[.int .i64 t35c0, .int .i64 t35c1, .int .i64 t35c2, .int .i64 t35c3, .slice t35c4a t35c4n t35c4k, .slice t35c5a t35c5n t35c5k], .int .i64 t1] H_4 = some (.tuple #[.agg #[.int .i64 t37r0c0, .int .i64 t37r0c1, .int .i64 t37r0c2, .int .i64 t37r0c3, .slice t37r0c4a t37r0c4n t37r0c4k, .slice t37r0c5a t37r0c5n t37r0c5k], .int .i64 t37r1, .int .i64 t37r2], H_5) ∧
    (∃ (H_6 : Heap), H_6 = H_5.push (.row [.int .i64 0, .int .i64 0, .int .i64 0, .int .i64 0, .slice none 0 0, .slice none 0 0] true) ∧
    (∃ (H_7 : Heap), stc H_6 H_5.next 0 [.int .i64 t37r0c0, .int .i64 t37r0c1, .int .i64 t37r0c2, .int .i64 t37r0c3, .slice t37r0c4a t37r0c4n t37r0c4k, .slice t37r0c5a t37r0c5n t37r0c5k] = some H_7 ∧
    (∃ (t42 : Int), ldc H_7 t2b (t2o + 3) = some (.int .i64 t42) ∧
    (if t42 = 0 then
    (if t31r1 = 11 then
    (if t37r2 = 11 then
    (∃ (t51 : Bool) (H_8 : Heap), xC Try.prog good 20 [] H_7 = some (.bool t51, H_8) ∧
    (r = (.bool t51, H_8)))
    else
    (r = (.bool false, H_7)))
    else
    (r = (.bool false, H_7)))
    else
    (if t31r1 = 0 then
    (∃ (t57 : Int), ldc H_7 H_2.next 3 = some (.int .i64 t57) ∧
    (∃ (t59 : Int), ldc H_7 t2b (t2o + 3) = some (.int .i64 t59) ∧
    (if t57 = (IntKind.wrap .i64 (t59 - 1)) then
    (∃ (t64 : Int), ldc H_7 H_2.next 0 = some (.int .i64 t64) ∧
    (∃ (t66 : Int), ldc H_7 t2b t2o = some (.int .i64 t66) ∧
    (if t64 = t66 then
    (∃ (t71 : Int), ldc H_7 H_2.next 1 = some (.int .i64 t71) ∧
    (∃ (t73 : Int), ldc H_7 t2b (t2o + 1) = some (.int .i64 t73) ∧
    (if t71 = t73 then
    (∃ (t78 : Int), ldc H_7 H_2.next 2 = some (.int .i64 t78) ∧
    (∃ (t80 : Int), ldc H_7 t2b (t2o + 2) = some (.int .i64 t80) ∧
    (if t78 = t80 then
    (∃ (t85a : Option Addr) (t85n : Nat) (t85k : Nat), ldc H_7 H_2.next 5 = some (.slice t85a t85n t85k) ∧
    (∃ (t86 : ByteArray), pstrb H_7 t85a t85n = some t86 ∧
    (∃ (t88a : Option Addr) (t88n : Nat) (t88k : Nat), ldc H_7 t2b (t2o + 5) = some (.slice t88a t88n t88k) ∧
    (∃ (t89 : ByteArray), pstrb H_7 t88a t88n = some t89 ∧
    (if t86.toList = t89.toList then
    (∃ (t94a : Option Addr) (t94n : Nat) (t94k : Nat), ldc H_7 H_2.next 4 = some (.slice t94a t94n t94k) ∧
    (∃ (t96 : Int) (H_9 : Heap), xC Try.prog good 23 [.slice t94a t94n t94k, .int .i64 t1] H_7 = some (.int .i64 t96, H_9) ∧
    (if t96 < 0 then
    (L1 (t1) (t2b) (t2o) (t31r1) (H_5.next) (0) (t37r1) (t37r2) (true) H_9 r)
    else
    (∃ (t101a : Option Addr) (t101n : Nat) (t101k : Nat), ldc H_9 H_2.next 4 = some (.slice t101a t101n t101k) ∧
    (∃ (t104a : Option Addr) (t104n : Nat) (t104k : Nat), ldc H_9 t2b (t2o + 4) = some (.slice t104a t104n t104k) ∧
    (L1 (t1) (t2b) (t2o) (t31r1) (H_5.next) (0) (t37r1) (t37r2) ((decide (((t101n : Nat) : Int) > (IntKind.wrap .i64 (((t104n : Nat) : Int) + 1))))) H_9 r))))))
    else
    (L1 (t1) (t2b) (t2o) (t31r1) (H_5.next) (0) (t37r1) (t37r2) (true) H_7 r))))))
    else
    (L1 (t1) (t2b) (t2o) (t31r1) (H_5.next) (0) (t37r1) (t37r2) (true) H_7 r))))
    else
    (L1 (t1) (t2b) (t2o) (t31r1) (H_5.next) (0) (t37r1) (t37r2) (true) H_7 r))))
    else
    (L1 (t1) (t2b) (t2o) (t31r1) (H_5.next) (0) (t37r1) (t37r2) (true) H_7 r))))
    else
    (L1 (t1) (t2b) (t2o) (t31r1) (H_5.next) (0) (t37r1) (t37r2) (true) H_7 r))))
    else
    (L1 (t1) (t2b) (t2o) (t31r1) (H_5.next) (0) (t37r1) (t37r2) (false) H_7 r))))))))))))) :
    L0 t1 t2b t2o t26 H r := by
  intro J
  show KR _ _ _ (.code (sub B [1, 0, 1]) :: S1) _ _ _
  by_cases c9 : t26 = true
  · replace h := iteT c9 h
    refine KR.br true (by kernel_rfl) (vB (bT c9)) ?_
    refine KR.run 2 [] 180 (s' := (.reg (opsAt (sub B [1, 0, 1, 0, 0])) [0, 1] :: S3)) (by kernel_rfl) fun J => ?_
    obtain ⟨t27, H_1, q10, h⟩ := h
    refine KR.se (one_ca (by kernel_rfl) q10) ?_
    refine KR.run 2 [(4, .bool t27)] 180 (s' := (.code (sub B [1, 0, 1, 0, 1]) :: S1)) (by kernel_rfl) fun J => ?_
    exact KR.fin (by kernel_rfl) h
  · replace h := iteF c9 h
    refine KR.br false (by kernel_rfl) (vB (bF c9)) ?_
    refine KR.run 3 [(1, .int .i64 t1), (2, .pointer (some ⟨t2b, t2o, none⟩))] 180 (s' := (.reg (opsAt (sub B [1, 1, 0])) [0, 1, 2, 3, 4, 5, 6, 7, 8] :: S4)) (by kernel_rfl) fun J => ?_
    obtain ⟨t29c0, t29c1, t29c2, t29c3, t29c4a, t29c4n, t29c4k, t29c5a, t29c5n, t29c5k, q11, h⟩ := h
    refine KR.rd (one_ldA (by kernel_rfl) q11) ?_
    refine KR.run 1 [(1, .int .i64 t1), (2, .pointer (some ⟨t2b, t2o, none⟩)), (29, .agg #[.int .i64 t29c0, .int .i64 t29c1, .int .i64 t29c2, .int .i64 t29c3, .slice t29c4a t29c4n t29c4k, .slice t29c5a t29c5n t29c5k]), (30, .int .i64 t1)] 180 (s' := (.reg (opsAt (sub B [1, 1, 0])) [2, 3, 4, 5, 6, 7, 8] :: S4)) (by kernel_rfl) fun J => ?_
    obtain ⟨t31r0c0, t31r0c1, t31r0c2, t31r0c3, t31r0c4a, t31r0c4n, t31r0c4k, t31r0c5a, t31r0c5n, t31r0c5k, t31r1, H_2, q12, h⟩ := h
    refine KR.se (one_ca (by kernel_rfl) q12) ?_
    refine KR.run 3 [(1, .int .i64 t1), (2, .pointer (some ⟨t2b, t2o, none⟩)), (32, .agg #[.int .i64 t31r0c0, .int .i64 t31r0c1, .int .i64 t31r0c2, .int .i64 t31r0c3, .slice t31r0c4a t31r0c4n t31r0c4k, .slice t31r0c5a t31r0c5n t31r0c5k]), (33, .int .i64 t31r1)] 180 (s' := (.reg (opsAt (sub B [1, 1, 0])) [6, 7, 8] :: S4)) (by kernel_rfl) fun J => ?_
    obtain ⟨H_3, q13, h⟩ := h
    refine KR.mk (w := pRow [.int .i64 0, .int .i64 0, .int .i64 0, .int .i64 0, .slice none 0 0, .slice none 0 0]) (one_al (by kernel_rfl)) q13 ?_
    obtain ⟨H_4, q14, h⟩ := h
    refine KR.se (one_st (by kernel_rfl) q14) ?_
    refine KR.run 4 [(1, .int .i64 t1), (2, .pointer (some ⟨t2b, t2o, none⟩)), (5, .pointer (some ⟨H_2.next, 0, none⟩)), (6, .int .i64 t31r1)] 180 (s' := (.reg (opsAt (sub B [1, 1, 1, 0])) [0, 1, 2, 3, 4, 5, 6, 7, 8, 9, 10] :: S5)) (by kernel_rfl) fun J => ?_
    obtain ⟨t35c0, t35c1, t35c2, t35c3, t35c4a, t35c4n, t35c4k, t35c5a, t35c5n, t35c5k, q15, h⟩ := h
    refine KR.rd (one_ldA (by kernel_rfl) q15) ?_
    refine KR.run 1 [(1, .int .i64 t1), (2, .pointer (some ⟨t2b, t2o, none⟩)), (5, .pointer (some ⟨H_2.next, 0, none⟩)), (6, .int .i64 t31r1), (35, .agg #[.int .i64 t35c0, .int .i64 t35c1, .int .i64 t35c2, .int .i64 t35c3, .slice t35c4a t35c4n t35c4k, .slice t35c5a t35c5n t35c5k]), (36, .int .i64 t1)] 180 (s' := (.reg (opsAt (sub B [1, 1, 1, 0])) [2, 3, 4, 5, 6, 7, 8, 9, 10] :: S5)) (by kernel_rfl) fun J => ?_
    obtain ⟨t37r0c0, t37r0c1, t37r0c2, t37r0c3, t37r0c4a, t37r0c4n, t37r0c4k, t37r0c5a, t37r0c5n, t37r0c5k, t37r1, t37r2, H_5, q16, h⟩ := h
    refine KR.se (one_ca (by kernel_rfl) q16) ?_
    refine KR.run 4 [(1, .int .i64 t1), (2, .pointer (some ⟨t2b, t2o, none⟩)), (5, .pointer (some ⟨H_2.next, 0, none⟩)), (6, .int .i64 t31r1), (38, .agg #[.int .i64 t37r0c0, .int .i64 t37r0c1, .int .i64 t37r0c2, .int .i64 t37r0c3, .slice t37r0c4a t37r0c4n t37r0c4k, .slice t37r0c5a t37r0c5n t37r0c5k]), (39, .int .i64 t37r1), (40, .int .i64 t37r2)] 180 (s' := (.reg (opsAt (sub B [1, 1, 1, 0])) [7, 8, 9, 10] :: S5)) (by kernel_rfl) fun J => ?_
    obtain ⟨H_6, q17, h⟩ := h
    refine KR.mk (w := pRow [.int .i64 0, .int .i64 0, .int .i64 0, .int .i64 0, .slice none 0 0, .slice none 0 0]) (one_al (by kernel_rfl)) q17 ?_
    obtain ⟨H_7, q18, h⟩ := h
    refine KR.se (one_st (by kernel_rfl) q18) ?_
    refine KR.run 7 [(1, .int .i64 t1), (2, .pointer (some ⟨t2b, t2o, none⟩)), (5, .pointer (some ⟨H_2.next, 0, none⟩)), (6, .int .i64 t31r1), (7, .pointer (some ⟨H_5.next, 0, none⟩)), (8, .int .i64 t37r1), (9, .int .i64 t37r2), (41, .pointer (some ⟨t2b, (t2o + 3), none⟩))] 180 (s' := (.reg (opsAt (sub B [1, 1, 1, 1, 0, 0])) [1, 2] :: S7)) (by kernel_rfl) fun J => ?_
    obtain ⟨t42, q19, h⟩ := h
    refine KR.rd (one_ld (by kernel_rfl) q19) ?_
    refine KR.run 2 [(1, .int .i64 t1), (2, .pointer (some ⟨t2b, t2o, none⟩)), (5, .pointer (some ⟨H_2.next, 0, none⟩)), (6, .int .i64 t31r1), (7, .pointer (some ⟨H_5.next, 0, none⟩)), (8, .int .i64 t37r1), (9, .int .i64 t37r2), (43, .bool (t42 == 0))] 180 (s' := (.code (sub B [1, 1, 1, 1, 0, 1]) :: S6)) (by kernel_rfl) fun J => ?_
    by_cases c20 : t42 = 0
    · replace h := iteT c20 h
      refine KR.br true (by kernel_rfl) (vB (eT c20)) ?_
      refine KR.run 5 [(9, .int .i64 t37r2), (46, .bool (t31r1 == 11))] 180 (s' := (.reg (opsAt (sub B [1, 1, 1, 1, 0, 1, 0, 0])) [3, 4, 5, 6, 7, 8, 9] :: S8)) (by kernel_rfl) fun J => ?_
      by_cases c21 : t31r1 = 11
      · replace h := iteT c21 h
        refine KR.setV 46 (by kernel_rfl) (eT c21) ?_
        refine KR.run 4 [(50, .bool (t37r2 == 11))] 180 (s' := (.reg (opsAt (sub B [1, 1, 1, 1, 0, 1, 0, 0])) [7, 8, 9] :: S8)) (by kernel_rfl) fun J => ?_
        by_cases c22 : t37r2 = 11
        · replace h := iteT c22 h
          refine KR.setV 50 (by kernel_rfl) (eT c22) ?_
          obtain ⟨t51, H_8, q23, h⟩ := h
          refine KR.se (one_ca (by kernel_rfl) q23) ?_
          refine KR.run 3 [(4, .bool t51)] 180 (s' := (.code (sub B [1, 1, 1, 1, 0, 1, 0, 1]) :: S6)) (by kernel_rfl) fun J => ?_
          exact KR.fin (by kernel_rfl) h
        · replace h := iteF c22 h
          refine KR.setV 50 (by kernel_rfl) (eF c22) ?_
          refine KR.run 4 [(4, .bool false)] 180 (s' := (.code (sub B [1, 1, 1, 1, 0, 1, 0, 1]) :: S6)) (by kernel_rfl) fun J => ?_
          exact KR.fin (by kernel_rfl) h
      · replace h := iteF c21 h
        refine KR.setV 46 (by kernel_rfl) (eF c21) ?_
        refine KR.run 8 [(4, .bool false)] 180 (s' := (.code (sub B [1, 1, 1, 1, 0, 1, 0, 1]) :: S6)) (by kernel_rfl) fun J => ?_
        exact KR.fin (by kernel_rfl) h
    · replace h := iteF c20 h
      refine KR.br false (by kernel_rfl) (vB (eF c20)) ?_
      refine KR.run 7 [(1, .int .i64 t1), (2, .pointer (some ⟨t2b, t2o, none⟩)), (5, .pointer (some ⟨H_2.next, 0, none⟩)), (6, .int .i64 t31r1), (7, .pointer (some ⟨H_5.next, 0, none⟩)), (8, .int .i64 t37r1), (9, .int .i64 t37r2), (55, .bool (t31r1 == 0))] 180 (s' := (.reg (opsAt (sub B [1, 1, 1, 1, 1, 0, 0])) [3, 4, 5, 6, 7, 8, 9, 10, 11, 12, 13, 14, 15, 16, 17, 18, 19, 20, 21, 22, 23, 24, 25, 26, 27, 28, 29, 30, 31, 32, 33, 34, 35, 36, 37, 38, 39, 40, 41, 42, 43, 44, 45, 46, 47, 48, 49, 50, 51, 52, 53, 54, 55, 56] :: S10)) (by kernel_rfl) fun J => ?_
      by_cases c24 : t31r1 = 0
      · replace h := iteT c24 h
        refine KR.setV 55 (by kernel_rfl) (eT c24) ?_
        refine KR.run 1 [(1, .int .i64 t1), (2, .pointer (some ⟨t2b, t2o, none⟩)), (5, .pointer (some ⟨H_2.next, 0, none⟩)), (6, .int .i64 t31r1), (7, .pointer (some ⟨H_5.next, 0, none⟩)), (8, .int .i64 t37r1), (9, .int .i64 t37r2), (55, .bool true), (56, .pointer (some ⟨H_2.next, 3, none⟩))] 180 (s' := (.reg (opsAt (sub B [1, 1, 1, 1, 1, 0, 0])) [4, 5, 6, 7, 8, 9, 10, 11, 12, 13, 14, 15, 16, 17, 18, 19, 20, 21, 22, 23, 24, 25, 26, 27, 28, 29, 30, 31, 32, 33, 34, 35, 36, 37, 38, 39, 40, 41, 42, 43, 44, 45, 46, 47, 48, 49, 50, 51, 52, 53, 54, 55, 56] :: S10)) (by kernel_rfl) fun J => ?_
        obtain ⟨t57, q25, h⟩ := h
        refine KR.rd (one_ld (by kernel_rfl) q25) ?_
        refine KR.run 1 [(1, .int .i64 t1), (2, .pointer (some ⟨t2b, t2o, none⟩)), (5, .pointer (some ⟨H_2.next, 0, none⟩)), (6, .int .i64 t31r1), (7, .pointer (some ⟨H_5.next, 0, none⟩)), (8, .int .i64 t37r1), (9, .int .i64 t37r2), (55, .bool true), (57, .int .i64 t57), (58, .pointer (some ⟨t2b, (t2o + 3), none⟩))] 180 (s' := (.reg (opsAt (sub B [1, 1, 1, 1, 1, 0, 0])) [6, 7, 8, 9, 10, 11, 12, 13, 14, 15, 16, 17, 18, 19, 20, 21, 22, 23, 24, 25, 26, 27, 28, 29, 30, 31, 32, 33, 34, 35, 36, 37, 38, 39, 40, 41, 42, 43, 44, 45, 46, 47, 48, 49, 50, 51, 52, 53, 54, 55, 56] :: S10)) (by kernel_rfl) fun J => ?_
        obtain ⟨t59, q26, h⟩ := h
        refine KR.rd (one_ld (by kernel_rfl) q26) ?_
        refine KR.run 3 [(1, .int .i64 t1), (2, .pointer (some ⟨t2b, t2o, none⟩)), (5, .pointer (some ⟨H_2.next, 0, none⟩)), (6, .int .i64 t31r1), (7, .pointer (some ⟨H_5.next, 0, none⟩)), (8, .int .i64 t37r1), (9, .int .i64 t37r2), (55, .bool true), (62, .bool (!(t57 == (IntKind.wrap .i64 (t59 - 1)))))] 180 (s' := (.reg (opsAt (sub B [1, 1, 1, 1, 1, 0, 0])) [10, 11, 12, 13, 14, 15, 16, 17, 18, 19, 20, 21, 22, 23, 24, 25, 26, 27, 28, 29, 30, 31, 32, 33, 34, 35, 36, 37, 38, 39, 40, 41, 42, 43, 44, 45, 46, 47, 48, 49, 50, 51, 52, 53, 54, 55, 56] :: S10)) (by kernel_rfl) fun J => ?_
        by_cases c27 : t57 = (IntKind.wrap .i64 (t59 - 1))
        · replace h := iteT c27 h
          refine KR.setV 62 (by kernel_rfl) (nB (eT c27)) ?_
          refine KR.run 1 [(1, .int .i64 t1), (2, .pointer (some ⟨t2b, t2o, none⟩)), (5, .pointer (some ⟨H_2.next, 0, none⟩)), (6, .int .i64 t31r1), (7, .pointer (some ⟨H_5.next, 0, none⟩)), (8, .int .i64 t37r1), (9, .int .i64 t37r2), (55, .bool true), (62, .bool false), (63, .pointer (some ⟨H_2.next, 0, none⟩))] 180 (s' := (.reg (opsAt (sub B [1, 1, 1, 1, 1, 0, 0])) [11, 12, 13, 14, 15, 16, 17, 18, 19, 20, 21, 22, 23, 24, 25, 26, 27, 28, 29, 30, 31, 32, 33, 34, 35, 36, 37, 38, 39, 40, 41, 42, 43, 44, 45, 46, 47, 48, 49, 50, 51, 52, 53, 54, 55, 56] :: S10)) (by kernel_rfl) fun J => ?_
          obtain ⟨t64, q28, h⟩ := h
          refine KR.rd (one_ld (by kernel_rfl) q28) ?_
          refine KR.run 1 [(1, .int .i64 t1), (2, .pointer (some ⟨t2b, t2o, none⟩)), (5, .pointer (some ⟨H_2.next, 0, none⟩)), (6, .int .i64 t31r1), (7, .pointer (some ⟨H_5.next, 0, none⟩)), (8, .int .i64 t37r1), (9, .int .i64 t37r2), (55, .bool true), (62, .bool false), (64, .int .i64 t64), (65, .pointer (some ⟨t2b, t2o, none⟩))] 180 (s' := (.reg (opsAt (sub B [1, 1, 1, 1, 1, 0, 0])) [13, 14, 15, 16, 17, 18, 19, 20, 21, 22, 23, 24, 25, 26, 27, 28, 29, 30, 31, 32, 33, 34, 35, 36, 37, 38, 39, 40, 41, 42, 43, 44, 45, 46, 47, 48, 49, 50, 51, 52, 53, 54, 55, 56] :: S10)) (by kernel_rfl) fun J => ?_
          obtain ⟨t66, q29, h⟩ := h
          refine KR.rd (one_ld (by kernel_rfl) q29) ?_
          refine KR.run 3 [(1, .int .i64 t1), (2, .pointer (some ⟨t2b, t2o, none⟩)), (5, .pointer (some ⟨H_2.next, 0, none⟩)), (6, .int .i64 t31r1), (7, .pointer (some ⟨H_5.next, 0, none⟩)), (8, .int .i64 t37r1), (9, .int .i64 t37r2), (55, .bool true), (69, .bool (!(t64 == t66)))] 180 (s' := (.reg (opsAt (sub B [1, 1, 1, 1, 1, 0, 0])) [17, 18, 19, 20, 21, 22, 23, 24, 25, 26, 27, 28, 29, 30, 31, 32, 33, 34, 35, 36, 37, 38, 39, 40, 41, 42, 43, 44, 45, 46, 47, 48, 49, 50, 51, 52, 53, 54, 55, 56] :: S10)) (by kernel_rfl) fun J => ?_
          by_cases c30 : t64 = t66
          · replace h := iteT c30 h
            refine KR.setV 69 (by kernel_rfl) (nB (eT c30)) ?_
            refine KR.run 1 [(1, .int .i64 t1), (2, .pointer (some ⟨t2b, t2o, none⟩)), (5, .pointer (some ⟨H_2.next, 0, none⟩)), (6, .int .i64 t31r1), (7, .pointer (some ⟨H_5.next, 0, none⟩)), (8, .int .i64 t37r1), (9, .int .i64 t37r2), (55, .bool true), (69, .bool false), (70, .pointer (some ⟨H_2.next, 1, none⟩))] 180 (s' := (.reg (opsAt (sub B [1, 1, 1, 1, 1, 0, 0])) [18, 19, 20, 21, 22, 23, 24, 25, 26, 27, 28, 29, 30, 31, 32, 33, 34, 35, 36, 37, 38, 39, 40, 41, 42, 43, 44, 45, 46, 47, 48, 49, 50, 51, 52, 53, 54, 55, 56] :: S10)) (by kernel_rfl) fun J => ?_
            obtain ⟨t71, q31, h⟩ := h
            refine KR.rd (one_ld (by kernel_rfl) q31) ?_
            refine KR.run 1 [(1, .int .i64 t1), (2, .pointer (some ⟨t2b, t2o, none⟩)), (5, .pointer (some ⟨H_2.next, 0, none⟩)), (6, .int .i64 t31r1), (7, .pointer (some ⟨H_5.next, 0, none⟩)), (8, .int .i64 t37r1), (9, .int .i64 t37r2), (55, .bool true), (69, .bool false), (71, .int .i64 t71), (72, .pointer (some ⟨t2b, (t2o + 1), none⟩))] 180 (s' := (.reg (opsAt (sub B [1, 1, 1, 1, 1, 0, 0])) [20, 21, 22, 23, 24, 25, 26, 27, 28, 29, 30, 31, 32, 33, 34, 35, 36, 37, 38, 39, 40, 41, 42, 43, 44, 45, 46, 47, 48, 49, 50, 51, 52, 53, 54, 55, 56] :: S10)) (by kernel_rfl) fun J => ?_
            obtain ⟨t73, q32, h⟩ := h
            refine KR.rd (one_ld (by kernel_rfl) q32) ?_
            refine KR.run 3 [(1, .int .i64 t1), (2, .pointer (some ⟨t2b, t2o, none⟩)), (5, .pointer (some ⟨H_2.next, 0, none⟩)), (6, .int .i64 t31r1), (7, .pointer (some ⟨H_5.next, 0, none⟩)), (8, .int .i64 t37r1), (9, .int .i64 t37r2), (55, .bool true), (76, .bool (!(t71 == t73)))] 180 (s' := (.reg (opsAt (sub B [1, 1, 1, 1, 1, 0, 0])) [24, 25, 26, 27, 28, 29, 30, 31, 32, 33, 34, 35, 36, 37, 38, 39, 40, 41, 42, 43, 44, 45, 46, 47, 48, 49, 50, 51, 52, 53, 54, 55, 56] :: S10)) (by kernel_rfl) fun J => ?_
            by_cases c33 : t71 = t73
            · replace h := iteT c33 h
              refine KR.setV 76 (by kernel_rfl) (nB (eT c33)) ?_
              refine KR.run 1 [(1, .int .i64 t1), (2, .pointer (some ⟨t2b, t2o, none⟩)), (5, .pointer (some ⟨H_2.next, 0, none⟩)), (6, .int .i64 t31r1), (7, .pointer (some ⟨H_5.next, 0, none⟩)), (8, .int .i64 t37r1), (9, .int .i64 t37r2), (55, .bool true), (76, .bool false), (77, .pointer (some ⟨H_2.next, 2, none⟩))] 180 (s' := (.reg (opsAt (sub B [1, 1, 1, 1, 1, 0, 0])) [25, 26, 27, 28, 29, 30, 31, 32, 33, 34, 35, 36, 37, 38, 39, 40, 41, 42, 43, 44, 45, 46, 47, 48, 49, 50, 51, 52, 53, 54, 55, 56] :: S10)) (by kernel_rfl) fun J => ?_
              obtain ⟨t78, q34, h⟩ := h
              refine KR.rd (one_ld (by kernel_rfl) q34) ?_
              refine KR.run 1 [(1, .int .i64 t1), (2, .pointer (some ⟨t2b, t2o, none⟩)), (5, .pointer (some ⟨H_2.next, 0, none⟩)), (6, .int .i64 t31r1), (7, .pointer (some ⟨H_5.next, 0, none⟩)), (8, .int .i64 t37r1), (9, .int .i64 t37r2), (55, .bool true), (76, .bool false), (78, .int .i64 t78), (79, .pointer (some ⟨t2b, (t2o + 2), none⟩))] 180 (s' := (.reg (opsAt (sub B [1, 1, 1, 1, 1, 0, 0])) [27, 28, 29, 30, 31, 32, 33, 34, 35, 36, 37, 38, 39, 40, 41, 42, 43, 44, 45, 46, 47, 48, 49, 50, 51, 52, 53, 54, 55, 56] :: S10)) (by kernel_rfl) fun J => ?_
              obtain ⟨t80, q35, h⟩ := h
              refine KR.rd (one_ld (by kernel_rfl) q35) ?_
              refine KR.run 3 [(1, .int .i64 t1), (2, .pointer (some ⟨t2b, t2o, none⟩)), (5, .pointer (some ⟨H_2.next, 0, none⟩)), (6, .int .i64 t31r1), (7, .pointer (some ⟨H_5.next, 0, none⟩)), (8, .int .i64 t37r1), (9, .int .i64 t37r2), (55, .bool true), (83, .bool (!(t78 == t80)))] 180 (s' := (.reg (opsAt (sub B [1, 1, 1, 1, 1, 0, 0])) [31, 32, 33, 34, 35, 36, 37, 38, 39, 40, 41, 42, 43, 44, 45, 46, 47, 48, 49, 50, 51, 52, 53, 54, 55, 56] :: S10)) (by kernel_rfl) fun J => ?_
              by_cases c36 : t78 = t80
              · replace h := iteT c36 h
                refine KR.setV 83 (by kernel_rfl) (nB (eT c36)) ?_
                refine KR.run 1 [(1, .int .i64 t1), (2, .pointer (some ⟨t2b, t2o, none⟩)), (5, .pointer (some ⟨H_2.next, 0, none⟩)), (6, .int .i64 t31r1), (7, .pointer (some ⟨H_5.next, 0, none⟩)), (8, .int .i64 t37r1), (9, .int .i64 t37r2), (55, .bool true), (83, .bool false), (84, .pointer (some ⟨H_2.next, 5, none⟩))] 180 (s' := (.reg (opsAt (sub B [1, 1, 1, 1, 1, 0, 0])) [32, 33, 34, 35, 36, 37, 38, 39, 40, 41, 42, 43, 44, 45, 46, 47, 48, 49, 50, 51, 52, 53, 54, 55, 56] :: S10)) (by kernel_rfl) fun J => ?_
                obtain ⟨t85a, t85n, t85k, q37, h⟩ := h
                refine KR.rd (one_ld (by kernel_rfl) q37) ?_
                obtain ⟨t86, q38, h⟩ := h
                refine KR.rd (one_str (by kernel_rfl) q38) ?_
                refine KR.run 1 [(1, .int .i64 t1), (2, .pointer (some ⟨t2b, t2o, none⟩)), (5, .pointer (some ⟨H_2.next, 0, none⟩)), (6, .int .i64 t31r1), (7, .pointer (some ⟨H_5.next, 0, none⟩)), (8, .int .i64 t37r1), (9, .int .i64 t37r2), (55, .bool true), (83, .bool false), (86, .string t86), (87, .pointer (some ⟨t2b, (t2o + 5), none⟩))] 180 (s' := (.reg (opsAt (sub B [1, 1, 1, 1, 1, 0, 0])) [35, 36, 37, 38, 39, 40, 41, 42, 43, 44, 45, 46, 47, 48, 49, 50, 51, 52, 53, 54, 55, 56] :: S10)) (by kernel_rfl) fun J => ?_
                obtain ⟨t88a, t88n, t88k, q39, h⟩ := h
                refine KR.rd (one_ld (by kernel_rfl) q39) ?_
                obtain ⟨t89, q40, h⟩ := h
                refine KR.rd (one_str (by kernel_rfl) q40) ?_
                refine KR.run 3 [(1, .int .i64 t1), (2, .pointer (some ⟨t2b, t2o, none⟩)), (5, .pointer (some ⟨H_2.next, 0, none⟩)), (6, .int .i64 t31r1), (7, .pointer (some ⟨H_5.next, 0, none⟩)), (8, .int .i64 t37r1), (9, .int .i64 t37r2), (55, .bool true), (92, .bool (!(t86.toList == t89.toList)))] 180 (s' := (.reg (opsAt (sub B [1, 1, 1, 1, 1, 0, 0])) [40, 41, 42, 43, 44, 45, 46, 47, 48, 49, 50, 51, 52, 53, 54, 55, 56] :: S10)) (by kernel_rfl) fun J => ?_
                by_cases c41 : t86.toList = t89.toList
                · replace h := iteT c41 h
                  refine KR.setV 92 (by kernel_rfl) (nB (eT c41)) ?_
                  refine KR.run 1 [(1, .int .i64 t1), (2, .pointer (some ⟨t2b, t2o, none⟩)), (5, .pointer (some ⟨H_2.next, 0, none⟩)), (6, .int .i64 t31r1), (7, .pointer (some ⟨H_5.next, 0, none⟩)), (8, .int .i64 t37r1), (9, .int .i64 t37r2), (55, .bool true), (92, .bool false), (93, .pointer (some ⟨H_2.next, 4, none⟩))] 180 (s' := (.reg (opsAt (sub B [1, 1, 1, 1, 1, 0, 0])) [41, 42, 43, 44, 45, 46, 47, 48, 49, 50, 51, 52, 53, 54, 55, 56] :: S10)) (by kernel_rfl) fun J => ?_
                  obtain ⟨t94a, t94n, t94k, q42, h⟩ := h
                  refine KR.rd (one_ld (by kernel_rfl) q42) ?_
                  refine KR.run 1 [(1, .int .i64 t1), (2, .pointer (some ⟨t2b, t2o, none⟩)), (5, .pointer (some ⟨H_2.next, 0, none⟩)), (6, .int .i64 t31r1), (7, .pointer (some ⟨H_5.next, 0, none⟩)), (8, .int .i64 t37r1), (9, .int .i64 t37r2), (55, .bool true), (92, .bool false), (94, .slice t94a t94n t94k), (95, .int .i64 t1)] 180 (s' := (.reg (opsAt (sub B [1, 1, 1, 1, 1, 0, 0])) [43, 44, 45, 46, 47, 48, 49, 50, 51, 52, 53, 54, 55, 56] :: S10)) (by kernel_rfl) fun J => ?_
                  obtain ⟨t96, H_9, q43, h⟩ := h
                  refine KR.se (one_ca (by kernel_rfl) q43) ?_
                  refine KR.run 3 [(1, .int .i64 t1), (2, .pointer (some ⟨t2b, t2o, none⟩)), (5, .pointer (some ⟨H_2.next, 0, none⟩)), (6, .int .i64 t31r1), (7, .pointer (some ⟨H_5.next, 0, none⟩)), (8, .int .i64 t37r1), (9, .int .i64 t37r2), (55, .bool true), (99, .bool (decide (t96 < 0)))] 180 (s' := (.reg (opsAt (sub B [1, 1, 1, 1, 1, 0, 0])) [47, 48, 49, 50, 51, 52, 53, 54, 55, 56] :: S10)) (by kernel_rfl) fun J => ?_
                  by_cases c44 : t96 < 0
                  · replace h := iteT c44 h
                    refine KR.setV 99 (by kernel_rfl) (dT c44) ?_
                    exact KR.run 11 [(1, .int .i64 t1), (2, .pointer (some ⟨t2b, t2o, none⟩)), (6, .int .i64 t31r1), (7, .pointer (some ⟨H_5.next, 0, none⟩)), (8, .int .i64 t37r1), (9, .int .i64 t37r2), (109, .bool true)] 180 (s' := (.code (sub B [1, 1, 1, 1, 1, 0, 1]) :: S9)) (by kernel_rfl) h
                  · replace h := iteF c44 h
                    refine KR.setV 99 (by kernel_rfl) (dF c44) ?_
                    refine KR.run 1 [(1, .int .i64 t1), (2, .pointer (some ⟨t2b, t2o, none⟩)), (6, .int .i64 t31r1), (7, .pointer (some ⟨H_5.next, 0, none⟩)), (8, .int .i64 t37r1), (9, .int .i64 t37r2), (55, .bool true), (99, .bool false), (100, .pointer (some ⟨H_2.next, 4, none⟩))] 180 (s' := (.reg (opsAt (sub B [1, 1, 1, 1, 1, 0, 0])) [48, 49, 50, 51, 52, 53, 54, 55, 56] :: S10)) (by kernel_rfl) fun J => ?_
                    obtain ⟨t101a, t101n, t101k, q45, h⟩ := h
                    refine KR.rd (one_ld (by kernel_rfl) q45) ?_
                    refine KR.run 2 [(1, .int .i64 t1), (2, .pointer (some ⟨t2b, t2o, none⟩)), (6, .int .i64 t31r1), (7, .pointer (some ⟨H_5.next, 0, none⟩)), (8, .int .i64 t37r1), (9, .int .i64 t37r2), (55, .bool true), (99, .bool false), (102, .int .i64 ((t101n : Nat) : Int)), (103, .pointer (some ⟨t2b, (t2o + 4), none⟩))] 180 (s' := (.reg (opsAt (sub B [1, 1, 1, 1, 1, 0, 0])) [51, 52, 53, 54, 55, 56] :: S10)) (by kernel_rfl) fun J => ?_
                    obtain ⟨t104a, t104n, t104k, q46, h⟩ := h
                    refine KR.rd (one_ld (by kernel_rfl) q46) ?_
                    exact KR.run 6 [(1, .int .i64 t1), (2, .pointer (some ⟨t2b, t2o, none⟩)), (6, .int .i64 t31r1), (7, .pointer (some ⟨H_5.next, 0, none⟩)), (8, .int .i64 t37r1), (9, .int .i64 t37r2), (109, .bool (decide (((t101n : Nat) : Int) > (IntKind.wrap .i64 (((t104n : Nat) : Int) + 1)))))] 180 (s' := (.code (sub B [1, 1, 1, 1, 1, 0, 1]) :: S9)) (by kernel_rfl) h
                · replace h := iteF c41 h
                  refine KR.setV 92 (by kernel_rfl) (nB (eF c41)) ?_
                  exact KR.run 18 [(1, .int .i64 t1), (2, .pointer (some ⟨t2b, t2o, none⟩)), (6, .int .i64 t31r1), (7, .pointer (some ⟨H_5.next, 0, none⟩)), (8, .int .i64 t37r1), (9, .int .i64 t37r2), (109, .bool true)] 180 (s' := (.code (sub B [1, 1, 1, 1, 1, 0, 1]) :: S9)) (by kernel_rfl) h
              · replace h := iteF c36 h
                refine KR.setV 83 (by kernel_rfl) (nB (eF c36)) ?_
                exact KR.run 27 [(1, .int .i64 t1), (2, .pointer (some ⟨t2b, t2o, none⟩)), (6, .int .i64 t31r1), (7, .pointer (some ⟨H_5.next, 0, none⟩)), (8, .int .i64 t37r1), (9, .int .i64 t37r2), (109, .bool true)] 180 (s' := (.code (sub B [1, 1, 1, 1, 1, 0, 1]) :: S9)) (by kernel_rfl) h
            · replace h := iteF c33 h
              refine KR.setV 76 (by kernel_rfl) (nB (eF c33)) ?_
              exact KR.run 34 [(1, .int .i64 t1), (2, .pointer (some ⟨t2b, t2o, none⟩)), (6, .int .i64 t31r1), (7, .pointer (some ⟨H_5.next, 0, none⟩)), (8, .int .i64 t37r1), (9, .int .i64 t37r2), (109, .bool true)] 180 (s' := (.code (sub B [1, 1, 1, 1, 1, 0, 1]) :: S9)) (by kernel_rfl) h
          · replace h := iteF c30 h
            refine KR.setV 69 (by kernel_rfl) (nB (eF c30)) ?_
            exact KR.run 41 [(1, .int .i64 t1), (2, .pointer (some ⟨t2b, t2o, none⟩)), (6, .int .i64 t31r1), (7, .pointer (some ⟨H_5.next, 0, none⟩)), (8, .int .i64 t37r1), (9, .int .i64 t37r2), (109, .bool true)] 180 (s' := (.code (sub B [1, 1, 1, 1, 1, 0, 1]) :: S9)) (by kernel_rfl) h
        · replace h := iteF c27 h
          refine KR.setV 62 (by kernel_rfl) (nB (eF c27)) ?_
          exact KR.run 48 [(1, .int .i64 t1), (2, .pointer (some ⟨t2b, t2o, none⟩)), (6, .int .i64 t31r1), (7, .pointer (some ⟨H_5.next, 0, none⟩)), (8, .int .i64 t37r1), (9, .int .i64 t37r2), (109, .bool true)] 180 (s' := (.code (sub B [1, 1, 1, 1, 1, 0, 1]) :: S9)) (by kernel_rfl) h
      · replace h := iteF c24 h
        refine KR.setV 55 (by kernel_rfl) (eF c24) ?_
        exact KR.run 55 [(1, .int .i64 t1), (2, .pointer (some ⟨t2b, t2o, none⟩)), (6, .int .i64 t31r1), (7, .pointer (some ⟨H_5.next, 0, none⟩)), (8, .int .i64 t37r1), (9, .int .i64 t37r2), (109, .bool false)] 180 (s' := (.code (sub B [1, 1, 1, 1, 1, 0, 1]) :: S9)) (by kernel_rfl) h
theorem L1_step {t1 : Int} {t2b : Nat} {t2o : Nat} {t6 : Int} {t7b : Nat} {t7o : Nat} {t8 : Int} {t9 : Int} {t109 : Bool} {H : Heap} {r : Value × Heap} (h :
    if t109 = true then
    (r = (.bool false, H))
    else
    (if t9 = 0 then
    (∃ (t114 : Int), ldc H t7b (t7o + 3) = some (.int .i64 t114) ∧
    (∃ (t116 : Int), ldc H t2b (t2o + 3) = some (.int .i64 t116) ∧
    (if t114 = (IntKind.wrap .i64 (t116 - 1)) then
    (∃ (t121a : Option Addr) (t121n : Nat) (t121k : Nat), ldc H t7b (t7o + 4) = some (.slice t121a t121n t121k) ∧
    (∃ (t123a : Option Addr) (t123n : Nat) (t123k : Nat), ldc H t2b (t2o + 4) = some (.slice t123a t123n t123k) ∧
    (∃ (t124 : Bool) (H_1 : Heap), xC Try.prog good 25 [.slice t121a t121n t121k, .slice t123a t123n t123k] H = some (.bool t124, H_1) ∧
    (if t124 = true then
    (∃ (t129 : Int), ldc H_1 t7b (t7o + 2) = some (.int .i64 t129) ∧
    (∃ (t131 : Int), ldc H_1 t2b (t2o + 2) = some (.int .i64 t131) ∧
    (if t129 = t131 then
    (∃ (t136a : Option Addr) (t136n : Nat) (t136k : Nat), ldc H_1 t2b (t2o + 4) = some (.slice t136a t136n t136k) ∧
    (∃ (t138 : Int) (H_2 : Heap), xC Try.prog good 23 [.slice t136a t136n t136k, .int .i64 t8] H_1 = some (.int .i64 t138, H_2) ∧
    (∃ (t140a : Option Addr) (t140n : Nat) (t140k : Nat), ldc H_1 t2b (t2o + 4) = some (.slice t140a t140n t140k) ∧
    (∃ (t142 : Int) (H_3 : Heap), xC Try.prog good 23 [.slice t140a t140n t140k, .int .i64 t1] H_2 = some (.int .i64 t142, H_3) ∧
    (ldc H_2 t2b (t2o + 4) = some (.slice t140a t140n t140k) ∧
    (L2 (t1) (t2b) (t2o) (t6) (t9) ((!(t138 == (IntKind.wrap .i64 (t142 + 1))))) H_3 r))))))
    else
    ((L2 (t1) (t2b) (t2o) (t6) (t9) (true) H_1 r)))))
    else
    ((L2 (t1) (t2b) (t2o) (t6) (t9) (true) H_1 r))))))
    else
    ((L2 (t1) (t2b) (t2o) (t6) (t9) (true) H r)))))
    else
    ((L2 (t1) (t2b) (t2o) (t6) (t9) (false) H r)))) :
    L1 t1 t2b t2o t6 t7b t7o t8 t9 t109 H r := by
  intro J
  show KR _ _ _ (.code (sub B [1, 1, 1, 1, 1, 0, 1]) :: S9) _ _ _
  by_cases c47 : t109 = true
  · replace h := iteT c47 h
    refine KR.br true (by kernel_rfl) (vB (bT c47)) ?_
    refine KR.run 4 [(4, .bool false)] 180 (s' := (.code (sub B [1, 1, 1, 1, 1, 0, 1, 0, 1]) :: S9)) (by kernel_rfl) fun J => ?_
    exact KR.fin (by kernel_rfl) h
  · replace h := iteF c47 h
    refine KR.br false (by kernel_rfl) (vB (bF c47)) ?_
    refine KR.run 3 [(1, .int .i64 t1), (2, .pointer (some ⟨t2b, t2o, none⟩)), (6, .int .i64 t6), (7, .pointer (some ⟨t7b, t7o, none⟩)), (8, .int .i64 t8), (9, .int .i64 t9)] 180 (s' := (.code (sub B [1, 1, 1, 1, 1, 1, 0, 0]) :: S12)) (by kernel_rfl) fun J => ?_
    refine KE.start H (by kernel_rfl) (by kernel_rfl) ?_
    refine KE.run 3 [(1, .int .i64 t1), (2, .pointer (some ⟨t2b, t2o, none⟩)), (6, .int .i64 t6), (7, .pointer (some ⟨t7b, t7o, none⟩)), (8, .int .i64 t8), (9, .int .i64 t9), (112, .bool (t9 == 0))] 180 3 (by kernel_rfl) fun J => ?_
    by_cases c48 : t9 = 0
    · replace h := iteT c48 h
      refine KE.setV 112 (by kernel_rfl) (eT c48) ?_
      refine KE.run 1 [(1, .int .i64 t1), (2, .pointer (some ⟨t2b, t2o, none⟩)), (6, .int .i64 t6), (7, .pointer (some ⟨t7b, t7o, none⟩)), (8, .int .i64 t8), (9, .int .i64 t9), (112, .bool true), (113, .pointer (some ⟨t7b, (t7o + 3), none⟩))] 180 4 (by kernel_rfl) fun J => ?_
      obtain ⟨t114, q49, h⟩ := h
      refine KE.rdN (one_ld (by kernel_rfl) q49) (by kernel_rfl) ?_
      refine KE.run 1 [(1, .int .i64 t1), (2, .pointer (some ⟨t2b, t2o, none⟩)), (6, .int .i64 t6), (7, .pointer (some ⟨t7b, t7o, none⟩)), (8, .int .i64 t8), (9, .int .i64 t9), (112, .bool true), (114, .int .i64 t114), (115, .pointer (some ⟨t2b, (t2o + 3), none⟩))] 180 6 (by kernel_rfl) fun J => ?_
      obtain ⟨t116, q50, h⟩ := h
      refine KE.rdN (one_ld (by kernel_rfl) q50) (by kernel_rfl) ?_
      refine KE.run 3 [(1, .int .i64 t1), (2, .pointer (some ⟨t2b, t2o, none⟩)), (6, .int .i64 t6), (7, .pointer (some ⟨t7b, t7o, none⟩)), (8, .int .i64 t8), (9, .int .i64 t9), (112, .bool true), (119, .bool (!(t114 == (IntKind.wrap .i64 (t116 - 1)))))] 180 10 (by kernel_rfl) fun J => ?_
      by_cases c51 : t114 = (IntKind.wrap .i64 (t116 - 1))
      · replace h := iteT c51 h
        refine KE.setV 119 (by kernel_rfl) (nB (eT c51)) ?_
        refine KE.run 1 [(1, .int .i64 t1), (2, .pointer (some ⟨t2b, t2o, none⟩)), (6, .int .i64 t6), (7, .pointer (some ⟨t7b, t7o, none⟩)), (8, .int .i64 t8), (9, .int .i64 t9), (112, .bool true), (119, .bool false), (120, .pointer (some ⟨t7b, (t7o + 4), none⟩))] 180 11 (by kernel_rfl) fun J => ?_
        obtain ⟨t121a, t121n, t121k, q52, h⟩ := h
        refine KE.rdN (one_ld (by kernel_rfl) q52) (by kernel_rfl) ?_
        refine KE.run 1 [(1, .int .i64 t1), (2, .pointer (some ⟨t2b, t2o, none⟩)), (6, .int .i64 t6), (7, .pointer (some ⟨t7b, t7o, none⟩)), (8, .int .i64 t8), (9, .int .i64 t9), (112, .bool true), (119, .bool false), (121, .slice t121a t121n t121k), (122, .pointer (some ⟨t2b, (t2o + 4), none⟩))] 180 13 (by kernel_rfl) fun J => ?_
        obtain ⟨t123a, t123n, t123k, q53, h⟩ := h
        refine KE.rdN (one_ld (by kernel_rfl) q53) (by kernel_rfl) ?_
        obtain ⟨t124, H_1, q54, h⟩ := h
        refine KE.se (one_ca (by kernel_rfl) q54) (by kernel_rfl) ?_
        refine KE.run 3 [(1, .int .i64 t1), (2, .pointer (some ⟨t2b, t2o, none⟩)), (6, .int .i64 t6), (7, .pointer (some ⟨t7b, t7o, none⟩)), (8, .int .i64 t8), (9, .int .i64 t9), (112, .bool true), (127, .bool (!t124))] 180 18 (by kernel_rfl) fun J => ?_
        by_cases c55 : t124 = true
        · replace h := iteT c55 h
          refine KE.setV 127 (by kernel_rfl) (nB (bT c55)) ?_
          refine KE.run 1 [(1, .int .i64 t1), (2, .pointer (some ⟨t2b, t2o, none⟩)), (6, .int .i64 t6), (8, .int .i64 t8), (9, .int .i64 t9), (112, .bool true), (127, .bool false), (128, .pointer (some ⟨t7b, (t7o + 2), none⟩))] 180 19 (by kernel_rfl) fun J => ?_
          obtain ⟨t129, q56, h⟩ := h
          refine KE.rdN (one_ld (by kernel_rfl) q56) (by kernel_rfl) ?_
          refine KE.run 1 [(1, .int .i64 t1), (2, .pointer (some ⟨t2b, t2o, none⟩)), (6, .int .i64 t6), (8, .int .i64 t8), (9, .int .i64 t9), (112, .bool true), (127, .bool false), (129, .int .i64 t129), (130, .pointer (some ⟨t2b, (t2o + 2), none⟩))] 180 21 (by kernel_rfl) fun J => ?_
          obtain ⟨t131, q57, h⟩ := h
          refine KE.rdN (one_ld (by kernel_rfl) q57) (by kernel_rfl) ?_
          refine KE.run 3 [(1, .int .i64 t1), (2, .pointer (some ⟨t2b, t2o, none⟩)), (6, .int .i64 t6), (8, .int .i64 t8), (9, .int .i64 t9), (112, .bool true), (134, .bool (!(t129 == t131)))] 180 25 (by kernel_rfl) fun J => ?_
          by_cases c58 : t129 = t131
          · replace h := iteT c58 h
            refine KE.setV 134 (by kernel_rfl) (nB (eT c58)) ?_
            refine KE.run 1 [(1, .int .i64 t1), (2, .pointer (some ⟨t2b, t2o, none⟩)), (6, .int .i64 t6), (8, .int .i64 t8), (9, .int .i64 t9), (112, .bool true), (134, .bool false), (135, .pointer (some ⟨t2b, (t2o + 4), none⟩))] 180 26 (by kernel_rfl) fun J => ?_
            obtain ⟨t136a, t136n, t136k, q59, h⟩ := h
            refine KE.rdN (one_ld (by kernel_rfl) q59) (by kernel_rfl) ?_
            refine KE.run 1 [(1, .int .i64 t1), (2, .pointer (some ⟨t2b, t2o, none⟩)), (6, .int .i64 t6), (9, .int .i64 t9), (112, .bool true), (134, .bool false), (136, .slice t136a t136n t136k), (137, .int .i64 t8)] 180 28 (by kernel_rfl) fun J => ?_
            obtain ⟨t138, H_2, q60, h⟩ := h
            refine KE.se (one_ca (by kernel_rfl) q60) (by kernel_rfl) ?_
            refine KE.run 1 [(1, .int .i64 t1), (2, .pointer (some ⟨t2b, t2o, none⟩)), (6, .int .i64 t6), (9, .int .i64 t9), (112, .bool true), (134, .bool false), (138, .int .i64 t138), (139, .pointer (some ⟨t2b, (t2o + 4), none⟩))] 180 30 (by kernel_rfl) fun J => ?_
            obtain ⟨t140a, t140n, t140k, q61, h⟩ := h
            refine KE.rdF (one_ld (by kernel_rfl) q61) (by kernel_rfl) ?_
            refine KE.run 1 [(1, .int .i64 t1), (2, .pointer (some ⟨t2b, t2o, none⟩)), (6, .int .i64 t6), (9, .int .i64 t9), (112, .bool true), (134, .bool false), (138, .int .i64 t138), (140, .slice t140a t140n t140k), (141, .int .i64 t1)] 180 32 (by kernel_rfl) fun J => ?_
            obtain ⟨t142, H_3, q62, h⟩ := h
            refine KE.se (one_ca (by kernel_rfl) q62) (by kernel_rfl) ?_
            refine KE.run 4 [(1, .int .i64 t1), (2, .pointer (some ⟨t2b, t2o, none⟩)), (6, .int .i64 t6), (9, .int .i64 t9), (146, .bool (!(t138 == (IntKind.wrap .i64 (t142 + 1)))))] 180 37 (by kernel_rfl) fun J => ?_
            obtain ⟨q63, h⟩ := h
            refine KE.fin (H' := H_3) (by kernel_rfl) (rdsS (rfl) (rd_ok (Hs := [H_2]) (by kernel_rfl) (by kernel_rfl) ⟨one_ld (by kernel_rfl) q63, trivial⟩)) (by kernel_rfl) ?_
            exact KR.run 0 [(1, .int .i64 t1), (2, .pointer (some ⟨t2b, t2o, none⟩)), (6, .int .i64 t6), (9, .int .i64 t9), (146, .bool (!(t138 == (IntKind.wrap .i64 (t142 + 1)))))] 180 (s' := (.code (sub B [1, 1, 1, 1, 1, 1, 0, 1]) :: S11)) (by kernel_rfl) h
          · replace h := iteF c58 h
            refine KE.setV 134 (by kernel_rfl) (nB (eF c58)) ?_
            refine KE.run 3 [(1, .int .i64 t1), (2, .pointer (some ⟨t2b, t2o, none⟩)), (6, .int .i64 t6), (9, .int .i64 t9), (112, .bool true), (134, .bool true), (136, undef), (137, undef)] 180 28 (by kernel_rfl) fun J => ?_
            refine KE.no (Gc := H_1) (by kernel_rfl) (by kernel_rfl) (by kernel_rfl) ?_
            refine KE.run 3 [(1, .int .i64 t1), (2, .pointer (some ⟨t2b, t2o, none⟩)), (6, .int .i64 t6), (9, .int .i64 t9), (112, .bool true), (134, .bool true), (138, undef), (140, undef), (141, undef)] 180 32 (by kernel_rfl) fun J => ?_
            refine KE.no (Gc := H_1) (by kernel_rfl) (by kernel_rfl) (by kernel_rfl) ?_
            refine KE.run 4 [(1, .int .i64 t1), (2, .pointer (some ⟨t2b, t2o, none⟩)), (6, .int .i64 t6), (9, .int .i64 t9), (146, .bool true)] 180 37 (by kernel_rfl) fun J => ?_
            refine KE.fin (H' := H_1) (by kernel_rfl) (rfl) (by kernel_rfl) ?_
            exact KR.run 0 [(1, .int .i64 t1), (2, .pointer (some ⟨t2b, t2o, none⟩)), (6, .int .i64 t6), (9, .int .i64 t9), (146, .bool true)] 180 (s' := (.code (sub B [1, 1, 1, 1, 1, 1, 0, 1]) :: S11)) (by kernel_rfl) h
        · replace h := iteF c55 h
          refine KE.setV 127 (by kernel_rfl) (nB (bF c55)) ?_
          refine KE.run 10 [(1, .int .i64 t1), (2, .pointer (some ⟨t2b, t2o, none⟩)), (6, .int .i64 t6), (9, .int .i64 t9), (112, .bool true), (134, .bool true), (136, undef), (137, undef)] 180 28 (by kernel_rfl) fun J => ?_
          refine KE.no (Gc := H_1) (by kernel_rfl) (by kernel_rfl) (by kernel_rfl) ?_
          refine KE.run 3 [(1, .int .i64 t1), (2, .pointer (some ⟨t2b, t2o, none⟩)), (6, .int .i64 t6), (9, .int .i64 t9), (112, .bool true), (134, .bool true), (138, undef), (140, undef), (141, undef)] 180 32 (by kernel_rfl) fun J => ?_
          refine KE.no (Gc := H_1) (by kernel_rfl) (by kernel_rfl) (by kernel_rfl) ?_
          refine KE.run 4 [(1, .int .i64 t1), (2, .pointer (some ⟨t2b, t2o, none⟩)), (6, .int .i64 t6), (9, .int .i64 t9), (146, .bool true)] 180 37 (by kernel_rfl) fun J => ?_
          refine KE.fin (H' := H_1) (by kernel_rfl) (rfl) (by kernel_rfl) ?_
          exact KR.run 0 [(1, .int .i64 t1), (2, .pointer (some ⟨t2b, t2o, none⟩)), (6, .int .i64 t6), (9, .int .i64 t9), (146, .bool true)] 180 (s' := (.code (sub B [1, 1, 1, 1, 1, 1, 0, 1]) :: S11)) (by kernel_rfl) h
      · replace h := iteF c51 h
        refine KE.setV 119 (by kernel_rfl) (nB (eF c51)) ?_
        refine KE.run 4 [(1, .int .i64 t1), (2, .pointer (some ⟨t2b, t2o, none⟩)), (6, .int .i64 t6), (7, .pointer (some ⟨t7b, t7o, none⟩)), (8, .int .i64 t8), (9, .int .i64 t9), (112, .bool true), (119, .bool true), (121, undef), (123, undef)] 180 14 (by kernel_rfl) fun J => ?_
        refine KE.no (Gc := H) (by kernel_rfl) (by kernel_rfl) (by kernel_rfl) ?_
        refine KE.run 13 [(1, .int .i64 t1), (2, .pointer (some ⟨t2b, t2o, none⟩)), (6, .int .i64 t6), (9, .int .i64 t9), (112, .bool true), (134, .bool true), (136, undef), (137, undef)] 180 28 (by kernel_rfl) fun J => ?_
        refine KE.no (Gc := H) (by kernel_rfl) (by kernel_rfl) (by kernel_rfl) ?_
        refine KE.run 3 [(1, .int .i64 t1), (2, .pointer (some ⟨t2b, t2o, none⟩)), (6, .int .i64 t6), (9, .int .i64 t9), (112, .bool true), (134, .bool true), (138, undef), (140, undef), (141, undef)] 180 32 (by kernel_rfl) fun J => ?_
        refine KE.no (Gc := H) (by kernel_rfl) (by kernel_rfl) (by kernel_rfl) ?_
        refine KE.run 4 [(1, .int .i64 t1), (2, .pointer (some ⟨t2b, t2o, none⟩)), (6, .int .i64 t6), (9, .int .i64 t9), (146, .bool true)] 180 37 (by kernel_rfl) fun J => ?_
        refine KE.fin (H' := H) (by kernel_rfl) (rfl) (by kernel_rfl) ?_
        exact KR.run 0 [(1, .int .i64 t1), (2, .pointer (some ⟨t2b, t2o, none⟩)), (6, .int .i64 t6), (9, .int .i64 t9), (146, .bool true)] 180 (s' := (.code (sub B [1, 1, 1, 1, 1, 1, 0, 1]) :: S11)) (by kernel_rfl) h
    · replace h := iteF c48 h
      refine KE.setV 112 (by kernel_rfl) (eF c48) ?_
      refine KE.run 11 [(1, .int .i64 t1), (2, .pointer (some ⟨t2b, t2o, none⟩)), (6, .int .i64 t6), (7, .pointer (some ⟨t7b, t7o, none⟩)), (8, .int .i64 t8), (9, .int .i64 t9), (112, .bool false), (119, undef), (121, undef), (123, undef)] 180 14 (by kernel_rfl) fun J => ?_
      refine KE.no (Gc := H) (by kernel_rfl) (by kernel_rfl) (by kernel_rfl) ?_
      refine KE.run 13 [(1, .int .i64 t1), (2, .pointer (some ⟨t2b, t2o, none⟩)), (6, .int .i64 t6), (9, .int .i64 t9), (112, .bool false), (134, undef), (136, undef), (137, undef)] 180 28 (by kernel_rfl) fun J => ?_
      refine KE.no (Gc := H) (by kernel_rfl) (by kernel_rfl) (by kernel_rfl) ?_
      refine KE.run 3 [(1, .int .i64 t1), (2, .pointer (some ⟨t2b, t2o, none⟩)), (6, .int .i64 t6), (9, .int .i64 t9), (112, .bool false), (134, undef), (138, undef), (140, undef), (141, undef)] 180 32 (by kernel_rfl) fun J => ?_
      refine KE.no (Gc := H) (by kernel_rfl) (by kernel_rfl) (by kernel_rfl) ?_
      refine KE.run 4 [(1, .int .i64 t1), (2, .pointer (some ⟨t2b, t2o, none⟩)), (6, .int .i64 t6), (9, .int .i64 t9), (146, .bool false)] 180 37 (by kernel_rfl) fun J => ?_
      refine KE.fin (H' := H) (by kernel_rfl) (rfl) (by kernel_rfl) ?_
      exact KR.run 0 [(1, .int .i64 t1), (2, .pointer (some ⟨t2b, t2o, none⟩)), (6, .int .i64 t6), (9, .int .i64 t9), (146, .bool false)] 180 (s' := (.code (sub B [1, 1, 1, 1, 1, 1, 0, 1]) :: S11)) (by kernel_rfl) h
theorem L2_step {t1 : Int} {t2b : Nat} {t2o : Nat} {t6 : Int} {t9 : Int} {t146 : Bool} {H : Heap} {r : Value × Heap} (h :
    if t146 = true then
    (r = (.bool false, H))
    else
    (∃ (t148a : Option Addr) (t148n : Nat) (t148k : Nat), ldc H t2b (t2o + 4) = some (.slice t148a t148n t148k) ∧
    (∃ (t150 : Int) (H_1 : Heap), xC Try.prog good 23 [.slice t148a t148n t148k, .int .i64 t1] H = some (.int .i64 t150, H_1) ∧
    (if t150 ≥ 0 then
    (if ((t6 == 0) == true) = true then
    (∃ (t171a : Option Addr) (t171n : Nat) (t171k : Nat), ldc H_1 t2b (t2o + 4) = some (.slice t171a t171n t171k) ∧
    (if ((t9 == 0) == (decide ((IntKind.wrap .i64 (t150 + 1)) < ((t171n : Nat) : Int)))) = true then
    (∃ (t178 : Bool) (H_2 : Heap), xC Try.prog good 20 [] H_1 = some (.bool t178, H_2) ∧
    (r = (.bool t178, H_2)))
    else
    (r = (.bool false, H_1))))
    else
    (r = (.bool false, H_1)))
    else
    (∃ (t157a : Option Addr) (t157n : Nat) (t157k : Nat), ldc H_1 t2b (t2o + 4) = some (.slice t157a t157n t157k) ∧
    (if ((t6 == 0) == (decide (((t157n : Nat) : Int) < 16))) = true then
    (if ((t9 == 0) == false) = true then
    (∃ (t178_1 : Bool) (H_3 : Heap), xC Try.prog good 20 [] H_1 = some (.bool t178_1, H_3) ∧
    (r = (.bool t178_1, H_3)))
    else
    (r = (.bool false, H_1)))
    else
    (r = (.bool false, H_1)))))))) :
    L2 t1 t2b t2o t6 t9 t146 H r := by
  intro J
  show KR _ _ _ (.code (sub B [1, 1, 1, 1, 1, 1, 0, 1]) :: S11) _ _ _
  by_cases c64 : t146 = true
  · replace h := iteT c64 h
    refine KR.br true (by kernel_rfl) (vB (bT c64)) ?_
    refine KR.run 4 [(4, .bool false)] 180 (s' := (.code (sub B [1, 1, 1, 1, 1, 1, 0, 1, 0, 1]) :: S11)) (by kernel_rfl) fun J => ?_
    exact KR.fin (by kernel_rfl) h
  · replace h := iteF c64 h
    refine KR.br false (by kernel_rfl) (vB (bF c64)) ?_
    refine KR.run 4 [(1, .int .i64 t1), (2, .pointer (some ⟨t2b, t2o, none⟩)), (6, .int .i64 t6), (9, .int .i64 t9), (147, .pointer (some ⟨t2b, (t2o + 4), none⟩))] 180 (s' := (.reg (opsAt (sub B [1, 1, 1, 1, 1, 1, 1, 0])) [1, 2, 3, 4] :: S13)) (by kernel_rfl) fun J => ?_
    obtain ⟨t148a, t148n, t148k, q65, h⟩ := h
    refine KR.rd (one_ld (by kernel_rfl) q65) ?_
    refine KR.run 1 [(2, .pointer (some ⟨t2b, t2o, none⟩)), (6, .int .i64 t6), (9, .int .i64 t9), (148, .slice t148a t148n t148k), (149, .int .i64 t1)] 180 (s' := (.reg (opsAt (sub B [1, 1, 1, 1, 1, 1, 1, 0])) [3, 4] :: S13)) (by kernel_rfl) fun J => ?_
    obtain ⟨t150, H_1, q66, h⟩ := h
    refine KR.se (one_ca (by kernel_rfl) q66) ?_
    refine KR.run 9 [(2, .pointer (some ⟨t2b, t2o, none⟩)), (9, .int .i64 t9), (10, .int .i64 t150), (152, .bool (t6 == 0)), (155, .bool (decide (t150 ≥ 0)))] 180 (s' := (.reg (opsAt (sub B [1, 1, 1, 1, 1, 1, 1, 1, 0])) [5, 6, 7, 8, 9, 10, 11, 12, 13, 14, 15, 16, 17, 18, 19, 20, 21, 22, 23, 24, 25, 26, 27, 28, 29] :: S14)) (by kernel_rfl) fun J => ?_
    by_cases c67 : t150 ≥ 0
    · replace h := iteT c67 h
      refine KR.setV 155 (by kernel_rfl) (dT c67) ?_
      refine KR.run 7 [(2, .pointer (some ⟨t2b, t2o, none⟩)), (9, .int .i64 t9), (10, .int .i64 t150), (162, .bool ((t6 == 0) == true))] 180 (s' := (.reg (opsAt (sub B [1, 1, 1, 1, 1, 1, 1, 1, 0])) [12, 13, 14, 15, 16, 17, 18, 19, 20, 21, 22, 23, 24, 25, 26, 27, 28, 29] :: S14)) (by kernel_rfl) fun J => ?_
      by_cases c68 : ((t6 == 0) == true) = true
      · replace h := iteT c68 h
        refine KR.setV 162 (by kernel_rfl) (bT c68) ?_
        refine KR.run 5 [(2, .pointer (some ⟨t2b, t2o, none⟩)), (10, .int .i64 t150), (162, .bool true), (164, .bool (t9 == 0)), (167, .bool (decide (t150 ≥ 0)))] 180 (s' := (.reg (opsAt (sub B [1, 1, 1, 1, 1, 1, 1, 1, 0])) [17, 18, 19, 20, 21, 22, 23, 24, 25, 26, 27, 28, 29] :: S14)) (by kernel_rfl) fun J => ?_
        refine KR.setV 167 (by kernel_rfl) (dT c67) ?_
        refine KR.run 3 [(162, .bool true), (164, .bool (t9 == 0)), (167, .bool true), (169, .int .i64 (IntKind.wrap .i64 (t150 + 1))), (170, .pointer (some ⟨t2b, (t2o + 4), none⟩))] 180 (s' := (.reg (opsAt (sub B [1, 1, 1, 1, 1, 1, 1, 1, 0])) [20, 21, 22, 23, 24, 25, 26, 27, 28, 29] :: S14)) (by kernel_rfl) fun J => ?_
        obtain ⟨t171a, t171n, t171k, q69, h⟩ := h
        refine KR.rd (one_ld (by kernel_rfl) q69) ?_
        refine KR.run 6 [(177, .bool ((t9 == 0) == (decide ((IntKind.wrap .i64 (t150 + 1)) < ((t171n : Nat) : Int)))))] 180 (s' := (.reg (opsAt (sub B [1, 1, 1, 1, 1, 1, 1, 1, 0])) [27, 28, 29] :: S14)) (by kernel_rfl) fun J => ?_
        by_cases c70 : ((t9 == 0) == (decide ((IntKind.wrap .i64 (t150 + 1)) < ((t171n : Nat) : Int)))) = true
        · replace h := iteT c70 h
          refine KR.setV 177 (by kernel_rfl) (bT c70) ?_
          obtain ⟨t178, H_2, q71, h⟩ := h
          refine KR.se (one_ca (by kernel_rfl) q71) ?_
          refine KR.run 3 [(4, .bool t178)] 180 (s' := (.code (sub B [1, 1, 1, 1, 1, 1, 1, 1, 1]) :: [])) (by kernel_rfl) fun J => ?_
          exact KR.fin (by kernel_rfl) h
        · replace h := iteF c70 h
          refine KR.setV 177 (by kernel_rfl) (bF c70) ?_
          refine KR.run 4 [(4, .bool false)] 180 (s' := (.code (sub B [1, 1, 1, 1, 1, 1, 1, 1, 1]) :: [])) (by kernel_rfl) fun J => ?_
          exact KR.fin (by kernel_rfl) h
      · replace h := iteF c68 h
        refine KR.setV 162 (by kernel_rfl) (bF c68) ?_
        refine KR.run 19 [(4, .bool false)] 180 (s' := (.code (sub B [1, 1, 1, 1, 1, 1, 1, 1, 1]) :: [])) (by kernel_rfl) fun J => ?_
        exact KR.fin (by kernel_rfl) h
    · replace h := iteF c67 h
      refine KR.setV 155 (by kernel_rfl) (dF c67) ?_
      refine KR.run 1 [(2, .pointer (some ⟨t2b, t2o, none⟩)), (9, .int .i64 t9), (10, .int .i64 t150), (152, .bool (t6 == 0)), (155, .bool false), (156, .pointer (some ⟨t2b, (t2o + 4), none⟩))] 180 (s' := (.reg (opsAt (sub B [1, 1, 1, 1, 1, 1, 1, 1, 0])) [6, 7, 8, 9, 10, 11, 12, 13, 14, 15, 16, 17, 18, 19, 20, 21, 22, 23, 24, 25, 26, 27, 28, 29] :: S14)) (by kernel_rfl) fun J => ?_
      obtain ⟨t157a, t157n, t157k, q72, h⟩ := h
      refine KR.rd (one_ld (by kernel_rfl) q72) ?_
      refine KR.run 5 [(2, .pointer (some ⟨t2b, t2o, none⟩)), (9, .int .i64 t9), (10, .int .i64 t150), (162, .bool ((t6 == 0) == (decide (((t157n : Nat) : Int) < 16))))] 180 (s' := (.reg (opsAt (sub B [1, 1, 1, 1, 1, 1, 1, 1, 0])) [12, 13, 14, 15, 16, 17, 18, 19, 20, 21, 22, 23, 24, 25, 26, 27, 28, 29] :: S14)) (by kernel_rfl) fun J => ?_
      by_cases c73 : ((t6 == 0) == (decide (((t157n : Nat) : Int) < 16))) = true
      · replace h := iteT c73 h
        refine KR.setV 162 (by kernel_rfl) (bT c73) ?_
        refine KR.run 5 [(2, .pointer (some ⟨t2b, t2o, none⟩)), (10, .int .i64 t150), (162, .bool true), (164, .bool (t9 == 0)), (167, .bool (decide (t150 ≥ 0)))] 180 (s' := (.reg (opsAt (sub B [1, 1, 1, 1, 1, 1, 1, 1, 0])) [17, 18, 19, 20, 21, 22, 23, 24, 25, 26, 27, 28, 29] :: S14)) (by kernel_rfl) fun J => ?_
        refine KR.setV 167 (by kernel_rfl) (dF c67) ?_
        refine KR.run 10 [(177, .bool ((t9 == 0) == false))] 180 (s' := (.reg (opsAt (sub B [1, 1, 1, 1, 1, 1, 1, 1, 0])) [27, 28, 29] :: S14)) (by kernel_rfl) fun J => ?_
        by_cases c74 : ((t9 == 0) == false) = true
        · replace h := iteT c74 h
          refine KR.setV 177 (by kernel_rfl) (bT c74) ?_
          obtain ⟨t178_1, H_3, q75, h⟩ := h
          refine KR.se (one_ca (by kernel_rfl) q75) ?_
          refine KR.run 3 [(4, .bool t178_1)] 180 (s' := (.code (sub B [1, 1, 1, 1, 1, 1, 1, 1, 1]) :: [])) (by kernel_rfl) fun J => ?_
          exact KR.fin (by kernel_rfl) h
        · replace h := iteF c74 h
          refine KR.setV 177 (by kernel_rfl) (bF c74) ?_
          refine KR.run 4 [(4, .bool false)] 180 (s' := (.code (sub B [1, 1, 1, 1, 1, 1, 1, 1, 1]) :: [])) (by kernel_rfl) fun J => ?_
          exact KR.fin (by kernel_rfl) h
      · replace h := iteF c73 h
        refine KR.setV 162 (by kernel_rfl) (bF c73) ?_
        refine KR.run 19 [(4, .bool false)] 180 (s' := (.code (sub B [1, 1, 1, 1, 1, 1, 1, 1, 1]) :: [])) (by kernel_rfl) fun J => ?_
        exact KR.fin (by kernel_rfl) h
theorem call {a0c0 : Int} {a0c1 : Int} {a0c2 : Int} {a0c3 : Int} {a0c4a : Option Addr} {a0c4n : Nat} {a0c4k : Nat} {a0c5a : Option Addr} {a0c5n : Nat} {a0c5k : Nat} {a1 : Int} {H : Heap} {r : Value × Heap} (h :
    ∃ (H_1 : Heap), H_1 = H.push (.row [.int .i64 a0c0, .int .i64 a0c1, .int .i64 a0c2, .int .i64 a0c3, .slice a0c4a a0c4n a0c4k, .slice a0c5a a0c5n a0c5k] true) ∧
    (∃ (t11c0 : Int) (t11c1 : Int) (t11c2 : Int) (t11c3 : Int) (t11c4a : Option Addr) (t11c4n : Nat) (t11c4k : Nat) (t11c5a : Option Addr) (t11c5n : Nat) (t11c5k : Nat), ldAll H_1 H.next 0 [.int .i64 t11c0, .int .i64 t11c1, .int .i64 t11c2, .int .i64 t11c3, .slice t11c4a t11c4n t11c4k, .slice t11c5a t11c5n t11c5k] ∧
    (∃ (t12 : Bool) (H_2 : Heap), xC Try.prog good 27 [.agg #[.int .i64 t11c0, .int .i64 t11c1, .int .i64 t11c2, .int .i64 t11c3, .slice t11c4a t11c4n t11c4k, .slice t11c5a t11c5n t11c5k]] H_1 = some (.bool t12, H_2) ∧
    (if t12 = true then
    (∃ (t15c0 : Int) (t15c1 : Int) (t15c2 : Int) (t15c3 : Int) (t15c4a : Option Addr) (t15c4n : Nat) (t15c4k : Nat) (t15c5a : Option Addr) (t15c5n : Nat) (t15c5k : Nat), ldAll H_2 H.next 0 [.int .i64 t15c0, .int .i64 t15c1, .int .i64 t15c2, .int .i64 t15c3, .slice t15c4a t15c4n t15c4k, .slice t15c5a t15c5n t15c5k] ∧
    (∃ (t16 : Bool) (H_3 : Heap), xC Try.prog good 28 [.agg #[.int .i64 t15c0, .int .i64 t15c1, .int .i64 t15c2, .int .i64 t15c3, .slice t15c4a t15c4n t15c4k, .slice t15c5a t15c5n t15c5k]] H_2 = some (.bool t16, H_3) ∧
    (if t16 = true then
    (if a1 < 0 then
    (L0 (a1) (H.next) (0) (true) H_3 r)
    else
    (L0 (a1) (H.next) (0) ((decide (a1 > 15))) H_3 r))
    else
    (L0 (a1) (H.next) (0) (true) H_3 r))))
    else
    (L0 (a1) (H.next) (0) (true) H_2 r))))) :
    xC Try.prog good 6 [.agg #[.int .i64 a0c0, .int .i64 a0c1, .int .i64 a0c2, .int .i64 a0c3, .slice a0c4a a0c4n a0c4k, .slice a0c5a a0c5n a0c5k], .int .i64 a1] H = some r := by
  refine KR.enter (fn := Try.f6) (c := B) (by kernel_rfl) (by kernel_rfl) ?_
  refine KR.run 2 [(0, .agg #[.int .i64 a0c0, .int .i64 a0c1, .int .i64 a0c2, .int .i64 a0c3, .slice a0c4a a0c4n a0c4k, .slice a0c5a a0c5n a0c5k]), (1, .int .i64 a1)] 180 (s' := (.reg (opsAt (sub B [0])) [0, 1] :: S0)) (by kernel_rfl) fun J => ?_
  obtain ⟨H_1, q1, h⟩ := h
  refine KR.mk (w := pRow [.int .i64 a0c0, .int .i64 a0c1, .int .i64 a0c2, .int .i64 a0c3, .slice a0c4a a0c4n a0c4k, .slice a0c5a a0c5n a0c5k]) (one_al (by kernel_rfl)) q1 ?_
  refine KR.run 5 [(1, .int .i64 a1), (2, .pointer (some ⟨H.next, 0, none⟩))] 180 (s' := (.reg (opsAt (sub B [1, 0, 0])) [0, 1, 2, 3, 4, 5, 6, 7, 8, 9, 10, 11, 12, 13, 14, 15] :: S2)) (by kernel_rfl) fun J => ?_
  obtain ⟨t11c0, t11c1, t11c2, t11c3, t11c4a, t11c4n, t11c4k, t11c5a, t11c5n, t11c5k, q2, h⟩ := h
  refine KR.rd (one_ldA (by kernel_rfl) q2) ?_
  obtain ⟨t12, H_2, q3, h⟩ := h
  refine KR.se (one_ca (by kernel_rfl) q3) ?_
  refine KR.run 2 [(1, .int .i64 a1), (2, .pointer (some ⟨H.next, 0, none⟩)), (14, .bool (!t12))] 180 (s' := (.reg (opsAt (sub B [1, 0, 0])) [4, 5, 6, 7, 8, 9, 10, 11, 12, 13, 14, 15] :: S2)) (by kernel_rfl) fun J => ?_
  by_cases c4 : t12 = true
  · replace h := iteT c4 h
    refine KR.setV 14 (by kernel_rfl) (nB (bT c4)) ?_
    obtain ⟨t15c0, t15c1, t15c2, t15c3, t15c4a, t15c4n, t15c4k, t15c5a, t15c5n, t15c5k, q5, h⟩ := h
    refine KR.rd (one_ldA (by kernel_rfl) q5) ?_
    obtain ⟨t16, H_3, q6, h⟩ := h
    refine KR.se (one_ca (by kernel_rfl) q6) ?_
    refine KR.run 3 [(1, .int .i64 a1), (2, .pointer (some ⟨H.next, 0, none⟩)), (19, .bool (!t16))] 180 (s' := (.reg (opsAt (sub B [1, 0, 0])) [9, 10, 11, 12, 13, 14, 15] :: S2)) (by kernel_rfl) fun J => ?_
    by_cases c7 : t16 = true
    · replace h := iteT c7 h
      refine KR.setV 19 (by kernel_rfl) (nB (bT c7)) ?_
      refine KR.run 4 [(1, .int .i64 a1), (2, .pointer (some ⟨H.next, 0, none⟩)), (23, .bool (decide (a1 < 0)))] 180 (s' := (.reg (opsAt (sub B [1, 0, 0])) [13, 14, 15] :: S2)) (by kernel_rfl) fun J => ?_
      by_cases c8 : a1 < 0
      · replace h := iteT c8 h
        refine KR.setV 23 (by kernel_rfl) (dT c8) ?_
        exact KR.run 4 [(1, .int .i64 a1), (2, .pointer (some ⟨H.next, 0, none⟩)), (26, .bool true)] 180 (s' := (.code (sub B [1, 0, 1]) :: S1)) (by kernel_rfl) h
      · replace h := iteF c8 h
        refine KR.setV 23 (by kernel_rfl) (dF c8) ?_
        exact KR.run 4 [(1, .int .i64 a1), (2, .pointer (some ⟨H.next, 0, none⟩)), (26, .bool (decide (a1 > 15)))] 180 (s' := (.code (sub B [1, 0, 1]) :: S1)) (by kernel_rfl) h
    · replace h := iteF c7 h
      refine KR.setV 19 (by kernel_rfl) (nB (bF c7)) ?_
      exact KR.run 8 [(1, .int .i64 a1), (2, .pointer (some ⟨H.next, 0, none⟩)), (26, .bool true)] 180 (s' := (.code (sub B [1, 0, 1]) :: S1)) (by kernel_rfl) h
  · replace h := iteF c4 h
    refine KR.setV 14 (by kernel_rfl) (nB (bF c4)) ?_
    exact KR.run 13 [(1, .int .i64 a1), (2, .pointer (some ⟨H.next, 0, none⟩)), (26, .bool true)] 180 (s' := (.code (sub B [1, 0, 1]) :: S1)) (by kernel_rfl) h
end F6
end Go.X
