/- The walks of the functions: printed. -/
import Derived.Test.YtomibdncbioijaaXzGd
set_option linter.unusedVariables false
set_option maxRecDepth 100000
namespace Go.X
open Go Go.RowKit Go.Proofs
/-! #### 12 campanile/campanilelaw9.awake -/
namespace F12
noncomputable def B : Code := bodyOf Try.f12
noncomputable def S0 : List It := (.code (sub B [1, 1]) :: [])
noncomputable def S1 : List It := (.code (sub B [1, 1, 1]) :: [])
theorem call  {H : Heap} {r : Value × Heap} (h :
    ∃ (H_1 : Heap), H_1 = H.push (.row [.int .i64 0, .int .i64 0, .int .i64 0, .int .i64 2, .int .i64 64, .int .i64 0, .int .i64 0, .int .i64 1, .int .i64 1, .int .i64 3] true) ∧
    (∃ (H_2 : Heap), H_2 = H_1.push (.row [.int .i64 5, .int .i64 3] true) ∧
    (∃ (t6c0 : Int) (t6c1 : Int) (t6c2 : Int) (t6c3 : Int) (t6c4 : Int) (t6c5 : Int) (t6c6 : Int) (H_3 : Heap), xC Try.prog good 13 [.slice (some ⟨H.next, 0, none⟩) 2 (UNK 5), .slice (some ⟨H_1.next, 0, none⟩) 2 (UNK 1), .bool true] H_2 = some (.agg #[.int .i64 t6c0, .int .i64 t6c1, .int .i64 t6c2, .int .i64 t6c3, .int .i64 t6c4, .int .i64 t6c5, .int .i64 t6c6], H_3) ∧
    (∃ (H_4 : Heap), H_4 = H_3.push (.row [.int .i64 0, .int .i64 0, .int .i64 0, .int .i64 0, .int .i64 0, .int .i64 0, .int .i64 0] true) ∧
    (∃ (H_5 : Heap), stc H_4 H_3.next 0 [.int .i64 t6c0, .int .i64 t6c1, .int .i64 t6c2, .int .i64 t6c3, .int .i64 t6c4, .int .i64 t6c5, .int .i64 t6c6] = some H_5 ∧
    (∃ (t8 : Int), ldc H_5 H_3.next 0 = some (.int .i64 t8) ∧
    (if t8 = 1 then
    (∃ (t12 : Int), ldc H_5 H_3.next 6 = some (.int .i64 t12) ∧
    (if t12 = 1 then
    (∃ (t18 : Int), ldc H_5 H_3.next 3 = some (.int .i64 t18) ∧
    (r = (.bool (t18 == 1), H_5)))
    else
    (r = (.bool false, H_5))))
    else
    (r = (.bool false, H_5))))))))) :
    xC Try.prog good 12 [] H = some r := by
  refine KR.enter (fn := Try.f12) (c := B) (by kernel_rfl) (by kernel_rfl) ?_
  refine KR.run 8 [(2, .agg #[.int .i64 0, .int .i64 0, .int .i64 0, .int .i64 2, .int .i64 64]), (3, .agg #[.int .i64 0, .int .i64 0, .int .i64 1, .int .i64 1, .int .i64 3])] 21 (s' := (.reg (opsAt (sub B [1, 0])) [2, 3, 4, 5, 6] :: S0)) (by kernel_rfl) fun J => ?_
  obtain ⟨H_1, q1, h⟩ := h
  refine KR.mk (w := sRow 2 5 [.int .i64 0, .int .i64 0, .int .i64 0, .int .i64 2, .int .i64 64, .int .i64 0, .int .i64 0, .int .i64 1, .int .i64 1, .int .i64 3]) (one_al (by kernel_rfl)) q1 ?_
  obtain ⟨H_2, q2, h⟩ := h
  refine KR.mk (w := sRow 2 1 [.int .i64 5, .int .i64 3]) (one_al (by kernel_rfl)) q2 ?_
  obtain ⟨t6c0, t6c1, t6c2, t6c3, t6c4, t6c5, t6c6, H_3, q3, h⟩ := h
  refine KR.se (one_ca (by kernel_rfl) q3) ?_
  obtain ⟨H_4, q4, h⟩ := h
  refine KR.mk (w := pRow [.int .i64 0, .int .i64 0, .int .i64 0, .int .i64 0, .int .i64 0, .int .i64 0, .int .i64 0]) (one_al (by kernel_rfl)) q4 ?_
  obtain ⟨H_5, q5, h⟩ := h
  refine KR.se (one_st (by kernel_rfl) q5) ?_
  refine KR.run 4 [(1, .pointer (some ⟨H_3.next, 0, none⟩)), (7, .pointer (some ⟨H_3.next, 0, none⟩))] 21 (s' := (.reg (opsAt (sub B [1, 1, 0])) [1, 2, 3, 4, 5, 6, 7, 8, 9, 10, 11, 12, 13, 14] :: S1)) (by kernel_rfl) fun J => ?_
  obtain ⟨t8, q6, h⟩ := h
  refine KR.rd (one_ld (by kernel_rfl) q6) ?_
  refine KR.run 2 [(1, .pointer (some ⟨H_3.next, 0, none⟩)), (10, .bool (t8 == 1))] 21 (s' := (.reg (opsAt (sub B [1, 1, 0])) [4, 5, 6, 7, 8, 9, 10, 11, 12, 13, 14] :: S1)) (by kernel_rfl) fun J => ?_
  by_cases c7 : t8 = 1
  · replace h := iteT c7 h
    refine KR.setV 10 (by kernel_rfl) (eT c7) ?_
    refine KR.run 1 [(1, .pointer (some ⟨H_3.next, 0, none⟩)), (10, .bool true), (11, .pointer (some ⟨H_3.next, 6, none⟩))] 21 (s' := (.reg (opsAt (sub B [1, 1, 0])) [5, 6, 7, 8, 9, 10, 11, 12, 13, 14] :: S1)) (by kernel_rfl) fun J => ?_
    obtain ⟨t12, q8, h⟩ := h
    refine KR.rd (one_ld (by kernel_rfl) q8) ?_
    refine KR.run 3 [(1, .pointer (some ⟨H_3.next, 0, none⟩)), (15, .bool (t12 == 1))] 21 (s' := (.reg (opsAt (sub B [1, 1, 0])) [9, 10, 11, 12, 13, 14] :: S1)) (by kernel_rfl) fun J => ?_
    by_cases c9 : t12 = 1
    · replace h := iteT c9 h
      refine KR.setV 15 (by kernel_rfl) (eT c9) ?_
      refine KR.run 2 [(15, .bool true), (17, .pointer (some ⟨H_3.next, 3, none⟩))] 21 (s' := (.reg (opsAt (sub B [1, 1, 0])) [11, 12, 13, 14] :: S1)) (by kernel_rfl) fun J => ?_
      obtain ⟨t18, q10, h⟩ := h
      refine KR.rd (one_ld (by kernel_rfl) q10) ?_
      refine KR.run 4 [(0, .bool (t18 == 1))] 21 (s' := (.code (sub B [1, 1, 1]) :: [])) (by kernel_rfl) fun J => ?_
      exact KR.fin (by kernel_rfl) h
    · replace h := iteF c9 h
      refine KR.setV 15 (by kernel_rfl) (eF c9) ?_
      refine KR.run 7 [(0, .bool false)] 21 (s' := (.code (sub B [1, 1, 1]) :: [])) (by kernel_rfl) fun J => ?_
      exact KR.fin (by kernel_rfl) h
  · replace h := iteF c7 h
    refine KR.setV 10 (by kernel_rfl) (eF c7) ?_
    refine KR.run 12 [(0, .bool false)] 21 (s' := (.code (sub B [1, 1, 1]) :: [])) (by kernel_rfl) fun J => ?_
    exact KR.fin (by kernel_rfl) h
end F12
/-! #### 13 campanile/slot.Decide -/
namespace F13
noncomputable def B : Code := bodyOf Try.f13
noncomputable def S0 : List It := (.code (sub B [1]) :: [])
noncomputable def S1 : List It := (.code (sub B [1, 1]) :: [])
noncomputable def S2 : List It := (.code (sub B [1, 1, 1]) :: [])
noncomputable def S11 : List It := (.code (sub B [1, 1, 1, 1]) :: [])
noncomputable def S21 : List It := (.code (sub B [1, 1, 1, 1, 1]) :: [])
noncomputable def S3 : List It := (.blk 0 :: S2)
noncomputable def S12 : List It := (.blk 2 :: S11)
noncomputable def S4 : List It := (.lp (sub B [1, 1, 0, 1, 0, 0]) :: S3)
noncomputable def S14 : List It := (.lp (sub B [1, 1, 1, 0, 1, 0, 0]) :: S12)
noncomputable def S5 : List It := (.code (sub B [1, 1, 0, 1, 0, 0, 1, 1]) :: S4)
noncomputable def S6 : List It := (.code (sub B [1, 1, 0, 1, 0, 0, 1, 1, 1]) :: S4)
noncomputable def S15 : List It := (.code (sub B [1, 1, 1, 0, 1, 0, 0, 1, 1]) :: S14)
noncomputable def S16 : List It := (.code (sub B [1, 1, 1, 0, 1, 0, 0, 1, 1, 1]) :: S14)
noncomputable def S7 : List It := (.blk 1 :: S6)
noncomputable def S17 : List It := (.blk 3 :: S16)
noncomputable def S8 : List It := (.code (sub B [1, 1, 0, 1, 0, 0, 1, 1, 0, 0, 1]) :: S7)
noncomputable def S9 : List It := (.code (sub B [1, 1, 0, 1, 0, 0, 1, 1, 0, 0, 1, 1]) :: S7)
noncomputable def S10 : List It := (.code (sub B [1, 1, 0, 1, 0, 0, 1, 1, 0, 0, 1, 1, 1]) :: S7)
noncomputable def S13 : List It := (.code (sub B [1, 1, 0, 1, 0, 0, 1, 1, 0, 0, 1, 1, 1, 0, 1]) :: S7)
noncomputable def S18 : List It := (.code (sub B [1, 1, 1, 0, 1, 0, 0, 1, 1, 0, 0, 1]) :: S17)
noncomputable def S19 : List It := (.code (sub B [1, 1, 1, 0, 1, 0, 0, 1, 1, 0, 0, 1, 1]) :: S17)
noncomputable def S20 : List It := (.code (sub B [1, 1, 1, 0, 1, 0, 0, 1, 1, 0, 0, 1, 1, 0, 1]) :: S17)
def L0 (t1a : Option Addr) (t1n : Nat) (t1k : Nat) (t2 : Bool) (t6b : Nat) (t6o : Nat) (t7a : Option Addr) (t7n : Nat) (t7k : Nat) (t16a : Option Addr) (t16n : Nat) (t16k : Nat) (t17 : Int) (t18 : Int) (H : Heap) (r : Value × Heap) : Prop := ∀ J, KR Try.prog good Try.f13 S4 (mat J 50 [(1, .slice t1a t1n t1k), (2, .bool t2), (6, .pointer (some ⟨t6b, t6o, none⟩)), (7, .slice t7a t7n t7k), (16, .slice t16a t16n t16k), (17, .int .i64 t17), (18, .int .i64 t18)]) H r
def L1 (t1a : Option Addr) (t1n : Nat) (t1k : Nat) (t2 : Bool) (t6b : Nat) (t6o : Nat) (t7a : Option Addr) (t7n : Nat) (t7k : Nat) (t9b : Nat) (t9o : Nat) (t10 : Int) (t16b : Nat) (t16o : Nat) (t16n : Nat) (t16k : Nat) (t17 : Int) (t18 : Int) (t31 : Bool) (H : Heap) (r : Value × Heap) : Prop := ∀ J, KR Try.prog good Try.f13 S10 (mat J 50 [(1, .slice t1a t1n t1k), (2, .bool t2), (6, .pointer (some ⟨t6b, t6o, none⟩)), (7, .slice t7a t7n t7k), (9, .pointer (some ⟨t9b, t9o, none⟩)), (10, .int .i64 t10), (16, .slice (some ⟨t16b, t16o, none⟩) t16n t16k), (17, .int .i64 t17), (18, .int .i64 t18), (31, .bool t31)]) H r
def L2 (t6b : Nat) (t6o : Nat) (t36a : Option Addr) (t36n : Nat) (t36k : Nat) (t37 : Int) (t38 : Int) (H : Heap) (r : Value × Heap) : Prop := ∀ J, KR Try.prog good Try.f13 S14 (mat J 50 [(6, .pointer (some ⟨t6b, t6o, none⟩)), (36, .slice t36a t36n t36k), (37, .int .i64 t37), (38, .int .i64 t38)]) H r
theorem L0_step {t1a : Option Addr} {t1n : Nat} {t1k : Nat} {t2 : Bool} {t6b : Nat} {t6o : Nat} {t7a : Option Addr} {t7n : Nat} {t7k : Nat} {t16a : Option Addr} {t16n : Nat} {t16k : Nat} {t17 : Int} {t18 : Int} {H : Heap} {r : Value × Heap} (h :
    if t18 < t17 then
    (∃ (t16ab t16ao : Nat), t16a = some ⟨t16ab, t16ao, none⟩ ∧
    ((0 : Int) ≤ t18 ∧ t18 < ((t16n : Nat) : Int) ∧
    (∃ (t21c0 : Int) (t21c1 : Int) (t21c2 : Int) (t21c3 : Int) (t21c4 : Int), ldAll H t16ab (t16ao + Int.toNat t18 * 5) [.int .i64 t21c0, .int .i64 t21c1, .int .i64 t21c2, .int .i64 t21c3, .int .i64 t21c4] ∧
    (∃ (H_1 : Heap), H_1 = H.push (.row [.int .i64 0, .int .i64 0, .int .i64 0, .int .i64 0, .int .i64 0] true) ∧
    (∃ (H_2 : Heap), stc H_1 H.next 0 [.int .i64 t21c0, .int .i64 t21c1, .int .i64 t21c2, .int .i64 t21c3, .int .i64 t21c4] = some H_2 ∧
    (∃ (t22c0 : Int) (t22c1 : Int) (t22c2 : Int) (t22c3 : Int) (t22c4 : Int), ldAll H_2 H.next 0 [.int .i64 t22c0, .int .i64 t22c1, .int .i64 t22c2, .int .i64 t22c3, .int .i64 t22c4] ∧
    (∃ (t24 : Int) (H_3 : Heap), xC Try.prog good 35 [.agg #[.int .i64 t22c0, .int .i64 t22c1, .int .i64 t22c2, .int .i64 t22c3, .int .i64 t22c4], .slice t1a t1n t1k] H_2 = some (.int .i64 t24, H_3) ∧
    (if t24 ≥ 0 then
    (∃ (t28c0 : Int) (t28c1 : Int) (t28c2 : Int) (t28c3 : Int) (t28c4 : Int), ldAll H_3 H.next 0 [.int .i64 t28c0, .int .i64 t28c1, .int .i64 t28c2, .int .i64 t28c3, .int .i64 t28c4] ∧
    (∃ (t30 : Bool) (H_4 : Heap), xC Try.prog good 36 [.agg #[.int .i64 t28c0, .int .i64 t28c1, .int .i64 t28c2, .int .i64 t28c3, .int .i64 t28c4], .bool t2] H_3 = some (.bool t30, H_4) ∧
    (L1 (t1a) (t1n) (t1k) (t2) (t6b) (t6o) (t7a) (t7n) (t7k) (H.next) (0) (t24) (t16ab) (t16ao) (t16n) (t16k) (t17) (t18) (t30) H_4 r)))
    else
    (L1 (t1a) (t1n) (t1k) (t2) (t6b) (t6o) (t7a) (t7n) (t7k) (H.next) (0) (t24) (t16ab) (t16ao) (t16n) (t16k) (t17) (t18) (false) H_3 r)))))))))
    else
    (L2 (t6b) (t6o) (t7a) (t7n) (t7k) (((t7n : Nat) : Int)) 0 H r)) :
    L0 t1a t1n t1k t2 t6b t6o t7a t7n t7k t16a t16n t16k t17 t18 H r := by
  intro J
  show KR _ _ _ (.lp (sub B [1, 1, 0, 1, 0, 0]) :: S3) _ _ _
  refine KR.run 6 [(1, .slice t1a t1n t1k), (2, .bool t2), (6, .pointer (some ⟨t6b, t6o, none⟩)), (7, .slice t7a t7n t7k), (16, .slice t16a t16n t16k), (17, .int .i64 t17), (18, .int .i64 t18), (19, .bool (decide (t18 < t17)))] 50 (s' := (.code (sub B [1, 1, 0, 1, 0, 0, 1, 0]) :: S5)) (by kernel_rfl) fun J => ?_
  by_cases c4 : t18 < t17
  · replace h := iteT c4 h
    refine KR.br true (by kernel_rfl) (vB (dT c4)) ?_
    obtain ⟨t16ab, t16ao, rfl, h⟩ := h
    refine KR.run 5 [(1, .slice t1a t1n t1k), (2, .bool t2), (6, .pointer (some ⟨t6b, t6o, none⟩)), (7, .slice t7a t7n t7k), (16, .slice (some ⟨t16ab, t16ao, none⟩) t16n t16k), (17, .int .i64 t17), (18, .int .i64 t18)] 50 (s' := (.reg (opsAt (sub B [1, 1, 0, 1, 0, 0, 1, 1, 0, 0, 0])) [0, 1, 2, 3] :: S8)) (by kernel_rfl) fun J => ?_
    obtain ⟨q5, q5x, h⟩ := h
    refine KR.p (one_ix 5 t16ab t16ao (by kernel_rfl) q5 q5x) ?_
    obtain ⟨t21c0, t21c1, t21c2, t21c3, t21c4, q6, h⟩ := h
    refine KR.rd (one_ldA (by kernel_rfl) q6) ?_
    obtain ⟨H_1, q7, h⟩ := h
    refine KR.mk (w := pRow [.int .i64 0, .int .i64 0, .int .i64 0, .int .i64 0, .int .i64 0]) (one_al (by kernel_rfl)) q7 ?_
    obtain ⟨H_2, q8, h⟩ := h
    refine KR.se (one_st (by kernel_rfl) q8) ?_
    refine KR.run 3 [(1, .slice t1a t1n t1k), (2, .bool t2), (6, .pointer (some ⟨t6b, t6o, none⟩)), (7, .slice t7a t7n t7k), (9, .pointer (some ⟨H.next, 0, none⟩)), (16, .slice (some ⟨t16ab, t16ao, none⟩) t16n t16k), (17, .int .i64 t17), (18, .int .i64 t18)] 50 (s' := (.reg (opsAt (sub B [1, 1, 0, 1, 0, 0, 1, 1, 0, 0, 1, 0])) [0, 1, 2, 3] :: S9)) (by kernel_rfl) fun J => ?_
    obtain ⟨t22c0, t22c1, t22c2, t22c3, t22c4, q9, h⟩ := h
    refine KR.rd (one_ldA (by kernel_rfl) q9) ?_
    refine KR.run 1 [(1, .slice t1a t1n t1k), (2, .bool t2), (6, .pointer (some ⟨t6b, t6o, none⟩)), (7, .slice t7a t7n t7k), (9, .pointer (some ⟨H.next, 0, none⟩)), (16, .slice (some ⟨t16ab, t16ao, none⟩) t16n t16k), (17, .int .i64 t17), (18, .int .i64 t18), (22, .agg #[.int .i64 t22c0, .int .i64 t22c1, .int .i64 t22c2, .int .i64 t22c3, .int .i64 t22c4]), (23, .slice t1a t1n t1k)] 50 (s' := (.reg (opsAt (sub B [1, 1, 0, 1, 0, 0, 1, 1, 0, 0, 1, 0])) [2, 3] :: S9)) (by kernel_rfl) fun J => ?_
    obtain ⟨t24, H_3, q10, h⟩ := h
    refine KR.se (one_ca (by kernel_rfl) q10) ?_
    refine KR.run 7 [(1, .slice t1a t1n t1k), (2, .bool t2), (6, .pointer (some ⟨t6b, t6o, none⟩)), (7, .slice t7a t7n t7k), (9, .pointer (some ⟨H.next, 0, none⟩)), (10, .int .i64 t24), (16, .slice (some ⟨t16ab, t16ao, none⟩) t16n t16k), (17, .int .i64 t17), (18, .int .i64 t18), (27, .bool (decide (t24 ≥ 0)))] 50 (s' := (.reg (opsAt (sub B [1, 1, 0, 1, 0, 0, 1, 1, 0, 0, 1, 1, 0])) [3, 4, 5, 6] :: S10)) (by kernel_rfl) fun J => ?_
    by_cases c11 : t24 ≥ 0
    · replace h := iteT c11 h
      refine KR.setV 27 (by kernel_rfl) (dT c11) ?_
      obtain ⟨t28c0, t28c1, t28c2, t28c3, t28c4, q12, h⟩ := h
      refine KR.rd (one_ldA (by kernel_rfl) q12) ?_
      refine KR.run 1 [(1, .slice t1a t1n t1k), (2, .bool t2), (6, .pointer (some ⟨t6b, t6o, none⟩)), (7, .slice t7a t7n t7k), (9, .pointer (some ⟨H.next, 0, none⟩)), (10, .int .i64 t24), (16, .slice (some ⟨t16ab, t16ao, none⟩) t16n t16k), (17, .int .i64 t17), (18, .int .i64 t18), (27, .bool true), (28, .agg #[.int .i64 t28c0, .int .i64 t28c1, .int .i64 t28c2, .int .i64 t28c3, .int .i64 t28c4]), (29, .bool t2)] 50 (s' := (.reg (opsAt (sub B [1, 1, 0, 1, 0, 0, 1, 1, 0, 0, 1, 1, 0])) [5, 6] :: S10)) (by kernel_rfl) fun J => ?_
      obtain ⟨t30, H_4, q13, h⟩ := h
      refine KR.se (one_ca (by kernel_rfl) q13) ?_
      exact KR.run 2 [(1, .slice t1a t1n t1k), (2, .bool t2), (6, .pointer (some ⟨t6b, t6o, none⟩)), (7, .slice t7a t7n t7k), (9, .pointer (some ⟨H.next, 0, none⟩)), (10, .int .i64 t24), (16, .slice (some ⟨t16ab, t16ao, none⟩) t16n t16k), (17, .int .i64 t17), (18, .int .i64 t18), (31, .bool t30)] 50 (s' := (.code (sub B [1, 1, 0, 1, 0, 0, 1, 1, 0, 0, 1, 1, 1]) :: S7)) (by kernel_rfl) h
    · replace h := iteF c11 h
      refine KR.setV 27 (by kernel_rfl) (dF c11) ?_
      exact KR.run 5 [(1, .slice t1a t1n t1k), (2, .bool t2), (6, .pointer (some ⟨t6b, t6o, none⟩)), (7, .slice t7a t7n t7k), (9, .pointer (some ⟨H.next, 0, none⟩)), (10, .int .i64 t24), (16, .slice (some ⟨t16ab, t16ao, none⟩) t16n t16k), (17, .int .i64 t17), (18, .int .i64 t18), (31, .bool false)] 50 (s' := (.code (sub B [1, 1, 0, 1, 0, 0, 1, 1, 0, 0, 1, 1, 1]) :: S7)) (by kernel_rfl) h
  · replace h := iteF c4 h
    refine KR.br false (by kernel_rfl) (vB (dF c4)) ?_
    exact KR.run 10 [(6, .pointer (some ⟨t6b, t6o, none⟩)), (36, .slice t7a t7n t7k), (37, .int .i64 ((t7n : Nat) : Int)), (38, .int .i64 0)] 50 (s' := (.lp (sub B [1, 1, 1, 0, 1, 0, 0]) :: S12)) (by kernel_rfl) h
theorem L1_step {t1a : Option Addr} {t1n : Nat} {t1k : Nat} {t2 : Bool} {t6b : Nat} {t6o : Nat} {t7a : Option Addr} {t7n : Nat} {t7k : Nat} {t9b : Nat} {t9o : Nat} {t10 : Int} {t16b : Nat} {t16o : Nat} {t16n : Nat} {t16k : Nat} {t17 : Int} {t18 : Int} {t31 : Bool} {H : Heap} {r : Value × Heap} (h :
    if t31 = true then
    (∃ (t32c0 : Int) (t32c1 : Int) (t32c2 : Int) (t32c3 : Int) (t32c4 : Int), ldAll H t9b t9o [.int .i64 t32c0, .int .i64 t32c1, .int .i64 t32c2, .int .i64 t32c3, .int .i64 t32c4] ∧
    (∃ (H_1 : Heap), stc H t6b t6o [.int .i64 1, .int .i64 t32c0, .int .i64 t32c1, .int .i64 t32c2, .int .i64 t32c3, .int .i64 t32c4, .int .i64 t10] = some H_1 ∧
    (∃ (r6c0 : Int) (r6c1 : Int) (r6c2 : Int) (r6c3 : Int) (r6c4 : Int) (r6c5 : Int) (r6c6 : Int), ldAll H_1 t6b t6o [.int .i64 r6c0, .int .i64 r6c1, .int .i64 r6c2, .int .i64 r6c3, .int .i64 r6c4, .int .i64 r6c5, .int .i64 r6c6] ∧
    (r = (.agg #[.int .i64 r6c0, .int .i64 r6c1, .int .i64 r6c2, .int .i64 r6c3, .int .i64 r6c4, .int .i64 r6c5, .int .i64 r6c6], H_1)))))
    else
    (L0 (t1a) (t1n) (t1k) (t2) (t6b) (t6o) (t7a) (t7n) (t7k) ((some ⟨t16b, t16o, none⟩)) (t16n) (t16k) (t17) ((IntKind.wrap .i64 (t18 + 1))) H r)) :
    L1 t1a t1n t1k t2 t6b t6o t7a t7n t7k t9b t9o t10 t16b t16o t16n t16k t17 t18 t31 H r := by
  intro J
  show KR _ _ _ (.code (sub B [1, 1, 0, 1, 0, 0, 1, 1, 0, 0, 1, 1, 1]) :: S7) _ _ _
  by_cases c14 : t31 = true
  · replace h := iteT c14 h
    refine KR.br true (by kernel_rfl) (vB (bT c14)) ?_
    refine KR.run 2 [(6, .pointer (some ⟨t6b, t6o, none⟩)), (9, .pointer (some ⟨t9b, t9o, none⟩)), (10, .int .i64 t10)] 50 (s' := (.reg (opsAt (sub B [1, 1, 0, 1, 0, 0, 1, 1, 0, 0, 1, 1, 1, 0, 0])) [0, 1, 2, 3] :: S13)) (by kernel_rfl) fun J => ?_
    obtain ⟨t32c0, t32c1, t32c2, t32c3, t32c4, q15, h⟩ := h
    refine KR.rd (one_ldA (by kernel_rfl) q15) ?_
    refine KR.run 2 [(6, .pointer (some ⟨t6b, t6o, none⟩)), (34, .agg #[.int .i64 1, .int .i64 t32c0, .int .i64 t32c1, .int .i64 t32c2, .int .i64 t32c3, .int .i64 t32c4, .int .i64 t10])] 50 (s' := (.reg (opsAt (sub B [1, 1, 0, 1, 0, 0, 1, 1, 0, 0, 1, 1, 1, 0, 0])) [3] :: S13)) (by kernel_rfl) fun J => ?_
    obtain ⟨H_1, q16, h⟩ := h
    refine KR.se (one_st (by kernel_rfl) q16) ?_
    refine KR.run 1 [(6, .pointer (some ⟨t6b, t6o, none⟩))] 50 (s' := (.code (sub B [1, 1, 0, 1, 0, 0, 1, 1, 0, 0, 1, 1, 1, 0, 1]) :: S7)) (by kernel_rfl) fun J => ?_
    obtain ⟨r6c0, r6c1, r6c2, r6c3, r6c4, r6c5, r6c6, q17, h⟩ := h
    exact KR.finR (l := [.cell 6 28]) (vs := [.agg #[.int .i64 r6c0, .int .i64 r6c1, .int .i64 r6c2, .int .i64 r6c3, .int .i64 r6c4, .int .i64 r6c5, .int .i64 r6c6]]) (by kernel_rfl) (Res.cellA (by kernel_rfl) q17 Res.nil) (by kernel_rfl) h
  · replace h := iteF c14 h
    refine KR.br false (by kernel_rfl) (vB (bF c14)) ?_
    exact KR.run 6 [(1, .slice t1a t1n t1k), (2, .bool t2), (6, .pointer (some ⟨t6b, t6o, none⟩)), (7, .slice t7a t7n t7k), (16, .slice (some ⟨t16b, t16o, none⟩) t16n t16k), (17, .int .i64 t17), (18, .int .i64 (IntKind.wrap .i64 (t18 + 1)))] 50 (s' := (.lp (sub B [1, 1, 0, 1, 0, 0]) :: S3)) (by kernel_rfl) h
theorem L2_step {t6b : Nat} {t6o : Nat} {t36a : Option Addr} {t36n : Nat} {t36k : Nat} {t37 : Int} {t38 : Int} {H : Heap} {r : Value × Heap} (h :
    if t38 < t37 then
    (∃ (t36ab t36ao : Nat), t36a = some ⟨t36ab, t36ao, none⟩ ∧
    ((0 : Int) ≤ t38 ∧ t38 < ((t36n : Nat) : Int) ∧
    (∃ (t41c0 : Int) (t41c1 : Int) (t41c2 : Int) (t41c3 : Int) (t41c4 : Int), ldAll H t36ab (t36ao + Int.toNat t38 * 5) [.int .i64 t41c0, .int .i64 t41c1, .int .i64 t41c2, .int .i64 t41c3, .int .i64 t41c4] ∧
    (∃ (H_1 : Heap), H_1 = H.push (.row [.int .i64 0, .int .i64 0, .int .i64 0, .int .i64 0, .int .i64 0] true) ∧
    (∃ (H_2 : Heap), stc H_1 H.next 0 [.int .i64 t41c0, .int .i64 t41c1, .int .i64 t41c2, .int .i64 t41c3, .int .i64 t41c4] = some H_2 ∧
    (∃ (t43 : Int), ldc H_2 H.next 3 = some (.int .i64 t43) ∧
    (if (iand .i64 t43 2) = 0 then
    (L2 (t6b) (t6o) ((some ⟨t36ab, t36ao, none⟩)) (t36n) (t36k) (t37) ((IntKind.wrap .i64 (t38 + 1))) H_2 r)
    else
    (∃ (t46c0 : Int) (t46c1 : Int) (t46c2 : Int) (t46c3 : Int) (t46c4 : Int), ldAll H_2 H.next 0 [.int .i64 t46c0, .int .i64 t46c1, .int .i64 t46c2, .int .i64 t46c3, .int .i64 t46c4] ∧
    (∃ (H_3 : Heap), stc H_2 t6b t6o [.int .i64 2, .int .i64 t46c0, .int .i64 t46c1, .int .i64 t46c2, .int .i64 t46c3, .int .i64 t46c4, .int .i64 0] = some H_3 ∧
    (∃ (r6c0 : Int) (r6c1 : Int) (r6c2 : Int) (r6c3 : Int) (r6c4 : Int) (r6c5 : Int) (r6c6 : Int), ldAll H_3 t6b t6o [.int .i64 r6c0, .int .i64 r6c1, .int .i64 r6c2, .int .i64 r6c3, .int .i64 r6c4, .int .i64 r6c5, .int .i64 r6c6] ∧
    (r = (.agg #[.int .i64 r6c0, .int .i64 r6c1, .int .i64 r6c2, .int .i64 r6c3, .int .i64 r6c4, .int .i64 r6c5, .int .i64 r6c6], H_3))))))))))))
    else
    (∃ (H_4 : Heap), stc H t6b t6o [.int .i64 0, .int .i64 0, .int .i64 0, .int .i64 0, .int .i64 0, .int .i64 0, .int .i64 0] = some H_4 ∧
    (∃ (r6c0_1 : Int) (r6c1_1 : Int) (r6c2_1 : Int) (r6c3_1 : Int) (r6c4_1 : Int) (r6c5_1 : Int) (r6c6_1 : Int), ldAll H_4 t6b t6o [.int .i64 r6c0_1, .int .i64 r6c1_1, .int .i64 r6c2_1, .int .i64 r6c3_1, .int .i64 r6c4_1, .int .i64 r6c5_1, .int .i64 r6c6_1] ∧
    (r = (.agg #[.int .i64 r6c0_1, .int .i64 r6c1_1, .int .i64 r6c2_1, .int .i64 r6c3_1, .int .i64 r6c4_1, .int .i64 r6c5_1, .int .i64 r6c6_1], H_4))))) :
    L2 t6b t6o t36a t36n t36k t37 t38 H r := by
  intro J
  show KR _ _ _ (.lp (sub B [1, 1, 1, 0, 1, 0, 0]) :: S12) _ _ _
  refine KR.run 6 [(6, .pointer (some ⟨t6b, t6o, none⟩)), (36, .slice t36a t36n t36k), (37, .int .i64 t37), (38, .int .i64 t38), (39, .bool (decide (t38 < t37)))] 50 (s' := (.code (sub B [1, 1, 1, 0, 1, 0, 0, 1, 0]) :: S15)) (by kernel_rfl) fun J => ?_
  by_cases c18 : t38 < t37
  · replace h := iteT c18 h
    refine KR.br true (by kernel_rfl) (vB (dT c18)) ?_
    obtain ⟨t36ab, t36ao, rfl, h⟩ := h
    refine KR.run 5 [(6, .pointer (some ⟨t6b, t6o, none⟩)), (36, .slice (some ⟨t36ab, t36ao, none⟩) t36n t36k), (37, .int .i64 t37), (38, .int .i64 t38)] 50 (s' := (.reg (opsAt (sub B [1, 1, 1, 0, 1, 0, 0, 1, 1, 0, 0, 0])) [0, 1, 2, 3] :: S18)) (by kernel_rfl) fun J => ?_
    obtain ⟨q19, q19x, h⟩ := h
    refine KR.p (one_ix 5 t36ab t36ao (by kernel_rfl) q19 q19x) ?_
    obtain ⟨t41c0, t41c1, t41c2, t41c3, t41c4, q20, h⟩ := h
    refine KR.rd (one_ldA (by kernel_rfl) q20) ?_
    obtain ⟨H_1, q21, h⟩ := h
    refine KR.mk (w := pRow [.int .i64 0, .int .i64 0, .int .i64 0, .int .i64 0, .int .i64 0]) (one_al (by kernel_rfl)) q21 ?_
    obtain ⟨H_2, q22, h⟩ := h
    refine KR.se (one_st (by kernel_rfl) q22) ?_
    refine KR.run 4 [(6, .pointer (some ⟨t6b, t6o, none⟩)), (12, .pointer (some ⟨H.next, 0, none⟩)), (36, .slice (some ⟨t36ab, t36ao, none⟩) t36n t36k), (37, .int .i64 t37), (38, .int .i64 t38), (42, .pointer (some ⟨H.next, 3, none⟩))] 50 (s' := (.reg (opsAt (sub B [1, 1, 1, 0, 1, 0, 0, 1, 1, 0, 0, 1, 0])) [1, 2, 3] :: S19)) (by kernel_rfl) fun J => ?_
    obtain ⟨t43, q23, h⟩ := h
    refine KR.rd (one_ld (by kernel_rfl) q23) ?_
    refine KR.run 3 [(6, .pointer (some ⟨t6b, t6o, none⟩)), (12, .pointer (some ⟨H.next, 0, none⟩)), (36, .slice (some ⟨t36ab, t36ao, none⟩) t36n t36k), (37, .int .i64 t37), (38, .int .i64 t38), (45, .bool (!((iand .i64 t43 2) == 0)))] 50 (s' := (.code (sub B [1, 1, 1, 0, 1, 0, 0, 1, 1, 0, 0, 1, 1]) :: S17)) (by kernel_rfl) fun J => ?_
    by_cases c24 : (iand .i64 t43 2) = 0
    · replace h := iteT c24 h
      refine KR.br false (by kernel_rfl) (vB (nB (eT c24))) ?_
      exact KR.run 6 [(6, .pointer (some ⟨t6b, t6o, none⟩)), (36, .slice (some ⟨t36ab, t36ao, none⟩) t36n t36k), (37, .int .i64 t37), (38, .int .i64 (IntKind.wrap .i64 (t38 + 1)))] 50 (s' := (.lp (sub B [1, 1, 1, 0, 1, 0, 0]) :: S12)) (by kernel_rfl) h
    · replace h := iteF c24 h
      refine KR.br true (by kernel_rfl) (vB (nB (eF c24))) ?_
      refine KR.run 2 [(6, .pointer (some ⟨t6b, t6o, none⟩)), (12, .pointer (some ⟨H.next, 0, none⟩))] 50 (s' := (.reg (opsAt (sub B [1, 1, 1, 0, 1, 0, 0, 1, 1, 0, 0, 1, 1, 0, 0])) [0, 1, 2] :: S20)) (by kernel_rfl) fun J => ?_
      obtain ⟨t46c0, t46c1, t46c2, t46c3, t46c4, q25, h⟩ := h
      refine KR.rd (one_ldA (by kernel_rfl) q25) ?_
      refine KR.run 1 [(6, .pointer (some ⟨t6b, t6o, none⟩)), (47, .agg #[.int .i64 2, .int .i64 t46c0, .int .i64 t46c1, .int .i64 t46c2, .int .i64 t46c3, .int .i64 t46c4, .int .i64 0])] 50 (s' := (.reg (opsAt (sub B [1, 1, 1, 0, 1, 0, 0, 1, 1, 0, 0, 1, 1, 0, 0])) [2] :: S20)) (by kernel_rfl) fun J => ?_
      obtain ⟨H_3, q26, h⟩ := h
      refine KR.se (one_st (by kernel_rfl) q26) ?_
      refine KR.run 1 [(6, .pointer (some ⟨t6b, t6o, none⟩))] 50 (s' := (.code (sub B [1, 1, 1, 0, 1, 0, 0, 1, 1, 0, 0, 1, 1, 0, 1]) :: S17)) (by kernel_rfl) fun J => ?_
      obtain ⟨r6c0, r6c1, r6c2, r6c3, r6c4, r6c5, r6c6, q27, h⟩ := h
      exact KR.finR (l := [.cell 6 28]) (vs := [.agg #[.int .i64 r6c0, .int .i64 r6c1, .int .i64 r6c2, .int .i64 r6c3, .int .i64 r6c4, .int .i64 r6c5, .int .i64 r6c6]]) (by kernel_rfl) (Res.cellA (by kernel_rfl) q27 Res.nil) (by kernel_rfl) h
  · replace h := iteF c18 h
    refine KR.br false (by kernel_rfl) (vB (dF c18)) ?_
    refine KR.run 4 [(6, .pointer (some ⟨t6b, t6o, none⟩)), (49, .agg #[.int .i64 0, .int .i64 0, .int .i64 0, .int .i64 0, .int .i64 0, .int .i64 0, .int .i64 0])] 50 (s' := (.reg (opsAt (sub B [1, 1, 1, 1, 0])) [1] :: S21)) (by kernel_rfl) fun J => ?_
    obtain ⟨H_4, q28, h⟩ := h
    refine KR.se (one_st (by kernel_rfl) q28) ?_
    refine KR.run 1 [(6, .pointer (some ⟨t6b, t6o, none⟩))] 50 (s' := (.code (sub B [1, 1, 1, 1, 1]) :: [])) (by kernel_rfl) fun J => ?_
    obtain ⟨r6c0_1, r6c1_1, r6c2_1, r6c3_1, r6c4_1, r6c5_1, r6c6_1, q29, h⟩ := h
    exact KR.finR (l := [.cell 6 28]) (vs := [.agg #[.int .i64 r6c0_1, .int .i64 r6c1_1, .int .i64 r6c2_1, .int .i64 r6c3_1, .int .i64 r6c4_1, .int .i64 r6c5_1, .int .i64 r6c6_1]]) (by kernel_rfl) (Res.cellA (by kernel_rfl) q29 Res.nil) (by kernel_rfl) h
theorem call {a0a : Option Addr} {a0n : Nat} {a0k : Nat} {a1a : Option Addr} {a1n : Nat} {a1k : Nat} {a2 : Bool} {H : Heap} {r : Value × Heap} (h :
    ∃ (H_1 : Heap), H_1 = H.push (.row [.int .i64 0, .int .i64 0, .int .i64 0, .int .i64 0, .int .i64 0, .int .i64 0, .int .i64 0] true) ∧
    (∃ (t14a : Option Addr) (t14n : Nat) (t14k : Nat) (H_2 : Heap), xC Try.prog good 33 [.slice a0a a0n a0k] H_1 = some (.slice t14a t14n t14k, H_2) ∧
    (∃ (t15a : Option Addr) (t15n : Nat) (t15k : Nat) (H_3 : Heap), xC Try.prog good 32 [.slice t14a t14n t14k, .func (.func 34) #[] #[]] H_2 = some (.slice t15a t15n t15k, H_3) ∧
    (L0 (a1a) (a1n) (a1k) (a2) (H.next) (0) (t15a) (t15n) (t15k) (t15a) (t15n) (t15k) (((t15n : Nat) : Int)) 0 H_3 r)))) :
    xC Try.prog good 13 [.slice a0a a0n a0k, .slice a1a a1n a1k, .bool a2] H = some r := by
  refine KR.enter (fn := Try.f13) (c := B) (by kernel_rfl) (by kernel_rfl) ?_
  refine KR.run 2 [(0, .slice a0a a0n a0k), (1, .slice a1a a1n a1k), (2, .bool a2)] 50 (s' := (.reg (opsAt (sub B [0])) [0] :: S0)) (by kernel_rfl) fun J => ?_
  obtain ⟨H_1, q1, h⟩ := h
  refine KR.mk (w := pRow [.int .i64 0, .int .i64 0, .int .i64 0, .int .i64 0, .int .i64 0, .int .i64 0, .int .i64 0]) (one_al (by kernel_rfl)) q1 ?_
  refine KR.run 4 [(1, .slice a1a a1n a1k), (2, .bool a2), (6, .pointer (some ⟨H.next, 0, none⟩)), (13, .slice a0a a0n a0k)] 50 (s' := (.reg (opsAt (sub B [1, 0])) [1, 2, 3] :: S1)) (by kernel_rfl) fun J => ?_
  obtain ⟨t14a, t14n, t14k, H_2, q2, h⟩ := h
  refine KR.se (one_ca (by kernel_rfl) q2) ?_
  obtain ⟨t15a, t15n, t15k, H_3, q3, h⟩ := h
  refine KR.se (one_ca (by kernel_rfl) q3) ?_
  exact KR.run 11 [(1, .slice a1a a1n a1k), (2, .bool a2), (6, .pointer (some ⟨H.next, 0, none⟩)), (7, .slice t15a t15n t15k), (16, .slice t15a t15n t15k), (17, .int .i64 ((t15n : Nat) : Int)), (18, .int .i64 0)] 50 (s' := (.lp (sub B [1, 1, 0, 1, 0, 0]) :: S3)) (by kernel_rfl) h
end F13
/-! #### 14 campanile/campanileref8.Decide -/
namespace F14
noncomputable def B : Code := bodyOf Try.f14
noncomputable def S0 : List It := (.code (sub B [1]) :: [])
noncomputable def S1 : List It := (.code (sub B [1, 1]) :: [])
noncomputable def S10 : List It := (.code (sub B [1, 1, 1]) :: [])
noncomputable def S19 : List It := (.code (sub B [1, 1, 1, 1]) :: [])
noncomputable def S2 : List It := (.blk 0 :: S1)
noncomputable def S11 : List It := (.blk 4 :: S10)
noncomputable def S3 : List It := (.lp (sub B [1, 0, 1, 0, 0]) :: S2)
noncomputable def S13 : List It := (.lp (sub B [1, 1, 0, 1, 0, 0]) :: S11)
noncomputable def S4 : List It := (.code (sub B [1, 0, 1, 0, 0, 1, 1]) :: S3)
noncomputable def S5 : List It := (.code (sub B [1, 0, 1, 0, 0, 1, 1, 1]) :: S3)
noncomputable def S14 : List It := (.code (sub B [1, 1, 0, 1, 0, 0, 1, 1]) :: S13)
noncomputable def S15 : List It := (.code (sub B [1, 1, 0, 1, 0, 0, 1, 1, 1]) :: S13)
noncomputable def S6 : List It := (.blk 1 :: S5)
noncomputable def S16 : List It := (.blk 5 :: S15)
noncomputable def S7 : List It := (.code (sub B [1, 0, 1, 0, 0, 1, 1, 0, 0, 1]) :: S6)
noncomputable def S8 : List It := (.code (sub B [1, 0, 1, 0, 0, 1, 1, 0, 0, 1, 1]) :: S6)
noncomputable def S12 : List It := (.blk 2 :: S6)
noncomputable def S17 : List It := (.code (sub B [1, 1, 0, 1, 0, 0, 1, 1, 0, 0, 1]) :: S16)
noncomputable def S18 : List It := (.code (sub B [1, 1, 0, 1, 0, 0, 1, 1, 0, 0, 1, 1]) :: S16)
noncomputable def S26 : List It := (.code (sub B [1, 1, 0, 1, 0, 0, 1, 1, 0, 0, 1, 1, 0, 1]) :: S16)
noncomputable def S9 : List It := (.code (sub B [1, 0, 1, 0, 0, 1, 1, 0, 0, 1, 0, 1]) :: S8)
noncomputable def S20 : List It := (.lp (sub B [1, 0, 1, 0, 0, 1, 1, 0, 0, 1, 1, 1, 0, 0]) :: S12)
noncomputable def S21 : List It := (.code (sub B [1, 0, 1, 0, 0, 1, 1, 0, 0, 1, 1, 1, 0, 0, 1, 1]) :: S20)
noncomputable def S22 : List It := (.code (sub B [1, 0, 1, 0, 0, 1, 1, 0, 0, 1, 1, 1, 0, 0, 1, 1, 1]) :: S20)
noncomputable def S23 : List It := (.blk 3 :: S22)
noncomputable def S24 : List It := (.code (sub B [1, 0, 1, 0, 0, 1, 1, 0, 0, 1, 1, 1, 0, 0, 1, 1, 0, 0, 1]) :: S23)
noncomputable def S25 : List It := (.code (sub B [1, 0, 1, 0, 0, 1, 1, 0, 0, 1, 1, 1, 0, 0, 1, 1, 0, 0, 1, 1]) :: S23)
noncomputable def S27 : List It := (.code (sub B [1, 0, 1, 0, 0, 1, 1, 0, 0, 1, 1, 1, 0, 0, 1, 1, 0, 0, 1, 1, 0, 1]) :: S23)
def L0 (t0a : Option Addr) (t0n : Nat) (t0k : Nat) (t1a : Option Addr) (t1n : Nat) (t1k : Nat) (t2 : Bool) (t6b : Nat) (t6o : Nat) (t13a : Option Addr) (t13n : Nat) (t13k : Nat) (t14 : Int) (t15 : Int) (H : Heap) (r : Value × Heap) : Prop := ∀ J, KR Try.prog good Try.f14 S3 (mat J 77 [(0, .slice t0a t0n t0k), (1, .slice t1a t1n t1k), (2, .bool t2), (6, .pointer (some ⟨t6b, t6o, none⟩)), (13, .slice t13a t13n t13k), (14, .int .i64 t14), (15, .int .i64 t15)]) H r
def L1 (t0a : Option Addr) (t0n : Nat) (t0k : Nat) (t1a : Option Addr) (t1n : Nat) (t1k : Nat) (t2 : Bool) (t6b : Nat) (t6o : Nat) (t8b : Nat) (t8o : Nat) (t13b : Nat) (t13o : Nat) (t13n : Nat) (t13k : Nat) (t14 : Int) (t15 : Int) (t37 : Bool) (H : Heap) (r : Value × Heap) : Prop := ∀ J, KR Try.prog good Try.f14 S9 (mat J 77 [(0, .slice t0a t0n t0k), (1, .slice t1a t1n t1k), (2, .bool t2), (6, .pointer (some ⟨t6b, t6o, none⟩)), (8, .pointer (some ⟨t8b, t8o, none⟩)), (13, .slice (some ⟨t13b, t13o, none⟩) t13n t13k), (14, .int .i64 t14), (15, .int .i64 t15), (37, .bool t37)]) H r
def L2 (t6b : Nat) (t6o : Nat) (t59a : Option Addr) (t59n : Nat) (t59k : Nat) (t60 : Int) (t61 : Int) (H : Heap) (r : Value × Heap) : Prop := ∀ J, KR Try.prog good Try.f14 S13 (mat J 77 [(6, .pointer (some ⟨t6b, t6o, none⟩)), (59, .slice t59a t59n t59k), (60, .int .i64 t60), (61, .int .i64 t61)]) H r
def L3 (t0a : Option Addr) (t0n : Nat) (t0k : Nat) (t1a : Option Addr) (t1n : Nat) (t1k : Nat) (t2 : Bool) (t6b : Nat) (t6o : Nat) (t8b : Nat) (t8o : Nat) (t13b : Nat) (t13o : Nat) (t13n : Nat) (t13k : Nat) (t14 : Int) (t15 : Int) (t38a : Option Addr) (t38n : Nat) (t38k : Nat) (t39 : Int) (t40 : Int) (H : Heap) (r : Value × Heap) : Prop := ∀ J, KR Try.prog good Try.f14 S20 (mat J 77 [(0, .slice t0a t0n t0k), (1, .slice t1a t1n t1k), (2, .bool t2), (6, .pointer (some ⟨t6b, t6o, none⟩)), (8, .pointer (some ⟨t8b, t8o, none⟩)), (13, .slice (some ⟨t13b, t13o, none⟩) t13n t13k), (14, .int .i64 t14), (15, .int .i64 t15), (38, .slice t38a t38n t38k), (39, .int .i64 t39), (40, .int .i64 t40)]) H r
def L4 (t6b : Nat) (t6o : Nat) (t12b : Nat) (t12o : Nat) (t59b : Nat) (t59o : Nat) (t59n : Nat) (t59k : Nat) (t60 : Int) (t61 : Int) (t72 : Bool) (H : Heap) (r : Value × Heap) : Prop := ∀ J, KR Try.prog good Try.f14 S18 (mat J 77 [(6, .pointer (some ⟨t6b, t6o, none⟩)), (12, .pointer (some ⟨t12b, t12o, none⟩)), (59, .slice (some ⟨t59b, t59o, none⟩) t59n t59k), (60, .int .i64 t60), (61, .int .i64 t61), (72, .bool t72)]) H r
def L5 (t0a : Option Addr) (t0n : Nat) (t0k : Nat) (t1a : Option Addr) (t1n : Nat) (t1k : Nat) (t2 : Bool) (t6b : Nat) (t6o : Nat) (t8b : Nat) (t8o : Nat) (t9 : Int) (t13b : Nat) (t13o : Nat) (t13n : Nat) (t13k : Nat) (t14 : Int) (t15 : Int) (t38b : Nat) (t38o : Nat) (t38n : Nat) (t38k : Nat) (t39 : Int) (t40 : Int) (t53 : Bool) (H : Heap) (r : Value × Heap) : Prop := ∀ J, KR Try.prog good Try.f14 S25 (mat J 77 [(0, .slice t0a t0n t0k), (1, .slice t1a t1n t1k), (2, .bool t2), (6, .pointer (some ⟨t6b, t6o, none⟩)), (8, .pointer (some ⟨t8b, t8o, none⟩)), (9, .int .i64 t9), (13, .slice (some ⟨t13b, t13o, none⟩) t13n t13k), (14, .int .i64 t14), (15, .int .i64 t15), (38, .slice (some ⟨t38b, t38o, none⟩) t38n t38k), (39, .int .i64 t39), (40, .int .i64 t40), (53, .bool t53)]) H r
theorem L0_step {t0a : Option Addr} {t0n : Nat} {t0k : Nat} {t1a : Option Addr} {t1n : Nat} {t1k : Nat} {t2 : Bool} {t6b : Nat} {t6o : Nat} {t13a : Option Addr} {t13n : Nat} {t13k : Nat} {t14 : Int} {t15 : Int} {H : Heap} {r : Value × Heap} (h :
    if t15 < t14 then
    (∃ (t13ab t13ao : Nat), t13a = some ⟨t13ab, t13ao, none⟩ ∧
    ((0 : Int) ≤ t15 ∧ t15 < ((t13n : Nat) : Int) ∧
    (∃ (t18c0 : Int) (t18c1 : Int) (t18c2 : Int) (t18c3 : Int) (t18c4 : Int), ldAll H t13ab (t13ao + Int.toNat t15 * 5) [.int .i64 t18c0, .int .i64 t18c1, .int .i64 t18c2, .int .i64 t18c3, .int .i64 t18c4] ∧
    (∃ (H_1 : Heap), H_1 = H.push (.row [.int .i64 0, .int .i64 0, .int .i64 0, .int .i64 0, .int .i64 0] true) ∧
    (∃ (H_2 : Heap), stc H_1 H.next 0 [.int .i64 t18c0, .int .i64 t18c1, .int .i64 t18c2, .int .i64 t18c3, .int .i64 t18c4] = some H_2 ∧
    (∃ (t19c0 : Int) (t19c1 : Int) (t19c2 : Int) (t19c3 : Int) (t19c4 : Int), ldAll H_2 H.next 0 [.int .i64 t19c0, .int .i64 t19c1, .int .i64 t19c2, .int .i64 t19c3, .int .i64 t19c4] ∧
    (∃ (t20 : Bool) (H_3 : Heap), xC Try.prog good 15 [.agg #[.int .i64 t19c0, .int .i64 t19c1, .int .i64 t19c2, .int .i64 t19c3, .int .i64 t19c4]] H_2 = some (.bool t20, H_3) ∧
    (if t20 = true then
    (∃ (t24 : Int), ldc H_3 H.next 3 = some (.int .i64 t24) ∧
    (if (iand .i64 t24 1) = 0 then
    (L1 (t0a) (t0n) (t0k) (t1a) (t1n) (t1k) (t2) (t6b) (t6o) (H.next) (0) (t13ab) (t13ao) (t13n) (t13k) (t14) (t15) (true) H_3 r)
    else
    (∃ (t30 : Int), ldc H_3 H.next 3 = some (.int .i64 t30) ∧
    (if (iand .i64 t30 4) = 0 then
    (L1 (t0a) (t0n) (t0k) (t1a) (t1n) (t1k) (t2) (t6b) (t6o) (H.next) (0) (t13ab) (t13ao) (t13n) (t13k) (t14) (t15) (false) H_3 r)
    else
    (L1 (t0a) (t0n) (t0k) (t1a) (t1n) (t1k) (t2) (t6b) (t6o) (H.next) (0) (t13ab) (t13ao) (t13n) (t13k) (t14) (t15) ((!t2)) H_3 r)))))
    else
    (L1 (t0a) (t0n) (t0k) (t1a) (t1n) (t1k) (t2) (t6b) (t6o) (H.next) (0) (t13ab) (t13ao) (t13n) (t13k) (t14) (t15) (true) H_3 r)))))))))
    else
    (L2 (t6b) (t6o) (t0a) (t0n) (t0k) (((t0n : Nat) : Int)) 0 H r)) :
    L0 t0a t0n t0k t1a t1n t1k t2 t6b t6o t13a t13n t13k t14 t15 H r := by
  intro J
  show KR _ _ _ (.lp (sub B [1, 0, 1, 0, 0]) :: S2) _ _ _
  refine KR.run 6 [(0, .slice t0a t0n t0k), (1, .slice t1a t1n t1k), (2, .bool t2), (6, .pointer (some ⟨t6b, t6o, none⟩)), (13, .slice t13a t13n t13k), (14, .int .i64 t14), (15, .int .i64 t15), (16, .bool (decide (t15 < t14)))] 77 (s' := (.code (sub B [1, 0, 1, 0, 0, 1, 0]) :: S4)) (by kernel_rfl) fun J => ?_
  by_cases c2 : t15 < t14
  · replace h := iteT c2 h
    refine KR.br true (by kernel_rfl) (vB (dT c2)) ?_
    obtain ⟨t13ab, t13ao, rfl, h⟩ := h
    refine KR.run 5 [(0, .slice t0a t0n t0k), (1, .slice t1a t1n t1k), (2, .bool t2), (6, .pointer (some ⟨t6b, t6o, none⟩)), (13, .slice (some ⟨t13ab, t13ao, none⟩) t13n t13k), (14, .int .i64 t14), (15, .int .i64 t15)] 77 (s' := (.reg (opsAt (sub B [1, 0, 1, 0, 0, 1, 1, 0, 0, 0])) [0, 1, 2, 3] :: S7)) (by kernel_rfl) fun J => ?_
    obtain ⟨q3, q3x, h⟩ := h
    refine KR.p (one_ix 5 t13ab t13ao (by kernel_rfl) q3 q3x) ?_
    obtain ⟨t18c0, t18c1, t18c2, t18c3, t18c4, q4, h⟩ := h
    refine KR.rd (one_ldA (by kernel_rfl) q4) ?_
    obtain ⟨H_1, q5, h⟩ := h
    refine KR.mk (w := pRow [.int .i64 0, .int .i64 0, .int .i64 0, .int .i64 0, .int .i64 0]) (one_al (by kernel_rfl)) q5 ?_
    obtain ⟨H_2, q6, h⟩ := h
    refine KR.se (one_st (by kernel_rfl) q6) ?_
    refine KR.run 4 [(0, .slice t0a t0n t0k), (1, .slice t1a t1n t1k), (2, .bool t2), (6, .pointer (some ⟨t6b, t6o, none⟩)), (8, .pointer (some ⟨H.next, 0, none⟩)), (13, .slice (some ⟨t13ab, t13ao, none⟩) t13n t13k), (14, .int .i64 t14), (15, .int .i64 t15)] 77 (s' := (.reg (opsAt (sub B [1, 0, 1, 0, 0, 1, 1, 0, 0, 1, 0, 0])) [0, 1, 2, 3, 4, 5, 6, 7, 8, 9, 10, 11, 12, 13, 14, 15, 16, 17, 18] :: S9)) (by kernel_rfl) fun J => ?_
    obtain ⟨t19c0, t19c1, t19c2, t19c3, t19c4, q7, h⟩ := h
    refine KR.rd (one_ldA (by kernel_rfl) q7) ?_
    obtain ⟨t20, H_3, q8, h⟩ := h
    refine KR.se (one_ca (by kernel_rfl) q8) ?_
    refine KR.run 2 [(0, .slice t0a t0n t0k), (1, .slice t1a t1n t1k), (2, .bool t2), (6, .pointer (some ⟨t6b, t6o, none⟩)), (8, .pointer (some ⟨H.next, 0, none⟩)), (13, .slice (some ⟨t13ab, t13ao, none⟩) t13n t13k), (14, .int .i64 t14), (15, .int .i64 t15), (22, .bool (!t20))] 77 (s' := (.reg (opsAt (sub B [1, 0, 1, 0, 0, 1, 1, 0, 0, 1, 0, 0])) [4, 5, 6, 7, 8, 9, 10, 11, 12, 13, 14, 15, 16, 17, 18] :: S9)) (by kernel_rfl) fun J => ?_
    by_cases c9 : t20 = true
    · replace h := iteT c9 h
      refine KR.setV 22 (by kernel_rfl) (nB (bT c9)) ?_
      refine KR.run 1 [(0, .slice t0a t0n t0k), (1, .slice t1a t1n t1k), (2, .bool t2), (6, .pointer (some ⟨t6b, t6o, none⟩)), (8, .pointer (some ⟨H.next, 0, none⟩)), (13, .slice (some ⟨t13ab, t13ao, none⟩) t13n t13k), (14, .int .i64 t14), (15, .int .i64 t15), (22, .bool false), (23, .pointer (some ⟨H.next, 3, none⟩))] 77 (s' := (.reg (opsAt (sub B [1, 0, 1, 0, 0, 1, 1, 0, 0, 1, 0, 0])) [5, 6, 7, 8, 9, 10, 11, 12, 13, 14, 15, 16, 17, 18] :: S9)) (by kernel_rfl) fun J => ?_
      obtain ⟨t24, q10, h⟩ := h
      refine KR.rd (one_ld (by kernel_rfl) q10) ?_
      refine KR.run 4 [(0, .slice t0a t0n t0k), (1, .slice t1a t1n t1k), (2, .bool t2), (6, .pointer (some ⟨t6b, t6o, none⟩)), (8, .pointer (some ⟨H.next, 0, none⟩)), (13, .slice (some ⟨t13ab, t13ao, none⟩) t13n t13k), (14, .int .i64 t14), (15, .int .i64 t15), (28, .bool ((iand .i64 t24 1) == 0))] 77 (s' := (.reg (opsAt (sub B [1, 0, 1, 0, 0, 1, 1, 0, 0, 1, 0, 0])) [10, 11, 12, 13, 14, 15, 16, 17, 18] :: S9)) (by kernel_rfl) fun J => ?_
      by_cases c11 : (iand .i64 t24 1) = 0
      · replace h := iteT c11 h
        refine KR.setV 28 (by kernel_rfl) (eT c11) ?_
        exact KR.run 10 [(0, .slice t0a t0n t0k), (1, .slice t1a t1n t1k), (2, .bool t2), (6, .pointer (some ⟨t6b, t6o, none⟩)), (8, .pointer (some ⟨H.next, 0, none⟩)), (13, .slice (some ⟨t13ab, t13ao, none⟩) t13n t13k), (14, .int .i64 t14), (15, .int .i64 t15), (37, .bool true)] 77 (s' := (.code (sub B [1, 0, 1, 0, 0, 1, 1, 0, 0, 1, 0, 1]) :: S8)) (by kernel_rfl) h
      · replace h := iteF c11 h
        refine KR.setV 28 (by kernel_rfl) (eF c11) ?_
        refine KR.run 1 [(0, .slice t0a t0n t0k), (1, .slice t1a t1n t1k), (2, .bool t2), (6, .pointer (some ⟨t6b, t6o, none⟩)), (8, .pointer (some ⟨H.next, 0, none⟩)), (13, .slice (some ⟨t13ab, t13ao, none⟩) t13n t13k), (14, .int .i64 t14), (15, .int .i64 t15), (28, .bool false), (29, .pointer (some ⟨H.next, 3, none⟩))] 77 (s' := (.reg (opsAt (sub B [1, 0, 1, 0, 0, 1, 1, 0, 0, 1, 0, 0])) [11, 12, 13, 14, 15, 16, 17, 18] :: S9)) (by kernel_rfl) fun J => ?_
        obtain ⟨t30, q12, h⟩ := h
        refine KR.rd (one_ld (by kernel_rfl) q12) ?_
        refine KR.run 3 [(0, .slice t0a t0n t0k), (1, .slice t1a t1n t1k), (2, .bool t2), (6, .pointer (some ⟨t6b, t6o, none⟩)), (8, .pointer (some ⟨H.next, 0, none⟩)), (13, .slice (some ⟨t13ab, t13ao, none⟩) t13n t13k), (14, .int .i64 t14), (15, .int .i64 t15), (28, .bool false), (33, .bool (!((iand .i64 t30 4) == 0)))] 77 (s' := (.reg (opsAt (sub B [1, 0, 1, 0, 0, 1, 1, 0, 0, 1, 0, 0])) [15, 16, 17, 18] :: S9)) (by kernel_rfl) fun J => ?_
        by_cases c13 : (iand .i64 t30 4) = 0
        · replace h := iteT c13 h
          refine KR.setV 33 (by kernel_rfl) (nB (eT c13)) ?_
          exact KR.run 5 [(0, .slice t0a t0n t0k), (1, .slice t1a t1n t1k), (2, .bool t2), (6, .pointer (some ⟨t6b, t6o, none⟩)), (8, .pointer (some ⟨H.next, 0, none⟩)), (13, .slice (some ⟨t13ab, t13ao, none⟩) t13n t13k), (14, .int .i64 t14), (15, .int .i64 t15), (37, .bool false)] 77 (s' := (.code (sub B [1, 0, 1, 0, 0, 1, 1, 0, 0, 1, 0, 1]) :: S8)) (by kernel_rfl) h
        · replace h := iteF c13 h
          refine KR.setV 33 (by kernel_rfl) (nB (eF c13)) ?_
          exact KR.run 5 [(0, .slice t0a t0n t0k), (1, .slice t1a t1n t1k), (2, .bool t2), (6, .pointer (some ⟨t6b, t6o, none⟩)), (8, .pointer (some ⟨H.next, 0, none⟩)), (13, .slice (some ⟨t13ab, t13ao, none⟩) t13n t13k), (14, .int .i64 t14), (15, .int .i64 t15), (37, .bool (!t2))] 77 (s' := (.code (sub B [1, 0, 1, 0, 0, 1, 1, 0, 0, 1, 0, 1]) :: S8)) (by kernel_rfl) h
    · replace h := iteF c9 h
      refine KR.setV 22 (by kernel_rfl) (nB (bF c9)) ?_
      exact KR.run 16 [(0, .slice t0a t0n t0k), (1, .slice t1a t1n t1k), (2, .bool t2), (6, .pointer (some ⟨t6b, t6o, none⟩)), (8, .pointer (some ⟨H.next, 0, none⟩)), (13, .slice (some ⟨t13ab, t13ao, none⟩) t13n t13k), (14, .int .i64 t14), (15, .int .i64 t15), (37, .bool true)] 77 (s' := (.code (sub B [1, 0, 1, 0, 0, 1, 1, 0, 0, 1, 0, 1]) :: S8)) (by kernel_rfl) h
  · replace h := iteF c2 h
    refine KR.br false (by kernel_rfl) (vB (dF c2)) ?_
    exact KR.run 10 [(6, .pointer (some ⟨t6b, t6o, none⟩)), (59, .slice t0a t0n t0k), (60, .int .i64 ((t0n : Nat) : Int)), (61, .int .i64 0)] 77 (s' := (.lp (sub B [1, 1, 0, 1, 0, 0]) :: S11)) (by kernel_rfl) h
theorem L1_step {t0a : Option Addr} {t0n : Nat} {t0k : Nat} {t1a : Option Addr} {t1n : Nat} {t1k : Nat} {t2 : Bool} {t6b : Nat} {t6o : Nat} {t8b : Nat} {t8o : Nat} {t13b : Nat} {t13o : Nat} {t13n : Nat} {t13k : Nat} {t14 : Int} {t15 : Int} {t37 : Bool} {H : Heap} {r : Value × Heap} (h :
    if t37 = true then
    (L0 (t0a) (t0n) (t0k) (t1a) (t1n) (t1k) (t2) (t6b) (t6o) ((some ⟨t13b, t13o, none⟩)) (t13n) (t13k) (t14) ((IntKind.wrap .i64 (t15 + 1))) H r)
    else
    (L3 (t0a) (t0n) (t0k) (t1a) (t1n) (t1k) (t2) (t6b) (t6o) (t8b) (t8o) (t13b) (t13o) (t13n) (t13k) (t14) (t15) (t1a) (t1n) (t1k) (((t1n : Nat) : Int)) 0 H r)) :
    L1 t0a t0n t0k t1a t1n t1k t2 t6b t6o t8b t8o t13b t13o t13n t13k t14 t15 t37 H r := by
  intro J
  show KR _ _ _ (.code (sub B [1, 0, 1, 0, 0, 1, 1, 0, 0, 1, 0, 1]) :: S8) _ _ _
  by_cases c14 : t37 = true
  · replace h := iteT c14 h
    refine KR.br true (by kernel_rfl) (vB (bT c14)) ?_
    exact KR.run 5 [(0, .slice t0a t0n t0k), (1, .slice t1a t1n t1k), (2, .bool t2), (6, .pointer (some ⟨t6b, t6o, none⟩)), (13, .slice (some ⟨t13b, t13o, none⟩) t13n t13k), (14, .int .i64 t14), (15, .int .i64 (IntKind.wrap .i64 (t15 + 1)))] 77 (s' := (.lp (sub B [1, 0, 1, 0, 0]) :: S2)) (by kernel_rfl) h
  · replace h := iteF c14 h
    refine KR.br false (by kernel_rfl) (vB (bF c14)) ?_
    exact KR.run 9 [(0, .slice t0a t0n t0k), (1, .slice t1a t1n t1k), (2, .bool t2), (6, .pointer (some ⟨t6b, t6o, none⟩)), (8, .pointer (some ⟨t8b, t8o, none⟩)), (13, .slice (some ⟨t13b, t13o, none⟩) t13n t13k), (14, .int .i64 t14), (15, .int .i64 t15), (38, .slice t1a t1n t1k), (39, .int .i64 ((t1n : Nat) : Int)), (40, .int .i64 0)] 77 (s' := (.lp (sub B [1, 0, 1, 0, 0, 1, 1, 0, 0, 1, 1, 1, 0, 0]) :: S12)) (by kernel_rfl) h
theorem L2_step {t6b : Nat} {t6o : Nat} {t59a : Option Addr} {t59n : Nat} {t59k : Nat} {t60 : Int} {t61 : Int} {H : Heap} {r : Value × Heap} (h :
    if t61 < t60 then
    (∃ (t59ab t59ao : Nat), t59a = some ⟨t59ab, t59ao, none⟩ ∧
    ((0 : Int) ≤ t61 ∧ t61 < ((t59n : Nat) : Int) ∧
    (∃ (t64c0 : Int) (t64c1 : Int) (t64c2 : Int) (t64c3 : Int) (t64c4 : Int), ldAll H t59ab (t59ao + Int.toNat t61 * 5) [.int .i64 t64c0, .int .i64 t64c1, .int .i64 t64c2, .int .i64 t64c3, .int .i64 t64c4] ∧
    (∃ (H_1 : Heap), H_1 = H.push (.row [.int .i64 0, .int .i64 0, .int .i64 0, .int .i64 0, .int .i64 0] true) ∧
    (∃ (H_2 : Heap), stc H_1 H.next 0 [.int .i64 t64c0, .int .i64 t64c1, .int .i64 t64c2, .int .i64 t64c3, .int .i64 t64c4] = some H_2 ∧
    (∃ (t65c0 : Int) (t65c1 : Int) (t65c2 : Int) (t65c3 : Int) (t65c4 : Int), ldAll H_2 H.next 0 [.int .i64 t65c0, .int .i64 t65c1, .int .i64 t65c2, .int .i64 t65c3, .int .i64 t65c4] ∧
    (∃ (t66 : Bool) (H_3 : Heap), xC Try.prog good 15 [.agg #[.int .i64 t65c0, .int .i64 t65c1, .int .i64 t65c2, .int .i64 t65c3, .int .i64 t65c4]] H_2 = some (.bool t66, H_3) ∧
    (if t66 = true then
    (∃ (t69 : Int), ldc H_3 H.next 3 = some (.int .i64 t69) ∧
    (L4 (t6b) (t6o) (H.next) (0) (t59ab) (t59ao) (t59n) (t59k) (t60) (t61) ((!((iand .i64 t69 2) == 0))) H_3 r))
    else
    (L4 (t6b) (t6o) (H.next) (0) (t59ab) (t59ao) (t59n) (t59k) (t60) (t61) (false) H_3 r)))))))))
    else
    (∃ (H_4 : Heap), stc H t6b t6o [.int .i64 0, .int .i64 0, .int .i64 0, .int .i64 0, .int .i64 0, .int .i64 0, .int .i64 0] = some H_4 ∧
    (∃ (r6c0 : Int) (r6c1 : Int) (r6c2 : Int) (r6c3 : Int) (r6c4 : Int) (r6c5 : Int) (r6c6 : Int), ldAll H_4 t6b t6o [.int .i64 r6c0, .int .i64 r6c1, .int .i64 r6c2, .int .i64 r6c3, .int .i64 r6c4, .int .i64 r6c5, .int .i64 r6c6] ∧
    (r = (.agg #[.int .i64 r6c0, .int .i64 r6c1, .int .i64 r6c2, .int .i64 r6c3, .int .i64 r6c4, .int .i64 r6c5, .int .i64 r6c6], H_4))))) :
    L2 t6b t6o t59a t59n t59k t60 t61 H r := by
  intro J
  show KR _ _ _ (.lp (sub B [1, 1, 0, 1, 0, 0]) :: S11) _ _ _
  refine KR.run 6 [(6, .pointer (some ⟨t6b, t6o, none⟩)), (59, .slice t59a t59n t59k), (60, .int .i64 t60), (61, .int .i64 t61), (62, .bool (decide (t61 < t60)))] 77 (s' := (.code (sub B [1, 1, 0, 1, 0, 0, 1, 0]) :: S14)) (by kernel_rfl) fun J => ?_
  by_cases c15 : t61 < t60
  · replace h := iteT c15 h
    refine KR.br true (by kernel_rfl) (vB (dT c15)) ?_
    obtain ⟨t59ab, t59ao, rfl, h⟩ := h
    refine KR.run 5 [(6, .pointer (some ⟨t6b, t6o, none⟩)), (59, .slice (some ⟨t59ab, t59ao, none⟩) t59n t59k), (60, .int .i64 t60), (61, .int .i64 t61)] 77 (s' := (.reg (opsAt (sub B [1, 1, 0, 1, 0, 0, 1, 1, 0, 0, 0])) [0, 1, 2, 3] :: S17)) (by kernel_rfl) fun J => ?_
    obtain ⟨q16, q16x, h⟩ := h
    refine KR.p (one_ix 5 t59ab t59ao (by kernel_rfl) q16 q16x) ?_
    obtain ⟨t64c0, t64c1, t64c2, t64c3, t64c4, q17, h⟩ := h
    refine KR.rd (one_ldA (by kernel_rfl) q17) ?_
    obtain ⟨H_1, q18, h⟩ := h
    refine KR.mk (w := pRow [.int .i64 0, .int .i64 0, .int .i64 0, .int .i64 0, .int .i64 0]) (one_al (by kernel_rfl)) q18 ?_
    obtain ⟨H_2, q19, h⟩ := h
    refine KR.se (one_st (by kernel_rfl) q19) ?_
    refine KR.run 3 [(6, .pointer (some ⟨t6b, t6o, none⟩)), (12, .pointer (some ⟨H.next, 0, none⟩)), (59, .slice (some ⟨t59ab, t59ao, none⟩) t59n t59k), (60, .int .i64 t60), (61, .int .i64 t61)] 77 (s' := (.reg (opsAt (sub B [1, 1, 0, 1, 0, 0, 1, 1, 0, 0, 1, 0])) [0, 1, 2, 3, 4, 5, 6, 7] :: S18)) (by kernel_rfl) fun J => ?_
    obtain ⟨t65c0, t65c1, t65c2, t65c3, t65c4, q20, h⟩ := h
    refine KR.rd (one_ldA (by kernel_rfl) q20) ?_
    obtain ⟨t66, H_3, q21, h⟩ := h
    refine KR.se (one_ca (by kernel_rfl) q21) ?_
    refine KR.run 1 [(6, .pointer (some ⟨t6b, t6o, none⟩)), (12, .pointer (some ⟨H.next, 0, none⟩)), (59, .slice (some ⟨t59ab, t59ao, none⟩) t59n t59k), (60, .int .i64 t60), (61, .int .i64 t61), (67, .bool t66)] 77 (s' := (.reg (opsAt (sub B [1, 1, 0, 1, 0, 0, 1, 1, 0, 0, 1, 0])) [3, 4, 5, 6, 7] :: S18)) (by kernel_rfl) fun J => ?_
    by_cases c22 : t66 = true
    · replace h := iteT c22 h
      refine KR.setV 67 (by kernel_rfl) (bT c22) ?_
      refine KR.run 1 [(6, .pointer (some ⟨t6b, t6o, none⟩)), (12, .pointer (some ⟨H.next, 0, none⟩)), (59, .slice (some ⟨t59ab, t59ao, none⟩) t59n t59k), (60, .int .i64 t60), (61, .int .i64 t61), (67, .bool true), (68, .pointer (some ⟨H.next, 3, none⟩))] 77 (s' := (.reg (opsAt (sub B [1, 1, 0, 1, 0, 0, 1, 1, 0, 0, 1, 0])) [4, 5, 6, 7] :: S18)) (by kernel_rfl) fun J => ?_
      obtain ⟨t69, q23, h⟩ := h
      refine KR.rd (one_ld (by kernel_rfl) q23) ?_
      exact KR.run 4 [(6, .pointer (some ⟨t6b, t6o, none⟩)), (12, .pointer (some ⟨H.next, 0, none⟩)), (59, .slice (some ⟨t59ab, t59ao, none⟩) t59n t59k), (60, .int .i64 t60), (61, .int .i64 t61), (72, .bool (!((iand .i64 t69 2) == 0)))] 77 (s' := (.code (sub B [1, 1, 0, 1, 0, 0, 1, 1, 0, 0, 1, 1]) :: S16)) (by kernel_rfl) h
    · replace h := iteF c22 h
      refine KR.setV 67 (by kernel_rfl) (bF c22) ?_
      exact KR.run 6 [(6, .pointer (some ⟨t6b, t6o, none⟩)), (12, .pointer (some ⟨H.next, 0, none⟩)), (59, .slice (some ⟨t59ab, t59ao, none⟩) t59n t59k), (60, .int .i64 t60), (61, .int .i64 t61), (72, .bool false)] 77 (s' := (.code (sub B [1, 1, 0, 1, 0, 0, 1, 1, 0, 0, 1, 1]) :: S16)) (by kernel_rfl) h
  · replace h := iteF c15 h
    refine KR.br false (by kernel_rfl) (vB (dF c15)) ?_
    refine KR.run 4 [(6, .pointer (some ⟨t6b, t6o, none⟩)), (76, .agg #[.int .i64 0, .int .i64 0, .int .i64 0, .int .i64 0, .int .i64 0, .int .i64 0, .int .i64 0])] 77 (s' := (.reg (opsAt (sub B [1, 1, 1, 0])) [1] :: S19)) (by kernel_rfl) fun J => ?_
    obtain ⟨H_4, q24, h⟩ := h
    refine KR.se (one_st (by kernel_rfl) q24) ?_
    refine KR.run 1 [(6, .pointer (some ⟨t6b, t6o, none⟩))] 77 (s' := (.code (sub B [1, 1, 1, 1]) :: [])) (by kernel_rfl) fun J => ?_
    obtain ⟨r6c0, r6c1, r6c2, r6c3, r6c4, r6c5, r6c6, q25, h⟩ := h
    exact KR.finR (l := [.cell 6 28]) (vs := [.agg #[.int .i64 r6c0, .int .i64 r6c1, .int .i64 r6c2, .int .i64 r6c3, .int .i64 r6c4, .int .i64 r6c5, .int .i64 r6c6]]) (by kernel_rfl) (Res.cellA (by kernel_rfl) q25 Res.nil) (by kernel_rfl) h
theorem L3_step {t0a : Option Addr} {t0n : Nat} {t0k : Nat} {t1a : Option Addr} {t1n : Nat} {t1k : Nat} {t2 : Bool} {t6b : Nat} {t6o : Nat} {t8b : Nat} {t8o : Nat} {t13b : Nat} {t13o : Nat} {t13n : Nat} {t13k : Nat} {t14 : Int} {t15 : Int} {t38a : Option Addr} {t38n : Nat} {t38k : Nat} {t39 : Int} {t40 : Int} {H : Heap} {r : Value × Heap} (h :
    if t40 < t39 then
    (∃ (t38ab t38ao : Nat), t38a = some ⟨t38ab, t38ao, none⟩ ∧
    ((0 : Int) ≤ t40 ∧ t40 < ((t38n : Nat) : Int) ∧
    (∃ (t44 : Int), ldc H t38ab (t38ao + Int.toNat t40 * 1) = some (.int .i64 t44) ∧
    (∃ (t46 : Int), ldc H t8b (t8o + 4) = some (.int .i64 t46) ∧
    (if t46 = 64 then
    (L5 (t0a) (t0n) (t0k) (t1a) (t1n) (t1k) (t2) (t6b) (t6o) (t8b) (t8o) (t40) (t13b) (t13o) (t13n) (t13k) (t14) (t15) (t38ab) (t38ao) (t38n) (t38k) (t39) (t40) (true) H r)
    else
    (∃ (t50 : Int), ldc H t8b (t8o + 4) = some (.int .i64 t50) ∧
    (L5 (t0a) (t0n) (t0k) (t1a) (t1n) (t1k) (t2) (t6b) (t6o) (t8b) (t8o) (t40) (t13b) (t13o) (t13n) (t13k) (t14) (t15) (t38ab) (t38ao) (t38n) (t38k) (t39) (t40) ((t50 == t44)) H r)))))))
    else
    (L0 (t0a) (t0n) (t0k) (t1a) (t1n) (t1k) (t2) (t6b) (t6o) ((some ⟨t13b, t13o, none⟩)) (t13n) (t13k) (t14) ((IntKind.wrap .i64 (t15 + 1))) H r)) :
    L3 t0a t0n t0k t1a t1n t1k t2 t6b t6o t8b t8o t13b t13o t13n t13k t14 t15 t38a t38n t38k t39 t40 H r := by
  intro J
  show KR _ _ _ (.lp (sub B [1, 0, 1, 0, 0, 1, 1, 0, 0, 1, 1, 1, 0, 0]) :: S12) _ _ _
  refine KR.run 6 [(0, .slice t0a t0n t0k), (1, .slice t1a t1n t1k), (2, .bool t2), (6, .pointer (some ⟨t6b, t6o, none⟩)), (8, .pointer (some ⟨t8b, t8o, none⟩)), (13, .slice (some ⟨t13b, t13o, none⟩) t13n t13k), (14, .int .i64 t14), (15, .int .i64 t15), (38, .slice t38a t38n t38k), (39, .int .i64 t39), (40, .int .i64 t40), (41, .bool (decide (t40 < t39)))] 77 (s' := (.code (sub B [1, 0, 1, 0, 0, 1, 1, 0, 0, 1, 1, 1, 0, 0, 1, 0]) :: S21)) (by kernel_rfl) fun J => ?_
  by_cases c26 : t40 < t39
  · replace h := iteT c26 h
    refine KR.br true (by kernel_rfl) (vB (dT c26)) ?_
    obtain ⟨t38ab, t38ao, rfl, h⟩ := h
    refine KR.run 6 [(0, .slice t0a t0n t0k), (1, .slice t1a t1n t1k), (2, .bool t2), (6, .pointer (some ⟨t6b, t6o, none⟩)), (8, .pointer (some ⟨t8b, t8o, none⟩)), (13, .slice (some ⟨t13b, t13o, none⟩) t13n t13k), (14, .int .i64 t14), (15, .int .i64 t15), (38, .slice (some ⟨t38ab, t38ao, none⟩) t38n t38k), (39, .int .i64 t39), (40, .int .i64 t40), (42, .int .i64 t40)] 77 (s' := (.reg (opsAt (sub B [1, 0, 1, 0, 0, 1, 1, 0, 0, 1, 1, 1, 0, 0, 1, 1, 0, 0, 0])) [1, 2, 3, 4] :: S24)) (by kernel_rfl) fun J => ?_
    obtain ⟨q27, q27x, h⟩ := h
    refine KR.p (one_ix 1 t38ab t38ao (by kernel_rfl) q27 q27x) ?_
    obtain ⟨t44, q28, h⟩ := h
    refine KR.rd (one_ld (by kernel_rfl) q28) ?_
    refine KR.run 6 [(0, .slice t0a t0n t0k), (1, .slice t1a t1n t1k), (2, .bool t2), (6, .pointer (some ⟨t6b, t6o, none⟩)), (8, .pointer (some ⟨t8b, t8o, none⟩)), (9, .int .i64 t40), (10, .int .i64 t44), (13, .slice (some ⟨t13b, t13o, none⟩) t13n t13k), (14, .int .i64 t14), (15, .int .i64 t15), (38, .slice (some ⟨t38ab, t38ao, none⟩) t38n t38k), (39, .int .i64 t39), (40, .int .i64 t40), (45, .pointer (some ⟨t8b, (t8o + 4), none⟩))] 77 (s' := (.reg (opsAt (sub B [1, 0, 1, 0, 0, 1, 1, 0, 0, 1, 1, 1, 0, 0, 1, 1, 0, 0, 1, 0])) [1, 2, 3, 4, 5, 6, 7, 8] :: S25)) (by kernel_rfl) fun J => ?_
    obtain ⟨t46, q29, h⟩ := h
    refine KR.rd (one_ld (by kernel_rfl) q29) ?_
    refine KR.run 2 [(0, .slice t0a t0n t0k), (1, .slice t1a t1n t1k), (2, .bool t2), (6, .pointer (some ⟨t6b, t6o, none⟩)), (8, .pointer (some ⟨t8b, t8o, none⟩)), (9, .int .i64 t40), (10, .int .i64 t44), (13, .slice (some ⟨t13b, t13o, none⟩) t13n t13k), (14, .int .i64 t14), (15, .int .i64 t15), (38, .slice (some ⟨t38ab, t38ao, none⟩) t38n t38k), (39, .int .i64 t39), (40, .int .i64 t40), (48, .bool (t46 == 64))] 77 (s' := (.reg (opsAt (sub B [1, 0, 1, 0, 0, 1, 1, 0, 0, 1, 1, 1, 0, 0, 1, 1, 0, 0, 1, 0])) [4, 5, 6, 7, 8] :: S25)) (by kernel_rfl) fun J => ?_
    by_cases c30 : t46 = 64
    · replace h := iteT c30 h
      refine KR.setV 48 (by kernel_rfl) (eT c30) ?_
      exact KR.run 6 [(0, .slice t0a t0n t0k), (1, .slice t1a t1n t1k), (2, .bool t2), (6, .pointer (some ⟨t6b, t6o, none⟩)), (8, .pointer (some ⟨t8b, t8o, none⟩)), (9, .int .i64 t40), (13, .slice (some ⟨t13b, t13o, none⟩) t13n t13k), (14, .int .i64 t14), (15, .int .i64 t15), (38, .slice (some ⟨t38ab, t38ao, none⟩) t38n t38k), (39, .int .i64 t39), (40, .int .i64 t40), (53, .bool true)] 77 (s' := (.code (sub B [1, 0, 1, 0, 0, 1, 1, 0, 0, 1, 1, 1, 0, 0, 1, 1, 0, 0, 1, 1]) :: S23)) (by kernel_rfl) h
    · replace h := iteF c30 h
      refine KR.setV 48 (by kernel_rfl) (eF c30) ?_
      refine KR.run 1 [(0, .slice t0a t0n t0k), (1, .slice t1a t1n t1k), (2, .bool t2), (6, .pointer (some ⟨t6b, t6o, none⟩)), (8, .pointer (some ⟨t8b, t8o, none⟩)), (9, .int .i64 t40), (10, .int .i64 t44), (13, .slice (some ⟨t13b, t13o, none⟩) t13n t13k), (14, .int .i64 t14), (15, .int .i64 t15), (38, .slice (some ⟨t38ab, t38ao, none⟩) t38n t38k), (39, .int .i64 t39), (40, .int .i64 t40), (48, .bool false), (49, .pointer (some ⟨t8b, (t8o + 4), none⟩))] 77 (s' := (.reg (opsAt (sub B [1, 0, 1, 0, 0, 1, 1, 0, 0, 1, 1, 1, 0, 0, 1, 1, 0, 0, 1, 0])) [5, 6, 7, 8] :: S25)) (by kernel_rfl) fun J => ?_
      obtain ⟨t50, q31, h⟩ := h
      refine KR.rd (one_ld (by kernel_rfl) q31) ?_
      exact KR.run 4 [(0, .slice t0a t0n t0k), (1, .slice t1a t1n t1k), (2, .bool t2), (6, .pointer (some ⟨t6b, t6o, none⟩)), (8, .pointer (some ⟨t8b, t8o, none⟩)), (9, .int .i64 t40), (13, .slice (some ⟨t13b, t13o, none⟩) t13n t13k), (14, .int .i64 t14), (15, .int .i64 t15), (38, .slice (some ⟨t38ab, t38ao, none⟩) t38n t38k), (39, .int .i64 t39), (40, .int .i64 t40), (53, .bool (t50 == t44))] 77 (s' := (.code (sub B [1, 0, 1, 0, 0, 1, 1, 0, 0, 1, 1, 1, 0, 0, 1, 1, 0, 0, 1, 1]) :: S23)) (by kernel_rfl) h
  · replace h := iteF c26 h
    refine KR.br false (by kernel_rfl) (vB (dF c26)) ?_
    exact KR.run 6 [(0, .slice t0a t0n t0k), (1, .slice t1a t1n t1k), (2, .bool t2), (6, .pointer (some ⟨t6b, t6o, none⟩)), (13, .slice (some ⟨t13b, t13o, none⟩) t13n t13k), (14, .int .i64 t14), (15, .int .i64 (IntKind.wrap .i64 (t15 + 1)))] 77 (s' := (.lp (sub B [1, 0, 1, 0, 0]) :: S2)) (by kernel_rfl) h
theorem L4_step {t6b : Nat} {t6o : Nat} {t12b : Nat} {t12o : Nat} {t59b : Nat} {t59o : Nat} {t59n : Nat} {t59k : Nat} {t60 : Int} {t61 : Int} {t72 : Bool} {H : Heap} {r : Value × Heap} (h :
    if t72 = true then
    (∃ (t73c0 : Int) (t73c1 : Int) (t73c2 : Int) (t73c3 : Int) (t73c4 : Int), ldAll H t12b t12o [.int .i64 t73c0, .int .i64 t73c1, .int .i64 t73c2, .int .i64 t73c3, .int .i64 t73c4] ∧
    (∃ (H_1 : Heap), stc H t6b t6o [.int .i64 2, .int .i64 t73c0, .int .i64 t73c1, .int .i64 t73c2, .int .i64 t73c3, .int .i64 t73c4, .int .i64 0] = some H_1 ∧
    (∃ (r6c0 : Int) (r6c1 : Int) (r6c2 : Int) (r6c3 : Int) (r6c4 : Int) (r6c5 : Int) (r6c6 : Int), ldAll H_1 t6b t6o [.int .i64 r6c0, .int .i64 r6c1, .int .i64 r6c2, .int .i64 r6c3, .int .i64 r6c4, .int .i64 r6c5, .int .i64 r6c6] ∧
    (r = (.agg #[.int .i64 r6c0, .int .i64 r6c1, .int .i64 r6c2, .int .i64 r6c3, .int .i64 r6c4, .int .i64 r6c5, .int .i64 r6c6], H_1)))))
    else
    (L2 (t6b) (t6o) ((some ⟨t59b, t59o, none⟩)) (t59n) (t59k) (t60) ((IntKind.wrap .i64 (t61 + 1))) H r)) :
    L4 t6b t6o t12b t12o t59b t59o t59n t59k t60 t61 t72 H r := by
  intro J
  show KR _ _ _ (.code (sub B [1, 1, 0, 1, 0, 0, 1, 1, 0, 0, 1, 1]) :: S16) _ _ _
  by_cases c32 : t72 = true
  · replace h := iteT c32 h
    refine KR.br true (by kernel_rfl) (vB (bT c32)) ?_
    refine KR.run 2 [(6, .pointer (some ⟨t6b, t6o, none⟩)), (12, .pointer (some ⟨t12b, t12o, none⟩))] 77 (s' := (.reg (opsAt (sub B [1, 1, 0, 1, 0, 0, 1, 1, 0, 0, 1, 1, 0, 0])) [0, 1, 2] :: S26)) (by kernel_rfl) fun J => ?_
    obtain ⟨t73c0, t73c1, t73c2, t73c3, t73c4, q33, h⟩ := h
    refine KR.rd (one_ldA (by kernel_rfl) q33) ?_
    refine KR.run 1 [(6, .pointer (some ⟨t6b, t6o, none⟩)), (74, .agg #[.int .i64 2, .int .i64 t73c0, .int .i64 t73c1, .int .i64 t73c2, .int .i64 t73c3, .int .i64 t73c4, .int .i64 0])] 77 (s' := (.reg (opsAt (sub B [1, 1, 0, 1, 0, 0, 1, 1, 0, 0, 1, 1, 0, 0])) [2] :: S26)) (by kernel_rfl) fun J => ?_
    obtain ⟨H_1, q34, h⟩ := h
    refine KR.se (one_st (by kernel_rfl) q34) ?_
    refine KR.run 1 [(6, .pointer (some ⟨t6b, t6o, none⟩))] 77 (s' := (.code (sub B [1, 1, 0, 1, 0, 0, 1, 1, 0, 0, 1, 1, 0, 1]) :: S16)) (by kernel_rfl) fun J => ?_
    obtain ⟨r6c0, r6c1, r6c2, r6c3, r6c4, r6c5, r6c6, q35, h⟩ := h
    exact KR.finR (l := [.cell 6 28]) (vs := [.agg #[.int .i64 r6c0, .int .i64 r6c1, .int .i64 r6c2, .int .i64 r6c3, .int .i64 r6c4, .int .i64 r6c5, .int .i64 r6c6]]) (by kernel_rfl) (Res.cellA (by kernel_rfl) q35 Res.nil) (by kernel_rfl) h
  · replace h := iteF c32 h
    refine KR.br false (by kernel_rfl) (vB (bF c32)) ?_
    exact KR.run 6 [(6, .pointer (some ⟨t6b, t6o, none⟩)), (59, .slice (some ⟨t59b, t59o, none⟩) t59n t59k), (60, .int .i64 t60), (61, .int .i64 (IntKind.wrap .i64 (t61 + 1)))] 77 (s' := (.lp (sub B [1, 1, 0, 1, 0, 0]) :: S11)) (by kernel_rfl) h
theorem L5_step {t0a : Option Addr} {t0n : Nat} {t0k : Nat} {t1a : Option Addr} {t1n : Nat} {t1k : Nat} {t2 : Bool} {t6b : Nat} {t6o : Nat} {t8b : Nat} {t8o : Nat} {t9 : Int} {t13b : Nat} {t13o : Nat} {t13n : Nat} {t13k : Nat} {t14 : Int} {t15 : Int} {t38b : Nat} {t38o : Nat} {t38n : Nat} {t38k : Nat} {t39 : Int} {t40 : Int} {t53 : Bool} {H : Heap} {r : Value × Heap} (h :
    if t53 = true then
    (∃ (t54c0 : Int) (t54c1 : Int) (t54c2 : Int) (t54c3 : Int) (t54c4 : Int), ldAll H t8b t8o [.int .i64 t54c0, .int .i64 t54c1, .int .i64 t54c2, .int .i64 t54c3, .int .i64 t54c4] ∧
    (∃ (H_1 : Heap), stc H t6b t6o [.int .i64 1, .int .i64 t54c0, .int .i64 t54c1, .int .i64 t54c2, .int .i64 t54c3, .int .i64 t54c4, .int .i64 t9] = some H_1 ∧
    (∃ (r6c0 : Int) (r6c1 : Int) (r6c2 : Int) (r6c3 : Int) (r6c4 : Int) (r6c5 : Int) (r6c6 : Int), ldAll H_1 t6b t6o [.int .i64 r6c0, .int .i64 r6c1, .int .i64 r6c2, .int .i64 r6c3, .int .i64 r6c4, .int .i64 r6c5, .int .i64 r6c6] ∧
    (r = (.agg #[.int .i64 r6c0, .int .i64 r6c1, .int .i64 r6c2, .int .i64 r6c3, .int .i64 r6c4, .int .i64 r6c5, .int .i64 r6c6], H_1)))))
    else
    (L3 (t0a) (t0n) (t0k) (t1a) (t1n) (t1k) (t2) (t6b) (t6o) (t8b) (t8o) (t13b) (t13o) (t13n) (t13k) (t14) (t15) ((some ⟨t38b, t38o, none⟩)) (t38n) (t38k) (t39) ((IntKind.wrap .i64 (t40 + 1))) H r)) :
    L5 t0a t0n t0k t1a t1n t1k t2 t6b t6o t8b t8o t9 t13b t13o t13n t13k t14 t15 t38b t38o t38n t38k t39 t40 t53 H r := by
  intro J
  show KR _ _ _ (.code (sub B [1, 0, 1, 0, 0, 1, 1, 0, 0, 1, 1, 1, 0, 0, 1, 1, 0, 0, 1, 1]) :: S23) _ _ _
  by_cases c36 : t53 = true
  · replace h := iteT c36 h
    refine KR.br true (by kernel_rfl) (vB (bT c36)) ?_
    refine KR.run 2 [(6, .pointer (some ⟨t6b, t6o, none⟩)), (8, .pointer (some ⟨t8b, t8o, none⟩)), (9, .int .i64 t9)] 77 (s' := (.reg (opsAt (sub B [1, 0, 1, 0, 0, 1, 1, 0, 0, 1, 1, 1, 0, 0, 1, 1, 0, 0, 1, 1, 0, 0])) [0, 1, 2, 3] :: S27)) (by kernel_rfl) fun J => ?_
    obtain ⟨t54c0, t54c1, t54c2, t54c3, t54c4, q37, h⟩ := h
    refine KR.rd (one_ldA (by kernel_rfl) q37) ?_
    refine KR.run 2 [(6, .pointer (some ⟨t6b, t6o, none⟩)), (56, .agg #[.int .i64 1, .int .i64 t54c0, .int .i64 t54c1, .int .i64 t54c2, .int .i64 t54c3, .int .i64 t54c4, .int .i64 t9])] 77 (s' := (.reg (opsAt (sub B [1, 0, 1, 0, 0, 1, 1, 0, 0, 1, 1, 1, 0, 0, 1, 1, 0, 0, 1, 1, 0, 0])) [3] :: S27)) (by kernel_rfl) fun J => ?_
    obtain ⟨H_1, q38, h⟩ := h
    refine KR.se (one_st (by kernel_rfl) q38) ?_
    refine KR.run 1 [(6, .pointer (some ⟨t6b, t6o, none⟩))] 77 (s' := (.code (sub B [1, 0, 1, 0, 0, 1, 1, 0, 0, 1, 1, 1, 0, 0, 1, 1, 0, 0, 1, 1, 0, 1]) :: S23)) (by kernel_rfl) fun J => ?_
    obtain ⟨r6c0, r6c1, r6c2, r6c3, r6c4, r6c5, r6c6, q39, h⟩ := h
    exact KR.finR (l := [.cell 6 28]) (vs := [.agg #[.int .i64 r6c0, .int .i64 r6c1, .int .i64 r6c2, .int .i64 r6c3, .int .i64 r6c4, .int .i64 r6c5, .int .i64 r6c6]]) (by kernel_rfl) (Res.cellA (by kernel_rfl) q39 Res.nil) (by kernel_rfl) h
  · replace h := iteF c36 h
    refine KR.br false (by kernel_rfl) (vB (bF c36)) ?_
    exact KR.run 6 [(0, .slice t0a t0n t0k), (1, .slice t1a t1n t1k), (2, .bool t2), (6, .pointer (some ⟨t6b, t6o, none⟩)), (8, .pointer (some ⟨t8b, t8o, none⟩)), (13, .slice (some ⟨t13b, t13o, none⟩) t13n t13k), (14, .int .i64 t14), (15, .int .i64 t15), (38, .slice (some ⟨t38b, t38o, none⟩) t38n t38k), (39, .int .i64 t39), (40, .int .i64 (IntKind.wrap .i64 (t40 + 1)))] 77 (s' := (.lp (sub B [1, 0, 1, 0, 0, 1, 1, 0, 0, 1, 1, 1, 0, 0]) :: S12)) (by kernel_rfl) h
theorem call {a0a : Option Addr} {a0n : Nat} {a0k : Nat} {a1a : Option Addr} {a1n : Nat} {a1k : Nat} {a2 : Bool} {H : Heap} {r : Value × Heap} (h :
    ∃ (H_1 : Heap), H_1 = H.push (.row [.int .i64 0, .int .i64 0, .int .i64 0, .int .i64 0, .int .i64 0, .int .i64 0, .int .i64 0] true) ∧
    (L0 (a0a) (a0n) (a0k) (a1a) (a1n) (a1k) (a2) (H.next) (0) (a0a) (a0n) (a0k) (((a0n : Nat) : Int)) 0 H_1 r)) :
    xC Try.prog good 14 [.slice a0a a0n a0k, .slice a1a a1n a1k, .bool a2] H = some r := by
  refine KR.enter (fn := Try.f14) (c := B) (by kernel_rfl) (by kernel_rfl) ?_
  refine KR.run 2 [(0, .slice a0a a0n a0k), (1, .slice a1a a1n a1k), (2, .bool a2)] 77 (s' := (.reg (opsAt (sub B [0])) [0] :: S0)) (by kernel_rfl) fun J => ?_
  obtain ⟨H_1, q1, h⟩ := h
  refine KR.mk (w := pRow [.int .i64 0, .int .i64 0, .int .i64 0, .int .i64 0, .int .i64 0, .int .i64 0, .int .i64 0]) (one_al (by kernel_rfl)) q1 ?_
  exact KR.run 10 [(0, .slice a0a a0n a0k), (1, .slice a1a a1n a1k), (2, .bool a2), (6, .pointer (some ⟨H.next, 0, none⟩)), (13, .slice a0a a0n a0k), (14, .int .i64 ((a0n : Nat) : Int)), (15, .int .i64 0)] 77 (s' := (.lp (sub B [1, 0, 1, 0, 0]) :: S2)) (by kernel_rfl) h
end F14
/-! #### 15 campanile/campanileref8.MayCell -/
namespace F15
noncomputable def B : Code := bodyOf Try.f15
noncomputable def S0 : List It := (.code (sub B [1]) :: [])
noncomputable def S1 : List It := (.code (sub B [1, 1]) :: [])
theorem call {a0c0 : Int} {a0c1 : Int} {a0c2 : Int} {a0c3 : Int} {a0c4 : Int} {H : Heap} {r : Value × Heap} (h :
    ∃ (H_1 : Heap), H_1 = H.push (.row [.int .i64 a0c0, .int .i64 a0c1, .int .i64 a0c2, .int .i64 a0c3, .int .i64 a0c4] true) ∧
    (∃ (t4 : Int), ldc H_1 H.next 0 = some (.int .i64 t4) ∧
    (if t4 ≥ 0 then
    (∃ (t8 : Int), ldc H_1 H.next 0 = some (.int .i64 t8) ∧
    (if t8 < 4 then
    (∃ (t13 : Int), ldc H_1 H.next 1 = some (.int .i64 t13) ∧
    (if t13 ≥ 0 then
    (∃ (t18 : Int), ldc H_1 H.next 1 = some (.int .i64 t18) ∧
    (if t18 < 200 then
    (∃ (t23 : Int), ldc H_1 H.next 2 = some (.int .i64 t23) ∧
    (if t23 ≥ 0 then
    (∃ (t28 : Int), ldc H_1 H.next 2 = some (.int .i64 t28) ∧
    (if t28 ≤ 15 then
    (∃ (t33 : Int), ldc H_1 H.next 3 = some (.int .i64 t33) ∧
    (if t33 ≥ 1 then
    (∃ (t38 : Int), ldc H_1 H.next 3 = some (.int .i64 t38) ∧
    (if t38 ≤ 15 then
    (∃ (t43 : Int), ldc H_1 H.next 3 = some (.int .i64 t43) ∧
    (if (iand .i64 t43 3) = 0 then
    (r = (.bool false, H_1))
    else
    (∃ (t49 : Int), ldc H_1 H.next 3 = some (.int .i64 t49) ∧
    (if (iand .i64 t49 4) = 0 then
    (∃ (t61 : Int), ldc H_1 H.next 4 = some (.int .i64 t61) ∧
    (∃ (t62 : Bool) (H_2 : Heap), xC Try.prog good 37 [.int .i64 t61] H_1 = some (.bool t62, H_2) ∧
    (if t62 = true then
    (r = (.bool true, H_2))
    else
    (∃ (t65 : Int), ldc H_2 H.next 4 = some (.int .i64 t65) ∧
    (r = (.bool (t65 == 64), H_2))))))
    else
    (∃ (t54 : Int), ldc H_1 H.next 3 = some (.int .i64 t54) ∧
    (if (iand .i64 t54 1) = 0 then
    (r = (.bool false, H_1))
    else
    (∃ (t61_1 : Int), ldc H_1 H.next 4 = some (.int .i64 t61_1) ∧
    (∃ (t62_1 : Bool) (H_3 : Heap), xC Try.prog good 37 [.int .i64 t61_1] H_1 = some (.bool t62_1, H_3) ∧
    (if t62_1 = true then
    (r = (.bool true, H_3))
    else
    (∃ (t65_1 : Int), ldc H_3 H.next 4 = some (.int .i64 t65_1) ∧
    (r = (.bool (t65_1 == 64), H_3))))))))))))
    else
    (r = (.bool false, H_1))))
    else
    (r = (.bool false, H_1))))
    else
    (r = (.bool false, H_1))))
    else
    (r = (.bool false, H_1))))
    else
    (r = (.bool false, H_1))))
    else
    (r = (.bool false, H_1))))
    else
    (r = (.bool false, H_1))))
    else
    (r = (.bool false, H_1))))) :
    xC Try.prog good 15 [.agg #[.int .i64 a0c0, .int .i64 a0c1, .int .i64 a0c2, .int .i64 a0c3, .int .i64 a0c4]] H = some r := by
  refine KR.enter (fn := Try.f15) (c := B) (by kernel_rfl) (by kernel_rfl) ?_
  refine KR.run 2 [(0, .agg #[.int .i64 a0c0, .int .i64 a0c1, .int .i64 a0c2, .int .i64 a0c3, .int .i64 a0c4])] 69 (s' := (.reg (opsAt (sub B [0])) [0, 1] :: S0)) (by kernel_rfl) fun J => ?_
  obtain ⟨H_1, q1, h⟩ := h
  refine KR.mk (w := pRow [.int .i64 a0c0, .int .i64 a0c1, .int .i64 a0c2, .int .i64 a0c3, .int .i64 a0c4]) (one_al (by kernel_rfl)) q1 ?_
  refine KR.run 5 [(1, .pointer (some ⟨H.next, 0, none⟩)), (3, .pointer (some ⟨H.next, 0, none⟩))] 69 (s' := (.reg (opsAt (sub B [1, 0])) [1, 2, 3, 4, 5, 6, 7, 8, 9, 10, 11, 12, 13, 14, 15, 16, 17, 18, 19, 20, 21, 22, 23, 24, 25, 26, 27, 28, 29, 30, 31, 32, 33, 34, 35, 36, 37, 38, 39, 40, 41, 42, 43, 44, 45, 46, 47, 48, 49, 50, 51, 52, 53, 54, 55, 56, 57, 58, 59, 60, 61, 62, 63, 64, 65, 66] :: S1)) (by kernel_rfl) fun J => ?_
  obtain ⟨t4, q2, h⟩ := h
  refine KR.rd (one_ld (by kernel_rfl) q2) ?_
  refine KR.run 2 [(1, .pointer (some ⟨H.next, 0, none⟩)), (6, .bool (decide (t4 ≥ 0)))] 69 (s' := (.reg (opsAt (sub B [1, 0])) [4, 5, 6, 7, 8, 9, 10, 11, 12, 13, 14, 15, 16, 17, 18, 19, 20, 21, 22, 23, 24, 25, 26, 27, 28, 29, 30, 31, 32, 33, 34, 35, 36, 37, 38, 39, 40, 41, 42, 43, 44, 45, 46, 47, 48, 49, 50, 51, 52, 53, 54, 55, 56, 57, 58, 59, 60, 61, 62, 63, 64, 65, 66] :: S1)) (by kernel_rfl) fun J => ?_
  by_cases c3 : t4 ≥ 0
  · replace h := iteT c3 h
    refine KR.setV 6 (by kernel_rfl) (dT c3) ?_
    refine KR.run 1 [(1, .pointer (some ⟨H.next, 0, none⟩)), (6, .bool true), (7, .pointer (some ⟨H.next, 0, none⟩))] 69 (s' := (.reg (opsAt (sub B [1, 0])) [5, 6, 7, 8, 9, 10, 11, 12, 13, 14, 15, 16, 17, 18, 19, 20, 21, 22, 23, 24, 25, 26, 27, 28, 29, 30, 31, 32, 33, 34, 35, 36, 37, 38, 39, 40, 41, 42, 43, 44, 45, 46, 47, 48, 49, 50, 51, 52, 53, 54, 55, 56, 57, 58, 59, 60, 61, 62, 63, 64, 65, 66] :: S1)) (by kernel_rfl) fun J => ?_
    obtain ⟨t8, q4, h⟩ := h
    refine KR.rd (one_ld (by kernel_rfl) q4) ?_
    refine KR.run 3 [(1, .pointer (some ⟨H.next, 0, none⟩)), (11, .bool (decide (t8 < 4)))] 69 (s' := (.reg (opsAt (sub B [1, 0])) [9, 10, 11, 12, 13, 14, 15, 16, 17, 18, 19, 20, 21, 22, 23, 24, 25, 26, 27, 28, 29, 30, 31, 32, 33, 34, 35, 36, 37, 38, 39, 40, 41, 42, 43, 44, 45, 46, 47, 48, 49, 50, 51, 52, 53, 54, 55, 56, 57, 58, 59, 60, 61, 62, 63, 64, 65, 66] :: S1)) (by kernel_rfl) fun J => ?_
    by_cases c5 : t8 < 4
    · replace h := iteT c5 h
      refine KR.setV 11 (by kernel_rfl) (dT c5) ?_
      refine KR.run 1 [(1, .pointer (some ⟨H.next, 0, none⟩)), (11, .bool true), (12, .pointer (some ⟨H.next, 1, none⟩))] 69 (s' := (.reg (opsAt (sub B [1, 0])) [10, 11, 12, 13, 14, 15, 16, 17, 18, 19, 20, 21, 22, 23, 24, 25, 26, 27, 28, 29, 30, 31, 32, 33, 34, 35, 36, 37, 38, 39, 40, 41, 42, 43, 44, 45, 46, 47, 48, 49, 50, 51, 52, 53, 54, 55, 56, 57, 58, 59, 60, 61, 62, 63, 64, 65, 66] :: S1)) (by kernel_rfl) fun J => ?_
      obtain ⟨t13, q6, h⟩ := h
      refine KR.rd (one_ld (by kernel_rfl) q6) ?_
      refine KR.run 3 [(1, .pointer (some ⟨H.next, 0, none⟩)), (16, .bool (decide (t13 ≥ 0)))] 69 (s' := (.reg (opsAt (sub B [1, 0])) [14, 15, 16, 17, 18, 19, 20, 21, 22, 23, 24, 25, 26, 27, 28, 29, 30, 31, 32, 33, 34, 35, 36, 37, 38, 39, 40, 41, 42, 43, 44, 45, 46, 47, 48, 49, 50, 51, 52, 53, 54, 55, 56, 57, 58, 59, 60, 61, 62, 63, 64, 65, 66] :: S1)) (by kernel_rfl) fun J => ?_
      by_cases c7 : t13 ≥ 0
      · replace h := iteT c7 h
        refine KR.setV 16 (by kernel_rfl) (dT c7) ?_
        refine KR.run 1 [(1, .pointer (some ⟨H.next, 0, none⟩)), (16, .bool true), (17, .pointer (some ⟨H.next, 1, none⟩))] 69 (s' := (.reg (opsAt (sub B [1, 0])) [15, 16, 17, 18, 19, 20, 21, 22, 23, 24, 25, 26, 27, 28, 29, 30, 31, 32, 33, 34, 35, 36, 37, 38, 39, 40, 41, 42, 43, 44, 45, 46, 47, 48, 49, 50, 51, 52, 53, 54, 55, 56, 57, 58, 59, 60, 61, 62, 63, 64, 65, 66] :: S1)) (by kernel_rfl) fun J => ?_
        obtain ⟨t18, q8, h⟩ := h
        refine KR.rd (one_ld (by kernel_rfl) q8) ?_
        refine KR.run 3 [(1, .pointer (some ⟨H.next, 0, none⟩)), (21, .bool (decide (t18 < 200)))] 69 (s' := (.reg (opsAt (sub B [1, 0])) [19, 20, 21, 22, 23, 24, 25, 26, 27, 28, 29, 30, 31, 32, 33, 34, 35, 36, 37, 38, 39, 40, 41, 42, 43, 44, 45, 46, 47, 48, 49, 50, 51, 52, 53, 54, 55, 56, 57, 58, 59, 60, 61, 62, 63, 64, 65, 66] :: S1)) (by kernel_rfl) fun J => ?_
        by_cases c9 : t18 < 200
        · replace h := iteT c9 h
          refine KR.setV 21 (by kernel_rfl) (dT c9) ?_
          refine KR.run 1 [(1, .pointer (some ⟨H.next, 0, none⟩)), (21, .bool true), (22, .pointer (some ⟨H.next, 2, none⟩))] 69 (s' := (.reg (opsAt (sub B [1, 0])) [20, 21, 22, 23, 24, 25, 26, 27, 28, 29, 30, 31, 32, 33, 34, 35, 36, 37, 38, 39, 40, 41, 42, 43, 44, 45, 46, 47, 48, 49, 50, 51, 52, 53, 54, 55, 56, 57, 58, 59, 60, 61, 62, 63, 64, 65, 66] :: S1)) (by kernel_rfl) fun J => ?_
          obtain ⟨t23, q10, h⟩ := h
          refine KR.rd (one_ld (by kernel_rfl) q10) ?_
          refine KR.run 3 [(1, .pointer (some ⟨H.next, 0, none⟩)), (26, .bool (decide (t23 ≥ 0)))] 69 (s' := (.reg (opsAt (sub B [1, 0])) [24, 25, 26, 27, 28, 29, 30, 31, 32, 33, 34, 35, 36, 37, 38, 39, 40, 41, 42, 43, 44, 45, 46, 47, 48, 49, 50, 51, 52, 53, 54, 55, 56, 57, 58, 59, 60, 61, 62, 63, 64, 65, 66] :: S1)) (by kernel_rfl) fun J => ?_
          by_cases c11 : t23 ≥ 0
          · replace h := iteT c11 h
            refine KR.setV 26 (by kernel_rfl) (dT c11) ?_
            refine KR.run 1 [(1, .pointer (some ⟨H.next, 0, none⟩)), (26, .bool true), (27, .pointer (some ⟨H.next, 2, none⟩))] 69 (s' := (.reg (opsAt (sub B [1, 0])) [25, 26, 27, 28, 29, 30, 31, 32, 33, 34, 35, 36, 37, 38, 39, 40, 41, 42, 43, 44, 45, 46, 47, 48, 49, 50, 51, 52, 53, 54, 55, 56, 57, 58, 59, 60, 61, 62, 63, 64, 65, 66] :: S1)) (by kernel_rfl) fun J => ?_
            obtain ⟨t28, q12, h⟩ := h
            refine KR.rd (one_ld (by kernel_rfl) q12) ?_
            refine KR.run 3 [(1, .pointer (some ⟨H.next, 0, none⟩)), (31, .bool (decide (t28 ≤ 15)))] 69 (s' := (.reg (opsAt (sub B [1, 0])) [29, 30, 31, 32, 33, 34, 35, 36, 37, 38, 39, 40, 41, 42, 43, 44, 45, 46, 47, 48, 49, 50, 51, 52, 53, 54, 55, 56, 57, 58, 59, 60, 61, 62, 63, 64, 65, 66] :: S1)) (by kernel_rfl) fun J => ?_
            by_cases c13 : t28 ≤ 15
            · replace h := iteT c13 h
              refine KR.setV 31 (by kernel_rfl) (dT c13) ?_
              refine KR.run 1 [(1, .pointer (some ⟨H.next, 0, none⟩)), (31, .bool true), (32, .pointer (some ⟨H.next, 3, none⟩))] 69 (s' := (.reg (opsAt (sub B [1, 0])) [30, 31, 32, 33, 34, 35, 36, 37, 38, 39, 40, 41, 42, 43, 44, 45, 46, 47, 48, 49, 50, 51, 52, 53, 54, 55, 56, 57, 58, 59, 60, 61, 62, 63, 64, 65, 66] :: S1)) (by kernel_rfl) fun J => ?_
              obtain ⟨t33, q14, h⟩ := h
              refine KR.rd (one_ld (by kernel_rfl) q14) ?_
              refine KR.run 3 [(1, .pointer (some ⟨H.next, 0, none⟩)), (36, .bool (decide (t33 ≥ 1)))] 69 (s' := (.reg (opsAt (sub B [1, 0])) [34, 35, 36, 37, 38, 39, 40, 41, 42, 43, 44, 45, 46, 47, 48, 49, 50, 51, 52, 53, 54, 55, 56, 57, 58, 59, 60, 61, 62, 63, 64, 65, 66] :: S1)) (by kernel_rfl) fun J => ?_
              by_cases c15 : t33 ≥ 1
              · replace h := iteT c15 h
                refine KR.setV 36 (by kernel_rfl) (dT c15) ?_
                refine KR.run 1 [(1, .pointer (some ⟨H.next, 0, none⟩)), (36, .bool true), (37, .pointer (some ⟨H.next, 3, none⟩))] 69 (s' := (.reg (opsAt (sub B [1, 0])) [35, 36, 37, 38, 39, 40, 41, 42, 43, 44, 45, 46, 47, 48, 49, 50, 51, 52, 53, 54, 55, 56, 57, 58, 59, 60, 61, 62, 63, 64, 65, 66] :: S1)) (by kernel_rfl) fun J => ?_
                obtain ⟨t38, q16, h⟩ := h
                refine KR.rd (one_ld (by kernel_rfl) q16) ?_
                refine KR.run 3 [(1, .pointer (some ⟨H.next, 0, none⟩)), (41, .bool (decide (t38 ≤ 15)))] 69 (s' := (.reg (opsAt (sub B [1, 0])) [39, 40, 41, 42, 43, 44, 45, 46, 47, 48, 49, 50, 51, 52, 53, 54, 55, 56, 57, 58, 59, 60, 61, 62, 63, 64, 65, 66] :: S1)) (by kernel_rfl) fun J => ?_
                by_cases c17 : t38 ≤ 15
                · replace h := iteT c17 h
                  refine KR.setV 41 (by kernel_rfl) (dT c17) ?_
                  refine KR.run 1 [(1, .pointer (some ⟨H.next, 0, none⟩)), (41, .bool true), (42, .pointer (some ⟨H.next, 3, none⟩))] 69 (s' := (.reg (opsAt (sub B [1, 0])) [40, 41, 42, 43, 44, 45, 46, 47, 48, 49, 50, 51, 52, 53, 54, 55, 56, 57, 58, 59, 60, 61, 62, 63, 64, 65, 66] :: S1)) (by kernel_rfl) fun J => ?_
                  obtain ⟨t43, q18, h⟩ := h
                  refine KR.rd (one_ld (by kernel_rfl) q18) ?_
                  refine KR.run 4 [(1, .pointer (some ⟨H.next, 0, none⟩)), (47, .bool (!((iand .i64 t43 3) == 0)))] 69 (s' := (.reg (opsAt (sub B [1, 0])) [45, 46, 47, 48, 49, 50, 51, 52, 53, 54, 55, 56, 57, 58, 59, 60, 61, 62, 63, 64, 65, 66] :: S1)) (by kernel_rfl) fun J => ?_
                  by_cases c19 : (iand .i64 t43 3) = 0
                  · replace h := iteT c19 h
                    refine KR.setV 47 (by kernel_rfl) (nB (eT c19)) ?_
                    refine KR.run 23 [(2, .bool false)] 69 (s' := (.code (sub B [1, 1]) :: [])) (by kernel_rfl) fun J => ?_
                    exact KR.fin (by kernel_rfl) h
                  · replace h := iteF c19 h
                    refine KR.setV 47 (by kernel_rfl) (nB (eF c19)) ?_
                    refine KR.run 1 [(1, .pointer (some ⟨H.next, 0, none⟩)), (47, .bool true), (48, .pointer (some ⟨H.next, 3, none⟩))] 69 (s' := (.reg (opsAt (sub B [1, 0])) [46, 47, 48, 49, 50, 51, 52, 53, 54, 55, 56, 57, 58, 59, 60, 61, 62, 63, 64, 65, 66] :: S1)) (by kernel_rfl) fun J => ?_
                    obtain ⟨t49, q20, h⟩ := h
                    refine KR.rd (one_ld (by kernel_rfl) q20) ?_
                    refine KR.run 3 [(1, .pointer (some ⟨H.next, 0, none⟩)), (47, .bool true), (52, .bool ((iand .i64 t49 4) == 0))] 69 (s' := (.reg (opsAt (sub B [1, 0])) [50, 51, 52, 53, 54, 55, 56, 57, 58, 59, 60, 61, 62, 63, 64, 65, 66] :: S1)) (by kernel_rfl) fun J => ?_
                    by_cases c21 : (iand .i64 t49 4) = 0
                    · replace h := iteT c21 h
                      refine KR.setV 52 (by kernel_rfl) (eT c21) ?_
                      refine KR.run 8 [(1, .pointer (some ⟨H.next, 0, none⟩)), (59, .bool true), (60, .pointer (some ⟨H.next, 4, none⟩))] 69 (s' := (.reg (opsAt (sub B [1, 0])) [58, 59, 60, 61, 62, 63, 64, 65, 66] :: S1)) (by kernel_rfl) fun J => ?_
                      obtain ⟨t61, q22, h⟩ := h
                      refine KR.rd (one_ld (by kernel_rfl) q22) ?_
                      obtain ⟨t62, H_2, q23, h⟩ := h
                      refine KR.se (one_ca (by kernel_rfl) q23) ?_
                      refine KR.run 1 [(1, .pointer (some ⟨H.next, 0, none⟩)), (59, .bool true), (63, .bool t62)] 69 (s' := (.reg (opsAt (sub B [1, 0])) [61, 62, 63, 64, 65, 66] :: S1)) (by kernel_rfl) fun J => ?_
                      by_cases c24 : t62 = true
                      · replace h := iteT c24 h
                        refine KR.setV 63 (by kernel_rfl) (bT c24) ?_
                        refine KR.run 7 [(2, .bool true)] 69 (s' := (.code (sub B [1, 1]) :: [])) (by kernel_rfl) fun J => ?_
                        exact KR.fin (by kernel_rfl) h
                      · replace h := iteF c24 h
                        refine KR.setV 63 (by kernel_rfl) (bF c24) ?_
                        refine KR.run 1 [(59, .bool true), (63, .bool false), (64, .pointer (some ⟨H.next, 4, none⟩))] 69 (s' := (.reg (opsAt (sub B [1, 0])) [62, 63, 64, 65, 66] :: S1)) (by kernel_rfl) fun J => ?_
                        obtain ⟨t65, q25, h⟩ := h
                        refine KR.rd (one_ld (by kernel_rfl) q25) ?_
                        refine KR.run 5 [(2, .bool (t65 == 64))] 69 (s' := (.code (sub B [1, 1]) :: [])) (by kernel_rfl) fun J => ?_
                        exact KR.fin (by kernel_rfl) h
                    · replace h := iteF c21 h
                      refine KR.setV 52 (by kernel_rfl) (eF c21) ?_
                      refine KR.run 1 [(1, .pointer (some ⟨H.next, 0, none⟩)), (47, .bool true), (52, .bool false), (53, .pointer (some ⟨H.next, 3, none⟩))] 69 (s' := (.reg (opsAt (sub B [1, 0])) [51, 52, 53, 54, 55, 56, 57, 58, 59, 60, 61, 62, 63, 64, 65, 66] :: S1)) (by kernel_rfl) fun J => ?_
                      obtain ⟨t54, q26, h⟩ := h
                      refine KR.rd (one_ld (by kernel_rfl) q26) ?_
                      refine KR.run 5 [(1, .pointer (some ⟨H.next, 0, none⟩)), (59, .bool (!((iand .i64 t54 1) == 0)))] 69 (s' := (.reg (opsAt (sub B [1, 0])) [57, 58, 59, 60, 61, 62, 63, 64, 65, 66] :: S1)) (by kernel_rfl) fun J => ?_
                      by_cases c27 : (iand .i64 t54 1) = 0
                      · replace h := iteT c27 h
                        refine KR.setV 59 (by kernel_rfl) (nB (eT c27)) ?_
                        refine KR.run 11 [(2, .bool false)] 69 (s' := (.code (sub B [1, 1]) :: [])) (by kernel_rfl) fun J => ?_
                        exact KR.fin (by kernel_rfl) h
                      · replace h := iteF c27 h
                        refine KR.setV 59 (by kernel_rfl) (nB (eF c27)) ?_
                        refine KR.run 1 [(1, .pointer (some ⟨H.next, 0, none⟩)), (59, .bool true), (60, .pointer (some ⟨H.next, 4, none⟩))] 69 (s' := (.reg (opsAt (sub B [1, 0])) [58, 59, 60, 61, 62, 63, 64, 65, 66] :: S1)) (by kernel_rfl) fun J => ?_
                        obtain ⟨t61_1, q28, h⟩ := h
                        refine KR.rd (one_ld (by kernel_rfl) q28) ?_
                        obtain ⟨t62_1, H_3, q29, h⟩ := h
                        refine KR.se (one_ca (by kernel_rfl) q29) ?_
                        refine KR.run 1 [(1, .pointer (some ⟨H.next, 0, none⟩)), (59, .bool true), (63, .bool t62_1)] 69 (s' := (.reg (opsAt (sub B [1, 0])) [61, 62, 63, 64, 65, 66] :: S1)) (by kernel_rfl) fun J => ?_
                        by_cases c30 : t62_1 = true
                        · replace h := iteT c30 h
                          refine KR.setV 63 (by kernel_rfl) (bT c30) ?_
                          refine KR.run 7 [(2, .bool true)] 69 (s' := (.code (sub B [1, 1]) :: [])) (by kernel_rfl) fun J => ?_
                          exact KR.fin (by kernel_rfl) h
                        · replace h := iteF c30 h
                          refine KR.setV 63 (by kernel_rfl) (bF c30) ?_
                          refine KR.run 1 [(59, .bool true), (63, .bool false), (64, .pointer (some ⟨H.next, 4, none⟩))] 69 (s' := (.reg (opsAt (sub B [1, 0])) [62, 63, 64, 65, 66] :: S1)) (by kernel_rfl) fun J => ?_
                          obtain ⟨t65_1, q31, h⟩ := h
                          refine KR.rd (one_ld (by kernel_rfl) q31) ?_
                          refine KR.run 5 [(2, .bool (t65_1 == 64))] 69 (s' := (.code (sub B [1, 1]) :: [])) (by kernel_rfl) fun J => ?_
                          exact KR.fin (by kernel_rfl) h
                · replace h := iteF c17 h
                  refine KR.setV 41 (by kernel_rfl) (dF c17) ?_
                  refine KR.run 29 [(2, .bool false)] 69 (s' := (.code (sub B [1, 1]) :: [])) (by kernel_rfl) fun J => ?_
                  exact KR.fin (by kernel_rfl) h
              · replace h := iteF c15 h
                refine KR.setV 36 (by kernel_rfl) (dF c15) ?_
                refine KR.run 34 [(2, .bool false)] 69 (s' := (.code (sub B [1, 1]) :: [])) (by kernel_rfl) fun J => ?_
                exact KR.fin (by kernel_rfl) h
            · replace h := iteF c13 h
              refine KR.setV 31 (by kernel_rfl) (dF c13) ?_
              refine KR.run 39 [(2, .bool false)] 69 (s' := (.code (sub B [1, 1]) :: [])) (by kernel_rfl) fun J => ?_
              exact KR.fin (by kernel_rfl) h
          · replace h := iteF c11 h
            refine KR.setV 26 (by kernel_rfl) (dF c11) ?_
            refine KR.run 44 [(2, .bool false)] 69 (s' := (.code (sub B [1, 1]) :: [])) (by kernel_rfl) fun J => ?_
            exact KR.fin (by kernel_rfl) h
        · replace h := iteF c9 h
          refine KR.setV 21 (by kernel_rfl) (dF c9) ?_
          refine KR.run 49 [(2, .bool false)] 69 (s' := (.code (sub B [1, 1]) :: [])) (by kernel_rfl) fun J => ?_
          exact KR.fin (by kernel_rfl) h
      · replace h := iteF c7 h
        refine KR.setV 16 (by kernel_rfl) (dF c7) ?_
        refine KR.run 54 [(2, .bool false)] 69 (s' := (.code (sub B [1, 1]) :: [])) (by kernel_rfl) fun J => ?_
        exact KR.fin (by kernel_rfl) h
    · replace h := iteF c5 h
      refine KR.setV 11 (by kernel_rfl) (dF c5) ?_
      refine KR.run 59 [(2, .bool false)] 69 (s' := (.code (sub B [1, 1]) :: [])) (by kernel_rfl) fun J => ?_
      exact KR.fin (by kernel_rfl) h
  · replace h := iteF c3 h
    refine KR.setV 6 (by kernel_rfl) (dF c3) ?_
    refine KR.run 64 [(2, .bool false)] 69 (s' := (.code (sub B [1, 1]) :: [])) (by kernel_rfl) fun J => ?_
    exact KR.fin (by kernel_rfl) h
end F15
/-! #### 17 campanile/cell.May -/
namespace F17
noncomputable def B : Code := bodyOf Try.f17
noncomputable def S0 : List It := (.code (sub B [1]) :: [])
noncomputable def S1 : List It := (.code (sub B [1, 1]) :: [])
noncomputable def S2 : List It := (.code (sub B [1, 1, 1]) :: [])
noncomputable def S3 : List It := (.code (sub B [1, 1, 1, 1]) :: [])
noncomputable def S4 : List It := (.reg (opsAt (sub B [1, 1, 1, 0])) [0, 1, 2, 3, 4, 5, 6, 7, 8, 9, 10, 11, 12, 13, 14, 15, 16, 17, 18, 19, 20, 21, 22, 23, 24, 25, 26, 27, 28, 29, 30, 31, 32, 33, 34, 35] :: S3)
def L0 (t1b : Nat) (t1o : Nat) (t3 : Bool) (t4 : Bool) (H : Heap) (r : Value × Heap) : Prop := ∀ J, KR Try.prog good Try.f17 S4 (mat J 54 [(1, .pointer (some ⟨t1b, t1o, none⟩)), (3, .bool t3), (4, .bool t4)]) H r
theorem L0_step {t1b : Nat} {t1o : Nat} {t3 : Bool} {t4 : Bool} {H : Heap} {r : Value × Heap} (h :
    ∃ (t20 : Int), ldc H t1b t1o = some (.int .i64 t20) ∧
    (∃ (t21 : Bool) (H_1 : Heap), xC Try.prog good 38 [.int .i64 t20, .int .i64 0, .int .i64 3] H = some (.bool t21, H_1) ∧
    (if t21 = true then
    (∃ (t24 : Int), ldc H_1 t1b (t1o + 1) = some (.int .i64 t24) ∧
    (∃ (t25 : Bool) (H_2 : Heap), xC Try.prog good 38 [.int .i64 t24, .int .i64 0, .int .i64 199] H_1 = some (.bool t25, H_2) ∧
    (if t25 = true then
    (∃ (t29 : Int), ldc H_2 t1b (t1o + 2) = some (.int .i64 t29) ∧
    (∃ (t30 : Bool) (H_3 : Heap), xC Try.prog good 38 [.int .i64 t29, .int .i64 0, .int .i64 15] H_2 = some (.bool t30, H_3) ∧
    (if t30 = true then
    (∃ (t34 : Int), ldc H_3 t1b (t1o + 3) = some (.int .i64 t34) ∧
    (∃ (t35 : Bool) (H_4 : Heap), xC Try.prog good 38 [.int .i64 t34, .int .i64 1, .int .i64 15] H_3 = some (.bool t35, H_4) ∧
    (if t35 = true then
    (if t3 = true then
    (if t4 = true then
    (r = (.bool false, H_4))
    else
    (∃ (t46 : Int), ldc H_4 t1b (t1o + 4) = some (.int .i64 t46) ∧
    (∃ (t47 : Bool) (H_5 : Heap), xC Try.prog good 38 [.int .i64 t46, .int .i64 0, .int .i64 15] H_4 = some (.bool t47, H_5) ∧
    (if t47 = true then
    (r = (.bool true, H_5))
    else
    (∃ (t50 : Int), ldc H_5 t1b (t1o + 4) = some (.int .i64 t50) ∧
    (r = (.bool (t50 == 64), H_5)))))))
    else
    (r = (.bool false, H_4)))
    else
    (r = (.bool false, H_4)))))
    else
    (r = (.bool false, H_3)))))
    else
    (r = (.bool false, H_2)))))
    else
    (r = (.bool false, H_1))))) :
    L0 t1b t1o t3 t4 H r := by
  intro J
  show KR _ _ _ (.reg (opsAt (sub B [1, 1, 1, 0])) [0, 1, 2, 3, 4, 5, 6, 7, 8, 9, 10, 11, 12, 13, 14, 15, 16, 17, 18, 19, 20, 21, 22, 23, 24, 25, 26, 27, 28, 29, 30, 31, 32, 33, 34, 35] :: S3) _ _ _
  refine KR.run 1 [(1, .pointer (some ⟨t1b, t1o, none⟩)), (3, .bool t3), (4, .bool t4), (19, .pointer (some ⟨t1b, t1o, none⟩))] 54 (s' := (.reg (opsAt (sub B [1, 1, 1, 0])) [1, 2, 3, 4, 5, 6, 7, 8, 9, 10, 11, 12, 13, 14, 15, 16, 17, 18, 19, 20, 21, 22, 23, 24, 25, 26, 27, 28, 29, 30, 31, 32, 33, 34, 35] :: S3)) (by kernel_rfl) fun J => ?_
  obtain ⟨t20, q6, h⟩ := h
  refine KR.rd (one_ld (by kernel_rfl) q6) ?_
  obtain ⟨t21, H_1, q7, h⟩ := h
  refine KR.se (one_ca (by kernel_rfl) q7) ?_
  refine KR.run 1 [(1, .pointer (some ⟨t1b, t1o, none⟩)), (3, .bool t3), (4, .bool t4), (22, .bool t21)] 54 (s' := (.reg (opsAt (sub B [1, 1, 1, 0])) [4, 5, 6, 7, 8, 9, 10, 11, 12, 13, 14, 15, 16, 17, 18, 19, 20, 21, 22, 23, 24, 25, 26, 27, 28, 29, 30, 31, 32, 33, 34, 35] :: S3)) (by kernel_rfl) fun J => ?_
  by_cases c8 : t21 = true
  · replace h := iteT c8 h
    refine KR.setV 22 (by kernel_rfl) (bT c8) ?_
    refine KR.run 1 [(1, .pointer (some ⟨t1b, t1o, none⟩)), (3, .bool t3), (4, .bool t4), (22, .bool true), (23, .pointer (some ⟨t1b, (t1o + 1), none⟩))] 54 (s' := (.reg (opsAt (sub B [1, 1, 1, 0])) [5, 6, 7, 8, 9, 10, 11, 12, 13, 14, 15, 16, 17, 18, 19, 20, 21, 22, 23, 24, 25, 26, 27, 28, 29, 30, 31, 32, 33, 34, 35] :: S3)) (by kernel_rfl) fun J => ?_
    obtain ⟨t24, q9, h⟩ := h
    refine KR.rd (one_ld (by kernel_rfl) q9) ?_
    obtain ⟨t25, H_2, q10, h⟩ := h
    refine KR.se (one_ca (by kernel_rfl) q10) ?_
    refine KR.run 2 [(1, .pointer (some ⟨t1b, t1o, none⟩)), (3, .bool t3), (4, .bool t4), (27, .bool t25)] 54 (s' := (.reg (opsAt (sub B [1, 1, 1, 0])) [9, 10, 11, 12, 13, 14, 15, 16, 17, 18, 19, 20, 21, 22, 23, 24, 25, 26, 27, 28, 29, 30, 31, 32, 33, 34, 35] :: S3)) (by kernel_rfl) fun J => ?_
    by_cases c11 : t25 = true
    · replace h := iteT c11 h
      refine KR.setV 27 (by kernel_rfl) (bT c11) ?_
      refine KR.run 1 [(1, .pointer (some ⟨t1b, t1o, none⟩)), (3, .bool t3), (4, .bool t4), (27, .bool true), (28, .pointer (some ⟨t1b, (t1o + 2), none⟩))] 54 (s' := (.reg (opsAt (sub B [1, 1, 1, 0])) [10, 11, 12, 13, 14, 15, 16, 17, 18, 19, 20, 21, 22, 23, 24, 25, 26, 27, 28, 29, 30, 31, 32, 33, 34, 35] :: S3)) (by kernel_rfl) fun J => ?_
      obtain ⟨t29, q12, h⟩ := h
      refine KR.rd (one_ld (by kernel_rfl) q12) ?_
      obtain ⟨t30, H_3, q13, h⟩ := h
      refine KR.se (one_ca (by kernel_rfl) q13) ?_
      refine KR.run 2 [(1, .pointer (some ⟨t1b, t1o, none⟩)), (3, .bool t3), (4, .bool t4), (32, .bool t30)] 54 (s' := (.reg (opsAt (sub B [1, 1, 1, 0])) [14, 15, 16, 17, 18, 19, 20, 21, 22, 23, 24, 25, 26, 27, 28, 29, 30, 31, 32, 33, 34, 35] :: S3)) (by kernel_rfl) fun J => ?_
      by_cases c14 : t30 = true
      · replace h := iteT c14 h
        refine KR.setV 32 (by kernel_rfl) (bT c14) ?_
        refine KR.run 1 [(1, .pointer (some ⟨t1b, t1o, none⟩)), (3, .bool t3), (4, .bool t4), (32, .bool true), (33, .pointer (some ⟨t1b, (t1o + 3), none⟩))] 54 (s' := (.reg (opsAt (sub B [1, 1, 1, 0])) [15, 16, 17, 18, 19, 20, 21, 22, 23, 24, 25, 26, 27, 28, 29, 30, 31, 32, 33, 34, 35] :: S3)) (by kernel_rfl) fun J => ?_
        obtain ⟨t34, q15, h⟩ := h
        refine KR.rd (one_ld (by kernel_rfl) q15) ?_
        obtain ⟨t35, H_4, q16, h⟩ := h
        refine KR.se (one_ca (by kernel_rfl) q16) ?_
        refine KR.run 2 [(1, .pointer (some ⟨t1b, t1o, none⟩)), (3, .bool t3), (4, .bool t4), (37, .bool t35)] 54 (s' := (.reg (opsAt (sub B [1, 1, 1, 0])) [19, 20, 21, 22, 23, 24, 25, 26, 27, 28, 29, 30, 31, 32, 33, 34, 35] :: S3)) (by kernel_rfl) fun J => ?_
        by_cases c17 : t35 = true
        · replace h := iteT c17 h
          refine KR.setV 37 (by kernel_rfl) (bT c17) ?_
          refine KR.run 3 [(1, .pointer (some ⟨t1b, t1o, none⟩)), (4, .bool t4), (40, .bool t3)] 54 (s' := (.reg (opsAt (sub B [1, 1, 1, 0])) [22, 23, 24, 25, 26, 27, 28, 29, 30, 31, 32, 33, 34, 35] :: S3)) (by kernel_rfl) fun J => ?_
          by_cases c18 : t3 = true
          · replace h := iteT c18 h
            refine KR.setV 40 (by kernel_rfl) (bT c18) ?_
            refine KR.run 4 [(1, .pointer (some ⟨t1b, t1o, none⟩)), (44, .bool (!t4))] 54 (s' := (.reg (opsAt (sub B [1, 1, 1, 0])) [26, 27, 28, 29, 30, 31, 32, 33, 34, 35] :: S3)) (by kernel_rfl) fun J => ?_
            by_cases c19 : t4 = true
            · replace h := iteT c19 h
              refine KR.setV 44 (by kernel_rfl) (nB (bT c19)) ?_
              refine KR.run 11 [(2, .bool false)] 54 (s' := (.code (sub B [1, 1, 1, 1]) :: [])) (by kernel_rfl) fun J => ?_
              exact KR.fin (by kernel_rfl) h
            · replace h := iteF c19 h
              refine KR.setV 44 (by kernel_rfl) (nB (bF c19)) ?_
              refine KR.run 1 [(1, .pointer (some ⟨t1b, t1o, none⟩)), (44, .bool true), (45, .pointer (some ⟨t1b, (t1o + 4), none⟩))] 54 (s' := (.reg (opsAt (sub B [1, 1, 1, 0])) [27, 28, 29, 30, 31, 32, 33, 34, 35] :: S3)) (by kernel_rfl) fun J => ?_
              obtain ⟨t46, q20, h⟩ := h
              refine KR.rd (one_ld (by kernel_rfl) q20) ?_
              obtain ⟨t47, H_5, q21, h⟩ := h
              refine KR.se (one_ca (by kernel_rfl) q21) ?_
              refine KR.run 1 [(1, .pointer (some ⟨t1b, t1o, none⟩)), (44, .bool true), (48, .bool t47)] 54 (s' := (.reg (opsAt (sub B [1, 1, 1, 0])) [30, 31, 32, 33, 34, 35] :: S3)) (by kernel_rfl) fun J => ?_
              by_cases c22 : t47 = true
              · replace h := iteT c22 h
                refine KR.setV 48 (by kernel_rfl) (bT c22) ?_
                refine KR.run 7 [(2, .bool true)] 54 (s' := (.code (sub B [1, 1, 1, 1]) :: [])) (by kernel_rfl) fun J => ?_
                exact KR.fin (by kernel_rfl) h
              · replace h := iteF c22 h
                refine KR.setV 48 (by kernel_rfl) (bF c22) ?_
                refine KR.run 1 [(44, .bool true), (48, .bool false), (49, .pointer (some ⟨t1b, (t1o + 4), none⟩))] 54 (s' := (.reg (opsAt (sub B [1, 1, 1, 0])) [31, 32, 33, 34, 35] :: S3)) (by kernel_rfl) fun J => ?_
                obtain ⟨t50, q23, h⟩ := h
                refine KR.rd (one_ld (by kernel_rfl) q23) ?_
                refine KR.run 5 [(2, .bool (t50 == 64))] 54 (s' := (.code (sub B [1, 1, 1, 1]) :: [])) (by kernel_rfl) fun J => ?_
                exact KR.fin (by kernel_rfl) h
          · replace h := iteF c18 h
            refine KR.setV 40 (by kernel_rfl) (bF c18) ?_
            refine KR.run 15 [(2, .bool false)] 54 (s' := (.code (sub B [1, 1, 1, 1]) :: [])) (by kernel_rfl) fun J => ?_
            exact KR.fin (by kernel_rfl) h
        · replace h := iteF c17 h
          refine KR.setV 37 (by kernel_rfl) (bF c17) ?_
          refine KR.run 18 [(2, .bool false)] 54 (s' := (.code (sub B [1, 1, 1, 1]) :: [])) (by kernel_rfl) fun J => ?_
          exact KR.fin (by kernel_rfl) h
      · replace h := iteF c14 h
        refine KR.setV 32 (by kernel_rfl) (bF c14) ?_
        refine KR.run 23 [(2, .bool false)] 54 (s' := (.code (sub B [1, 1, 1, 1]) :: [])) (by kernel_rfl) fun J => ?_
        exact KR.fin (by kernel_rfl) h
    · replace h := iteF c11 h
      refine KR.setV 27 (by kernel_rfl) (bF c11) ?_
      refine KR.run 28 [(2, .bool false)] 54 (s' := (.code (sub B [1, 1, 1, 1]) :: [])) (by kernel_rfl) fun J => ?_
      exact KR.fin (by kernel_rfl) h
  · replace h := iteF c8 h
    refine KR.setV 22 (by kernel_rfl) (bF c8) ?_
    refine KR.run 33 [(2, .bool false)] 54 (s' := (.code (sub B [1, 1, 1, 1]) :: [])) (by kernel_rfl) fun J => ?_
    exact KR.fin (by kernel_rfl) h
theorem call {a0c0 : Int} {a0c1 : Int} {a0c2 : Int} {a0c3 : Int} {a0c4 : Int} {H : Heap} {r : Value × Heap} (h :
    ∃ (H_1 : Heap), H_1 = H.push (.row [.int .i64 a0c0, .int .i64 a0c1, .int .i64 a0c2, .int .i64 a0c3, .int .i64 a0c4] true) ∧
    (∃ (t6 : Int), ldc H_1 H.next 3 = some (.int .i64 t6) ∧
    (∃ (t10 : Int), ldc H_1 H.next 3 = some (.int .i64 t10) ∧
    (if (iand .i64 t10 4) = 0 then
    (L0 (H.next) (0) ((!((iand .i64 t6 3) == 0))) (false) H_1 r)
    else
    (∃ (t15 : Int), ldc H_1 H.next 3 = some (.int .i64 t15) ∧
    (L0 (H.next) (0) ((!((iand .i64 t6 3) == 0))) (((iand .i64 t15 1) == 0)) H_1 r)))))) :
    xC Try.prog good 17 [.agg #[.int .i64 a0c0, .int .i64 a0c1, .int .i64 a0c2, .int .i64 a0c3, .int .i64 a0c4]] H = some r := by
  refine KR.enter (fn := Try.f17) (c := B) (by kernel_rfl) (by kernel_rfl) ?_
  refine KR.run 2 [(0, .agg #[.int .i64 a0c0, .int .i64 a0c1, .int .i64 a0c2, .int .i64 a0c3, .int .i64 a0c4])] 54 (s' := (.reg (opsAt (sub B [0])) [0, 1] :: S0)) (by kernel_rfl) fun J => ?_
  obtain ⟨H_1, q1, h⟩ := h
  refine KR.mk (w := pRow [.int .i64 a0c0, .int .i64 a0c1, .int .i64 a0c2, .int .i64 a0c3, .int .i64 a0c4]) (one_al (by kernel_rfl)) q1 ?_
  refine KR.run 5 [(1, .pointer (some ⟨H.next, 0, none⟩)), (5, .pointer (some ⟨H.next, 3, none⟩))] 54 (s' := (.reg (opsAt (sub B [1, 0])) [1, 2, 3, 4] :: S1)) (by kernel_rfl) fun J => ?_
  obtain ⟨t6, q2, h⟩ := h
  refine KR.rd (one_ld (by kernel_rfl) q2) ?_
  refine KR.run 7 [(1, .pointer (some ⟨H.next, 0, none⟩)), (3, .bool (!((iand .i64 t6 3) == 0))), (9, .pointer (some ⟨H.next, 3, none⟩))] 54 (s' := (.reg (opsAt (sub B [1, 1, 0])) [1, 2, 3, 4, 5, 6, 7, 8, 9, 10] :: S2)) (by kernel_rfl) fun J => ?_
  obtain ⟨t10, q3, h⟩ := h
  refine KR.rd (one_ld (by kernel_rfl) q3) ?_
  refine KR.run 3 [(1, .pointer (some ⟨H.next, 0, none⟩)), (3, .bool (!((iand .i64 t6 3) == 0))), (13, .bool (!((iand .i64 t10 4) == 0)))] 54 (s' := (.reg (opsAt (sub B [1, 1, 0])) [5, 6, 7, 8, 9, 10] :: S2)) (by kernel_rfl) fun J => ?_
  by_cases c4 : (iand .i64 t10 4) = 0
  · replace h := iteT c4 h
    refine KR.setV 13 (by kernel_rfl) (nB (eT c4)) ?_
    exact KR.run 9 [(1, .pointer (some ⟨H.next, 0, none⟩)), (3, .bool (!((iand .i64 t6 3) == 0))), (4, .bool false)] 54 (s' := (.reg (opsAt (sub B [1, 1, 1, 0])) [0, 1, 2, 3, 4, 5, 6, 7, 8, 9, 10, 11, 12, 13, 14, 15, 16, 17, 18, 19, 20, 21, 22, 23, 24, 25, 26, 27, 28, 29, 30, 31, 32, 33, 34, 35] :: S3)) (by kernel_rfl) h
  · replace h := iteF c4 h
    refine KR.setV 13 (by kernel_rfl) (nB (eF c4)) ?_
    refine KR.run 1 [(1, .pointer (some ⟨H.next, 0, none⟩)), (3, .bool (!((iand .i64 t6 3) == 0))), (13, .bool true), (14, .pointer (some ⟨H.next, 3, none⟩))] 54 (s' := (.reg (opsAt (sub B [1, 1, 0])) [6, 7, 8, 9, 10] :: S2)) (by kernel_rfl) fun J => ?_
    obtain ⟨t15, q5, h⟩ := h
    refine KR.rd (one_ld (by kernel_rfl) q5) ?_
    exact KR.run 7 [(1, .pointer (some ⟨H.next, 0, none⟩)), (3, .bool (!((iand .i64 t6 3) == 0))), (4, .bool ((iand .i64 t15 1) == 0))] 54 (s' := (.reg (opsAt (sub B [1, 1, 1, 0])) [0, 1, 2, 3, 4, 5, 6, 7, 8, 9, 10, 11, 12, 13, 14, 15, 16, 17, 18, 19, 20, 21, 22, 23, 24, 25, 26, 27, 28, 29, 30, 31, 32, 33, 34, 35] :: S3)) (by kernel_rfl) h
end F17
/-! #### 32 slices.DeleteFunc[[]campanile/api.Cell,campanile/api.Cell] -/
namespace F32
noncomputable def B : Code := bodyOf Try.f32
noncomputable def S0 : List It := (.code (sub B [1, 1]) :: [])
noncomputable def S1 : List It := (.code (sub B [1, 1, 1]) :: [])
noncomputable def S2 : List It := (.code (sub B [1, 1, 1, 1]) :: [])
noncomputable def S11 : List It := (.code (sub B [1, 1, 1, 1, 1]) :: [])
noncomputable def S12 : List It := (.code (sub B [1, 1, 1, 1, 1, 1]) :: [])
noncomputable def S3 : List It := (.blk 0 :: S2)
noncomputable def S4 : List It := (.lp (sub B [1, 1, 1, 0, 1, 0, 0]) :: S3)
noncomputable def S5 : List It := (.code (sub B [1, 1, 1, 0, 1, 0, 0, 1]) :: S4)
noncomputable def S6 : List It := (.code (sub B [1, 1, 1, 0, 1, 0, 0, 1, 1]) :: S4)
noncomputable def S7 : List It := (.blk 1 :: S6)
noncomputable def S8 : List It := (.code (sub B [1, 1, 1, 0, 1, 0, 0, 1, 0, 0, 1]) :: S7)
noncomputable def S9 : List It := (.code (sub B [1, 1, 1, 0, 1, 0, 0, 1, 0, 0, 1, 1]) :: S7)
noncomputable def S10 : List It := (.code (sub B [1, 1, 1, 0, 1, 0, 0, 1, 0, 0, 1, 1, 0, 1]) :: S7)
def L0 (t0a : Option Addr) (t0n : Nat) (t0k : Nat) (t1 : Value) (t5 : Int) (t6 : Int) (H : Heap) (r : Value × Heap) : Prop := ∀ J, KR Try.prog good Try.f32 S4 (mat J 42 [(0, .slice t0a t0n t0k), (1, t1), (5, .int .i64 t5), (6, .int .i64 t6)]) H r
theorem L0_step {t0a : Option Addr} {t0n : Nat} {t0k : Nat} {t1 : Value} {t5 : Int} {t6 : Int} {H : Heap} {r : Value × Heap} (h :
    if t6 < ((t0n : Nat) : Int) then
    (∃ (t0ab t0ao : Nat), t0a = some ⟨t0ab, t0ao, none⟩ ∧
    ((0 : Int) ≤ t6 ∧ t6 < ((t0n : Nat) : Int) ∧
    (∃ (t25c0 : Int) (t25c1 : Int) (t25c2 : Int) (t25c3 : Int) (t25c4 : Int), ldAll H t0ab (t0ao + Int.toNat t6 * 5) [.int .i64 t25c0, .int .i64 t25c1, .int .i64 t25c2, .int .i64 t25c3, .int .i64 t25c4] ∧
    (∃ (H_1 : Heap), H_1 = H.push (.row [.int .i64 0, .int .i64 0, .int .i64 0, .int .i64 0, .int .i64 0] true) ∧
    (∃ (H_2 : Heap), stc H_1 H.next 0 [.int .i64 t25c0, .int .i64 t25c1, .int .i64 t25c2, .int .i64 t25c3, .int .i64 t25c4] = some H_2 ∧
    (∃ (t27c0 : Int) (t27c1 : Int) (t27c2 : Int) (t27c3 : Int) (t27c4 : Int), ldAll H_2 H.next 0 [.int .i64 t27c0, .int .i64 t27c1, .int .i64 t27c2, .int .i64 t27c3, .int .i64 t27c4] ∧
    (∃ (t1g : Nat) (t1x t1y : Array Value), t1 = .func (.func t1g) t1x t1y ∧
    (fnGoes Try.prog t1g = true ∧ ∃ (t28 : Bool) (H_3 : Heap), xC Try.prog good t1g (Array.toList t1x ++ [.agg #[.int .i64 t27c0, .int .i64 t27c1, .int .i64 t27c2, .int .i64 t27c3, .int .i64 t27c4]] ++ Array.toList t1y) H_2 = some (.bool t28, H_3) ∧
    (if t28 = true then
    (L0 ((some ⟨t0ab, t0ao, none⟩)) (t0n) (t0k) (.func (.func t1g) t1x t1y) (t5) ((IntKind.wrap .i64 (t6 + 1))) H_3 r)
    else
    (∃ (t32c0 : Int) (t32c1 : Int) (t32c2 : Int) (t32c3 : Int) (t32c4 : Int), ldAll H_3 H.next 0 [.int .i64 t32c0, .int .i64 t32c1, .int .i64 t32c2, .int .i64 t32c3, .int .i64 t32c4] ∧
    ((0 : Int) ≤ t5 ∧ t5 < ((t0n : Nat) : Int) ∧
    (∃ (H_4 : Heap), stc H_3 t0ab (t0ao + Int.toNat t5 * 5) [.int .i64 t32c0, .int .i64 t32c1, .int .i64 t32c2, .int .i64 t32c3, .int .i64 t32c4] = some H_4 ∧
    (L0 ((some ⟨t0ab, t0ao, none⟩)) (t0n) (t0k) (.func (.func t1g) t1x t1y) ((IntKind.wrap .i64 (t5 + 1))) ((IntKind.wrap .i64 (t6 + 1))) H_4 r)))))))))))))
    else
    (∃ (t38a : Option Addr) (t38n : Nat) (t38k : Nat), psl 5 t0a t0n t0k (some t5) none none = some (t38a, t38n, t38k) ∧
    (∃ (H_5 : Heap), pclear H [.int .i64 0, .int .i64 0, .int .i64 0, .int .i64 0, .int .i64 0] t38a t38n t38k = some H_5 ∧
    (∃ (t41a : Option Addr) (t41n : Nat) (t41k : Nat), psl 5 t0a t0n t0k none (some t5) none = some (t41a, t41n, t41k) ∧
    (r = (.slice t41a t41n t41k, H_5)))))) :
    L0 t0a t0n t0k t1 t5 t6 H r := by
  intro J
  show KR _ _ _ (.lp (sub B [1, 1, 1, 0, 1, 0, 0]) :: S3) _ _ _
  refine KR.run 9 [(0, .slice t0a t0n t0k), (1, t1), (5, .int .i64 t5), (6, .int .i64 t6), (19, .bool (decide (t6 < ((t0n : Nat) : Int))))] 42 (s' := (.code (sub B [1, 1, 1, 0, 1, 0, 0, 0, 1]) :: S5)) (by kernel_rfl) fun J => ?_
  by_cases c3 : t6 < ((t0n : Nat) : Int)
  · replace h := iteT c3 h
    refine KR.br true (by kernel_rfl) (vB (dT c3)) ?_
    obtain ⟨t0ab, t0ao, rfl, h⟩ := h
    refine KR.run 7 [(0, .slice (some ⟨t0ab, t0ao, none⟩) t0n t0k), (1, t1), (5, .int .i64 t5), (6, .int .i64 t6), (22, .slice (some ⟨t0ab, t0ao, none⟩) t0n t0k), (23, .int .i64 t6)] 42 (s' := (.reg (opsAt (sub B [1, 1, 1, 0, 1, 0, 0, 1, 0, 0, 0])) [2, 3, 4, 5] :: S8)) (by kernel_rfl) fun J => ?_
    obtain ⟨q4, q4x, h⟩ := h
    refine KR.p (one_ix 5 t0ab t0ao (by kernel_rfl) q4 q4x) ?_
    obtain ⟨t25c0, t25c1, t25c2, t25c3, t25c4, q5, h⟩ := h
    refine KR.rd (one_ldA (by kernel_rfl) q5) ?_
    obtain ⟨H_1, q6, h⟩ := h
    refine KR.mk (w := pRow [.int .i64 0, .int .i64 0, .int .i64 0, .int .i64 0, .int .i64 0]) (one_al (by kernel_rfl)) q6 ?_
    obtain ⟨H_2, q7, h⟩ := h
    refine KR.se (one_st (by kernel_rfl) q7) ?_
    refine KR.run 4 [(0, .slice (some ⟨t0ab, t0ao, none⟩) t0n t0k), (1, t1), (5, .int .i64 t5), (6, .int .i64 t6), (7, .pointer (some ⟨H.next, 0, none⟩)), (26, t1)] 42 (s' := (.reg (opsAt (sub B [1, 1, 1, 0, 1, 0, 0, 1, 0, 0, 1, 0])) [1, 2, 3] :: S9)) (by kernel_rfl) fun J => ?_
    obtain ⟨t27c0, t27c1, t27c2, t27c3, t27c4, q8, h⟩ := h
    refine KR.rd (one_ldA (by kernel_rfl) q8) ?_
    obtain ⟨t1g, t1x, t1y, rfl, h⟩ := h
    obtain ⟨q10x, t28, H_3, q10, h⟩ := h
    refine KR.se (one_fv (by kernel_rfl) q10x q10) ?_
    refine KR.run 2 [(0, .slice (some ⟨t0ab, t0ao, none⟩) t0n t0k), (1, .func (.func t1g) t1x t1y), (5, .int .i64 t5), (6, .int .i64 t6), (7, .pointer (some ⟨H.next, 0, none⟩)), (29, .bool (!t28))] 42 (s' := (.code (sub B [1, 1, 1, 0, 1, 0, 0, 1, 0, 0, 1, 1]) :: S7)) (by kernel_rfl) fun J => ?_
    by_cases c11 : t28 = true
    · replace h := iteT c11 h
      refine KR.br false (by kernel_rfl) (vB (nB (bT c11))) ?_
      exact KR.run 7 [(0, .slice (some ⟨t0ab, t0ao, none⟩) t0n t0k), (1, .func (.func t1g) t1x t1y), (5, .int .i64 t5), (6, .int .i64 (IntKind.wrap .i64 (t6 + 1)))] 42 (s' := (.lp (sub B [1, 1, 1, 0, 1, 0, 0]) :: S3)) (by kernel_rfl) h
    · replace h := iteF c11 h
      refine KR.br true (by kernel_rfl) (vB (nB (bF c11))) ?_
      refine KR.run 4 [(0, .slice (some ⟨t0ab, t0ao, none⟩) t0n t0k), (1, .func (.func t1g) t1x t1y), (5, .int .i64 t5), (6, .int .i64 t6), (7, .pointer (some ⟨H.next, 0, none⟩)), (30, .slice (some ⟨t0ab, t0ao, none⟩) t0n t0k), (31, .int .i64 t5)] 42 (s' := (.reg (opsAt (sub B [1, 1, 1, 0, 1, 0, 0, 1, 0, 0, 1, 1, 0, 0])) [2, 3, 4] :: S10)) (by kernel_rfl) fun J => ?_
      obtain ⟨t32c0, t32c1, t32c2, t32c3, t32c4, q12, h⟩ := h
      refine KR.rd (one_ldA (by kernel_rfl) q12) ?_
      obtain ⟨q13, q13x, h⟩ := h
      refine KR.p (one_ix 5 t0ab t0ao (by kernel_rfl) q13 q13x) ?_
      obtain ⟨H_4, q14, h⟩ := h
      refine KR.se (one_st (by kernel_rfl) q14) ?_
      exact KR.run 12 [(0, .slice (some ⟨t0ab, t0ao, none⟩) t0n t0k), (1, .func (.func t1g) t1x t1y), (5, .int .i64 (IntKind.wrap .i64 (t5 + 1))), (6, .int .i64 (IntKind.wrap .i64 (t6 + 1)))] 42 (s' := (.lp (sub B [1, 1, 1, 0, 1, 0, 0]) :: S3)) (by kernel_rfl) h
  · replace h := iteF c3 h
    refine KR.br false (by kernel_rfl) (vB (dF c3)) ?_
    refine KR.run 5 [(0, .slice t0a t0n t0k), (5, .int .i64 t5), (36, .slice t0a t0n t0k), (37, .int .i64 t5)] 42 (s' := (.reg (opsAt (sub B [1, 1, 1, 1, 0])) [2, 3] :: S11)) (by kernel_rfl) fun J => ?_
    obtain ⟨t38a, t38n, t38k, q15, h⟩ := h
    refine KR.p (one_sl (by kernel_rfl) q15) ?_
    obtain ⟨H_5, q16, h⟩ := h
    refine KR.se (one_cl (by kernel_rfl) q16) ?_
    refine KR.run 5 [(39, .slice t0a t0n t0k), (40, .int .i64 t5)] 42 (s' := (.reg (opsAt (sub B [1, 1, 1, 1, 1, 0])) [2, 3] :: S12)) (by kernel_rfl) fun J => ?_
    obtain ⟨t41a, t41n, t41k, q17, h⟩ := h
    refine KR.p (one_sl (by kernel_rfl) q17) ?_
    refine KR.run 2 [(4, .slice t41a t41n t41k)] 42 (s' := (.code (sub B [1, 1, 1, 1, 1, 1]) :: [])) (by kernel_rfl) fun J => ?_
    exact KR.fin (by kernel_rfl) h
theorem call {a0a : Option Addr} {a0n : Nat} {a0k : Nat} {a1 : Value} {H : Heap} {r : Value × Heap} (h :
    ∃ (t10 : Int) (H_1 : Heap), xC Try.prog good 49 [.slice a0a a0n a0k, a1] H = some (.int .i64 t10, H_1) ∧
    (if t10 = (-1) then
    (r = (.slice a0a a0n a0k, H_1))
    else
    (L0 (a0a) (a0n) (a0k) (a1) (t10) ((IntKind.wrap .i64 (t10 + 1))) H_1 r))) :
    xC Try.prog good 32 [.slice a0a a0n a0k, a1] H = some r := by
  refine KR.enter (fn := Try.f32) (c := B) (by kernel_rfl) (by kernel_rfl) ?_
  refine KR.run 8 [(0, .slice a0a a0n a0k), (1, a1), (8, .slice a0a a0n a0k), (9, a1)] 42 (s' := (.reg (opsAt (sub B [1, 0])) [2, 3] :: S0)) (by kernel_rfl) fun J => ?_
  obtain ⟨t10, H_1, q1, h⟩ := h
  refine KR.se (one_ca (by kernel_rfl) q1) ?_
  refine KR.run 8 [(0, .slice a0a a0n a0k), (1, a1), (5, .int .i64 t10), (12, .bool (t10 == (-1)))] 42 (s' := (.code (sub B [1, 1, 0, 1]) :: S1)) (by kernel_rfl) fun J => ?_
  by_cases c2 : t10 = (-1)
  · replace h := iteT c2 h
    refine KR.br true (by kernel_rfl) (vB (eT c2)) ?_
    refine KR.run 5 [(4, .slice a0a a0n a0k)] 42 (s' := (.code (sub B [1, 1, 0, 1, 0, 1]) :: S1)) (by kernel_rfl) fun J => ?_
    exact KR.fin (by kernel_rfl) h
  · replace h := iteF c2 h
    refine KR.br false (by kernel_rfl) (vB (eF c2)) ?_
    exact KR.run 10 [(0, .slice a0a a0n a0k), (1, a1), (5, .int .i64 t10), (6, .int .i64 (IntKind.wrap .i64 (t10 + 1)))] 42 (s' := (.lp (sub B [1, 1, 1, 0, 1, 0, 0]) :: S3)) (by kernel_rfl) h
end F32
/-! #### 33 slices.Clone[[]campanile/api.Cell,campanile/api.Cell] -/
namespace F33
noncomputable def B : Code := bodyOf Try.f33
noncomputable def S0 : List It := (.code (sub B [1, 1]) :: [])
noncomputable def S2 : List It := (.code (sub B [1, 1, 1]) :: [])
noncomputable def S1 : List It := (.code (sub B [1, 0, 1]) :: S0)
theorem call {a0a : Option Addr} {a0n : Nat} {a0k : Nat} {H : Heap} {r : Value × Heap} (h :
    if (Option.isNone a0a) = true then
    (r = (.slice none 0 0, H))
    else
    (∃ (H_1 : Heap), H_1 = H.push (.row [] true) ∧
    (∃ (t7a : Option Addr) (t7n : Nat) (t7k : Nat) (H_2 : Heap), papp H_1 5 40 (some ⟨H.next, 0, none⟩) 0 (UNK 5) a0a a0n a0k = some ((t7a, t7n, t7k), H_2) ∧
    (r = (.slice t7a t7n t7k, H_2))))) :
    xC Try.prog good 33 [.slice a0a a0n a0k] H = some r := by
  refine KR.enter (fn := Try.f33) (c := B) (by kernel_rfl) (by kernel_rfl) ?_
  refine KR.run 8 [(0, .slice a0a a0n a0k), (3, .slice a0a a0n a0k)] 8 (s' := (.reg (opsAt (sub B [1, 0, 0])) [1] :: S1)) (by kernel_rfl) fun J => ?_
  refine KR.p (one_nl false a0a (by kernel_rfl)) ?_
  refine KR.run 1 [(0, .slice a0a a0n a0k), (4, .bool (Option.isNone a0a))] 8 (s' := (.code (sub B [1, 0, 1]) :: S0)) (by kernel_rfl) fun J => ?_
  by_cases c2 : (Option.isNone a0a) = true
  · replace h := iteT c2 h
    refine KR.br true (by kernel_rfl) (vB (bT c2)) ?_
    refine KR.run 4 [(2, .slice none 0 0)] 8 (s' := (.code (sub B [1, 0, 1, 0, 1]) :: S0)) (by kernel_rfl) fun J => ?_
    exact KR.fin (by kernel_rfl) h
  · replace h := iteF c2 h
    refine KR.br false (by kernel_rfl) (vB (bF c2)) ?_
    refine KR.run 3 [(0, .slice a0a a0n a0k)] 8 (s' := (.reg (opsAt (sub B [1, 1, 0])) [0, 1, 2, 3] :: S2)) (by kernel_rfl) fun J => ?_
    obtain ⟨H_1, q3, h⟩ := h
    refine KR.mk (w := sRow 0 5 []) (one_al (by kernel_rfl)) q3 ?_
    refine KR.run 1 [(5, .slice (some ⟨H.next, 0, none⟩) 0 (UNK 5)), (6, .slice a0a a0n a0k)] 8 (s' := (.reg (opsAt (sub B [1, 1, 0])) [2, 3] :: S2)) (by kernel_rfl) fun J => ?_
    obtain ⟨t7a, t7n, t7k, H_2, q4, h⟩ := h
    refine KR.se (one_ap 5 40 (by kernel_rfl) q4) ?_
    refine KR.run 2 [(2, .slice t7a t7n t7k)] 8 (s' := (.code (sub B [1, 1, 1]) :: [])) (by kernel_rfl) fun J => ?_
    exact KR.fin (by kernel_rfl) h
end F33
/-! #### 34 campanile/slot.Decide$1 -/
namespace F34
noncomputable def B : Code := bodyOf Try.f34
noncomputable def S0 : List It := (.code (sub B [1]) :: [])
noncomputable def S1 : List It := (.code (sub B [1, 1]) :: [])
theorem call {a0c0 : Int} {a0c1 : Int} {a0c2 : Int} {a0c3 : Int} {a0c4 : Int} {H : Heap} {r : Value × Heap} (h :
    ∃ (H_1 : Heap), H_1 = H.push (.row [.int .i64 a0c0, .int .i64 a0c1, .int .i64 a0c2, .int .i64 a0c3, .int .i64 a0c4] true) ∧
    (∃ (t3c0 : Int) (t3c1 : Int) (t3c2 : Int) (t3c3 : Int) (t3c4 : Int), ldAll H_1 H.next 0 [.int .i64 t3c0, .int .i64 t3c1, .int .i64 t3c2, .int .i64 t3c3, .int .i64 t3c4] ∧
    (∃ (t4 : Bool) (H_2 : Heap), xC Try.prog good 17 [.agg #[.int .i64 t3c0, .int .i64 t3c1, .int .i64 t3c2, .int .i64 t3c3, .int .i64 t3c4]] H_1 = some (.bool t4, H_2) ∧
    (r = (.bool (!t4), H_2))))) :
    xC Try.prog good 34 [.agg #[.int .i64 a0c0, .int .i64 a0c1, .int .i64 a0c2, .int .i64 a0c3, .int .i64 a0c4]] H = some r := by
  refine KR.enter (fn := Try.f34) (c := B) (by kernel_rfl) (by kernel_rfl) ?_
  refine KR.run 2 [(0, .agg #[.int .i64 a0c0, .int .i64 a0c1, .int .i64 a0c2, .int .i64 a0c3, .int .i64 a0c4])] 6 (s' := (.reg (opsAt (sub B [0])) [0, 1] :: S0)) (by kernel_rfl) fun J => ?_
  obtain ⟨H_1, q1, h⟩ := h
  refine KR.mk (w := pRow [.int .i64 a0c0, .int .i64 a0c1, .int .i64 a0c2, .int .i64 a0c3, .int .i64 a0c4]) (one_al (by kernel_rfl)) q1 ?_
  refine KR.run 4 [(1, .pointer (some ⟨H.next, 0, none⟩))] 6 (s' := (.reg (opsAt (sub B [1, 0])) [0, 1, 2, 3] :: S1)) (by kernel_rfl) fun J => ?_
  obtain ⟨t3c0, t3c1, t3c2, t3c3, t3c4, q2, h⟩ := h
  refine KR.rd (one_ldA (by kernel_rfl) q2) ?_
  obtain ⟨t4, H_2, q3, h⟩ := h
  refine KR.se (one_ca (by kernel_rfl) q3) ?_
  refine KR.run 3 [(2, .bool (!t4))] 6 (s' := (.code (sub B [1, 1]) :: [])) (by kernel_rfl) fun J => ?_
  exact KR.fin (by kernel_rfl) h
end F34
/-! #### 35 campanile/slot.place -/
namespace F35
noncomputable def B : Code := bodyOf Try.f35
noncomputable def S0 : List It := (.code (sub B [1]) :: [])
noncomputable def S1 : List It := (.code (sub B [1, 1]) :: [])
noncomputable def S3 : List It := (.code (sub B [1, 1, 1]) :: [])
noncomputable def S5 : List It := (.code (sub B [1, 1, 1, 1]) :: [])
noncomputable def S2 : List It := (.code (sub B [1, 0, 1]) :: S1)
noncomputable def S4 : List It := (.code (sub B [1, 1, 0, 1]) :: S3)
def L0 (t1a : Option Addr) (t1n : Nat) (t1k : Nat) (t2b : Nat) (t2o : Nat) (t12 : Bool) (H : Heap) (r : Value × Heap) : Prop := ∀ J, KR Try.prog good Try.f35 S2 (mat J 20 [(1, .slice t1a t1n t1k), (2, .pointer (some ⟨t2b, t2o, none⟩)), (12, .bool t12)]) H r
theorem L0_step {t1a : Option Addr} {t1n : Nat} {t1k : Nat} {t2b : Nat} {t2o : Nat} {t12 : Bool} {H : Heap} {r : Value × Heap} (h :
    if t12 = true then
    (r = (.int .i64 0, H))
    else
    (∃ (t14 : Int), ldc H t2b (t2o + 4) = some (.int .i64 t14) ∧
    (if t14 = 64 then
    (r = (.int .i64 (-1), H))
    else
    (∃ (t18 : Int), ldc H t2b (t2o + 4) = some (.int .i64 t18) ∧
    (∃ (t19 : Int) (H_1 : Heap), xC Try.prog good 50 [.slice t1a t1n t1k, .int .i64 t18] H = some (.int .i64 t19, H_1) ∧
    (r = (.int .i64 t19, H_1))))))) :
    L0 t1a t1n t1k t2b t2o t12 H r := by
  intro J
  show KR _ _ _ (.code (sub B [1, 0, 1]) :: S1) _ _ _
  by_cases c4 : t12 = true
  · replace h := iteT c4 h
    refine KR.br true (by kernel_rfl) (vB (bT c4)) ?_
    refine KR.run 4 [(4, .int .i64 0)] 20 (s' := (.code (sub B [1, 0, 1, 0, 1]) :: S1)) (by kernel_rfl) fun J => ?_
    exact KR.fin (by kernel_rfl) h
  · replace h := iteF c4 h
    refine KR.br false (by kernel_rfl) (vB (bF c4)) ?_
    refine KR.run 5 [(1, .slice t1a t1n t1k), (2, .pointer (some ⟨t2b, t2o, none⟩)), (13, .pointer (some ⟨t2b, (t2o + 4), none⟩))] 20 (s' := (.reg (opsAt (sub B [1, 1, 0, 0])) [1, 2] :: S4)) (by kernel_rfl) fun J => ?_
    obtain ⟨t14, q5, h⟩ := h
    refine KR.rd (one_ld (by kernel_rfl) q5) ?_
    refine KR.run 2 [(1, .slice t1a t1n t1k), (2, .pointer (some ⟨t2b, t2o, none⟩)), (15, .bool (t14 == 64))] 20 (s' := (.code (sub B [1, 1, 0, 1]) :: S3)) (by kernel_rfl) fun J => ?_
    by_cases c6 : t14 = 64
    · replace h := iteT c6 h
      refine KR.br true (by kernel_rfl) (vB (eT c6)) ?_
      refine KR.run 4 [(4, .int .i64 (-1))] 20 (s' := (.code (sub B [1, 1, 0, 1, 0, 1]) :: S3)) (by kernel_rfl) fun J => ?_
      exact KR.fin (by kernel_rfl) h
    · replace h := iteF c6 h
      refine KR.br false (by kernel_rfl) (vB (eF c6)) ?_
      refine KR.run 5 [(16, .slice t1a t1n t1k), (17, .pointer (some ⟨t2b, (t2o + 4), none⟩))] 20 (s' := (.reg (opsAt (sub B [1, 1, 1, 0])) [2, 3, 4] :: S5)) (by kernel_rfl) fun J => ?_
      obtain ⟨t18, q7, h⟩ := h
      refine KR.rd (one_ld (by kernel_rfl) q7) ?_
      obtain ⟨t19, H_1, q8, h⟩ := h
      refine KR.se (one_ca (by kernel_rfl) q8) ?_
      refine KR.run 2 [(4, .int .i64 t19)] 20 (s' := (.code (sub B [1, 1, 1, 1]) :: [])) (by kernel_rfl) fun J => ?_
      exact KR.fin (by kernel_rfl) h
theorem call {a0c0 : Int} {a0c1 : Int} {a0c2 : Int} {a0c3 : Int} {a0c4 : Int} {a1a : Option Addr} {a1n : Nat} {a1k : Nat} {H : Heap} {r : Value × Heap} (h :
    ∃ (H_1 : Heap), H_1 = H.push (.row [.int .i64 a0c0, .int .i64 a0c1, .int .i64 a0c2, .int .i64 a0c3, .int .i64 a0c4] true) ∧
    (∃ (t6 : Int), ldc H_1 H.next 4 = some (.int .i64 t6) ∧
    (if t6 = 64 then
    (L0 (a1a) (a1n) (a1k) (H.next) (0) ((decide (((a1n : Nat) : Int) > 0))) H_1 r)
    else
    (L0 (a1a) (a1n) (a1k) (H.next) (0) (false) H_1 r)))) :
    xC Try.prog good 35 [.agg #[.int .i64 a0c0, .int .i64 a0c1, .int .i64 a0c2, .int .i64 a0c3, .int .i64 a0c4], .slice a1a a1n a1k] H = some r := by
  refine KR.enter (fn := Try.f35) (c := B) (by kernel_rfl) (by kernel_rfl) ?_
  refine KR.run 2 [(0, .agg #[.int .i64 a0c0, .int .i64 a0c1, .int .i64 a0c2, .int .i64 a0c3, .int .i64 a0c4]), (1, .slice a1a a1n a1k)] 20 (s' := (.reg (opsAt (sub B [0])) [0, 1] :: S0)) (by kernel_rfl) fun J => ?_
  obtain ⟨H_1, q1, h⟩ := h
  refine KR.mk (w := pRow [.int .i64 a0c0, .int .i64 a0c1, .int .i64 a0c2, .int .i64 a0c3, .int .i64 a0c4]) (one_al (by kernel_rfl)) q1 ?_
  refine KR.run 6 [(1, .slice a1a a1n a1k), (2, .pointer (some ⟨H.next, 0, none⟩)), (5, .pointer (some ⟨H.next, 4, none⟩))] 20 (s' := (.reg (opsAt (sub B [1, 0, 0])) [1, 2, 3, 4, 5, 6, 7] :: S2)) (by kernel_rfl) fun J => ?_
  obtain ⟨t6, q2, h⟩ := h
  refine KR.rd (one_ld (by kernel_rfl) q2) ?_
  refine KR.run 2 [(1, .slice a1a a1n a1k), (2, .pointer (some ⟨H.next, 0, none⟩)), (8, .bool (t6 == 64))] 20 (s' := (.reg (opsAt (sub B [1, 0, 0])) [4, 5, 6, 7] :: S2)) (by kernel_rfl) fun J => ?_
  by_cases c3 : t6 = 64
  · replace h := iteT c3 h
    refine KR.setV 8 (by kernel_rfl) (eT c3) ?_
    exact KR.run 5 [(1, .slice a1a a1n a1k), (2, .pointer (some ⟨H.next, 0, none⟩)), (12, .bool (decide (((a1n : Nat) : Int) > 0)))] 20 (s' := (.code (sub B [1, 0, 1]) :: S1)) (by kernel_rfl) h
  · replace h := iteF c3 h
    refine KR.setV 8 (by kernel_rfl) (eF c3) ?_
    exact KR.run 5 [(1, .slice a1a a1n a1k), (2, .pointer (some ⟨H.next, 0, none⟩)), (12, .bool false)] 20 (s' := (.code (sub B [1, 0, 1]) :: S1)) (by kernel_rfl) h
end F35
/-! #### 36 campanile/slot.sends -/
namespace F36
noncomputable def B : Code := bodyOf Try.f36
noncomputable def S0 : List It := (.code (sub B [1]) :: [])
noncomputable def S1 : List It := (.code (sub B [1, 1]) :: [])
theorem call {a0c0 : Int} {a0c1 : Int} {a0c2 : Int} {a0c3 : Int} {a0c4 : Int} {a1 : Bool} {H : Heap} {r : Value × Heap} (h :
    ∃ (H_1 : Heap), H_1 = H.push (.row [.int .i64 a0c0, .int .i64 a0c1, .int .i64 a0c2, .int .i64 a0c3, .int .i64 a0c4] true) ∧
    (∃ (t6 : Int), ldc H_1 H.next 3 = some (.int .i64 t6) ∧
    (if (iand .i64 t6 1) = 0 then
    (r = (.bool false, H_1))
    else
    (∃ (t11 : Int), ldc H_1 H.next 3 = some (.int .i64 t11) ∧
    (if (iand .i64 t11 4) = 0 then
    (r = (.bool true, H_1))
    else
    (r = (.bool a1, H_1))))))) :
    xC Try.prog good 36 [.agg #[.int .i64 a0c0, .int .i64 a0c1, .int .i64 a0c2, .int .i64 a0c3, .int .i64 a0c4], .bool a1] H = some r := by
  refine KR.enter (fn := Try.f36) (c := B) (by kernel_rfl) (by kernel_rfl) ?_
  refine KR.run 2 [(0, .agg #[.int .i64 a0c0, .int .i64 a0c1, .int .i64 a0c2, .int .i64 a0c3, .int .i64 a0c4]), (1, .bool a1)] 18 (s' := (.reg (opsAt (sub B [0])) [0, 1] :: S0)) (by kernel_rfl) fun J => ?_
  obtain ⟨H_1, q1, h⟩ := h
  refine KR.mk (w := pRow [.int .i64 a0c0, .int .i64 a0c1, .int .i64 a0c2, .int .i64 a0c3, .int .i64 a0c4]) (one_al (by kernel_rfl)) q1 ?_
  refine KR.run 5 [(1, .bool a1), (2, .pointer (some ⟨H.next, 0, none⟩)), (5, .pointer (some ⟨H.next, 3, none⟩))] 18 (s' := (.reg (opsAt (sub B [1, 0])) [1, 2, 3, 4, 5, 6, 7, 8, 9, 10, 11, 12, 13] :: S1)) (by kernel_rfl) fun J => ?_
  obtain ⟨t6, q2, h⟩ := h
  refine KR.rd (one_ld (by kernel_rfl) q2) ?_
  refine KR.run 3 [(1, .bool a1), (2, .pointer (some ⟨H.next, 0, none⟩)), (9, .bool (!((iand .i64 t6 1) == 0)))] 18 (s' := (.reg (opsAt (sub B [1, 0])) [5, 6, 7, 8, 9, 10, 11, 12, 13] :: S1)) (by kernel_rfl) fun J => ?_
  by_cases c3 : (iand .i64 t6 1) = 0
  · replace h := iteT c3 h
    refine KR.setV 9 (by kernel_rfl) (nB (eT c3)) ?_
    refine KR.run 10 [(4, .bool false)] 18 (s' := (.code (sub B [1, 1]) :: [])) (by kernel_rfl) fun J => ?_
    exact KR.fin (by kernel_rfl) h
  · replace h := iteF c3 h
    refine KR.setV 9 (by kernel_rfl) (nB (eF c3)) ?_
    refine KR.run 1 [(1, .bool a1), (9, .bool true), (10, .pointer (some ⟨H.next, 3, none⟩))] 18 (s' := (.reg (opsAt (sub B [1, 0])) [6, 7, 8, 9, 10, 11, 12, 13] :: S1)) (by kernel_rfl) fun J => ?_
    obtain ⟨t11, q4, h⟩ := h
    refine KR.rd (one_ld (by kernel_rfl) q4) ?_
    refine KR.run 3 [(1, .bool a1), (9, .bool true), (14, .bool ((iand .i64 t11 4) == 0))] 18 (s' := (.reg (opsAt (sub B [1, 0])) [10, 11, 12, 13] :: S1)) (by kernel_rfl) fun J => ?_
    by_cases c5 : (iand .i64 t11 4) = 0
    · replace h := iteT c5 h
      refine KR.setV 14 (by kernel_rfl) (eT c5) ?_
      refine KR.run 5 [(4, .bool true)] 18 (s' := (.code (sub B [1, 1]) :: [])) (by kernel_rfl) fun J => ?_
      exact KR.fin (by kernel_rfl) h
    · replace h := iteF c5 h
      refine KR.setV 14 (by kernel_rfl) (eF c5) ?_
      refine KR.run 5 [(4, .bool a1)] 18 (s' := (.code (sub B [1, 1]) :: [])) (by kernel_rfl) fun J => ?_
      exact KR.fin (by kernel_rfl) h
end F36
/-! #### 37 campanile/campanileref1.Node -/
namespace F37
noncomputable def B : Code := bodyOf Try.f37
noncomputable def S0 : List It := (.code (sub B [1, 1]) :: [])
theorem call {a0 : Int} {H : Heap} {r : Value × Heap} (h :
    if a0 ≥ 0 then
    (r = (.bool (decide (a0 < 16)), H))
    else
    (r = (.bool false, H))) :
    xC Try.prog good 37 [.int .i64 a0] H = some r := by
  refine KR.enter (fn := Try.f37) (c := B) (by kernel_rfl) (by kernel_rfl) ?_
  refine KR.run 9 [(0, .int .i64 a0), (5, .bool (decide (a0 ≥ 0)))] 9 (s' := (.reg (opsAt (sub B [1, 0])) [3, 4, 5, 6] :: S0)) (by kernel_rfl) fun J => ?_
  by_cases c1 : a0 ≥ 0
  · replace h := iteT c1 h
    refine KR.setV 5 (by kernel_rfl) (dT c1) ?_
    refine KR.run 5 [(2, .bool (decide (a0 < 16)))] 9 (s' := (.code (sub B [1, 1]) :: [])) (by kernel_rfl) fun J => ?_
    exact KR.fin (by kernel_rfl) h
  · replace h := iteF c1 h
    refine KR.setV 5 (by kernel_rfl) (dF c1) ?_
    refine KR.run 5 [(2, .bool false)] 9 (s' := (.code (sub B [1, 1]) :: [])) (by kernel_rfl) fun J => ?_
    exact KR.fin (by kernel_rfl) h
end F37
/-! #### 38 campanile/cell.in -/
namespace F38
noncomputable def B : Code := bodyOf Try.f38
noncomputable def S0 : List It := (.code (sub B [1, 1]) :: [])
theorem call {a0 : Int} {a1 : Int} {a2 : Int} {H : Heap} {r : Value × Heap} (h :
    if a0 ≥ a1 then
    (r = (.bool (decide (a0 ≤ a2)), H))
    else
    (r = (.bool false, H))) :
    xC Try.prog good 38 [.int .i64 a0, .int .i64 a1, .int .i64 a2] H = some r := by
  refine KR.enter (fn := Try.f38) (c := B) (by kernel_rfl) (by kernel_rfl) ?_
  refine KR.run 10 [(0, .int .i64 a0), (2, .int .i64 a2), (10, .bool (decide (a0 ≥ a1)))] 15 (s' := (.reg (opsAt (sub B [1, 0])) [4, 5, 6, 7, 8] :: S0)) (by kernel_rfl) fun J => ?_
  by_cases c1 : a0 ≥ a1
  · replace h := iteT c1 h
    refine KR.setV 10 (by kernel_rfl) (dT c1) ?_
    refine KR.run 6 [(6, .bool (decide (a0 ≤ a2)))] 15 (s' := (.code (sub B [1, 1]) :: [])) (by kernel_rfl) fun J => ?_
    exact KR.fin (by kernel_rfl) h
  · replace h := iteF c1 h
    refine KR.setV 10 (by kernel_rfl) (dF c1) ?_
    refine KR.run 6 [(6, .bool false)] 15 (s' := (.code (sub B [1, 1]) :: [])) (by kernel_rfl) fun J => ?_
    exact KR.fin (by kernel_rfl) h
end F38
/-! #### 49 slices.IndexFunc[[]campanile/api.Cell,campanile/api.Cell] -/
namespace F49
noncomputable def B : Code := bodyOf Try.f49
noncomputable def S0 : List It := (.code (sub B [1, 1]) :: [])
noncomputable def S1 : List It := (.blk 0 :: S0)
noncomputable def S2 : List It := (.lp (sub B [1, 0, 1, 0, 0]) :: S1)
noncomputable def S3 : List It := (.code (sub B [1, 0, 1, 0, 0, 1, 1]) :: S2)
noncomputable def S4 : List It := (.code (sub B [1, 0, 1, 0, 0, 1, 1, 1]) :: S2)
noncomputable def S5 : List It := (.blk 1 :: S4)
noncomputable def S6 : List It := (.code (sub B [1, 0, 1, 0, 0, 1, 1, 0, 0, 1, 1]) :: S5)
def L0 (t0a : Option Addr) (t0n : Nat) (t0k : Nat) (t1 : Value) (t7 : Int) (t8 : Int) (H : Heap) (r : Value × Heap) : Prop := ∀ J, KR Try.prog good Try.f49 S2 (mat J 19 [(0, .slice t0a t0n t0k), (1, t1), (7, .int .i64 t7), (8, .int .i64 t8)]) H r
theorem L0_step {t0a : Option Addr} {t0n : Nat} {t0k : Nat} {t1 : Value} {t7 : Int} {t8 : Int} {H : Heap} {r : Value × Heap} (h :
    if t8 < t7 then
    (∃ (t0ab t0ao : Nat), t0a = some ⟨t0ab, t0ao, none⟩ ∧
    ((0 : Int) ≤ t8 ∧ t8 < ((t0n : Nat) : Int) ∧
    (∃ (t15c0 : Int) (t15c1 : Int) (t15c2 : Int) (t15c3 : Int) (t15c4 : Int), ldAll H t0ab (t0ao + Int.toNat t8 * 5) [.int .i64 t15c0, .int .i64 t15c1, .int .i64 t15c2, .int .i64 t15c3, .int .i64 t15c4] ∧
    (∃ (t1g : Nat) (t1x t1y : Array Value), t1 = .func (.func t1g) t1x t1y ∧
    (fnGoes Try.prog t1g = true ∧ ∃ (t16 : Bool) (H_1 : Heap), xC Try.prog good t1g (Array.toList t1x ++ [.agg #[.int .i64 t15c0, .int .i64 t15c1, .int .i64 t15c2, .int .i64 t15c3, .int .i64 t15c4]] ++ Array.toList t1y) H = some (.bool t16, H_1) ∧
    (if t16 = true then
    (r = (.int .i64 t8, H_1))
    else
    (L0 ((some ⟨t0ab, t0ao, none⟩)) (t0n) (t0k) (.func (.func t1g) t1x t1y) (t7) ((IntKind.wrap .i64 (t8 + 1))) H_1 r)))))))
    else
    (r = (.int .i64 (-1), H))) :
    L0 t0a t0n t0k t1 t7 t8 H r := by
  intro J
  show KR _ _ _ (.lp (sub B [1, 0, 1, 0, 0]) :: S1) _ _ _
  refine KR.run 6 [(0, .slice t0a t0n t0k), (1, t1), (7, .int .i64 t7), (8, .int .i64 t8), (9, .bool (decide (t8 < t7)))] 19 (s' := (.code (sub B [1, 0, 1, 0, 0, 1, 0]) :: S3)) (by kernel_rfl) fun J => ?_
  by_cases c1 : t8 < t7
  · replace h := iteT c1 h
    refine KR.br true (by kernel_rfl) (vB (dT c1)) ?_
    obtain ⟨t0ab, t0ao, rfl, h⟩ := h
    refine KR.run 13 [(0, .slice (some ⟨t0ab, t0ao, none⟩) t0n t0k), (1, t1), (5, .int .i64 t8), (7, .int .i64 t7), (8, .int .i64 t8), (11, t1), (12, .slice (some ⟨t0ab, t0ao, none⟩) t0n t0k), (13, .int .i64 t8)] 19 (s' := (.reg (opsAt (sub B [1, 0, 1, 0, 0, 1, 1, 0, 0, 1, 0])) [3, 4, 5] :: S6)) (by kernel_rfl) fun J => ?_
    obtain ⟨q2, q2x, h⟩ := h
    refine KR.p (one_ix 5 t0ab t0ao (by kernel_rfl) q2 q2x) ?_
    obtain ⟨t15c0, t15c1, t15c2, t15c3, t15c4, q3, h⟩ := h
    refine KR.rd (one_ldA (by kernel_rfl) q3) ?_
    obtain ⟨t1g, t1x, t1y, rfl, h⟩ := h
    obtain ⟨q5x, t16, H_1, q5, h⟩ := h
    refine KR.se (one_fv (by kernel_rfl) q5x q5) ?_
    refine KR.run 1 [(0, .slice (some ⟨t0ab, t0ao, none⟩) t0n t0k), (1, .func (.func t1g) t1x t1y), (5, .int .i64 t8), (7, .int .i64 t7), (8, .int .i64 t8), (16, .bool t16)] 19 (s' := (.code (sub B [1, 0, 1, 0, 0, 1, 1, 0, 0, 1, 1]) :: S5)) (by kernel_rfl) fun J => ?_
    by_cases c6 : t16 = true
    · replace h := iteT c6 h
      refine KR.br true (by kernel_rfl) (vB (bT c6)) ?_
      refine KR.run 5 [(4, .int .i64 t8)] 19 (s' := (.code (sub B [1, 0, 1, 0, 0, 1, 1, 0, 0, 1, 1, 0, 1]) :: S5)) (by kernel_rfl) fun J => ?_
      exact KR.fin (by kernel_rfl) h
    · replace h := iteF c6 h
      refine KR.br false (by kernel_rfl) (vB (bF c6)) ?_
      exact KR.run 6 [(0, .slice (some ⟨t0ab, t0ao, none⟩) t0n t0k), (1, .func (.func t1g) t1x t1y), (7, .int .i64 t7), (8, .int .i64 (IntKind.wrap .i64 (t8 + 1)))] 19 (s' := (.lp (sub B [1, 0, 1, 0, 0]) :: S1)) (by kernel_rfl) h
  · replace h := iteF c1 h
    refine KR.br false (by kernel_rfl) (vB (dF c1)) ?_
    refine KR.run 5 [(4, .int .i64 (-1))] 19 (s' := (.code (sub B [1, 1, 1]) :: [])) (by kernel_rfl) fun J => ?_
    exact KR.fin (by kernel_rfl) h
theorem call {a0a : Option Addr} {a0n : Nat} {a0k : Nat} {a1 : Value} {H : Heap} {r : Value × Heap} (h :
    L0 (a0a) (a0n) (a0k) (a1) (((a0n : Nat) : Int)) 0 H r) :
    xC Try.prog good 49 [.slice a0a a0n a0k, a1] H = some r := by
  refine KR.enter (fn := Try.f49) (c := B) (by kernel_rfl) (by kernel_rfl) ?_
  exact KR.run 13 [(0, .slice a0a a0n a0k), (1, a1), (7, .int .i64 ((a0n : Nat) : Int)), (8, .int .i64 0)] 19 (s' := (.lp (sub B [1, 0, 1, 0, 0]) :: S1)) (by kernel_rfl) h
end F49
/-! #### 50 slices.Index[[]int,int] -/
namespace F50
noncomputable def B : Code := bodyOf Try.f50
noncomputable def S0 : List It := (.code (sub B [1, 1]) :: [])
noncomputable def S1 : List It := (.blk 0 :: S0)
noncomputable def S2 : List It := (.lp (sub B [1, 0, 1, 0, 0]) :: S1)
noncomputable def S3 : List It := (.code (sub B [1, 0, 1, 0, 0, 1, 1]) :: S2)
noncomputable def S4 : List It := (.code (sub B [1, 0, 1, 0, 0, 1, 1, 1]) :: S2)
noncomputable def S5 : List It := (.blk 1 :: S4)
noncomputable def S6 : List It := (.code (sub B [1, 0, 1, 0, 0, 1, 1, 0, 0, 1, 1]) :: S5)
def L0 (t0a : Option Addr) (t0n : Nat) (t0k : Nat) (t1 : Int) (t7 : Int) (t8 : Int) (H : Heap) (r : Value × Heap) : Prop := ∀ J, KR Try.prog good Try.f50 S2 (mat J 19 [(0, .slice t0a t0n t0k), (1, .int .i64 t1), (7, .int .i64 t7), (8, .int .i64 t8)]) H r
theorem L0_step {t0a : Option Addr} {t0n : Nat} {t0k : Nat} {t1 : Int} {t7 : Int} {t8 : Int} {H : Heap} {r : Value × Heap} (h :
    if t8 < t7 then
    (∃ (t0ab t0ao : Nat), t0a = some ⟨t0ab, t0ao, none⟩ ∧
    ((0 : Int) ≤ t8 ∧ t8 < ((t0n : Nat) : Int) ∧
    (∃ (t15 : Int), ldc H t0ab (t0ao + Int.toNat t8 * 1) = some (.int .i64 t15) ∧
    (if t1 = t15 then
    (r = (.int .i64 t8, H))
    else
    (L0 ((some ⟨t0ab, t0ao, none⟩)) (t0n) (t0k) (t1) (t7) ((IntKind.wrap .i64 (t8 + 1))) H r)))))
    else
    (r = (.int .i64 (-1), H))) :
    L0 t0a t0n t0k t1 t7 t8 H r := by
  intro J
  show KR _ _ _ (.lp (sub B [1, 0, 1, 0, 0]) :: S1) _ _ _
  refine KR.run 6 [(0, .slice t0a t0n t0k), (1, .int .i64 t1), (7, .int .i64 t7), (8, .int .i64 t8), (9, .bool (decide (t8 < t7)))] 19 (s' := (.code (sub B [1, 0, 1, 0, 0, 1, 0]) :: S3)) (by kernel_rfl) fun J => ?_
  by_cases c1 : t8 < t7
  · replace h := iteT c1 h
    refine KR.br true (by kernel_rfl) (vB (dT c1)) ?_
    obtain ⟨t0ab, t0ao, rfl, h⟩ := h
    refine KR.run 13 [(0, .slice (some ⟨t0ab, t0ao, none⟩) t0n t0k), (1, .int .i64 t1), (5, .int .i64 t8), (7, .int .i64 t7), (8, .int .i64 t8), (11, .int .i64 t1), (12, .slice (some ⟨t0ab, t0ao, none⟩) t0n t0k), (13, .int .i64 t8)] 19 (s' := (.reg (opsAt (sub B [1, 0, 1, 0, 0, 1, 1, 0, 0, 1, 0])) [3, 4, 5] :: S6)) (by kernel_rfl) fun J => ?_
    obtain ⟨q2, q2x, h⟩ := h
    refine KR.p (one_ix 1 t0ab t0ao (by kernel_rfl) q2 q2x) ?_
    obtain ⟨t15, q3, h⟩ := h
    refine KR.rd (one_ld (by kernel_rfl) q3) ?_
    refine KR.run 2 [(0, .slice (some ⟨t0ab, t0ao, none⟩) t0n t0k), (1, .int .i64 t1), (5, .int .i64 t8), (7, .int .i64 t7), (8, .int .i64 t8), (16, .bool (t1 == t15))] 19 (s' := (.code (sub B [1, 0, 1, 0, 0, 1, 1, 0, 0, 1, 1]) :: S5)) (by kernel_rfl) fun J => ?_
    by_cases c4 : t1 = t15
    · replace h := iteT c4 h
      refine KR.br true (by kernel_rfl) (vB (eT c4)) ?_
      refine KR.run 5 [(4, .int .i64 t8)] 19 (s' := (.code (sub B [1, 0, 1, 0, 0, 1, 1, 0, 0, 1, 1, 0, 1]) :: S5)) (by kernel_rfl) fun J => ?_
      exact KR.fin (by kernel_rfl) h
    · replace h := iteF c4 h
      refine KR.br false (by kernel_rfl) (vB (eF c4)) ?_
      exact KR.run 6 [(0, .slice (some ⟨t0ab, t0ao, none⟩) t0n t0k), (1, .int .i64 t1), (7, .int .i64 t7), (8, .int .i64 (IntKind.wrap .i64 (t8 + 1)))] 19 (s' := (.lp (sub B [1, 0, 1, 0, 0]) :: S1)) (by kernel_rfl) h
  · replace h := iteF c1 h
    refine KR.br false (by kernel_rfl) (vB (dF c1)) ?_
    refine KR.run 5 [(4, .int .i64 (-1))] 19 (s' := (.code (sub B [1, 1, 1]) :: [])) (by kernel_rfl) fun J => ?_
    exact KR.fin (by kernel_rfl) h
theorem call {a0a : Option Addr} {a0n : Nat} {a0k : Nat} {a1 : Int} {H : Heap} {r : Value × Heap} (h :
    L0 (a0a) (a0n) (a0k) (a1) (((a0n : Nat) : Int)) 0 H r) :
    xC Try.prog good 50 [.slice a0a a0n a0k, .int .i64 a1] H = some r := by
  refine KR.enter (fn := Try.f50) (c := B) (by kernel_rfl) (by kernel_rfl) ?_
  exact KR.run 13 [(0, .slice a0a a0n a0k), (1, .int .i64 a1), (7, .int .i64 ((a0n : Nat) : Int)), (8, .int .i64 0)] 19 (s' := (.lp (sub B [1, 0, 1, 0, 0]) :: S1)) (by kernel_rfl) h
end F50
end Go.X
