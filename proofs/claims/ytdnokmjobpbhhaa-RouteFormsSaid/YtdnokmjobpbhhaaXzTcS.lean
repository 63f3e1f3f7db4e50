/- The walks of the functions: printed. -/
import Derived.Test.YtdnokmjobpbhhaaXzGc
set_option linter.unusedVariables false
set_option maxRecDepth 100000
namespace Go.X
open Go Go.RowKit Go.Proofs
/-! #### 20 campanile/campanilelaw19.awake -/
namespace F20
noncomputable def B : Code := bodyOf Try.f20
noncomputable def S0 : List It := (.code (sub B [1, 1]) :: [])
noncomputable def S1 : List It := (.code (sub B [1, 1, 1]) :: [])
noncomputable def S2 : List It := (.code (sub B [1, 1, 1, 1]) :: [])
theorem call  {H : Heap} {r : Value × Heap} (h :
    ∃ (H_1 : Heap), H_1 = H.push (.row [.int .i64 3, .int .i64 2, .int .i64 0] true) ∧
    (∃ (t6a : Option Addr) (t6n : Nat) (t6k : Nat) (H_2 : Heap), xC Try.prog good 21 [.slice (some ⟨H.next, 0, none⟩) 3 (UNK 1)] H_1 = some (.slice t6a t6n t6k, H_2) ∧
    (∃ (H_3 : Heap), H_3 = H_2.push (.row [.int .i64 0, .int .i64 2, .int .i64 3] true) ∧
    (∃ (H_4 : Heap), H_4 = H_3.push (.row [.int .u8 5] true) ∧
    (∃ (t11r0c0 : Int) (t11r0c1 : Int) (t11r0c2 : Int) (t11r0c3 : Int) (t11r0c4a : Option Addr) (t11r0c4n : Nat) (t11r0c4k : Nat) (t11r0c5a : Option Addr) (t11r0c5n : Nat) (t11r0c5k : Nat) (t11r1 : Int) (t11r2 : Int) (H_5 : Heap), xC Try.prog good 26 [.agg #[.int .i64 1, .int .i64 3, .int .i64 0, .int .i64 2, .slice (some ⟨H_2.next, 0, none⟩) 3 (UNK 1), .slice (some ⟨H_3.next, 0, none⟩) 1 (UNK 1)], .int .i64 2] H_4 = some (.tuple #[.agg #[.int .i64 t11r0c0, .int .i64 t11r0c1, .int .i64 t11r0c2, .int .i64 t11r0c3, .slice t11r0c4a t11r0c4n t11r0c4k, .slice t11r0c5a t11r0c5n t11r0c5k], .int .i64 t11r1, .int .i64 t11r2], H_5) ∧
    (∃ (H_6 : Heap), H_6 = H_5.push (.row [.int .i64 0, .int .i64 0, .int .i64 0, .int .i64 0, .slice none 0 0, .slice none 0 0] true) ∧
    (∃ (H_7 : Heap), stc H_6 H_5.next 0 [.int .i64 t11r0c0, .int .i64 t11r0c1, .int .i64 t11r0c2, .int .i64 t11r0c3, .slice t11r0c4a t11r0c4n t11r0c4k, .slice t11r0c5a t11r0c5n t11r0c5k] = some H_7 ∧
    (if ((t6n : Nat) : Int) = 3 then
    (∃ (t6ab t6ao : Nat), t6a = some ⟨t6ab, t6ao, none⟩ ∧
    ((0 : Int) ≤ 0 ∧ 0 < ((t6n : Nat) : Int) ∧
    (∃ (t21 : Int), ldc H_7 t6ab t6ao = some (.int .i64 t21) ∧
    (if t21 = 0 then
    ((0 : Int) ≤ 2 ∧ 2 < ((t6n : Nat) : Int) ∧
    (∃ (t27 : Int), ldc H_7 t6ab (t6ao + 2) = some (.int .i64 t27) ∧
    (if t27 = 3 then
    (if t11r2 = 0 then
    (if t11r1 = 3 then
    (∃ (t40 : Int), ldc H_7 H_5.next 3 = some (.int .i64 t40) ∧
    (r = (.bool (t40 == 1), H_7)))
    else
    (r = (.bool false, H_7)))
    else
    (r = (.bool false, H_7)))
    else
    (r = (.bool false, H_7)))))
    else
    (r = (.bool false, H_7))))))
    else
    (r = (.bool false, H_7)))))))))) :
    xC Try.prog good 20 [] H = some r := by
  refine KR.enter (fn := Try.f20) (c := B) (by kernel_rfl) (by kernel_rfl) ?_
  refine KR.run 6 [] 43 (s' := (.reg (opsAt (sub B [1, 0])) [0, 1, 2] :: S0)) (by kernel_rfl) fun J => ?_
  obtain ⟨H_1, q1, h⟩ := h
  refine KR.mk (w := sRow 3 1 [.int .i64 3, .int .i64 2, .int .i64 0]) (one_al (by kernel_rfl)) q1 ?_
  obtain ⟨t6a, t6n, t6k, H_2, q2, h⟩ := h
  refine KR.se (one_ca (by kernel_rfl) q2) ?_
  refine KR.run 4 [(1, .slice t6a t6n t6k)] 43 (s' := (.reg (opsAt (sub B [1, 1, 0])) [0, 1, 2, 3, 4, 5, 6, 7, 8, 9, 10, 11] :: S1)) (by kernel_rfl) fun J => ?_
  obtain ⟨H_3, q3, h⟩ := h
  refine KR.mk (w := sRow 3 1 [.int .i64 0, .int .i64 2, .int .i64 3]) (one_al (by kernel_rfl)) q3 ?_
  obtain ⟨H_4, q4, h⟩ := h
  refine KR.mk (w := sRow 1 1 [.int .u8 5]) (one_al (by kernel_rfl)) q4 ?_
  refine KR.run 1 [(1, .slice t6a t6n t6k), (10, .agg #[.int .i64 1, .int .i64 3, .int .i64 0, .int .i64 2, .slice (some ⟨H_2.next, 0, none⟩) 3 (UNK 1), .slice (some ⟨H_3.next, 0, none⟩) 1 (UNK 1)])] 43 (s' := (.reg (opsAt (sub B [1, 1, 0])) [3, 4, 5, 6, 7, 8, 9, 10, 11] :: S1)) (by kernel_rfl) fun J => ?_
  obtain ⟨t11r0c0, t11r0c1, t11r0c2, t11r0c3, t11r0c4a, t11r0c4n, t11r0c4k, t11r0c5a, t11r0c5n, t11r0c5k, t11r1, t11r2, H_5, q5, h⟩ := h
  refine KR.se (one_ca (by kernel_rfl) q5) ?_
  refine KR.run 4 [(1, .slice t6a t6n t6k), (12, .agg #[.int .i64 t11r0c0, .int .i64 t11r0c1, .int .i64 t11r0c2, .int .i64 t11r0c3, .slice t11r0c4a t11r0c4n t11r0c4k, .slice t11r0c5a t11r0c5n t11r0c5k]), (13, .int .i64 t11r1), (14, .int .i64 t11r2)] 43 (s' := (.reg (opsAt (sub B [1, 1, 0])) [8, 9, 10, 11] :: S1)) (by kernel_rfl) fun J => ?_
  obtain ⟨H_6, q6, h⟩ := h
  refine KR.mk (w := pRow [.int .i64 0, .int .i64 0, .int .i64 0, .int .i64 0, .slice none 0 0, .slice none 0 0]) (one_al (by kernel_rfl)) q6 ?_
  obtain ⟨H_7, q7, h⟩ := h
  refine KR.se (one_st (by kernel_rfl) q7) ?_
  refine KR.run 9 [(1, .slice t6a t6n t6k), (2, .pointer (some ⟨H_5.next, 0, none⟩)), (3, .int .i64 t11r1), (4, .int .i64 t11r2), (18, .bool (((t6n : Nat) : Int) == 3))] 43 (s' := (.reg (opsAt (sub B [1, 1, 1, 0])) [4, 5, 6, 7, 8, 9, 10, 11, 12, 13, 14, 15, 16, 17, 18, 19, 20, 21, 22, 23, 24, 25, 26, 27, 28] :: S2)) (by kernel_rfl) fun J => ?_
  by_cases c8 : ((t6n : Nat) : Int) = 3
  · replace h := iteT c8 h
    refine KR.setV 18 (by kernel_rfl) (eT c8) ?_
    obtain ⟨t6ab, t6ao, rfl, h⟩ := h
    refine KR.run 1 [(1, .slice (some ⟨t6ab, t6ao, none⟩) t6n t6k), (2, .pointer (some ⟨H_5.next, 0, none⟩)), (3, .int .i64 t11r1), (4, .int .i64 t11r2), (18, .bool true), (19, .slice (some ⟨t6ab, t6ao, none⟩) t6n t6k)] 43 (s' := (.reg (opsAt (sub B [1, 1, 1, 0])) [5, 6, 7, 8, 9, 10, 11, 12, 13, 14, 15, 16, 17, 18, 19, 20, 21, 22, 23, 24, 25, 26, 27, 28] :: S2)) (by kernel_rfl) fun J => ?_
    obtain ⟨q9, q9x, h⟩ := h
    refine KR.p (one_ix 1 t6ab t6ao (by kernel_rfl) q9 q9x) ?_
    obtain ⟨t21, q10, h⟩ := h
    refine KR.rd (one_ld (by kernel_rfl) q10) ?_
    refine KR.run 3 [(1, .slice (some ⟨t6ab, t6ao, none⟩) t6n t6k), (2, .pointer (some ⟨H_5.next, 0, none⟩)), (3, .int .i64 t11r1), (4, .int .i64 t11r2), (24, .bool (t21 == 0))] 43 (s' := (.reg (opsAt (sub B [1, 1, 1, 0])) [10, 11, 12, 13, 14, 15, 16, 17, 18, 19, 20, 21, 22, 23, 24, 25, 26, 27, 28] :: S2)) (by kernel_rfl) fun J => ?_
    by_cases c11 : t21 = 0
    · replace h := iteT c11 h
      refine KR.setV 24 (by kernel_rfl) (eT c11) ?_
      refine KR.run 1 [(2, .pointer (some ⟨H_5.next, 0, none⟩)), (3, .int .i64 t11r1), (4, .int .i64 t11r2), (24, .bool true), (25, .slice (some ⟨t6ab, t6ao, none⟩) t6n t6k)] 43 (s' := (.reg (opsAt (sub B [1, 1, 1, 0])) [11, 12, 13, 14, 15, 16, 17, 18, 19, 20, 21, 22, 23, 24, 25, 26, 27, 28] :: S2)) (by kernel_rfl) fun J => ?_
      obtain ⟨q12, q12x, h⟩ := h
      refine KR.p (one_ix 1 t6ab t6ao (by kernel_rfl) q12 q12x) ?_
      obtain ⟨t27, q13, h⟩ := h
      refine KR.rd (one_ld (by kernel_rfl) q13) ?_
      refine KR.run 3 [(2, .pointer (some ⟨H_5.next, 0, none⟩)), (3, .int .i64 t11r1), (4, .int .i64 t11r2), (30, .bool (t27 == 3))] 43 (s' := (.reg (opsAt (sub B [1, 1, 1, 0])) [16, 17, 18, 19, 20, 21, 22, 23, 24, 25, 26, 27, 28] :: S2)) (by kernel_rfl) fun J => ?_
      by_cases c14 : t27 = 3
      · replace h := iteT c14 h
        refine KR.setV 30 (by kernel_rfl) (eT c14) ?_
        refine KR.run 4 [(2, .pointer (some ⟨H_5.next, 0, none⟩)), (3, .int .i64 t11r1), (34, .bool (t11r2 == 0))] 43 (s' := (.reg (opsAt (sub B [1, 1, 1, 0])) [20, 21, 22, 23, 24, 25, 26, 27, 28] :: S2)) (by kernel_rfl) fun J => ?_
        by_cases c15 : t11r2 = 0
        · replace h := iteT c15 h
          refine KR.setV 34 (by kernel_rfl) (eT c15) ?_
          refine KR.run 4 [(2, .pointer (some ⟨H_5.next, 0, none⟩)), (38, .bool (t11r1 == 3))] 43 (s' := (.reg (opsAt (sub B [1, 1, 1, 0])) [24, 25, 26, 27, 28] :: S2)) (by kernel_rfl) fun J => ?_
          by_cases c16 : t11r1 = 3
          · replace h := iteT c16 h
            refine KR.setV 38 (by kernel_rfl) (eT c16) ?_
            refine KR.run 1 [(38, .bool true), (39, .pointer (some ⟨H_5.next, 3, none⟩))] 43 (s' := (.reg (opsAt (sub B [1, 1, 1, 0])) [25, 26, 27, 28] :: S2)) (by kernel_rfl) fun J => ?_
            obtain ⟨t40, q17, h⟩ := h
            refine KR.rd (one_ld (by kernel_rfl) q17) ?_
            refine KR.run 4 [(0, .bool (t40 == 1))] 43 (s' := (.code (sub B [1, 1, 1, 1]) :: [])) (by kernel_rfl) fun J => ?_
            exact KR.fin (by kernel_rfl) h
          · replace h := iteF c16 h
            refine KR.setV 38 (by kernel_rfl) (eF c16) ?_
            refine KR.run 6 [(0, .bool false)] 43 (s' := (.code (sub B [1, 1, 1, 1]) :: [])) (by kernel_rfl) fun J => ?_
            exact KR.fin (by kernel_rfl) h
        · replace h := iteF c15 h
          refine KR.setV 34 (by kernel_rfl) (eF c15) ?_
          refine KR.run 10 [(0, .bool false)] 43 (s' := (.code (sub B [1, 1, 1, 1]) :: [])) (by kernel_rfl) fun J => ?_
          exact KR.fin (by kernel_rfl) h
      · replace h := iteF c14 h
        refine KR.setV 30 (by kernel_rfl) (eF c14) ?_
        refine KR.run 14 [(0, .bool false)] 43 (s' := (.code (sub B [1, 1, 1, 1]) :: [])) (by kernel_rfl) fun J => ?_
        exact KR.fin (by kernel_rfl) h
    · replace h := iteF c11 h
      refine KR.setV 24 (by kernel_rfl) (eF c11) ?_
      refine KR.run 20 [(0, .bool false)] 43 (s' := (.code (sub B [1, 1, 1, 1]) :: [])) (by kernel_rfl) fun J => ?_
      exact KR.fin (by kernel_rfl) h
  · replace h := iteF c8 h
    refine KR.setV 18 (by kernel_rfl) (eF c8) ?_
    refine KR.run 26 [(0, .bool false)] 43 (s' := (.code (sub B [1, 1, 1, 1]) :: [])) (by kernel_rfl) fun J => ?_
    exact KR.fin (by kernel_rfl) h
end F20
/-! #### 21 campanile/route.Back -/
namespace F21
noncomputable def B : Code := bodyOf Try.f21
noncomputable def S0 : List It := (.code (sub B [1, 1]) :: [])
noncomputable def S2 : List It := (.code (sub B [1, 1, 1]) :: [])
noncomputable def S3 : List It := (.code (sub B [1, 1, 1, 1]) :: [])
noncomputable def S1 : List It := (.code (sub B [1, 0, 1]) :: S0)
theorem call {a0a : Option Addr} {a0n : Nat} {a0k : Nat} {H : Heap} {r : Value × Heap} (h :
    ∃ (t4 : Bool) (H_1 : Heap), xC Try.prog good 54 [.slice a0a a0n a0k] H = some (.bool t4, H_1) ∧
    (if t4 = true then
    (∃ (t7a : Option Addr) (t7n : Nat) (t7k : Nat) (H_2 : Heap), xC Try.prog good 55 [.slice a0a a0n a0k] H_1 = some (.slice t7a t7n t7k, H_2) ∧
    (∃ (H_3 : Heap), xC Try.prog good 56 [.slice t7a t7n t7k] H_2 = some (.tuple #[], H_3) ∧
    (r = (.slice t7a t7n t7k, H_3))))
    else
    (r = (.slice none 0 0, H_1)))) :
    xC Try.prog good 21 [.slice a0a a0n a0k] H = some r := by
  refine KR.enter (fn := Try.f21) (c := B) (by kernel_rfl) (by kernel_rfl) ?_
  refine KR.run 8 [(0, .slice a0a a0n a0k), (3, .slice a0a a0n a0k)] 11 (s' := (.reg (opsAt (sub B [1, 0, 0])) [1, 2] :: S1)) (by kernel_rfl) fun J => ?_
  obtain ⟨t4, H_1, q1, h⟩ := h
  refine KR.se (one_ca (by kernel_rfl) q1) ?_
  refine KR.run 2 [(0, .slice a0a a0n a0k), (5, .bool (!t4))] 11 (s' := (.code (sub B [1, 0, 1]) :: S0)) (by kernel_rfl) fun J => ?_
  by_cases c2 : t4 = true
  · replace h := iteT c2 h
    refine KR.br false (by kernel_rfl) (vB (nB (bT c2))) ?_
    refine KR.run 4 [(6, .slice a0a a0n a0k)] 11 (s' := (.reg (opsAt (sub B [1, 1, 0])) [1, 2] :: S2)) (by kernel_rfl) fun J => ?_
    obtain ⟨t7a, t7n, t7k, H_2, q3, h⟩ := h
    refine KR.se (one_ca (by kernel_rfl) q3) ?_
    refine KR.run 5 [(0, .slice t7a t7n t7k), (8, .slice t7a t7n t7k)] 11 (s' := (.reg (opsAt (sub B [1, 1, 1, 0])) [1] :: S3)) (by kernel_rfl) fun J => ?_
    obtain ⟨H_3, q4, h⟩ := h
    refine KR.se (one_ca (by kernel_rfl) q4) ?_
    refine KR.run 6 [(2, .slice t7a t7n t7k)] 11 (s' := (.code (sub B [1, 1, 1, 1, 1]) :: [])) (by kernel_rfl) fun J => ?_
    exact KR.fin (by kernel_rfl) h
  · replace h := iteF c2 h
    refine KR.br true (by kernel_rfl) (vB (nB (bF c2))) ?_
    refine KR.run 4 [(2, .slice none 0 0)] 11 (s' := (.code (sub B [1, 0, 1, 0, 1]) :: S0)) (by kernel_rfl) fun J => ?_
    exact KR.fin (by kernel_rfl) h
end F21
/-! #### 22 campanile/campanileref18.MayPath -/
namespace F22
noncomputable def B : Code := bodyOf Try.f22
noncomputable def S0 : List It := (.code (sub B [1, 1]) :: [])
noncomputable def S1 : List It := (.blk 0 :: S0)
noncomputable def S2 : List It := (.lp (sub B [1, 0, 1, 0, 0]) :: S1)
noncomputable def S3 : List It := (.code (sub B [1, 0, 1, 0, 0, 1, 1]) :: S2)
noncomputable def S4 : List It := (.code (sub B [1, 0, 1, 0, 0, 1, 1, 1]) :: S2)
noncomputable def S5 : List It := (.blk 1 :: S4)
noncomputable def S6 : List It := (.code (sub B [1, 0, 1, 0, 0, 1, 1, 0, 0, 1]) :: S5)
noncomputable def S7 : List It := (.code (sub B [1, 0, 1, 0, 0, 1, 1, 0, 0, 1, 1]) :: S5)
def L0 (t0a : Option Addr) (t0n : Nat) (t0k : Nat) (t5a : Option Addr) (t5n : Nat) (t5k : Nat) (t6 : Int) (t7 : Int) (H : Heap) (r : Value × Heap) : Prop := ∀ J, KR Try.prog good Try.f22 S2 (mat J 27 [(0, .slice t0a t0n t0k), (5, .slice t5a t5n t5k), (6, .int .i64 t6), (7, .int .i64 t7)]) H r
def L1 (t0a : Option Addr) (t0n : Nat) (t0k : Nat) (t5b : Nat) (t5o : Nat) (t5n : Nat) (t5k : Nat) (t6 : Int) (t7 : Int) (t22 : Bool) (H : Heap) (r : Value × Heap) : Prop := ∀ J, KR Try.prog good Try.f22 S7 (mat J 27 [(0, .slice t0a t0n t0k), (5, .slice (some ⟨t5b, t5o, none⟩) t5n t5k), (6, .int .i64 t6), (7, .int .i64 t7), (22, .bool t22)]) H r
theorem L0_step {t0a : Option Addr} {t0n : Nat} {t0k : Nat} {t5a : Option Addr} {t5n : Nat} {t5k : Nat} {t6 : Int} {t7 : Int} {H : Heap} {r : Value × Heap} (h :
    if t7 < t6 then
    (∃ (t5ab t5ao : Nat), t5a = some ⟨t5ab, t5ao, none⟩ ∧
    ((0 : Int) ≤ t7 ∧ t7 < ((t5n : Nat) : Int) ∧
    (∃ (t11 : Int), ldc H t5ab (t5ao + Int.toNat t7 * 1) = some (.int .i64 t11) ∧
    (∃ (t13 : Bool) (H_1 : Heap), xC Try.prog good 57 [.int .i64 t11] H = some (.bool t13, H_1) ∧
    (if t13 = true then
    (∃ (t18a : Option Addr) (t18n : Nat) (t18k : Nat), psl 1 t0a t0n t0k none (some t7) none = some (t18a, t18n, t18k) ∧
    (∃ (t20 : Int) (H_2 : Heap), xC Try.prog good 23 [.slice t18a t18n t18k, .int .i64 t11] H_1 = some (.int .i64 t20, H_2) ∧
    (L1 (t0a) (t0n) (t0k) (t5ab) (t5ao) (t5n) (t5k) (t6) (t7) ((decide (t20 ≥ 0))) H_2 r)))
    else
    (L1 (t0a) (t0n) (t0k) (t5ab) (t5ao) (t5n) (t5k) (t6) (t7) (true) H_1 r))))))
    else
    (r = (.bool (decide (((t0n : Nat) : Int) ≤ 16)), H))) :
    L0 t0a t0n t0k t5a t5n t5k t6 t7 H r := by
  intro J
  show KR _ _ _ (.lp (sub B [1, 0, 1, 0, 0]) :: S1) _ _ _
  refine KR.run 6 [(0, .slice t0a t0n t0k), (5, .slice t5a t5n t5k), (6, .int .i64 t6), (7, .int .i64 t7), (8, .bool (decide (t7 < t6)))] 27 (s' := (.code (sub B [1, 0, 1, 0, 0, 1, 0]) :: S3)) (by kernel_rfl) fun J => ?_
  by_cases c1 : t7 < t6
  · replace h := iteT c1 h
    refine KR.br true (by kernel_rfl) (vB (dT c1)) ?_
    obtain ⟨t5ab, t5ao, rfl, h⟩ := h
    refine KR.run 6 [(0, .slice t0a t0n t0k), (5, .slice (some ⟨t5ab, t5ao, none⟩) t5n t5k), (6, .int .i64 t6), (7, .int .i64 t7), (9, .int .i64 t7)] 27 (s' := (.reg (opsAt (sub B [1, 0, 1, 0, 0, 1, 1, 0, 0, 0])) [1, 2, 3, 4] :: S6)) (by kernel_rfl) fun J => ?_
    obtain ⟨q2, q2x, h⟩ := h
    refine KR.p (one_ix 1 t5ab t5ao (by kernel_rfl) q2 q2x) ?_
    obtain ⟨t11, q3, h⟩ := h
    refine KR.rd (one_ld (by kernel_rfl) q3) ?_
    refine KR.run 6 [(0, .slice t0a t0n t0k), (3, .int .i64 t7), (4, .int .i64 t11), (5, .slice (some ⟨t5ab, t5ao, none⟩) t5n t5k), (6, .int .i64 t6), (7, .int .i64 t7), (12, .int .i64 t11)] 27 (s' := (.reg (opsAt (sub B [1, 0, 1, 0, 0, 1, 1, 0, 0, 1, 0])) [1, 2, 3, 4, 5, 6, 7, 8, 9, 10] :: S7)) (by kernel_rfl) fun J => ?_
    obtain ⟨t13, H_1, q4, h⟩ := h
    refine KR.se (one_ca (by kernel_rfl) q4) ?_
    refine KR.run 2 [(0, .slice t0a t0n t0k), (3, .int .i64 t7), (4, .int .i64 t11), (5, .slice (some ⟨t5ab, t5ao, none⟩) t5n t5k), (6, .int .i64 t6), (7, .int .i64 t7), (15, .bool (!t13))] 27 (s' := (.reg (opsAt (sub B [1, 0, 1, 0, 0, 1, 1, 0, 0, 1, 0])) [4, 5, 6, 7, 8, 9, 10] :: S7)) (by kernel_rfl) fun J => ?_
    by_cases c5 : t13 = true
    · replace h := iteT c5 h
      refine KR.setV 15 (by kernel_rfl) (nB (bT c5)) ?_
      refine KR.run 2 [(0, .slice t0a t0n t0k), (4, .int .i64 t11), (5, .slice (some ⟨t5ab, t5ao, none⟩) t5n t5k), (6, .int .i64 t6), (7, .int .i64 t7), (15, .bool false), (16, .slice t0a t0n t0k), (17, .int .i64 t7)] 27 (s' := (.reg (opsAt (sub B [1, 0, 1, 0, 0, 1, 1, 0, 0, 1, 0])) [6, 7, 8, 9, 10] :: S7)) (by kernel_rfl) fun J => ?_
      obtain ⟨t18a, t18n, t18k, q6, h⟩ := h
      refine KR.p (one_sl (by kernel_rfl) q6) ?_
      refine KR.run 1 [(0, .slice t0a t0n t0k), (5, .slice (some ⟨t5ab, t5ao, none⟩) t5n t5k), (6, .int .i64 t6), (7, .int .i64 t7), (15, .bool false), (18, .slice t18a t18n t18k), (19, .int .i64 t11)] 27 (s' := (.reg (opsAt (sub B [1, 0, 1, 0, 0, 1, 1, 0, 0, 1, 0])) [8, 9, 10] :: S7)) (by kernel_rfl) fun J => ?_
      obtain ⟨t20, H_2, q7, h⟩ := h
      refine KR.se (one_ca (by kernel_rfl) q7) ?_
      exact KR.run 3 [(0, .slice t0a t0n t0k), (5, .slice (some ⟨t5ab, t5ao, none⟩) t5n t5k), (6, .int .i64 t6), (7, .int .i64 t7), (22, .bool (decide (t20 ≥ 0)))] 27 (s' := (.code (sub B [1, 0, 1, 0, 0, 1, 1, 0, 0, 1, 1]) :: S5)) (by kernel_rfl) h
    · replace h := iteF c5 h
      refine KR.setV 15 (by kernel_rfl) (nB (bF c5)) ?_
      exact KR.run 8 [(0, .slice t0a t0n t0k), (5, .slice (some ⟨t5ab, t5ao, none⟩) t5n t5k), (6, .int .i64 t6), (7, .int .i64 t7), (22, .bool true)] 27 (s' := (.code (sub B [1, 0, 1, 0, 0, 1, 1, 0, 0, 1, 1]) :: S5)) (by kernel_rfl) h
  · replace h := iteF c1 h
    refine KR.br false (by kernel_rfl) (vB (dF c1)) ?_
    refine KR.run 8 [(2, .bool (decide (((t0n : Nat) : Int) ≤ 16)))] 27 (s' := (.code (sub B [1, 1, 1]) :: [])) (by kernel_rfl) fun J => ?_
    exact KR.fin (by kernel_rfl) h
theorem L1_step {t0a : Option Addr} {t0n : Nat} {t0k : Nat} {t5b : Nat} {t5o : Nat} {t5n : Nat} {t5k : Nat} {t6 : Int} {t7 : Int} {t22 : Bool} {H : Heap} {r : Value × Heap} (h :
    if t22 = true then
    (r = (.bool false, H))
    else
    (L0 (t0a) (t0n) (t0k) ((some ⟨t5b, t5o, none⟩)) (t5n) (t5k) (t6) ((IntKind.wrap .i64 (t7 + 1))) H r)) :
    L1 t0a t0n t0k t5b t5o t5n t5k t6 t7 t22 H r := by
  intro J
  show KR _ _ _ (.code (sub B [1, 0, 1, 0, 0, 1, 1, 0, 0, 1, 1]) :: S5) _ _ _
  by_cases c8 : t22 = true
  · replace h := iteT c8 h
    refine KR.br true (by kernel_rfl) (vB (bT c8)) ?_
    refine KR.run 4 [(2, .bool false)] 27 (s' := (.code (sub B [1, 0, 1, 0, 0, 1, 1, 0, 0, 1, 1, 0, 1]) :: S5)) (by kernel_rfl) fun J => ?_
    exact KR.fin (by kernel_rfl) h
  · replace h := iteF c8 h
    refine KR.br false (by kernel_rfl) (vB (bF c8)) ?_
    exact KR.run 6 [(0, .slice t0a t0n t0k), (5, .slice (some ⟨t5b, t5o, none⟩) t5n t5k), (6, .int .i64 t6), (7, .int .i64 (IntKind.wrap .i64 (t7 + 1)))] 27 (s' := (.lp (sub B [1, 0, 1, 0, 0]) :: S1)) (by kernel_rfl) h
theorem call {a0a : Option Addr} {a0n : Nat} {a0k : Nat} {H : Heap} {r : Value × Heap} (h :
    L0 (a0a) (a0n) (a0k) (a0a) (a0n) (a0k) (((a0n : Nat) : Int)) 0 H r) :
    xC Try.prog good 22 [.slice a0a a0n a0k] H = some r := by
  refine KR.enter (fn := Try.f22) (c := B) (by kernel_rfl) (by kernel_rfl) ?_
  exact KR.run 13 [(0, .slice a0a a0n a0k), (5, .slice a0a a0n a0k), (6, .int .i64 ((a0n : Nat) : Int)), (7, .int .i64 0)] 27 (s' := (.lp (sub B [1, 0, 1, 0, 0]) :: S1)) (by kernel_rfl) h
end F22
/-! #### 23 campanile/campanileref18.At -/
namespace F23
noncomputable def B : Code := bodyOf Try.f23
noncomputable def S0 : List It := (.code (sub B [1, 1]) :: [])
noncomputable def S1 : List It := (.blk 0 :: S0)
noncomputable def S2 : List It := (.lp (sub B [1, 0, 1, 0, 0]) :: S1)
noncomputable def S3 : List It := (.code (sub B [1, 0, 1, 0, 0, 1, 1]) :: S2)
noncomputable def S4 : List It := (.code (sub B [1, 0, 1, 0, 0, 1, 1, 1]) :: S2)
noncomputable def S5 : List It := (.blk 1 :: S4)
noncomputable def S6 : List It := (.code (sub B [1, 0, 1, 0, 0, 1, 1, 0, 0, 1]) :: S5)
def L0 (t1 : Int) (t7a : Option Addr) (t7n : Nat) (t7k : Nat) (t8 : Int) (t9 : Int) (H : Heap) (r : Value × Heap) : Prop := ∀ J, KR Try.prog good Try.f23 S2 (mat J 19 [(1, .int .i64 t1), (7, .slice t7a t7n t7k), (8, .int .i64 t8), (9, .int .i64 t9)]) H r
theorem L0_step {t1 : Int} {t7a : Option Addr} {t7n : Nat} {t7k : Nat} {t8 : Int} {t9 : Int} {H : Heap} {r : Value × Heap} (h :
    if t9 < t8 then
    (∃ (t7ab t7ao : Nat), t7a = some ⟨t7ab, t7ao, none⟩ ∧
    ((0 : Int) ≤ t9 ∧ t9 < ((t7n : Nat) : Int) ∧
    (∃ (t13 : Int), ldc H t7ab (t7ao + Int.toNat t9 * 1) = some (.int .i64 t13) ∧
    (if t13 = t1 then
    (r = (.int .i64 t9, H))
    else
    (L0 (t1) ((some ⟨t7ab, t7ao, none⟩)) (t7n) (t7k) (t8) ((IntKind.wrap .i64 (t9 + 1))) H r)))))
    else
    (r = (.int .i64 (-1), H))) :
    L0 t1 t7a t7n t7k t8 t9 H r := by
  intro J
  show KR _ _ _ (.lp (sub B [1, 0, 1, 0, 0]) :: S1) _ _ _
  refine KR.run 6 [(1, .int .i64 t1), (7, .slice t7a t7n t7k), (8, .int .i64 t8), (9, .int .i64 t9), (10, .bool (decide (t9 < t8)))] 19 (s' := (.code (sub B [1, 0, 1, 0, 0, 1, 0]) :: S3)) (by kernel_rfl) fun J => ?_
  by_cases c1 : t9 < t8
  · replace h := iteT c1 h
    refine KR.br true (by kernel_rfl) (vB (dT c1)) ?_
    obtain ⟨t7ab, t7ao, rfl, h⟩ := h
    refine KR.run 6 [(1, .int .i64 t1), (7, .slice (some ⟨t7ab, t7ao, none⟩) t7n t7k), (8, .int .i64 t8), (9, .int .i64 t9), (11, .int .i64 t9)] 19 (s' := (.reg (opsAt (sub B [1, 0, 1, 0, 0, 1, 1, 0, 0, 0])) [1, 2, 3, 4] :: S6)) (by kernel_rfl) fun J => ?_
    obtain ⟨q2, q2x, h⟩ := h
    refine KR.p (one_ix 1 t7ab t7ao (by kernel_rfl) q2 q2x) ?_
    obtain ⟨t13, q3, h⟩ := h
    refine KR.rd (one_ld (by kernel_rfl) q3) ?_
    refine KR.run 9 [(1, .int .i64 t1), (5, .int .i64 t9), (7, .slice (some ⟨t7ab, t7ao, none⟩) t7n t7k), (8, .int .i64 t8), (9, .int .i64 t9), (16, .bool (t13 == t1))] 19 (s' := (.code (sub B [1, 0, 1, 0, 0, 1, 1, 0, 0, 1, 1]) :: S5)) (by kernel_rfl) fun J => ?_
    by_cases c4 : t13 = t1
    · replace h := iteT c4 h
      refine KR.br true (by kernel_rfl) (vB (eT c4)) ?_
      refine KR.run 5 [(4, .int .i64 t9)] 19 (s' := (.code (sub B [1, 0, 1, 0, 0, 1, 1, 0, 0, 1, 1, 0, 1]) :: S5)) (by kernel_rfl) fun J => ?_
      exact KR.fin (by kernel_rfl) h
    · replace h := iteF c4 h
      refine KR.br false (by kernel_rfl) (vB (eF c4)) ?_
      exact KR.run 6 [(1, .int .i64 t1), (7, .slice (some ⟨t7ab, t7ao, none⟩) t7n t7k), (8, .int .i64 t8), (9, .int .i64 (IntKind.wrap .i64 (t9 + 1)))] 19 (s' := (.lp (sub B [1, 0, 1, 0, 0]) :: S1)) (by kernel_rfl) h
  · replace h := iteF c1 h
    refine KR.br false (by kernel_rfl) (vB (dF c1)) ?_
    refine KR.run 5 [(4, .int .i64 (-1))] 19 (s' := (.code (sub B [1, 1, 1]) :: [])) (by kernel_rfl) fun J => ?_
    exact KR.fin (by kernel_rfl) h
theorem call {a0a : Option Addr} {a0n : Nat} {a0k : Nat} {a1 : Int} {H : Heap} {r : Value × Heap} (h :
    L0 (a1) (a0a) (a0n) (a0k) (((a0n : Nat) : Int)) 0 H r) :
    xC Try.prog good 23 [.slice a0a a0n a0k, .int .i64 a1] H = some r := by
  refine KR.enter (fn := Try.f23) (c := B) (by kernel_rfl) (by kernel_rfl) ?_
  exact KR.run 13 [(1, .int .i64 a1), (7, .slice a0a a0n a0k), (8, .int .i64 ((a0n : Nat) : Int)), (9, .int .i64 0)] 19 (s' := (.lp (sub B [1, 0, 1, 0, 0]) :: S1)) (by kernel_rfl) h
end F23
/-! #### 24 campanile/route.Up -/
namespace F24
noncomputable def B : Code := bodyOf Try.f24
noncomputable def S0 : List It := (.code (sub B [1]) :: [])
noncomputable def S1 : List It := (.code (sub B [1, 1]) :: [])
noncomputable def S2 : List It := (.code (sub B [1, 1, 1]) :: [])
noncomputable def S5 : List It := (.code (sub B [1, 1, 1, 1]) :: [])
noncomputable def S8 : List It := (.code (sub B [1, 1, 1, 1, 1]) :: [])
noncomputable def S9 : List It := (.code (sub B [1, 1, 1, 1, 1, 1]) :: [])
noncomputable def S3 : List It := (.code (sub B [1, 1, 0, 1]) :: S2)
noncomputable def S4 : List It := (.code (sub B [1, 1, 0, 1, 0, 1]) :: S2)
noncomputable def S6 : List It := (.code (sub B [1, 1, 1, 0, 1]) :: S5)
noncomputable def S7 : List It := (.code (sub B [1, 1, 1, 0, 1, 0, 1]) :: S5)
def L0 (t1 : Int) (t2b : Nat) (t2o : Nat) (t4b : Nat) (t4o : Nat) (t6 : Int) (t20 : Bool) (H : Heap) (r : Value × Heap) : Prop := ∀ J, KR Try.prog good Try.f24 S3 (mat J 35 [(1, .int .i64 t1), (2, .pointer (some ⟨t2b, t2o, none⟩)), (4, .pointer (some ⟨t4b, t4o, none⟩)), (6, .int .i64 t6), (20, .bool t20)]) H r
theorem L0_step {t1 : Int} {t2b : Nat} {t2o : Nat} {t4b : Nat} {t4o : Nat} {t6 : Int} {t20 : Bool} {H : Heap} {r : Value × Heap} (h :
    if t20 = true then
    (∃ (t21c0 : Int) (t21c1 : Int) (t21c2 : Int) (t21c3 : Int) (t21c4a : Option Addr) (t21c4n : Nat) (t21c4k : Nat) (t21c5a : Option Addr) (t21c5n : Nat) (t21c5k : Nat), ldAll H t2b t2o [.int .i64 t21c0, .int .i64 t21c1, .int .i64 t21c2, .int .i64 t21c3, .slice t21c4a t21c4n t21c4k, .slice t21c5a t21c5n t21c5k] ∧
    (∃ (H_1 : Heap), stc H t4b t4o [.int .i64 t21c0, .int .i64 t21c1, .int .i64 t21c2, .int .i64 t21c3, .slice t21c4a t21c4n t21c4k, .slice t21c5a t21c5n t21c5k] = some H_1 ∧
    (∃ (r4c0 : Int) (r4c1 : Int) (r4c2 : Int) (r4c3 : Int) (r4c4a : Option Addr) (r4c4n : Nat) (r4c4k : Nat) (r4c5a : Option Addr) (r4c5n : Nat) (r4c5k : Nat), ldAll H_1 t4b t4o [.int .i64 r4c0, .int .i64 r4c1, .int .i64 r4c2, .int .i64 r4c3, .slice r4c4a r4c4n r4c4k, .slice r4c5a r4c5n r4c5k] ∧
    (r = (.tuple #[.agg #[.int .i64 r4c0, .int .i64 r4c1, .int .i64 r4c2, .int .i64 r4c3, .slice r4c4a r4c4n r4c4k, .slice r4c5a r4c5n r4c5k], .int .i64 t6], H_1)))))
    else
    (∃ (t24a : Option Addr) (t24n : Nat) (t24k : Nat), ldc H t2b (t2o + 4) = some (.slice t24a t24n t24k) ∧
    (if ((t24n : Nat) : Int) ≥ 16 then
    (∃ (H_2 : Heap), stc H t4b t4o [.int .i64 0, .int .i64 0, .int .i64 0, .int .i64 0, .slice none 0 0, .slice none 0 0] = some H_2 ∧
    (∃ (r4c0_1 : Int) (r4c1_1 : Int) (r4c2_1 : Int) (r4c3_1 : Int) (r4c4a_1 : Option Addr) (r4c4n_1 : Nat) (r4c4k_1 : Nat) (r4c5a_1 : Option Addr) (r4c5n_1 : Nat) (r4c5k_1 : Nat), ldAll H_2 t4b t4o [.int .i64 r4c0_1, .int .i64 r4c1_1, .int .i64 r4c2_1, .int .i64 r4c3_1, .slice r4c4a_1 r4c4n_1 r4c4k_1, .slice r4c5a_1 r4c5n_1 r4c5k_1] ∧
    (r = (.tuple #[.agg #[.int .i64 r4c0_1, .int .i64 r4c1_1, .int .i64 r4c2_1, .int .i64 r4c3_1, .slice r4c4a_1 r4c4n_1 r4c4k_1, .slice r4c5a_1 r4c5n_1 r4c5k_1], .int .i64 5], H_2))))
    else
    (∃ (t29a : Option Addr) (t29n : Nat) (t29k : Nat), ldc H t2b (t2o + 4) = some (.slice t29a t29n t29k) ∧
    (∃ (H_3 : Heap), H_3 = H.push (.row [.int .i64 t1] true) ∧
    (∃ (t32a : Option Addr) (t32n : Nat) (t32k : Nat) (H_4 : Heap), papp H_3 1 8 t29a t29n t29k (some ⟨H.next, 0, none⟩) 1 (UNK 1) = some ((t32a, t32n, t32k), H_4) ∧
    (∃ (H_5 : Heap), stc H_4 t2b (t2o + 4) [.slice t32a t32n t32k] = some H_5 ∧
    (∃ (t34c0 : Int) (t34c1 : Int) (t34c2 : Int) (t34c3 : Int) (t34c4a : Option Addr) (t34c4n : Nat) (t34c4k : Nat) (t34c5a : Option Addr) (t34c5n : Nat) (t34c5k : Nat), ldAll H_5 t2b t2o [.int .i64 t34c0, .int .i64 t34c1, .int .i64 t34c2, .int .i64 t34c3, .slice t34c4a t34c4n t34c4k, .slice t34c5a t34c5n t34c5k] ∧
    (∃ (H_6 : Heap), stc H_5 t4b t4o [.int .i64 t34c0, .int .i64 t34c1, .int .i64 t34c2, .int .i64 t34c3, .slice t34c4a t34c4n t34c4k, .slice t34c5a t34c5n t34c5k] = some H_6 ∧
    (∃ (r4c0_2 : Int) (r4c1_2 : Int) (r4c2_2 : Int) (r4c3_2 : Int) (r4c4a_2 : Option Addr) (r4c4n_2 : Nat) (r4c4k_2 : Nat) (r4c5a_2 : Option Addr) (r4c5n_2 : Nat) (r4c5k_2 : Nat), ldAll H_6 t4b t4o [.int .i64 r4c0_2, .int .i64 r4c1_2, .int .i64 r4c2_2, .int .i64 r4c3_2, .slice r4c4a_2 r4c4n_2 r4c4k_2, .slice r4c5a_2 r4c5n_2 r4c5k_2] ∧
    (r = (.tuple #[.agg #[.int .i64 r4c0_2, .int .i64 r4c1_2, .int .i64 r4c2_2, .int .i64 r4c3_2, .slice r4c4a_2 r4c4n_2 r4c4k_2, .slice r4c5a_2 r4c5n_2 r4c5k_2], .int .i64 0], H_6)))))))))))) :
    L0 t1 t2b t2o t4b t4o t6 t20 H r := by
  intro J
  show KR _ _ _ (.code (sub B [1, 1, 0, 1]) :: S2) _ _ _
  by_cases c9 : t20 = true
  · replace h := iteT c9 h
    refine KR.br true (by kernel_rfl) (vB (bT c9)) ?_
    refine KR.run 2 [(2, .pointer (some ⟨t2b, t2o, none⟩)), (4, .pointer (some ⟨t4b, t4o, none⟩)), (6, .int .i64 t6)] 35 (s' := (.reg (opsAt (sub B [1, 1, 0, 1, 0, 0])) [0, 1, 2, 3] :: S4)) (by kernel_rfl) fun J => ?_
    obtain ⟨t21c0, t21c1, t21c2, t21c3, t21c4a, t21c4n, t21c4k, t21c5a, t21c5n, t21c5k, q10, h⟩ := h
    refine KR.rd (one_ldA (by kernel_rfl) q10) ?_
    refine KR.run 1 [(4, .pointer (some ⟨t4b, t4o, none⟩)), (21, .agg #[.int .i64 t21c0, .int .i64 t21c1, .int .i64 t21c2, .int .i64 t21c3, .slice t21c4a t21c4n t21c4k, .slice t21c5a t21c5n t21c5k]), (22, .int .i64 t6)] 35 (s' := (.reg (opsAt (sub B [1, 1, 0, 1, 0, 0])) [2, 3] :: S4)) (by kernel_rfl) fun J => ?_
    obtain ⟨H_1, q11, h⟩ := h
    refine KR.se (one_st (by kernel_rfl) q11) ?_
    refine KR.run 2 [(4, .pointer (some ⟨t4b, t4o, none⟩)), (5, .int .i64 t6)] 35 (s' := (.code (sub B [1, 1, 0, 1, 0, 1]) :: S2)) (by kernel_rfl) fun J => ?_
    obtain ⟨r4c0, r4c1, r4c2, r4c3, r4c4a, r4c4n, r4c4k, r4c5a, r4c5n, r4c5k, q12, h⟩ := h
    exact KR.finR (l := [.cell 4 41, .tmp 5]) (vs := [.agg #[.int .i64 r4c0, .int .i64 r4c1, .int .i64 r4c2, .int .i64 r4c3, .slice r4c4a r4c4n r4c4k, .slice r4c5a r4c5n r4c5k], .int .i64 t6]) (by kernel_rfl) (Res.cellA (by kernel_rfl) q12 (Res.tmp (by kernel_rfl) Res.nil)) (by kernel_rfl) h
  · replace h := iteF c9 h
    refine KR.br false (by kernel_rfl) (vB (bF c9)) ?_
    refine KR.run 5 [(1, .int .i64 t1), (2, .pointer (some ⟨t2b, t2o, none⟩)), (4, .pointer (some ⟨t4b, t4o, none⟩)), (23, .pointer (some ⟨t2b, (t2o + 4), none⟩))] 35 (s' := (.reg (opsAt (sub B [1, 1, 1, 0, 0])) [1, 2, 3] :: S6)) (by kernel_rfl) fun J => ?_
    obtain ⟨t24a, t24n, t24k, q13, h⟩ := h
    refine KR.rd (one_ld (by kernel_rfl) q13) ?_
    refine KR.run 3 [(1, .int .i64 t1), (2, .pointer (some ⟨t2b, t2o, none⟩)), (4, .pointer (some ⟨t4b, t4o, none⟩)), (26, .bool (decide (((t24n : Nat) : Int) ≥ 16)))] 35 (s' := (.code (sub B [1, 1, 1, 0, 1]) :: S5)) (by kernel_rfl) fun J => ?_
    by_cases c14 : ((t24n : Nat) : Int) ≥ 16
    · replace h := iteT c14 h
      refine KR.br true (by kernel_rfl) (vB (dT c14)) ?_
      refine KR.run 3 [(4, .pointer (some ⟨t4b, t4o, none⟩)), (27, .agg #[.int .i64 0, .int .i64 0, .int .i64 0, .int .i64 0, .slice none 0 0, .slice none 0 0])] 35 (s' := (.reg (opsAt (sub B [1, 1, 1, 0, 1, 0, 0])) [1, 2] :: S7)) (by kernel_rfl) fun J => ?_
      obtain ⟨H_2, q15, h⟩ := h
      refine KR.se (one_st (by kernel_rfl) q15) ?_
      refine KR.run 2 [(4, .pointer (some ⟨t4b, t4o, none⟩)), (5, .int .i64 5)] 35 (s' := (.code (sub B [1, 1, 1, 0, 1, 0, 1]) :: S5)) (by kernel_rfl) fun J => ?_
      obtain ⟨r4c0_1, r4c1_1, r4c2_1, r4c3_1, r4c4a_1, r4c4n_1, r4c4k_1, r4c5a_1, r4c5n_1, r4c5k_1, q16, h⟩ := h
      exact KR.finR (l := [.cell 4 41, .tmp 5]) (vs := [.agg #[.int .i64 r4c0_1, .int .i64 r4c1_1, .int .i64 r4c2_1, .int .i64 r4c3_1, .slice r4c4a_1 r4c4n_1 r4c4k_1, .slice r4c5a_1 r4c5n_1 r4c5k_1], .int .i64 5]) (by kernel_rfl) (Res.cellA (by kernel_rfl) q16 (Res.tmp (by kernel_rfl) Res.nil)) (by kernel_rfl) h
    · replace h := iteF c14 h
      refine KR.br false (by kernel_rfl) (vB (dF c14)) ?_
      refine KR.run 4 [(1, .int .i64 t1), (2, .pointer (some ⟨t2b, t2o, none⟩)), (4, .pointer (some ⟨t4b, t4o, none⟩)), (28, .pointer (some ⟨t2b, (t2o + 4), none⟩))] 35 (s' := (.reg (opsAt (sub B [1, 1, 1, 1, 0])) [1, 2, 3, 4, 5, 6] :: S8)) (by kernel_rfl) fun J => ?_
      obtain ⟨t29a, t29n, t29k, q17, h⟩ := h
      refine KR.rd (one_ld (by kernel_rfl) q17) ?_
      refine KR.run 1 [(2, .pointer (some ⟨t2b, t2o, none⟩)), (4, .pointer (some ⟨t4b, t4o, none⟩)), (29, .slice t29a t29n t29k), (30, .int .i64 t1)] 35 (s' := (.reg (opsAt (sub B [1, 1, 1, 1, 0])) [3, 4, 5, 6] :: S8)) (by kernel_rfl) fun J => ?_
      obtain ⟨H_3, q18, h⟩ := h
      refine KR.mk (w := sRow 1 1 [.int .i64 t1]) (one_al (by kernel_rfl)) q18 ?_
      obtain ⟨t32a, t32n, t32k, H_4, q19, h⟩ := h
      refine KR.se (one_ap 1 8 (by kernel_rfl) q19) ?_
      refine KR.run 1 [(2, .pointer (some ⟨t2b, t2o, none⟩)), (4, .pointer (some ⟨t4b, t4o, none⟩)), (32, .slice t32a t32n t32k), (33, .pointer (some ⟨t2b, (t2o + 4), none⟩))] 35 (s' := (.reg (opsAt (sub B [1, 1, 1, 1, 0])) [6] :: S8)) (by kernel_rfl) fun J => ?_
      obtain ⟨H_5, q20, h⟩ := h
      refine KR.se (one_st (by kernel_rfl) q20) ?_
      refine KR.run 3 [(2, .pointer (some ⟨t2b, t2o, none⟩)), (4, .pointer (some ⟨t4b, t4o, none⟩))] 35 (s' := (.reg (opsAt (sub B [1, 1, 1, 1, 1, 0])) [0, 1, 2] :: S9)) (by kernel_rfl) fun J => ?_
      obtain ⟨t34c0, t34c1, t34c2, t34c3, t34c4a, t34c4n, t34c4k, t34c5a, t34c5n, t34c5k, q21, h⟩ := h
      refine KR.rd (one_ldA (by kernel_rfl) q21) ?_
      obtain ⟨H_6, q22, h⟩ := h
      refine KR.se (one_st (by kernel_rfl) q22) ?_
      refine KR.run 2 [(4, .pointer (some ⟨t4b, t4o, none⟩)), (5, .int .i64 0)] 35 (s' := (.code (sub B [1, 1, 1, 1, 1, 1]) :: [])) (by kernel_rfl) fun J => ?_
      obtain ⟨r4c0_2, r4c1_2, r4c2_2, r4c3_2, r4c4a_2, r4c4n_2, r4c4k_2, r4c5a_2, r4c5n_2, r4c5k_2, q23, h⟩ := h
      exact KR.finR (l := [.cell 4 41, .tmp 5]) (vs := [.agg #[.int .i64 r4c0_2, .int .i64 r4c1_2, .int .i64 r4c2_2, .int .i64 r4c3_2, .slice r4c4a_2 r4c4n_2 r4c4k_2, .slice r4c5a_2 r4c5n_2 r4c5k_2], .int .i64 0]) (by kernel_rfl) (Res.cellA (by kernel_rfl) q23 (Res.tmp (by kernel_rfl) Res.nil)) (by kernel_rfl) h
theorem call {a0c0 : Int} {a0c1 : Int} {a0c2 : Int} {a0c3 : Int} {a0c4a : Option Addr} {a0c4n : Nat} {a0c4k : Nat} {a0c5a : Option Addr} {a0c5n : Nat} {a0c5k : Nat} {a1 : Int} {H : Heap} {r : Value × Heap} (h :
    ∃ (H_1 : Heap), H_1 = H.push (.row [.int .i64 a0c0, .int .i64 a0c1, .int .i64 a0c2, .int .i64 a0c3, .slice a0c4a a0c4n a0c4k, .slice a0c5a a0c5n a0c5k] true) ∧
    (∃ (H_2 : Heap), H_2 = H_1.push (.row [.int .i64 0, .int .i64 0, .int .i64 0, .int .i64 0, .slice none 0 0, .slice none 0 0] true) ∧
    (∃ (t8c0 : Int) (t8c1 : Int) (t8c2 : Int) (t8c3 : Int) (t8c4a : Option Addr) (t8c4n : Nat) (t8c4k : Nat) (t8c5a : Option Addr) (t8c5n : Nat) (t8c5k : Nat), ldAll H_2 H.next 0 [.int .i64 t8c0, .int .i64 t8c1, .int .i64 t8c2, .int .i64 t8c3, .slice t8c4a t8c4n t8c4k, .slice t8c5a t8c5n t8c5k] ∧
    (∃ (t10r0c0 : Int) (t10r0c1 : Int) (t10r0c2 : Int) (t10r0c3 : Int) (t10r0c4a : Option Addr) (t10r0c4n : Nat) (t10r0c4k : Nat) (t10r0c5a : Option Addr) (t10r0c5n : Nat) (t10r0c5k : Nat) (t10r1 : Int) (H_3 : Heap), xC Try.prog good 58 [.agg #[.int .i64 t8c0, .int .i64 t8c1, .int .i64 t8c2, .int .i64 t8c3, .slice t8c4a t8c4n t8c4k, .slice t8c5a t8c5n t8c5k], .int .i64 a1] H_2 = some (.tuple #[.agg #[.int .i64 t10r0c0, .int .i64 t10r0c1, .int .i64 t10r0c2, .int .i64 t10r0c3, .slice t10r0c4a t10r0c4n t10r0c4k, .slice t10r0c5a t10r0c5n t10r0c5k], .int .i64 t10r1], H_3) ∧
    (∃ (H_4 : Heap), stc H_3 H.next 0 [.int .i64 t10r0c0, .int .i64 t10r0c1, .int .i64 t10r0c2, .int .i64 t10r0c3, .slice t10r0c4a t10r0c4n t10r0c4k, .slice t10r0c5a t10r0c5n t10r0c5k] = some H_4 ∧
    (if t10r1 = 0 then
    (∃ (t17a : Option Addr) (t17n : Nat) (t17k : Nat), ldc H_4 H.next 4 = some (.slice t17a t17n t17k) ∧
    (∃ (t19 : Bool) (H_5 : Heap), xC Try.prog good 59 [.slice t17a t17n t17k, .int .i64 a1] H_4 = some (.bool t19, H_5) ∧
    (L0 (a1) (H.next) (0) (H_1.next) (0) (t10r1) (t19) H_5 r)))
    else
    (L0 (a1) (H.next) (0) (H_1.next) (0) (t10r1) (true) H_4 r))))))) :
    xC Try.prog good 24 [.agg #[.int .i64 a0c0, .int .i64 a0c1, .int .i64 a0c2, .int .i64 a0c3, .slice a0c4a a0c4n a0c4k, .slice a0c5a a0c5n a0c5k], .int .i64 a1] H = some r := by
  refine KR.enter (fn := Try.f24) (c := B) (by kernel_rfl) (by kernel_rfl) ?_
  refine KR.run 2 [(0, .agg #[.int .i64 a0c0, .int .i64 a0c1, .int .i64 a0c2, .int .i64 a0c3, .slice a0c4a a0c4n a0c4k, .slice a0c5a a0c5n a0c5k]), (1, .int .i64 a1)] 35 (s' := (.reg (opsAt (sub B [0])) [0, 1, 2] :: S0)) (by kernel_rfl) fun J => ?_
  obtain ⟨H_1, q1, h⟩ := h
  refine KR.mk (w := pRow [.int .i64 a0c0, .int .i64 a0c1, .int .i64 a0c2, .int .i64 a0c3, .slice a0c4a a0c4n a0c4k, .slice a0c5a a0c5n a0c5k]) (one_al (by kernel_rfl)) q1 ?_
  obtain ⟨H_2, q2, h⟩ := h
  refine KR.mk (w := pRow [.int .i64 0, .int .i64 0, .int .i64 0, .int .i64 0, .slice none 0 0, .slice none 0 0]) (one_al (by kernel_rfl)) q2 ?_
  refine KR.run 4 [(1, .int .i64 a1), (2, .pointer (some ⟨H.next, 0, none⟩)), (4, .pointer (some ⟨H_1.next, 0, none⟩))] 35 (s' := (.reg (opsAt (sub B [1, 0])) [0, 1, 2, 3, 4, 5, 6, 7] :: S1)) (by kernel_rfl) fun J => ?_
  obtain ⟨t8c0, t8c1, t8c2, t8c3, t8c4a, t8c4n, t8c4k, t8c5a, t8c5n, t8c5k, q3, h⟩ := h
  refine KR.rd (one_ldA (by kernel_rfl) q3) ?_
  refine KR.run 1 [(1, .int .i64 a1), (2, .pointer (some ⟨H.next, 0, none⟩)), (4, .pointer (some ⟨H_1.next, 0, none⟩)), (8, .agg #[.int .i64 t8c0, .int .i64 t8c1, .int .i64 t8c2, .int .i64 t8c3, .slice t8c4a t8c4n t8c4k, .slice t8c5a t8c5n t8c5k]), (9, .int .i64 a1)] 35 (s' := (.reg (opsAt (sub B [1, 0])) [2, 3, 4, 5, 6, 7] :: S1)) (by kernel_rfl) fun J => ?_
  obtain ⟨t10r0c0, t10r0c1, t10r0c2, t10r0c3, t10r0c4a, t10r0c4n, t10r0c4k, t10r0c5a, t10r0c5n, t10r0c5k, t10r1, H_3, q4, h⟩ := h
  refine KR.se (one_ca (by kernel_rfl) q4) ?_
  refine KR.run 3 [(1, .int .i64 a1), (2, .pointer (some ⟨H.next, 0, none⟩)), (4, .pointer (some ⟨H_1.next, 0, none⟩)), (11, .agg #[.int .i64 t10r0c0, .int .i64 t10r0c1, .int .i64 t10r0c2, .int .i64 t10r0c3, .slice t10r0c4a t10r0c4n t10r0c4k, .slice t10r0c5a t10r0c5n t10r0c5k]), (12, .int .i64 t10r1)] 35 (s' := (.reg (opsAt (sub B [1, 0])) [6, 7] :: S1)) (by kernel_rfl) fun J => ?_
  obtain ⟨H_4, q5, h⟩ := h
  refine KR.se (one_st (by kernel_rfl) q5) ?_
  refine KR.run 8 [(1, .int .i64 a1), (2, .pointer (some ⟨H.next, 0, none⟩)), (4, .pointer (some ⟨H_1.next, 0, none⟩)), (6, .int .i64 t10r1), (15, .bool (!(t10r1 == 0)))] 35 (s' := (.reg (opsAt (sub B [1, 1, 0, 0])) [3, 4, 5, 6, 7] :: S3)) (by kernel_rfl) fun J => ?_
  by_cases c6 : t10r1 = 0
  · replace h := iteT c6 h
    refine KR.setV 15 (by kernel_rfl) (nB (eT c6)) ?_
    refine KR.run 1 [(1, .int .i64 a1), (2, .pointer (some ⟨H.next, 0, none⟩)), (4, .pointer (some ⟨H_1.next, 0, none⟩)), (6, .int .i64 t10r1), (15, .bool false), (16, .pointer (some ⟨H.next, 4, none⟩))] 35 (s' := (.reg (opsAt (sub B [1, 1, 0, 0])) [4, 5, 6, 7] :: S3)) (by kernel_rfl) fun J => ?_
    obtain ⟨t17a, t17n, t17k, q7, h⟩ := h
    refine KR.rd (one_ld (by kernel_rfl) q7) ?_
    refine KR.run 1 [(1, .int .i64 a1), (2, .pointer (some ⟨H.next, 0, none⟩)), (4, .pointer (some ⟨H_1.next, 0, none⟩)), (6, .int .i64 t10r1), (15, .bool false), (17, .slice t17a t17n t17k), (18, .int .i64 a1)] 35 (s' := (.reg (opsAt (sub B [1, 1, 0, 0])) [6, 7] :: S3)) (by kernel_rfl) fun J => ?_
    obtain ⟨t19, H_5, q8, h⟩ := h
    refine KR.se (one_ca (by kernel_rfl) q8) ?_
    exact KR.run 2 [(1, .int .i64 a1), (2, .pointer (some ⟨H.next, 0, none⟩)), (4, .pointer (some ⟨H_1.next, 0, none⟩)), (6, .int .i64 t10r1), (20, .bool t19)] 35 (s' := (.code (sub B [1, 1, 0, 1]) :: S2)) (by kernel_rfl) h
  · replace h := iteF c6 h
    refine KR.setV 15 (by kernel_rfl) (nB (eF c6)) ?_
    exact KR.run 6 [(1, .int .i64 a1), (2, .pointer (some ⟨H.next, 0, none⟩)), (4, .pointer (some ⟨H_1.next, 0, none⟩)), (6, .int .i64 t10r1), (20, .bool true)] 35 (s' := (.code (sub B [1, 1, 0, 1]) :: S2)) (by kernel_rfl) h
end F24
/-! #### 25 campanile/campanileref1.SameInts -/
namespace F25
noncomputable def B : Code := bodyOf Try.f25
noncomputable def S0 : List It := (.code (sub B [1, 1]) :: [])
noncomputable def S1 : List It := (.code (sub B [1, 1, 1]) :: [])
noncomputable def S2 : List It := (.blk 0 :: S1)
noncomputable def S3 : List It := (.lp (sub B [1, 1, 0, 1, 0, 0]) :: S2)
noncomputable def S4 : List It := (.code (sub B [1, 1, 0, 1, 0, 0, 1, 1]) :: S3)
noncomputable def S5 : List It := (.code (sub B [1, 1, 0, 1, 0, 0, 1, 1, 1]) :: S3)
noncomputable def S6 : List It := (.blk 1 :: S5)
noncomputable def S7 : List It := (.code (sub B [1, 1, 0, 1, 0, 0, 1, 1, 0, 0, 1, 1]) :: S6)
def L0 (t0a : Option Addr) (t0n : Nat) (t0k : Nat) (t1a : Option Addr) (t1n : Nat) (t1k : Nat) (t12 : Int) (t13 : Int) (H : Heap) (r : Value × Heap) : Prop := ∀ J, KR Try.prog good Try.f25 S3 (mat J 26 [(0, .slice t0a t0n t0k), (1, .slice t1a t1n t1k), (12, .int .i64 t12), (13, .int .i64 t13)]) H r
theorem L0_step {t0a : Option Addr} {t0n : Nat} {t0k : Nat} {t1a : Option Addr} {t1n : Nat} {t1k : Nat} {t12 : Int} {t13 : Int} {H : Heap} {r : Value × Heap} (h :
    if t13 < t12 then
    (∃ (t0ab t0ao : Nat), t0a = some ⟨t0ab, t0ao, none⟩ ∧
    ((0 : Int) ≤ t13 ∧ t13 < ((t0n : Nat) : Int) ∧
    (∃ (t19 : Int), ldc H t0ab (t0ao + Int.toNat t13 * 1) = some (.int .i64 t19) ∧
    (∃ (t1ab t1ao : Nat), t1a = some ⟨t1ab, t1ao, none⟩ ∧
    ((0 : Int) ≤ t13 ∧ t13 < ((t1n : Nat) : Int) ∧
    (∃ (t23 : Int), ldc H t1ab (t1ao + Int.toNat t13 * 1) = some (.int .i64 t23) ∧
    (if t19 = t23 then
    (L0 ((some ⟨t0ab, t0ao, none⟩)) (t0n) (t0k) ((some ⟨t1ab, t1ao, none⟩)) (t1n) (t1k) (t12) ((IntKind.wrap .i64 (t13 + 1))) H r)
    else
    (r = (.bool false, H)))))))))
    else
    (r = (.bool true, H))) :
    L0 t0a t0n t0k t1a t1n t1k t12 t13 H r := by
  intro J
  show KR _ _ _ (.lp (sub B [1, 1, 0, 1, 0, 0]) :: S2) _ _ _
  refine KR.run 6 [(0, .slice t0a t0n t0k), (1, .slice t1a t1n t1k), (12, .int .i64 t12), (13, .int .i64 t13), (14, .bool (decide (t13 < t12)))] 26 (s' := (.code (sub B [1, 1, 0, 1, 0, 0, 1, 0]) :: S4)) (by kernel_rfl) fun J => ?_
  by_cases c2 : t13 < t12
  · replace h := iteT c2 h
    refine KR.br true (by kernel_rfl) (vB (dT c2)) ?_
    refine KR.run 9 [(0, .slice t0a t0n t0k), (1, .slice t1a t1n t1k), (5, .int .i64 t13), (12, .int .i64 t12), (13, .int .i64 t13)] 26 (s' := (.code (sub B [1, 1, 0, 1, 0, 0, 1, 1, 0, 0, 1, 0]) :: S7)) (by kernel_rfl) fun J => ?_
    refine KR.sd (by kernel_rfl) ?_
    obtain ⟨t0ab, t0ao, rfl, h⟩ := h
    refine KR.run 2 [(0, .slice (some ⟨t0ab, t0ao, none⟩) t0n t0k), (1, .slice t1a t1n t1k), (5, .int .i64 t13), (12, .int .i64 t12), (13, .int .i64 t13), (16, .slice (some ⟨t0ab, t0ao, none⟩) t0n t0k), (17, .int .i64 t13)] 26 (s' := (.reg (opsAt (sub B [1, 1, 0, 1, 0, 0, 1, 1, 0, 0, 1, 0])) [2, 3, 4, 5, 6, 7, 8] :: S7)) (by kernel_rfl) fun J => ?_
    obtain ⟨q3, q3x, h⟩ := h
    refine KR.p (one_ix 1 t0ab t0ao (by kernel_rfl) q3 q3x) ?_
    obtain ⟨t19, q4, h⟩ := h
    refine KR.rd (one_ld (by kernel_rfl) q4) ?_
    obtain ⟨t1ab, t1ao, rfl, h⟩ := h
    refine KR.run 2 [(0, .slice (some ⟨t0ab, t0ao, none⟩) t0n t0k), (1, .slice (some ⟨t1ab, t1ao, none⟩) t1n t1k), (12, .int .i64 t12), (13, .int .i64 t13), (19, .int .i64 t19), (20, .slice (some ⟨t1ab, t1ao, none⟩) t1n t1k), (21, .int .i64 t13)] 26 (s' := (.reg (opsAt (sub B [1, 1, 0, 1, 0, 0, 1, 1, 0, 0, 1, 0])) [6, 7, 8] :: S7)) (by kernel_rfl) fun J => ?_
    obtain ⟨q5, q5x, h⟩ := h
    refine KR.p (one_ix 1 t1ab t1ao (by kernel_rfl) q5 q5x) ?_
    obtain ⟨t23, q6, h⟩ := h
    refine KR.rd (one_ld (by kernel_rfl) q6) ?_
    refine KR.run 2 [(0, .slice (some ⟨t0ab, t0ao, none⟩) t0n t0k), (1, .slice (some ⟨t1ab, t1ao, none⟩) t1n t1k), (12, .int .i64 t12), (13, .int .i64 t13), (24, .bool (!(t19 == t23)))] 26 (s' := (.code (sub B [1, 1, 0, 1, 0, 0, 1, 1, 0, 0, 1, 1]) :: S6)) (by kernel_rfl) fun J => ?_
    by_cases c7 : t19 = t23
    · replace h := iteT c7 h
      refine KR.br false (by kernel_rfl) (vB (nB (eT c7))) ?_
      exact KR.run 6 [(0, .slice (some ⟨t0ab, t0ao, none⟩) t0n t0k), (1, .slice (some ⟨t1ab, t1ao, none⟩) t1n t1k), (12, .int .i64 t12), (13, .int .i64 (IntKind.wrap .i64 (t13 + 1)))] 26 (s' := (.lp (sub B [1, 1, 0, 1, 0, 0]) :: S2)) (by kernel_rfl) h
    · replace h := iteF c7 h
      refine KR.br true (by kernel_rfl) (vB (nB (eF c7))) ?_
      refine KR.run 4 [(4, .bool false)] 26 (s' := (.code (sub B [1, 1, 0, 1, 0, 0, 1, 1, 0, 0, 1, 1, 0, 1]) :: S6)) (by kernel_rfl) fun J => ?_
      exact KR.fin (by kernel_rfl) h
  · replace h := iteF c2 h
    refine KR.br false (by kernel_rfl) (vB (dF c2)) ?_
    refine KR.run 5 [(4, .bool true)] 26 (s' := (.code (sub B [1, 1, 1, 1]) :: [])) (by kernel_rfl) fun J => ?_
    exact KR.fin (by kernel_rfl) h
theorem call {a0a : Option Addr} {a0n : Nat} {a0k : Nat} {a1a : Option Addr} {a1n : Nat} {a1k : Nat} {H : Heap} {r : Value × Heap} (h :
    if ((a0n : Nat) : Int) = ((a1n : Nat) : Int) then
    (L0 (a0a) (a0n) (a0k) (a1a) (a1n) (a1k) (((a0n : Nat) : Int)) 0 H r)
    else
    (r = (.bool false, H))) :
    xC Try.prog good 25 [.slice a0a a0n a0k, .slice a1a a1n a1k] H = some r := by
  refine KR.enter (fn := Try.f25) (c := B) (by kernel_rfl) (by kernel_rfl) ?_
  refine KR.run 13 [(0, .slice a0a a0n a0k), (1, .slice a1a a1n a1k), (10, .bool (!(((a0n : Nat) : Int) == ((a1n : Nat) : Int))))] 26 (s' := (.code (sub B [1, 0, 1]) :: S0)) (by kernel_rfl) fun J => ?_
  by_cases c1 : ((a0n : Nat) : Int) = ((a1n : Nat) : Int)
  · replace h := iteT c1 h
    refine KR.br false (by kernel_rfl) (vB (nB (eT c1))) ?_
    exact KR.run 10 [(0, .slice a0a a0n a0k), (1, .slice a1a a1n a1k), (12, .int .i64 ((a0n : Nat) : Int)), (13, .int .i64 0)] 26 (s' := (.lp (sub B [1, 1, 0, 1, 0, 0]) :: S2)) (by kernel_rfl) h
  · replace h := iteF c1 h
    refine KR.br true (by kernel_rfl) (vB (nB (eF c1))) ?_
    refine KR.run 4 [(4, .bool false)] 26 (s' := (.code (sub B [1, 0, 1, 0, 1]) :: S0)) (by kernel_rfl) fun J => ?_
    exact KR.fin (by kernel_rfl) h
end F25
/-! #### 26 campanile/route.Down -/
namespace F26
noncomputable def B : Code := bodyOf Try.f26
noncomputable def S0 : List It := (.code (sub B [1]) :: [])
noncomputable def S1 : List It := (.code (sub B [1, 1]) :: [])
noncomputable def S2 : List It := (.code (sub B [1, 1, 1]) :: [])
noncomputable def S3 : List It := (.code (sub B [1, 1, 1, 1]) :: [])
noncomputable def S4 : List It := (.code (sub B [1, 1, 1, 1, 1]) :: [])
noncomputable def S8 : List It := (.code (sub B [1, 1, 1, 1, 1, 1]) :: [])
noncomputable def S5 : List It := (.code (sub B [1, 1, 1, 1, 0, 1]) :: S4)
noncomputable def S6 : List It := (.code (sub B [1, 1, 0, 1, 0, 1]) :: S2)
noncomputable def S7 : List It := (.code (sub B [1, 1, 1, 1, 0, 1, 0, 1]) :: S4)
def L0 (t2b : Nat) (t2o : Nat) (t4b : Nat) (t4o : Nat) (t8 : Int) (t32 : Bool) (H : Heap) (r : Value × Heap) : Prop := ∀ J, KR Try.prog good Try.f26 S5 (mat J 41 [(2, .pointer (some ⟨t2b, t2o, none⟩)), (4, .pointer (some ⟨t4b, t4o, none⟩)), (8, .int .i64 t8), (32, .bool t32)]) H r
theorem L0_step {t2b : Nat} {t2o : Nat} {t4b : Nat} {t4o : Nat} {t8 : Int} {t32 : Bool} {H : Heap} {r : Value × Heap} (h :
    if t32 = true then
    (∃ (H_1 : Heap), stc H t4b t4o [.int .i64 0, .int .i64 0, .int .i64 0, .int .i64 0, .slice none 0 0, .slice none 0 0] = some H_1 ∧
    (∃ (r4c0 : Int) (r4c1 : Int) (r4c2 : Int) (r4c3 : Int) (r4c4a : Option Addr) (r4c4n : Nat) (r4c4k : Nat) (r4c5a : Option Addr) (r4c5n : Nat) (r4c5k : Nat), ldAll H_1 t4b t4o [.int .i64 r4c0, .int .i64 r4c1, .int .i64 r4c2, .int .i64 r4c3, .slice r4c4a r4c4n r4c4k, .slice r4c5a r4c5n r4c5k] ∧
    (r = (.tuple #[.agg #[.int .i64 r4c0, .int .i64 r4c1, .int .i64 r4c2, .int .i64 r4c3, .slice r4c4a r4c4n r4c4k, .slice r4c5a r4c5n r4c5k], .int .i64 0, .int .i64 6], H_1))))
    else
    (∃ (t34c0 : Int) (t34c1 : Int) (t34c2 : Int) (t34c3 : Int) (t34c4a : Option Addr) (t34c4n : Nat) (t34c4k : Nat) (t34c5a : Option Addr) (t34c5n : Nat) (t34c5k : Nat), ldAll H t2b t2o [.int .i64 t34c0, .int .i64 t34c1, .int .i64 t34c2, .int .i64 t34c3, .slice t34c4a t34c4n t34c4k, .slice t34c5a t34c5n t34c5k] ∧
    (∃ (t36a : Option Addr) (t36n : Nat) (t36k : Nat), ldc H t2b (t2o + 4) = some (.slice t36a t36n t36k) ∧
    (∃ (t36ab t36ao : Nat), t36a = some ⟨t36ab, t36ao, none⟩ ∧
    ((0 : Int) ≤ (IntKind.wrap .i64 (t8 + 1)) ∧ (IntKind.wrap .i64 (t8 + 1)) < ((t36n : Nat) : Int) ∧
    (∃ (t40 : Int), ldc H t36ab (t36ao + Int.toNat (IntKind.wrap .i64 (t8 + 1)) * 1) = some (.int .i64 t40) ∧
    (∃ (H_2 : Heap), stc H t4b t4o [.int .i64 t34c0, .int .i64 t34c1, .int .i64 t34c2, .int .i64 t34c3, .slice t34c4a t34c4n t34c4k, .slice t34c5a t34c5n t34c5k] = some H_2 ∧
    (ldc H_2 t2b (t2o + 4) = some (.slice t36a t36n t36k) ∧
    ldc H_2 t36ab (t36ao + Int.toNat (IntKind.wrap .i64 (t8 + 1)) * 1) = some (.int .i64 t40) ∧
    (∃ (r4c0_1 : Int) (r4c1_1 : Int) (r4c2_1 : Int) (r4c3_1 : Int) (r4c4a_1 : Option Addr) (r4c4n_1 : Nat) (r4c4k_1 : Nat) (r4c5a_1 : Option Addr) (r4c5n_1 : Nat) (r4c5k_1 : Nat), ldAll H_2 t4b t4o [.int .i64 r4c0_1, .int .i64 r4c1_1, .int .i64 r4c2_1, .int .i64 r4c3_1, .slice r4c4a_1 r4c4n_1 r4c4k_1, .slice r4c5a_1 r4c5n_1 r4c5k_1] ∧
    (r = (.tuple #[.agg #[.int .i64 r4c0_1, .int .i64 r4c1_1, .int .i64 r4c2_1, .int .i64 r4c3_1, .slice r4c4a_1 r4c4n_1 r4c4k_1, .slice r4c5a_1 r4c5n_1 r4c5k_1], .int .i64 t40, .int .i64 0], H_2))))))))))) :
    L0 t2b t2o t4b t4o t8 t32 H r := by
  intro J
  show KR _ _ _ (.code (sub B [1, 1, 1, 1, 0, 1]) :: S4) _ _ _
  by_cases c14 : t32 = true
  · replace h := iteT c14 h
    refine KR.br true (by kernel_rfl) (vB (bT c14)) ?_
    refine KR.run 3 [(4, .pointer (some ⟨t4b, t4o, none⟩)), (33, .agg #[.int .i64 0, .int .i64 0, .int .i64 0, .int .i64 0, .slice none 0 0, .slice none 0 0])] 41 (s' := (.reg (opsAt (sub B [1, 1, 1, 1, 0, 1, 0, 0])) [1, 2, 3] :: S7)) (by kernel_rfl) fun J => ?_
    obtain ⟨H_1, q15, h⟩ := h
    refine KR.se (one_st (by kernel_rfl) q15) ?_
    refine KR.run 3 [(4, .pointer (some ⟨t4b, t4o, none⟩)), (5, .int .i64 0), (6, .int .i64 6)] 41 (s' := (.code (sub B [1, 1, 1, 1, 0, 1, 0, 1]) :: S4)) (by kernel_rfl) fun J => ?_
    obtain ⟨r4c0, r4c1, r4c2, r4c3, r4c4a, r4c4n, r4c4k, r4c5a, r4c5n, r4c5k, q16, h⟩ := h
    exact KR.finR (l := [.cell 4 41, .tmp 5, .tmp 6]) (vs := [.agg #[.int .i64 r4c0, .int .i64 r4c1, .int .i64 r4c2, .int .i64 r4c3, .slice r4c4a r4c4n r4c4k, .slice r4c5a r4c5n r4c5k], .int .i64 0, .int .i64 6]) (by kernel_rfl) (Res.cellA (by kernel_rfl) q16 (Res.tmp (by kernel_rfl) (Res.tmp (by kernel_rfl) Res.nil))) (by kernel_rfl) h
  · replace h := iteF c14 h
    refine KR.br false (by kernel_rfl) (vB (bF c14)) ?_
    refine KR.run 2 [(2, .pointer (some ⟨t2b, t2o, none⟩)), (4, .pointer (some ⟨t4b, t4o, none⟩)), (8, .int .i64 t8)] 41 (s' := (.code (sub B [1, 1, 1, 1, 1, 0]) :: S8)) (by kernel_rfl) fun J => ?_
    refine KE.start H (by kernel_rfl) (by kernel_rfl) ?_
    obtain ⟨t34c0, t34c1, t34c2, t34c3, t34c4a, t34c4n, t34c4k, t34c5a, t34c5n, t34c5k, q17, h⟩ := h
    refine KE.rdN (one_ldA (by kernel_rfl) q17) (by kernel_rfl) ?_
    refine KE.run 1 [(4, .pointer (some ⟨t4b, t4o, none⟩)), (8, .int .i64 t8), (34, .agg #[.int .i64 t34c0, .int .i64 t34c1, .int .i64 t34c2, .int .i64 t34c3, .slice t34c4a t34c4n t34c4k, .slice t34c5a t34c5n t34c5k]), (35, .pointer (some ⟨t2b, (t2o + 4), none⟩))] 41 2 (by kernel_rfl) fun J => ?_
    obtain ⟨t36a, t36n, t36k, q18, h⟩ := h
    refine KE.rdF (one_ld (by kernel_rfl) q18) (by kernel_rfl) ?_
    obtain ⟨t36ab, t36ao, rfl, h⟩ := h
    refine KE.run 2 [(4, .pointer (some ⟨t4b, t4o, none⟩)), (34, .agg #[.int .i64 t34c0, .int .i64 t34c1, .int .i64 t34c2, .int .i64 t34c3, .slice t34c4a t34c4n t34c4k, .slice t34c5a t34c5n t34c5k]), (36, .slice (some ⟨t36ab, t36ao, none⟩) t36n t36k), (38, .int .i64 (IntKind.wrap .i64 (t8 + 1)))] 41 5 (by kernel_rfl) fun J => ?_
    obtain ⟨q19, q19x, h⟩ := h
    refine KE.p (one_ix 1 t36ab t36ao (by kernel_rfl) q19 q19x) ?_
    obtain ⟨t40, q20, h⟩ := h
    refine KE.rdF (one_ld (by kernel_rfl) q20) (by kernel_rfl) ?_
    obtain ⟨H_2, q21, h⟩ := h
    refine KE.se (one_st (by kernel_rfl) q21) (by kernel_rfl) ?_
    refine KE.run 2 [(4, .pointer (some ⟨t4b, t4o, none⟩)), (5, .int .i64 t40), (6, .int .i64 0)] 41 10 (by kernel_rfl) fun J => ?_
    obtain ⟨q22, q23, h⟩ := h
    refine KE.fin (H' := H_2) (by kernel_rfl) (rdsS (rdsS (rfl) (rd_ok (Hs := [H_2]) (by kernel_rfl) (by kernel_rfl) ⟨one_ld (by kernel_rfl) q22, trivial⟩)) (rd_ok (Hs := [H_2]) (by kernel_rfl) (by kernel_rfl) ⟨one_ld (by kernel_rfl) q23, trivial⟩)) (by kernel_rfl) ?_
    refine KR.run 0 [(4, .pointer (some ⟨t4b, t4o, none⟩)), (5, .int .i64 t40), (6, .int .i64 0)] 41 (s' := (.code (sub B [1, 1, 1, 1, 1, 1]) :: [])) (by kernel_rfl) fun J => ?_
    obtain ⟨r4c0_1, r4c1_1, r4c2_1, r4c3_1, r4c4a_1, r4c4n_1, r4c4k_1, r4c5a_1, r4c5n_1, r4c5k_1, q24, h⟩ := h
    exact KR.finR (l := [.cell 4 41, .tmp 5, .tmp 6]) (vs := [.agg #[.int .i64 r4c0_1, .int .i64 r4c1_1, .int .i64 r4c2_1, .int .i64 r4c3_1, .slice r4c4a_1 r4c4n_1 r4c4k_1, .slice r4c5a_1 r4c5n_1 r4c5k_1], .int .i64 t40, .int .i64 0]) (by kernel_rfl) (Res.cellA (by kernel_rfl) q24 (Res.tmp (by kernel_rfl) (Res.tmp (by kernel_rfl) Res.nil))) (by kernel_rfl) h
theorem call {a0c0 : Int} {a0c1 : Int} {a0c2 : Int} {a0c3 : Int} {a0c4a : Option Addr} {a0c4n : Nat} {a0c4k : Nat} {a0c5a : Option Addr} {a0c5n : Nat} {a0c5k : Nat} {a1 : Int} {H : Heap} {r : Value × Heap} (h :
    ∃ (H_1 : Heap), H_1 = H.push (.row [.int .i64 a0c0, .int .i64 a0c1, .int .i64 a0c2, .int .i64 a0c3, .slice a0c4a a0c4n a0c4k, .slice a0c5a a0c5n a0c5k] true) ∧
    (∃ (H_2 : Heap), H_2 = H_1.push (.row [.int .i64 0, .int .i64 0, .int .i64 0, .int .i64 0, .slice none 0 0, .slice none 0 0] true) ∧
    (∃ (t10c0 : Int) (t10c1 : Int) (t10c2 : Int) (t10c3 : Int) (t10c4a : Option Addr) (t10c4n : Nat) (t10c4k : Nat) (t10c5a : Option Addr) (t10c5n : Nat) (t10c5k : Nat), ldAll H_2 H.next 0 [.int .i64 t10c0, .int .i64 t10c1, .int .i64 t10c2, .int .i64 t10c3, .slice t10c4a t10c4n t10c4k, .slice t10c5a t10c5n t10c5k] ∧
    (∃ (t12r0c0 : Int) (t12r0c1 : Int) (t12r0c2 : Int) (t12r0c3 : Int) (t12r0c4a : Option Addr) (t12r0c4n : Nat) (t12r0c4k : Nat) (t12r0c5a : Option Addr) (t12r0c5n : Nat) (t12r0c5k : Nat) (t12r1 : Int) (H_3 : Heap), xC Try.prog good 58 [.agg #[.int .i64 t10c0, .int .i64 t10c1, .int .i64 t10c2, .int .i64 t10c3, .slice t10c4a t10c4n t10c4k, .slice t10c5a t10c5n t10c5k], .int .i64 a1] H_2 = some (.tuple #[.agg #[.int .i64 t12r0c0, .int .i64 t12r0c1, .int .i64 t12r0c2, .int .i64 t12r0c3, .slice t12r0c4a t12r0c4n t12r0c4k, .slice t12r0c5a t12r0c5n t12r0c5k], .int .i64 t12r1], H_3) ∧
    (∃ (H_4 : Heap), stc H_3 H.next 0 [.int .i64 t12r0c0, .int .i64 t12r0c1, .int .i64 t12r0c2, .int .i64 t12r0c3, .slice t12r0c4a t12r0c4n t12r0c4k, .slice t12r0c5a t12r0c5n t12r0c5k] = some H_4 ∧
    (if t12r1 = 0 then
    (∃ (t20a : Option Addr) (t20n : Nat) (t20k : Nat), ldc H_4 H.next 4 = some (.slice t20a t20n t20k) ∧
    (∃ (t22 : Int) (H_5 : Heap), xC Try.prog good 60 [.slice t20a t20n t20k, .int .i64 a1] H_4 = some (.int .i64 t22, H_5) ∧
    (if t22 < 0 then
    (L0 (H.next) (0) (H_1.next) (0) (t22) (true) H_5 r)
    else
    (∃ (t28a : Option Addr) (t28n : Nat) (t28k : Nat), ldc H_5 H.next 4 = some (.slice t28a t28n t28k) ∧
    (L0 (H.next) (0) (H_1.next) (0) (t22) ((t22 == (IntKind.wrap .i64 (((t28n : Nat) : Int) - 1)))) H_5 r)))))
    else
    (∃ (t17c0 : Int) (t17c1 : Int) (t17c2 : Int) (t17c3 : Int) (t17c4a : Option Addr) (t17c4n : Nat) (t17c4k : Nat) (t17c5a : Option Addr) (t17c5n : Nat) (t17c5k : Nat), ldAll H_4 H.next 0 [.int .i64 t17c0, .int .i64 t17c1, .int .i64 t17c2, .int .i64 t17c3, .slice t17c4a t17c4n t17c4k, .slice t17c5a t17c5n t17c5k] ∧
    (∃ (H_6 : Heap), stc H_4 H_1.next 0 [.int .i64 t17c0, .int .i64 t17c1, .int .i64 t17c2, .int .i64 t17c3, .slice t17c4a t17c4n t17c4k, .slice t17c5a t17c5n t17c5k] = some H_6 ∧
    (∃ (r4c0 : Int) (r4c1 : Int) (r4c2 : Int) (r4c3 : Int) (r4c4a : Option Addr) (r4c4n : Nat) (r4c4k : Nat) (r4c5a : Option Addr) (r4c5n : Nat) (r4c5k : Nat), ldAll H_6 H_1.next 0 [.int .i64 r4c0, .int .i64 r4c1, .int .i64 r4c2, .int .i64 r4c3, .slice r4c4a r4c4n r4c4k, .slice r4c5a r4c5n r4c5k] ∧
    (r = (.tuple #[.agg #[.int .i64 r4c0, .int .i64 r4c1, .int .i64 r4c2, .int .i64 r4c3, .slice r4c4a r4c4n r4c4k, .slice r4c5a r4c5n r4c5k], .int .i64 0, .int .i64 t12r1], H_6))))))))))) :
    xC Try.prog good 26 [.agg #[.int .i64 a0c0, .int .i64 a0c1, .int .i64 a0c2, .int .i64 a0c3, .slice a0c4a a0c4n a0c4k, .slice a0c5a a0c5n a0c5k], .int .i64 a1] H = some r := by
  refine KR.enter (fn := Try.f26) (c := B) (by kernel_rfl) (by kernel_rfl) ?_
  refine KR.run 2 [(0, .agg #[.int .i64 a0c0, .int .i64 a0c1, .int .i64 a0c2, .int .i64 a0c3, .slice a0c4a a0c4n a0c4k, .slice a0c5a a0c5n a0c5k]), (1, .int .i64 a1)] 41 (s' := (.reg (opsAt (sub B [0])) [0, 1, 2, 3] :: S0)) (by kernel_rfl) fun J => ?_
  obtain ⟨H_1, q1, h⟩ := h
  refine KR.mk (w := pRow [.int .i64 a0c0, .int .i64 a0c1, .int .i64 a0c2, .int .i64 a0c3, .slice a0c4a a0c4n a0c4k, .slice a0c5a a0c5n a0c5k]) (one_al (by kernel_rfl)) q1 ?_
  obtain ⟨H_2, q2, h⟩ := h
  refine KR.mk (w := pRow [.int .i64 0, .int .i64 0, .int .i64 0, .int .i64 0, .slice none 0 0, .slice none 0 0]) (one_al (by kernel_rfl)) q2 ?_
  refine KR.run 5 [(1, .int .i64 a1), (2, .pointer (some ⟨H.next, 0, none⟩)), (4, .pointer (some ⟨H_1.next, 0, none⟩))] 41 (s' := (.reg (opsAt (sub B [1, 0])) [0, 1, 2, 3, 4, 5, 6, 7] :: S1)) (by kernel_rfl) fun J => ?_
  obtain ⟨t10c0, t10c1, t10c2, t10c3, t10c4a, t10c4n, t10c4k, t10c5a, t10c5n, t10c5k, q3, h⟩ := h
  refine KR.rd (one_ldA (by kernel_rfl) q3) ?_
  refine KR.run 1 [(1, .int .i64 a1), (2, .pointer (some ⟨H.next, 0, none⟩)), (4, .pointer (some ⟨H_1.next, 0, none⟩)), (10, .agg #[.int .i64 t10c0, .int .i64 t10c1, .int .i64 t10c2, .int .i64 t10c3, .slice t10c4a t10c4n t10c4k, .slice t10c5a t10c5n t10c5k]), (11, .int .i64 a1)] 41 (s' := (.reg (opsAt (sub B [1, 0])) [2, 3, 4, 5, 6, 7] :: S1)) (by kernel_rfl) fun J => ?_
  obtain ⟨t12r0c0, t12r0c1, t12r0c2, t12r0c3, t12r0c4a, t12r0c4n, t12r0c4k, t12r0c5a, t12r0c5n, t12r0c5k, t12r1, H_3, q4, h⟩ := h
  refine KR.se (one_ca (by kernel_rfl) q4) ?_
  refine KR.run 3 [(1, .int .i64 a1), (2, .pointer (some ⟨H.next, 0, none⟩)), (4, .pointer (some ⟨H_1.next, 0, none⟩)), (13, .agg #[.int .i64 t12r0c0, .int .i64 t12r0c1, .int .i64 t12r0c2, .int .i64 t12r0c3, .slice t12r0c4a t12r0c4n t12r0c4k, .slice t12r0c5a t12r0c5n t12r0c5k]), (14, .int .i64 t12r1)] 41 (s' := (.reg (opsAt (sub B [1, 0])) [6, 7] :: S1)) (by kernel_rfl) fun J => ?_
  obtain ⟨H_4, q5, h⟩ := h
  refine KR.se (one_st (by kernel_rfl) q5) ?_
  refine KR.run 8 [(1, .int .i64 a1), (2, .pointer (some ⟨H.next, 0, none⟩)), (4, .pointer (some ⟨H_1.next, 0, none⟩)), (7, .int .i64 t12r1), (16, .bool (!(t12r1 == 0)))] 41 (s' := (.code (sub B [1, 1, 0, 1]) :: S2)) (by kernel_rfl) fun J => ?_
  by_cases c6 : t12r1 = 0
  · replace h := iteT c6 h
    refine KR.br false (by kernel_rfl) (vB (nB (eT c6))) ?_
    refine KR.run 4 [(1, .int .i64 a1), (2, .pointer (some ⟨H.next, 0, none⟩)), (4, .pointer (some ⟨H_1.next, 0, none⟩)), (19, .pointer (some ⟨H.next, 4, none⟩))] 41 (s' := (.reg (opsAt (sub B [1, 1, 1, 0])) [1, 2, 3, 4] :: S3)) (by kernel_rfl) fun J => ?_
    obtain ⟨t20a, t20n, t20k, q7, h⟩ := h
    refine KR.rd (one_ld (by kernel_rfl) q7) ?_
    refine KR.run 1 [(2, .pointer (some ⟨H.next, 0, none⟩)), (4, .pointer (some ⟨H_1.next, 0, none⟩)), (20, .slice t20a t20n t20k), (21, .int .i64 a1)] 41 (s' := (.reg (opsAt (sub B [1, 1, 1, 0])) [3, 4] :: S3)) (by kernel_rfl) fun J => ?_
    obtain ⟨t22, H_5, q8, h⟩ := h
    refine KR.se (one_ca (by kernel_rfl) q8) ?_
    refine KR.run 8 [(2, .pointer (some ⟨H.next, 0, none⟩)), (4, .pointer (some ⟨H_1.next, 0, none⟩)), (8, .int .i64 t22), (25, .bool (decide (t22 < 0)))] 41 (s' := (.reg (opsAt (sub B [1, 1, 1, 1, 0, 0])) [3, 4, 5, 6, 7, 8, 9] :: S5)) (by kernel_rfl) fun J => ?_
    by_cases c9 : t22 < 0
    · replace h := iteT c9 h
      refine KR.setV 25 (by kernel_rfl) (dT c9) ?_
      exact KR.run 8 [(2, .pointer (some ⟨H.next, 0, none⟩)), (4, .pointer (some ⟨H_1.next, 0, none⟩)), (8, .int .i64 t22), (32, .bool true)] 41 (s' := (.code (sub B [1, 1, 1, 1, 0, 1]) :: S4)) (by kernel_rfl) h
    · replace h := iteF c9 h
      refine KR.setV 25 (by kernel_rfl) (dF c9) ?_
      refine KR.run 2 [(2, .pointer (some ⟨H.next, 0, none⟩)), (4, .pointer (some ⟨H_1.next, 0, none⟩)), (8, .int .i64 t22), (25, .bool false), (26, .int .i64 t22), (27, .pointer (some ⟨H.next, 4, none⟩))] 41 (s' := (.reg (opsAt (sub B [1, 1, 1, 1, 0, 0])) [5, 6, 7, 8, 9] :: S5)) (by kernel_rfl) fun J => ?_
      obtain ⟨t28a, t28n, t28k, q10, h⟩ := h
      refine KR.rd (one_ld (by kernel_rfl) q10) ?_
      exact KR.run 5 [(2, .pointer (some ⟨H.next, 0, none⟩)), (4, .pointer (some ⟨H_1.next, 0, none⟩)), (8, .int .i64 t22), (32, .bool (t22 == (IntKind.wrap .i64 (((t28n : Nat) : Int) - 1))))] 41 (s' := (.code (sub B [1, 1, 1, 1, 0, 1]) :: S4)) (by kernel_rfl) h
  · replace h := iteF c6 h
    refine KR.br true (by kernel_rfl) (vB (nB (eF c6))) ?_
    refine KR.run 2 [(2, .pointer (some ⟨H.next, 0, none⟩)), (4, .pointer (some ⟨H_1.next, 0, none⟩)), (7, .int .i64 t12r1)] 41 (s' := (.reg (opsAt (sub B [1, 1, 0, 1, 0, 0])) [0, 1, 2, 3, 4] :: S6)) (by kernel_rfl) fun J => ?_
    obtain ⟨t17c0, t17c1, t17c2, t17c3, t17c4a, t17c4n, t17c4k, t17c5a, t17c5n, t17c5k, q11, h⟩ := h
    refine KR.rd (one_ldA (by kernel_rfl) q11) ?_
    refine KR.run 1 [(4, .pointer (some ⟨H_1.next, 0, none⟩)), (17, .agg #[.int .i64 t17c0, .int .i64 t17c1, .int .i64 t17c2, .int .i64 t17c3, .slice t17c4a t17c4n t17c4k, .slice t17c5a t17c5n t17c5k]), (18, .int .i64 t12r1)] 41 (s' := (.reg (opsAt (sub B [1, 1, 0, 1, 0, 0])) [2, 3, 4] :: S6)) (by kernel_rfl) fun J => ?_
    obtain ⟨H_6, q12, h⟩ := h
    refine KR.se (one_st (by kernel_rfl) q12) ?_
    refine KR.run 3 [(4, .pointer (some ⟨H_1.next, 0, none⟩)), (5, .int .i64 0), (6, .int .i64 t12r1)] 41 (s' := (.code (sub B [1, 1, 0, 1, 0, 1]) :: S2)) (by kernel_rfl) fun J => ?_
    obtain ⟨r4c0, r4c1, r4c2, r4c3, r4c4a, r4c4n, r4c4k, r4c5a, r4c5n, r4c5k, q13, h⟩ := h
    exact KR.finR (l := [.cell 4 41, .tmp 5, .tmp 6]) (vs := [.agg #[.int .i64 r4c0, .int .i64 r4c1, .int .i64 r4c2, .int .i64 r4c3, .slice r4c4a r4c4n r4c4k, .slice r4c5a r4c5n r4c5k], .int .i64 0, .int .i64 t12r1]) (by kernel_rfl) (Res.cellA (by kernel_rfl) q13 (Res.tmp (by kernel_rfl) (Res.tmp (by kernel_rfl) Res.nil))) (by kernel_rfl) h
end F26
/-! #### 27 campanile/campanilelaw19.light -/
namespace F27
noncomputable def B : Code := bodyOf Try.f27
noncomputable def S0 : List It := (.code (sub B [1]) :: [])
noncomputable def S1 : List It := (.code (sub B [1, 1]) :: [])
theorem call {a0c0 : Int} {a0c1 : Int} {a0c2 : Int} {a0c3 : Int} {a0c4a : Option Addr} {a0c4n : Nat} {a0c4k : Nat} {a0c5a : Option Addr} {a0c5n : Nat} {a0c5k : Nat} {H : Heap} {r : Value × Heap} (h :
    ∃ (H_1 : Heap), H_1 = H.push (.row [.int .i64 a0c0, .int .i64 a0c1, .int .i64 a0c2, .int .i64 a0c3, .slice a0c4a a0c4n a0c4k, .slice a0c5a a0c5n a0c5k] true) ∧
    (∃ (t4a : Option Addr) (t4n : Nat) (t4k : Nat), ldc H_1 H.next 4 = some (.slice t4a t4n t4k) ∧
    (if ((t4n : Nat) : Int) ≤ 60 then
    (∃ (t9a : Option Addr) (t9n : Nat) (t9k : Nat), ldc H_1 H.next 5 = some (.slice t9a t9n t9k) ∧
    (r = (.bool (decide (((t9n : Nat) : Int) ≤ 200)), H_1)))
    else
    (r = (.bool false, H_1))))) :
    xC Try.prog good 27 [.agg #[.int .i64 a0c0, .int .i64 a0c1, .int .i64 a0c2, .int .i64 a0c3, .slice a0c4a a0c4n a0c4k, .slice a0c5a a0c5n a0c5k]] H = some r := by
  refine KR.enter (fn := Try.f27) (c := B) (by kernel_rfl) (by kernel_rfl) ?_
  refine KR.run 2 [(0, .agg #[.int .i64 a0c0, .int .i64 a0c1, .int .i64 a0c2, .int .i64 a0c3, .slice a0c4a a0c4n a0c4k, .slice a0c5a a0c5n a0c5k])] 13 (s' := (.reg (opsAt (sub B [0])) [0, 1] :: S0)) (by kernel_rfl) fun J => ?_
  obtain ⟨H_1, q1, h⟩ := h
  refine KR.mk (w := pRow [.int .i64 a0c0, .int .i64 a0c1, .int .i64 a0c2, .int .i64 a0c3, .slice a0c4a a0c4n a0c4k, .slice a0c5a a0c5n a0c5k]) (one_al (by kernel_rfl)) q1 ?_
  refine KR.run 5 [(1, .pointer (some ⟨H.next, 0, none⟩)), (3, .pointer (some ⟨H.next, 4, none⟩))] 13 (s' := (.reg (opsAt (sub B [1, 0])) [1, 2, 3, 4, 5, 6, 7, 8, 9, 10] :: S1)) (by kernel_rfl) fun J => ?_
  obtain ⟨t4a, t4n, t4k, q2, h⟩ := h
  refine KR.rd (one_ld (by kernel_rfl) q2) ?_
  refine KR.run 3 [(1, .pointer (some ⟨H.next, 0, none⟩)), (7, .bool (decide (((t4n : Nat) : Int) ≤ 60)))] 13 (s' := (.reg (opsAt (sub B [1, 0])) [5, 6, 7, 8, 9, 10] :: S1)) (by kernel_rfl) fun J => ?_
  by_cases c3 : ((t4n : Nat) : Int) ≤ 60
  · replace h := iteT c3 h
    refine KR.setV 7 (by kernel_rfl) (dT c3) ?_
    refine KR.run 1 [(7, .bool true), (8, .pointer (some ⟨H.next, 5, none⟩))] 13 (s' := (.reg (opsAt (sub B [1, 0])) [6, 7, 8, 9, 10] :: S1)) (by kernel_rfl) fun J => ?_
    obtain ⟨t9a, t9n, t9k, q4, h⟩ := h
    refine KR.rd (one_ld (by kernel_rfl) q4) ?_
    refine KR.run 5 [(2, .bool (decide (((t9n : Nat) : Int) ≤ 200)))] 13 (s' := (.code (sub B [1, 1]) :: [])) (by kernel_rfl) fun J => ?_
    exact KR.fin (by kernel_rfl) h
  · replace h := iteF c3 h
    refine KR.setV 7 (by kernel_rfl) (dF c3) ?_
    refine KR.run 7 [(2, .bool false)] 13 (s' := (.code (sub B [1, 1]) :: [])) (by kernel_rfl) fun J => ?_
    exact KR.fin (by kernel_rfl) h
end F27
/-! #### 28 campanile/route.May -/
namespace F28
noncomputable def B : Code := bodyOf Try.f28
noncomputable def S0 : List It := (.code (sub B [1]) :: [])
noncomputable def S1 : List It := (.code (sub B [1, 1]) :: [])
theorem call {a0c0 : Int} {a0c1 : Int} {a0c2 : Int} {a0c3 : Int} {a0c4a : Option Addr} {a0c4n : Nat} {a0c4k : Nat} {a0c5a : Option Addr} {a0c5n : Nat} {a0c5k : Nat} {H : Heap} {r : Value × Heap} (h :
    ∃ (H_1 : Heap), H_1 = H.push (.row [.int .i64 a0c0, .int .i64 a0c1, .int .i64 a0c2, .int .i64 a0c3, .slice a0c4a a0c4n a0c4k, .slice a0c5a a0c5n a0c5k] true) ∧
    (∃ (t4 : Int), ldc H_1 H.next 0 = some (.int .i64 t4) ∧
    (∃ (t5 : Bool) (H_2 : Heap), xC Try.prog good 61 [.int .i64 t4] H_1 = some (.bool t5, H_2) ∧
    (if t5 = true then
    (∃ (t8 : Int), ldc H_2 H.next 1 = some (.int .i64 t8) ∧
    (∃ (t9 : Bool) (H_3 : Heap), xC Try.prog good 61 [.int .i64 t8] H_2 = some (.bool t9, H_3) ∧
    (if t9 = true then
    (∃ (t13 : Int), ldc H_3 H.next 0 = some (.int .i64 t13) ∧
    (∃ (t15 : Int), ldc H_3 H.next 1 = some (.int .i64 t15) ∧
    (if t13 = t15 then
    (r = (.bool false, H_3))
    else
    (∃ (t20 : Int), ldc H_3 H.next 2 = some (.int .i64 t20) ∧
    (∃ (t21 : Bool) (H_4 : Heap), xC Try.prog good 62 [.int .i64 t20, .int .i64 0, .int .i64 70368744177663] H_3 = some (.bool t21, H_4) ∧
    (if t21 = true then
    (∃ (t25 : Int), ldc H_4 H.next 3 = some (.int .i64 t25) ∧
    (∃ (t26 : Bool) (H_5 : Heap), xC Try.prog good 62 [.int .i64 t25, .int .i64 0, .int .i64 15] H_4 = some (.bool t26, H_5) ∧
    (if t26 = true then
    (∃ (t30a : Option Addr) (t30n : Nat) (t30k : Nat), ldc H_5 H.next 4 = some (.slice t30a t30n t30k) ∧
    (∃ (t31 : Bool) (H_6 : Heap), xC Try.prog good 54 [.slice t30a t30n t30k] H_5 = some (.bool t31, H_6) ∧
    (if t31 = true then
    (∃ (t35a : Option Addr) (t35n : Nat) (t35k : Nat), ldc H_6 H.next 5 = some (.slice t35a t35n t35k) ∧
    (∃ (t37 : Bool) (H_7 : Heap), xC Try.prog good 62 [.int .i64 ((t35n : Nat) : Int), .int .i64 1, .int .i64 24] H_6 = some (.bool t37, H_7) ∧
    (r = (.bool t37, H_7))))
    else
    (r = (.bool false, H_6)))))
    else
    (r = (.bool false, H_5)))))
    else
    (r = (.bool false, H_4))))))))
    else
    (r = (.bool false, H_3)))))
    else
    (r = (.bool false, H_2)))))) :
    xC Try.prog good 28 [.agg #[.int .i64 a0c0, .int .i64 a0c1, .int .i64 a0c2, .int .i64 a0c3, .slice a0c4a a0c4n a0c4k, .slice a0c5a a0c5n a0c5k]] H = some r := by
  refine KR.enter (fn := Try.f28) (c := B) (by kernel_rfl) (by kernel_rfl) ?_
  refine KR.run 2 [(0, .agg #[.int .i64 a0c0, .int .i64 a0c1, .int .i64 a0c2, .int .i64 a0c3, .slice a0c4a a0c4n a0c4k, .slice a0c5a a0c5n a0c5k])] 39 (s' := (.reg (opsAt (sub B [0])) [0, 1] :: S0)) (by kernel_rfl) fun J => ?_
  obtain ⟨H_1, q1, h⟩ := h
  refine KR.mk (w := pRow [.int .i64 a0c0, .int .i64 a0c1, .int .i64 a0c2, .int .i64 a0c3, .slice a0c4a a0c4n a0c4k, .slice a0c5a a0c5n a0c5k]) (one_al (by kernel_rfl)) q1 ?_
  refine KR.run 5 [(1, .pointer (some ⟨H.next, 0, none⟩)), (3, .pointer (some ⟨H.next, 0, none⟩))] 39 (s' := (.reg (opsAt (sub B [1, 0])) [1, 2, 3, 4, 5, 6, 7, 8, 9, 10, 11, 12, 13, 14, 15, 16, 17, 18, 19, 20, 21, 22, 23, 24, 25, 26, 27, 28, 29, 30, 31, 32, 33, 34, 35, 36] :: S1)) (by kernel_rfl) fun J => ?_
  obtain ⟨t4, q2, h⟩ := h
  refine KR.rd (one_ld (by kernel_rfl) q2) ?_
  obtain ⟨t5, H_2, q3, h⟩ := h
  refine KR.se (one_ca (by kernel_rfl) q3) ?_
  refine KR.run 1 [(1, .pointer (some ⟨H.next, 0, none⟩)), (6, .bool t5)] 39 (s' := (.reg (opsAt (sub B [1, 0])) [4, 5, 6, 7, 8, 9, 10, 11, 12, 13, 14, 15, 16, 17, 18, 19, 20, 21, 22, 23, 24, 25, 26, 27, 28, 29, 30, 31, 32, 33, 34, 35, 36] :: S1)) (by kernel_rfl) fun J => ?_
  by_cases c4 : t5 = true
  · replace h := iteT c4 h
    refine KR.setV 6 (by kernel_rfl) (bT c4) ?_
    refine KR.run 1 [(1, .pointer (some ⟨H.next, 0, none⟩)), (6, .bool true), (7, .pointer (some ⟨H.next, 1, none⟩))] 39 (s' := (.reg (opsAt (sub B [1, 0])) [5, 6, 7, 8, 9, 10, 11, 12, 13, 14, 15, 16, 17, 18, 19, 20, 21, 22, 23, 24, 25, 26, 27, 28, 29, 30, 31, 32, 33, 34, 35, 36] :: S1)) (by kernel_rfl) fun J => ?_
    obtain ⟨t8, q5, h⟩ := h
    refine KR.rd (one_ld (by kernel_rfl) q5) ?_
    obtain ⟨t9, H_3, q6, h⟩ := h
    refine KR.se (one_ca (by kernel_rfl) q6) ?_
    refine KR.run 2 [(1, .pointer (some ⟨H.next, 0, none⟩)), (11, .bool t9)] 39 (s' := (.reg (opsAt (sub B [1, 0])) [9, 10, 11, 12, 13, 14, 15, 16, 17, 18, 19, 20, 21, 22, 23, 24, 25, 26, 27, 28, 29, 30, 31, 32, 33, 34, 35, 36] :: S1)) (by kernel_rfl) fun J => ?_
    by_cases c7 : t9 = true
    · replace h := iteT c7 h
      refine KR.setV 11 (by kernel_rfl) (bT c7) ?_
      refine KR.run 1 [(1, .pointer (some ⟨H.next, 0, none⟩)), (11, .bool true), (12, .pointer (some ⟨H.next, 0, none⟩))] 39 (s' := (.reg (opsAt (sub B [1, 0])) [10, 11, 12, 13, 14, 15, 16, 17, 18, 19, 20, 21, 22, 23, 24, 25, 26, 27, 28, 29, 30, 31, 32, 33, 34, 35, 36] :: S1)) (by kernel_rfl) fun J => ?_
      obtain ⟨t13, q8, h⟩ := h
      refine KR.rd (one_ld (by kernel_rfl) q8) ?_
      refine KR.run 1 [(1, .pointer (some ⟨H.next, 0, none⟩)), (11, .bool true), (13, .int .i64 t13), (14, .pointer (some ⟨H.next, 1, none⟩))] 39 (s' := (.reg (opsAt (sub B [1, 0])) [12, 13, 14, 15, 16, 17, 18, 19, 20, 21, 22, 23, 24, 25, 26, 27, 28, 29, 30, 31, 32, 33, 34, 35, 36] :: S1)) (by kernel_rfl) fun J => ?_
      obtain ⟨t15, q9, h⟩ := h
      refine KR.rd (one_ld (by kernel_rfl) q9) ?_
      refine KR.run 3 [(1, .pointer (some ⟨H.next, 0, none⟩)), (18, .bool (!(t13 == t15)))] 39 (s' := (.reg (opsAt (sub B [1, 0])) [16, 17, 18, 19, 20, 21, 22, 23, 24, 25, 26, 27, 28, 29, 30, 31, 32, 33, 34, 35, 36] :: S1)) (by kernel_rfl) fun J => ?_
      by_cases c10 : t13 = t15
      · replace h := iteT c10 h
        refine KR.setV 18 (by kernel_rfl) (nB (eT c10)) ?_
        refine KR.run 22 [(2, .bool false)] 39 (s' := (.code (sub B [1, 1]) :: [])) (by kernel_rfl) fun J => ?_
        exact KR.fin (by kernel_rfl) h
      · replace h := iteF c10 h
        refine KR.setV 18 (by kernel_rfl) (nB (eF c10)) ?_
        refine KR.run 1 [(1, .pointer (some ⟨H.next, 0, none⟩)), (18, .bool true), (19, .pointer (some ⟨H.next, 2, none⟩))] 39 (s' := (.reg (opsAt (sub B [1, 0])) [17, 18, 19, 20, 21, 22, 23, 24, 25, 26, 27, 28, 29, 30, 31, 32, 33, 34, 35, 36] :: S1)) (by kernel_rfl) fun J => ?_
        obtain ⟨t20, q11, h⟩ := h
        refine KR.rd (one_ld (by kernel_rfl) q11) ?_
        obtain ⟨t21, H_4, q12, h⟩ := h
        refine KR.se (one_ca (by kernel_rfl) q12) ?_
        refine KR.run 2 [(1, .pointer (some ⟨H.next, 0, none⟩)), (23, .bool t21)] 39 (s' := (.reg (opsAt (sub B [1, 0])) [21, 22, 23, 24, 25, 26, 27, 28, 29, 30, 31, 32, 33, 34, 35, 36] :: S1)) (by kernel_rfl) fun J => ?_
        by_cases c13 : t21 = true
        · replace h := iteT c13 h
          refine KR.setV 23 (by kernel_rfl) (bT c13) ?_
          refine KR.run 1 [(1, .pointer (some ⟨H.next, 0, none⟩)), (23, .bool true), (24, .pointer (some ⟨H.next, 3, none⟩))] 39 (s' := (.reg (opsAt (sub B [1, 0])) [22, 23, 24, 25, 26, 27, 28, 29, 30, 31, 32, 33, 34, 35, 36] :: S1)) (by kernel_rfl) fun J => ?_
          obtain ⟨t25, q14, h⟩ := h
          refine KR.rd (one_ld (by kernel_rfl) q14) ?_
          obtain ⟨t26, H_5, q15, h⟩ := h
          refine KR.se (one_ca (by kernel_rfl) q15) ?_
          refine KR.run 2 [(1, .pointer (some ⟨H.next, 0, none⟩)), (28, .bool t26)] 39 (s' := (.reg (opsAt (sub B [1, 0])) [26, 27, 28, 29, 30, 31, 32, 33, 34, 35, 36] :: S1)) (by kernel_rfl) fun J => ?_
          by_cases c16 : t26 = true
          · replace h := iteT c16 h
            refine KR.setV 28 (by kernel_rfl) (bT c16) ?_
            refine KR.run 1 [(1, .pointer (some ⟨H.next, 0, none⟩)), (28, .bool true), (29, .pointer (some ⟨H.next, 4, none⟩))] 39 (s' := (.reg (opsAt (sub B [1, 0])) [27, 28, 29, 30, 31, 32, 33, 34, 35, 36] :: S1)) (by kernel_rfl) fun J => ?_
            obtain ⟨t30a, t30n, t30k, q17, h⟩ := h
            refine KR.rd (one_ld (by kernel_rfl) q17) ?_
            obtain ⟨t31, H_6, q18, h⟩ := h
            refine KR.se (one_ca (by kernel_rfl) q18) ?_
            refine KR.run 2 [(1, .pointer (some ⟨H.next, 0, none⟩)), (33, .bool t31)] 39 (s' := (.reg (opsAt (sub B [1, 0])) [31, 32, 33, 34, 35, 36] :: S1)) (by kernel_rfl) fun J => ?_
            by_cases c19 : t31 = true
            · replace h := iteT c19 h
              refine KR.setV 33 (by kernel_rfl) (bT c19) ?_
              refine KR.run 1 [(33, .bool true), (34, .pointer (some ⟨H.next, 5, none⟩))] 39 (s' := (.reg (opsAt (sub B [1, 0])) [32, 33, 34, 35, 36] :: S1)) (by kernel_rfl) fun J => ?_
              obtain ⟨t35a, t35n, t35k, q20, h⟩ := h
              refine KR.rd (one_ld (by kernel_rfl) q20) ?_
              refine KR.run 1 [(33, .bool true), (36, .int .i64 ((t35n : Nat) : Int))] 39 (s' := (.reg (opsAt (sub B [1, 0])) [34, 35, 36] :: S1)) (by kernel_rfl) fun J => ?_
              obtain ⟨t37, H_7, q21, h⟩ := h
              refine KR.se (one_ca (by kernel_rfl) q21) ?_
              refine KR.run 3 [(2, .bool t37)] 39 (s' := (.code (sub B [1, 1]) :: [])) (by kernel_rfl) fun J => ?_
              exact KR.fin (by kernel_rfl) h
            · replace h := iteF c19 h
              refine KR.setV 33 (by kernel_rfl) (bF c19) ?_
              refine KR.run 7 [(2, .bool false)] 39 (s' := (.code (sub B [1, 1]) :: [])) (by kernel_rfl) fun J => ?_
              exact KR.fin (by kernel_rfl) h
          · replace h := iteF c16 h
            refine KR.setV 28 (by kernel_rfl) (bF c16) ?_
            refine KR.run 12 [(2, .bool false)] 39 (s' := (.code (sub B [1, 1]) :: [])) (by kernel_rfl) fun J => ?_
            exact KR.fin (by kernel_rfl) h
        · replace h := iteF c13 h
          refine KR.setV 23 (by kernel_rfl) (bF c13) ?_
          refine KR.run 17 [(2, .bool false)] 39 (s' := (.code (sub B [1, 1]) :: [])) (by kernel_rfl) fun J => ?_
          exact KR.fin (by kernel_rfl) h
    · replace h := iteF c7 h
      refine KR.setV 11 (by kernel_rfl) (bF c7) ?_
      refine KR.run 29 [(2, .bool false)] 39 (s' := (.code (sub B [1, 1]) :: [])) (by kernel_rfl) fun J => ?_
      exact KR.fin (by kernel_rfl) h
  · replace h := iteF c4 h
    refine KR.setV 6 (by kernel_rfl) (bF c4) ?_
    refine KR.run 34 [(2, .bool false)] 39 (s' := (.code (sub B [1, 1]) :: [])) (by kernel_rfl) fun J => ?_
    exact KR.fin (by kernel_rfl) h
end F28
/-! #### 54 campanile/route.path -/
namespace F54
noncomputable def B : Code := bodyOf Try.f54
noncomputable def S0 : List It := (.code (sub B [1, 1]) :: [])
noncomputable def S1 : List It := (.blk 0 :: S0)
noncomputable def S2 : List It := (.lp (sub B [1, 0, 1, 0, 0]) :: S1)
noncomputable def S3 : List It := (.code (sub B [1, 0, 1, 0, 0, 1, 1]) :: S2)
noncomputable def S4 : List It := (.code (sub B [1, 0, 1, 0, 0, 1, 1, 1]) :: S2)
noncomputable def S5 : List It := (.blk 1 :: S4)
noncomputable def S6 : List It := (.code (sub B [1, 0, 1, 0, 0, 1, 1, 0, 0, 1]) :: S5)
noncomputable def S7 : List It := (.code (sub B [1, 0, 1, 0, 0, 1, 1, 0, 0, 1, 1]) :: S5)
def L0 (t0a : Option Addr) (t0n : Nat) (t0k : Nat) (t5a : Option Addr) (t5n : Nat) (t5k : Nat) (t6 : Int) (t7 : Int) (H : Heap) (r : Value × Heap) : Prop := ∀ J, KR Try.prog good Try.f54 S2 (mat J 26 [(0, .slice t0a t0n t0k), (5, .slice t5a t5n t5k), (6, .int .i64 t6), (7, .int .i64 t7)]) H r
def L1 (t0a : Option Addr) (t0n : Nat) (t0k : Nat) (t5b : Nat) (t5o : Nat) (t5n : Nat) (t5k : Nat) (t6 : Int) (t7 : Int) (t21 : Bool) (H : Heap) (r : Value × Heap) : Prop := ∀ J, KR Try.prog good Try.f54 S7 (mat J 26 [(0, .slice t0a t0n t0k), (5, .slice (some ⟨t5b, t5o, none⟩) t5n t5k), (6, .int .i64 t6), (7, .int .i64 t7), (21, .bool t21)]) H r
theorem L0_step {t0a : Option Addr} {t0n : Nat} {t0k : Nat} {t5a : Option Addr} {t5n : Nat} {t5k : Nat} {t6 : Int} {t7 : Int} {H : Heap} {r : Value × Heap} (h :
    if t7 < t6 then
    (∃ (t5ab t5ao : Nat), t5a = some ⟨t5ab, t5ao, none⟩ ∧
    ((0 : Int) ≤ t7 ∧ t7 < ((t5n : Nat) : Int) ∧
    (∃ (t11 : Int), ldc H t5ab (t5ao + Int.toNat t7 * 1) = some (.int .i64 t11) ∧
    (∃ (t13 : Bool) (H_1 : Heap), xC Try.prog good 61 [.int .i64 t11] H = some (.bool t13, H_1) ∧
    (if t13 = true then
    (∃ (t18a : Option Addr) (t18n : Nat) (t18k : Nat), psl 1 t0a t0n t0k none (some t7) none = some (t18a, t18n, t18k) ∧
    (∃ (t20 : Bool) (H_2 : Heap), xC Try.prog good 59 [.slice t18a t18n t18k, .int .i64 t11] H_1 = some (.bool t20, H_2) ∧
    (L1 (t0a) (t0n) (t0k) (t5ab) (t5ao) (t5n) (t5k) (t6) (t7) (t20) H_2 r)))
    else
    (L1 (t0a) (t0n) (t0k) (t5ab) (t5ao) (t5n) (t5k) (t6) (t7) (true) H_1 r))))))
    else
    (r = (.bool (decide (((t0n : Nat) : Int) ≤ 16)), H))) :
    L0 t0a t0n t0k t5a t5n t5k t6 t7 H r := by
  intro J
  show KR _ _ _ (.lp (sub B [1, 0, 1, 0, 0]) :: S1) _ _ _
  refine KR.run 6 [(0, .slice t0a t0n t0k), (5, .slice t5a t5n t5k), (6, .int .i64 t6), (7, .int .i64 t7), (8, .bool (decide (t7 < t6)))] 26 (s' := (.code (sub B [1, 0, 1, 0, 0, 1, 0]) :: S3)) (by kernel_rfl) fun J => ?_
  by_cases c1 : t7 < t6
  · replace h := iteT c1 h
    refine KR.br true (by kernel_rfl) (vB (dT c1)) ?_
    obtain ⟨t5ab, t5ao, rfl, h⟩ := h
    refine KR.run 6 [(0, .slice t0a t0n t0k), (5, .slice (some ⟨t5ab, t5ao, none⟩) t5n t5k), (6, .int .i64 t6), (7, .int .i64 t7), (9, .int .i64 t7)] 26 (s' := (.reg (opsAt (sub B [1, 0, 1, 0, 0, 1, 1, 0, 0, 0])) [1, 2, 3, 4] :: S6)) (by kernel_rfl) fun J => ?_
    obtain ⟨q2, q2x, h⟩ := h
    refine KR.p (one_ix 1 t5ab t5ao (by kernel_rfl) q2 q2x) ?_
    obtain ⟨t11, q3, h⟩ := h
    refine KR.rd (one_ld (by kernel_rfl) q3) ?_
    refine KR.run 6 [(0, .slice t0a t0n t0k), (3, .int .i64 t7), (4, .int .i64 t11), (5, .slice (some ⟨t5ab, t5ao, none⟩) t5n t5k), (6, .int .i64 t6), (7, .int .i64 t7), (12, .int .i64 t11)] 26 (s' := (.reg (opsAt (sub B [1, 0, 1, 0, 0, 1, 1, 0, 0, 1, 0])) [1, 2, 3, 4, 5, 6, 7, 8, 9] :: S7)) (by kernel_rfl) fun J => ?_
    obtain ⟨t13, H_1, q4, h⟩ := h
    refine KR.se (one_ca (by kernel_rfl) q4) ?_
    refine KR.run 2 [(0, .slice t0a t0n t0k), (3, .int .i64 t7), (4, .int .i64 t11), (5, .slice (some ⟨t5ab, t5ao, none⟩) t5n t5k), (6, .int .i64 t6), (7, .int .i64 t7), (15, .bool (!t13))] 26 (s' := (.reg (opsAt (sub B [1, 0, 1, 0, 0, 1, 1, 0, 0, 1, 0])) [4, 5, 6, 7, 8, 9] :: S7)) (by kernel_rfl) fun J => ?_
    by_cases c5 : t13 = true
    · replace h := iteT c5 h
      refine KR.setV 15 (by kernel_rfl) (nB (bT c5)) ?_
      refine KR.run 2 [(0, .slice t0a t0n t0k), (4, .int .i64 t11), (5, .slice (some ⟨t5ab, t5ao, none⟩) t5n t5k), (6, .int .i64 t6), (7, .int .i64 t7), (15, .bool false), (16, .slice t0a t0n t0k), (17, .int .i64 t7)] 26 (s' := (.reg (opsAt (sub B [1, 0, 1, 0, 0, 1, 1, 0, 0, 1, 0])) [6, 7, 8, 9] :: S7)) (by kernel_rfl) fun J => ?_
      obtain ⟨t18a, t18n, t18k, q6, h⟩ := h
      refine KR.p (one_sl (by kernel_rfl) q6) ?_
      refine KR.run 1 [(0, .slice t0a t0n t0k), (5, .slice (some ⟨t5ab, t5ao, none⟩) t5n t5k), (6, .int .i64 t6), (7, .int .i64 t7), (15, .bool false), (18, .slice t18a t18n t18k), (19, .int .i64 t11)] 26 (s' := (.reg (opsAt (sub B [1, 0, 1, 0, 0, 1, 1, 0, 0, 1, 0])) [8, 9] :: S7)) (by kernel_rfl) fun J => ?_
      obtain ⟨t20, H_2, q7, h⟩ := h
      refine KR.se (one_ca (by kernel_rfl) q7) ?_
      exact KR.run 2 [(0, .slice t0a t0n t0k), (5, .slice (some ⟨t5ab, t5ao, none⟩) t5n t5k), (6, .int .i64 t6), (7, .int .i64 t7), (21, .bool t20)] 26 (s' := (.code (sub B [1, 0, 1, 0, 0, 1, 1, 0, 0, 1, 1]) :: S5)) (by kernel_rfl) h
    · replace h := iteF c5 h
      refine KR.setV 15 (by kernel_rfl) (nB (bF c5)) ?_
      exact KR.run 7 [(0, .slice t0a t0n t0k), (5, .slice (some ⟨t5ab, t5ao, none⟩) t5n t5k), (6, .int .i64 t6), (7, .int .i64 t7), (21, .bool true)] 26 (s' := (.code (sub B [1, 0, 1, 0, 0, 1, 1, 0, 0, 1, 1]) :: S5)) (by kernel_rfl) h
  · replace h := iteF c1 h
    refine KR.br false (by kernel_rfl) (vB (dF c1)) ?_
    refine KR.run 8 [(2, .bool (decide (((t0n : Nat) : Int) ≤ 16)))] 26 (s' := (.code (sub B [1, 1, 1]) :: [])) (by kernel_rfl) fun J => ?_
    exact KR.fin (by kernel_rfl) h
theorem L1_step {t0a : Option Addr} {t0n : Nat} {t0k : Nat} {t5b : Nat} {t5o : Nat} {t5n : Nat} {t5k : Nat} {t6 : Int} {t7 : Int} {t21 : Bool} {H : Heap} {r : Value × Heap} (h :
    if t21 = true then
    (r = (.bool false, H))
    else
    (L0 (t0a) (t0n) (t0k) ((some ⟨t5b, t5o, none⟩)) (t5n) (t5k) (t6) ((IntKind.wrap .i64 (t7 + 1))) H r)) :
    L1 t0a t0n t0k t5b t5o t5n t5k t6 t7 t21 H r := by
  intro J
  show KR _ _ _ (.code (sub B [1, 0, 1, 0, 0, 1, 1, 0, 0, 1, 1]) :: S5) _ _ _
  by_cases c8 : t21 = true
  · replace h := iteT c8 h
    refine KR.br true (by kernel_rfl) (vB (bT c8)) ?_
    refine KR.run 4 [(2, .bool false)] 26 (s' := (.code (sub B [1, 0, 1, 0, 0, 1, 1, 0, 0, 1, 1, 0, 1]) :: S5)) (by kernel_rfl) fun J => ?_
    exact KR.fin (by kernel_rfl) h
  · replace h := iteF c8 h
    refine KR.br false (by kernel_rfl) (vB (bF c8)) ?_
    exact KR.run 6 [(0, .slice t0a t0n t0k), (5, .slice (some ⟨t5b, t5o, none⟩) t5n t5k), (6, .int .i64 t6), (7, .int .i64 (IntKind.wrap .i64 (t7 + 1)))] 26 (s' := (.lp (sub B [1, 0, 1, 0, 0]) :: S1)) (by kernel_rfl) h
theorem call {a0a : Option Addr} {a0n : Nat} {a0k : Nat} {H : Heap} {r : Value × Heap} (h :
    L0 (a0a) (a0n) (a0k) (a0a) (a0n) (a0k) (((a0n : Nat) : Int)) 0 H r) :
    xC Try.prog good 54 [.slice a0a a0n a0k] H = some r := by
  refine KR.enter (fn := Try.f54) (c := B) (by kernel_rfl) (by kernel_rfl) ?_
  exact KR.run 13 [(0, .slice a0a a0n a0k), (5, .slice a0a a0n a0k), (6, .int .i64 ((a0n : Nat) : Int)), (7, .int .i64 0)] 26 (s' := (.lp (sub B [1, 0, 1, 0, 0]) :: S1)) (by kernel_rfl) h
end F54
/-! #### 55 slices.Clone[[]int,int] -/
namespace F55
noncomputable def B : Code := bodyOf Try.f55
noncomputable def S0 : List It := (.code (sub B [1, 1]) :: [])
noncomputable def S2 : List It := (.code (sub B [1, 1, 1]) :: [])
noncomputable def S1 : List It := (.code (sub B [1, 0, 1]) :: S0)
theorem call {a0a : Option Addr} {a0n : Nat} {a0k : Nat} {H : Heap} {r : Value × Heap} (h :
    if (Option.isNone a0a) = true then
    (r = (.slice none 0 0, H))
    else
    (∃ (H_1 : Heap), H_1 = H.push (.row [] true) ∧
    (∃ (t7a : Option Addr) (t7n : Nat) (t7k : Nat) (H_2 : Heap), papp H_1 1 8 (some ⟨H.next, 0, none⟩) 0 (UNK 1) a0a a0n a0k = some ((t7a, t7n, t7k), H_2) ∧
    (r = (.slice t7a t7n t7k, H_2))))) :
    xC Try.prog good 55 [.slice a0a a0n a0k] H = some r := by
  refine KR.enter (fn := Try.f55) (c := B) (by kernel_rfl) (by kernel_rfl) ?_
  refine KR.run 8 [(0, .slice a0a a0n a0k), (3, .slice a0a a0n a0k)] 8 (s' := (.reg (opsAt (sub B [1, 0, 0])) [1] :: S1)) (by kernel_rfl) fun J => ?_
  refine KR.p (one_nl false a0a (by kernel_rfl)) ?_
  refine KR.run 1 [(0, .slice a0a a0n a0k), (4, .bool (Option.isNone a0a))] 8 (s' := (.code (sub B [1, 0, 1]) :: S0)) (by kernel_rfl) fun J => ?_
  by_cases c2 : (Option.isNone a0a) = true
  · replace h := iteT c2 h
    refine KR.br true (by kernel_rfl) (vB (bT c2)) ?_
    refine KR.run 4 [(2, .slice none 0 0)] 8 (s' := (.code (sub B [1, 0, 1, 0, 1]) :: S0)) (by kernel_rfl) fun J => ?_
    exact KR.fin (by kernel_rfl) h
  · replace h := iteF c2 h
    refine KR.br false (by kernel_rfl) (vB (bF c2)) ?_
    refine KR.run 3 [(0, .slice a0a a0n a0k)] 8 (s' := (.reg (opsAt (sub B [1, 1, 0])) [0, 1, 2, 3] :: S2)) (by kernel_rfl) fun J => ?_
    obtain ⟨H_1, q3, h⟩ := h
    refine KR.mk (w := sRow 0 1 []) (one_al (by kernel_rfl)) q3 ?_
    refine KR.run 1 [(5, .slice (some ⟨H.next, 0, none⟩) 0 (UNK 1)), (6, .slice a0a a0n a0k)] 8 (s' := (.reg (opsAt (sub B [1, 1, 0])) [2, 3] :: S2)) (by kernel_rfl) fun J => ?_
    obtain ⟨t7a, t7n, t7k, H_2, q4, h⟩ := h
    refine KR.se (one_ap 1 8 (by kernel_rfl) q4) ?_
    refine KR.run 2 [(2, .slice t7a t7n t7k)] 8 (s' := (.code (sub B [1, 1, 1]) :: [])) (by kernel_rfl) fun J => ?_
    exact KR.fin (by kernel_rfl) h
end F55
/-! #### 56 slices.Reverse[[]int,int] -/
namespace F56
noncomputable def B : Code := bodyOf Try.f56
noncomputable def S0 : List It := (.blk 0 :: [])
noncomputable def S1 : List It := (.lp (sub B [1, 0, 0]) :: S0)
noncomputable def S2 : List It := (.code (sub B [1, 0, 0, 1]) :: S1)
noncomputable def S3 : List It := (.code (sub B [1, 0, 0, 1, 1]) :: S1)
noncomputable def S4 : List It := (.blk 1 :: S3)
def L0 (t0a : Option Addr) (t0n : Nat) (t0k : Nat) (t2 : Int) (t3 : Int) (H : Heap) (r : Value × Heap) : Prop := ∀ J, KR Try.prog good Try.f56 S1 (mat J 28 [(0, .slice t0a t0n t0k), (2, .int .i64 t2), (3, .int .i64 t3)]) H r
theorem L0_step {t0a : Option Addr} {t0n : Nat} {t0k : Nat} {t2 : Int} {t3 : Int} {H : Heap} {r : Value × Heap} (h :
    if t2 < t3 then
    (∃ (t0ab t0ao : Nat), t0a = some ⟨t0ab, t0ao, none⟩ ∧
    ((0 : Int) ≤ t3 ∧ t3 < ((t0n : Nat) : Int) ∧
    (∃ (t21 : Int), ldc H t0ab (t0ao + Int.toNat t3 * 1) = some (.int .i64 t21) ∧
    ((0 : Int) ≤ t2 ∧ t2 < ((t0n : Nat) : Int) ∧
    (∃ (t25 : Int), ldc H t0ab (t0ao + Int.toNat t2 * 1) = some (.int .i64 t25) ∧
    ((0 : Int) ≤ t2 ∧ t2 < ((t0n : Nat) : Int) ∧
    (∃ (H_1 : Heap), stc H t0ab (t0ao + Int.toNat t2 * 1) [.int .i64 t21] = some H_1 ∧
    ((0 : Int) ≤ t3 ∧ t3 < ((t0n : Nat) : Int) ∧
    (∃ (H_2 : Heap), stc H_1 t0ab (t0ao + Int.toNat t3 * 1) [.int .i64 t25] = some H_2 ∧
    (L0 ((some ⟨t0ab, t0ao, none⟩)) (t0n) (t0k) ((IntKind.wrap .i64 (t2 + 1))) ((IntKind.wrap .i64 (t3 - 1))) H_2 r))))))))))
    else
    (r = (.tuple #[], H))) :
    L0 t0a t0n t0k t2 t3 H r := by
  intro J
  show KR _ _ _ (.lp (sub B [1, 0, 0]) :: S0) _ _ _
  refine KR.run 8 [(0, .slice t0a t0n t0k), (2, .int .i64 t2), (3, .int .i64 t3), (9, .bool (decide (t2 < t3)))] 28 (s' := (.code (sub B [1, 0, 0, 0, 1]) :: S2)) (by kernel_rfl) fun J => ?_
  by_cases c1 : t2 < t3
  · replace h := iteT c1 h
    refine KR.br true (by kernel_rfl) (vB (dT c1)) ?_
    refine KR.run 3 [(0, .slice t0a t0n t0k), (2, .int .i64 t2), (3, .int .i64 t3)] 28 (s' := (.code (sub B [1, 0, 0, 1, 0, 0]) :: S4)) (by kernel_rfl) fun J => ?_
    refine KR.sd (by kernel_rfl) ?_
    obtain ⟨t0ab, t0ao, rfl, h⟩ := h
    refine KR.run 6 [(0, .slice (some ⟨t0ab, t0ao, none⟩) t0n t0k), (2, .int .i64 t2), (3, .int .i64 t3), (14, .slice (some ⟨t0ab, t0ao, none⟩) t0n t0k), (15, .int .i64 t2), (16, .slice (some ⟨t0ab, t0ao, none⟩) t0n t0k), (17, .int .i64 t3), (18, .slice (some ⟨t0ab, t0ao, none⟩) t0n t0k), (19, .int .i64 t3)] 28 (s' := (.reg (opsAt (sub B [1, 0, 0, 1, 0, 0])) [6, 7, 8, 9, 10, 11, 12, 13, 14, 15] :: S4)) (by kernel_rfl) fun J => ?_
    obtain ⟨q2, q2x, h⟩ := h
    refine KR.p (one_ix 1 t0ab t0ao (by kernel_rfl) q2 q2x) ?_
    obtain ⟨t21, q3, h⟩ := h
    refine KR.rd (one_ld (by kernel_rfl) q3) ?_
    refine KR.run 2 [(0, .slice (some ⟨t0ab, t0ao, none⟩) t0n t0k), (2, .int .i64 t2), (3, .int .i64 t3), (14, .slice (some ⟨t0ab, t0ao, none⟩) t0n t0k), (15, .int .i64 t2), (16, .slice (some ⟨t0ab, t0ao, none⟩) t0n t0k), (17, .int .i64 t3), (21, .int .i64 t21), (22, .slice (some ⟨t0ab, t0ao, none⟩) t0n t0k), (23, .int .i64 t2)] 28 (s' := (.reg (opsAt (sub B [1, 0, 0, 1, 0, 0])) [10, 11, 12, 13, 14, 15] :: S4)) (by kernel_rfl) fun J => ?_
    obtain ⟨q4, q4x, h⟩ := h
    refine KR.p (one_ix 1 t0ab t0ao (by kernel_rfl) q4 q4x) ?_
    obtain ⟨t25, q5, h⟩ := h
    refine KR.rd (one_ld (by kernel_rfl) q5) ?_
    obtain ⟨q6, q6x, h⟩ := h
    refine KR.p (one_ix 1 t0ab t0ao (by kernel_rfl) q6 q6x) ?_
    obtain ⟨H_1, q7, h⟩ := h
    refine KR.se (one_st (by kernel_rfl) q7) ?_
    obtain ⟨q8, q8x, h⟩ := h
    refine KR.p (one_ix 1 t0ab t0ao (by kernel_rfl) q8 q8x) ?_
    obtain ⟨H_2, q9, h⟩ := h
    refine KR.se (one_st (by kernel_rfl) q9) ?_
    exact KR.run 10 [(0, .slice (some ⟨t0ab, t0ao, none⟩) t0n t0k), (2, .int .i64 (IntKind.wrap .i64 (t2 + 1))), (3, .int .i64 (IntKind.wrap .i64 (t3 - 1)))] 28 (s' := (.lp (sub B [1, 0, 0]) :: S0)) (by kernel_rfl) h
  · replace h := iteF c1 h
    refine KR.br false (by kernel_rfl) (vB (dF c1)) ?_
    refine KR.run 1 [] 28 (s' := []) (by kernel_rfl) fun J => ?_
    exact KR.fin0 (by kernel_rfl) h
theorem call {a0a : Option Addr} {a0n : Nat} {a0k : Nat} {H : Heap} {r : Value × Heap} (h :
    L0 (a0a) (a0n) (a0k) 0 ((IntKind.wrap .i64 (((a0n : Nat) : Int) - 1))) H r) :
    xC Try.prog good 56 [.slice a0a a0n a0k] H = some r := by
  refine KR.enter (fn := Try.f56) (c := B) (by kernel_rfl) (by kernel_rfl) ?_
  exact KR.run 10 [(0, .slice a0a a0n a0k), (2, .int .i64 0), (3, .int .i64 (IntKind.wrap .i64 (((a0n : Nat) : Int) - 1)))] 28 (s' := (.lp (sub B [1, 0, 0]) :: S0)) (by kernel_rfl) h
end F56
/-! #### 57 campanile/campanileref1.Node -/
namespace F57
noncomputable def B : Code := bodyOf Try.f57
noncomputable def S0 : List It := (.code (sub B [1, 1]) :: [])
theorem call {a0 : Int} {H : Heap} {r : Value × Heap} (h :
    if a0 ≥ 0 then
    (r = (.bool (decide (a0 < 16)), H))
    else
    (r = (.bool false, H))) :
    xC Try.prog good 57 [.int .i64 a0] H = some r := by
  refine KR.enter (fn := Try.f57) (c := B) (by kernel_rfl) (by kernel_rfl) ?_
  refine KR.run 9 [(0, .int .i64 a0), (5, .bool (decide (a0 ≥ 0)))] 9 (s' := (.reg (opsAt (sub B [1, 0])) [3, 4, 5, 6] :: S0)) (by kernel_rfl) fun J => ?_
  by_cases c1 : a0 ≥ 0
  · replace h := iteT c1 h
    refine KR.setV 5 (by kernel_rfl) (dT c1) ?_
    refine KR.run 5 [(2, .bool (decide (a0 < 16)))] 9 (s' := (.code (sub B [1, 1]) :: [])) (by kernel_rfl) fun J => ?_
    exact KR.fin (by kernel_rfl) h
  · replace h := iteF c1 h
    refine KR.setV 5 (by kernel_rfl) (dF c1) ?_
    refine KR.run 5 [(2, .bool false)] 9 (s' := (.code (sub B [1, 1]) :: [])) (by kernel_rfl) fun J => ?_
    exact KR.fin (by kernel_rfl) h
end F57
/-! #### 58 campanile/route.step -/
namespace F58
noncomputable def B : Code := bodyOf Try.f58
noncomputable def S0 : List It := (.code (sub B [1]) :: [])
noncomputable def S1 : List It := (.code (sub B [1, 1]) :: [])
noncomputable def S7 : List It := (.code (sub B [1, 1, 1]) :: [])
noncomputable def S8 : List It := (.code (sub B [1, 1, 1, 1]) :: [])
noncomputable def S9 : List It := (.code (sub B [1, 1, 1, 1, 1]) :: [])
noncomputable def S2 : List It := (.blk 0 :: S1)
noncomputable def S3 : List It := (.code (sub B [1, 0, 0, 1]) :: S2)
noncomputable def S4 : List It := (.code (sub B [1, 0, 0, 1, 0, 1]) :: S2)
noncomputable def S5 : List It := (.code (sub B [1, 0, 0, 1, 1, 1]) :: S2)
noncomputable def S6 : List It := (.code (sub B [1, 0, 0, 1, 1, 1, 0, 1]) :: S2)
def L0 (t2b : Nat) (t2o : Nat) (t4b : Nat) (t4o : Nat) (t6 : Bool) (H : Heap) (r : Value × Heap) : Prop := ∀ J, KR Try.prog good Try.f58 S3 (mat J 28 [(2, .pointer (some ⟨t2b, t2o, none⟩)), (4, .pointer (some ⟨t4b, t4o, none⟩)), (6, .bool t6)]) H r
theorem L0_step {t2b : Nat} {t2o : Nat} {t4b : Nat} {t4o : Nat} {t6 : Bool} {H : Heap} {r : Value × Heap} (h :
    if t6 = true then
    (∃ (H_1 : Heap), stc H t4b t4o [.int .i64 0, .int .i64 0, .int .i64 0, .int .i64 0, .slice none 0 0, .slice none 0 0] = some H_1 ∧
    (∃ (r4c0 : Int) (r4c1 : Int) (r4c2 : Int) (r4c3 : Int) (r4c4a : Option Addr) (r4c4n : Nat) (r4c4k : Nat) (r4c5a : Option Addr) (r4c5n : Nat) (r4c5k : Nat), ldAll H_1 t4b t4o [.int .i64 r4c0, .int .i64 r4c1, .int .i64 r4c2, .int .i64 r4c3, .slice r4c4a r4c4n r4c4k, .slice r4c5a r4c5n r4c5k] ∧
    (r = (.tuple #[.agg #[.int .i64 r4c0, .int .i64 r4c1, .int .i64 r4c2, .int .i64 r4c3, .slice r4c4a r4c4n r4c4k, .slice r4c5a r4c5n r4c5k], .int .i64 1], H_1))))
    else
    (∃ (t18 : Int), ldc H t2b (t2o + 3) = some (.int .i64 t18) ∧
    (if t18 = 0 then
    (∃ (H_2 : Heap), stc H t4b t4o [.int .i64 0, .int .i64 0, .int .i64 0, .int .i64 0, .slice none 0 0, .slice none 0 0] = some H_2 ∧
    (∃ (r4c0_1 : Int) (r4c1_1 : Int) (r4c2_1 : Int) (r4c3_1 : Int) (r4c4a_1 : Option Addr) (r4c4n_1 : Nat) (r4c4k_1 : Nat) (r4c5a_1 : Option Addr) (r4c5n_1 : Nat) (r4c5k_1 : Nat), ldAll H_2 t4b t4o [.int .i64 r4c0_1, .int .i64 r4c1_1, .int .i64 r4c2_1, .int .i64 r4c3_1, .slice r4c4a_1 r4c4n_1 r4c4k_1, .slice r4c5a_1 r4c5n_1 r4c5k_1] ∧
    (r = (.tuple #[.agg #[.int .i64 r4c0_1, .int .i64 r4c1_1, .int .i64 r4c2_1, .int .i64 r4c3_1, .slice r4c4a_1 r4c4n_1 r4c4k_1, .slice r4c5a_1 r4c5n_1 r4c5k_1], .int .i64 11], H_2))))
    else
    (∃ (t21c0 : Int) (t21c1 : Int) (t21c2 : Int) (t21c3 : Int) (t21c4a : Option Addr) (t21c4n : Nat) (t21c4k : Nat) (t21c5a : Option Addr) (t21c5n : Nat) (t21c5k : Nat), ldAll H t2b t2o [.int .i64 t21c0, .int .i64 t21c1, .int .i64 t21c2, .int .i64 t21c3, .slice t21c4a t21c4n t21c4k, .slice t21c5a t21c5n t21c5k] ∧
    (∃ (t22c0 : Int) (t22c1 : Int) (t22c2 : Int) (t22c3 : Int) (t22c4a : Option Addr) (t22c4n : Nat) (t22c4k : Nat) (t22c5a : Option Addr) (t22c5n : Nat) (t22c5k : Nat) (H_3 : Heap), xC Try.prog good 76 [.agg #[.int .i64 t21c0, .int .i64 t21c1, .int .i64 t21c2, .int .i64 t21c3, .slice t21c4a t21c4n t21c4k, .slice t21c5a t21c5n t21c5k]] H = some (.agg #[.int .i64 t22c0, .int .i64 t22c1, .int .i64 t22c2, .int .i64 t22c3, .slice t22c4a t22c4n t22c4k, .slice t22c5a t22c5n t22c5k], H_3) ∧
    (∃ (H_4 : Heap), stc H_3 t2b t2o [.int .i64 t22c0, .int .i64 t22c1, .int .i64 t22c2, .int .i64 t22c3, .slice t22c4a t22c4n t22c4k, .slice t22c5a t22c5n t22c5k] = some H_4 ∧
    (∃ (t24 : Int), ldc H_4 t2b (t2o + 3) = some (.int .i64 t24) ∧
    (∃ (H_5 : Heap), stc H_4 t2b (t2o + 3) [.int .i64 (IntKind.wrap .i64 (t24 - 1))] = some H_5 ∧
    (∃ (t27c0 : Int) (t27c1 : Int) (t27c2 : Int) (t27c3 : Int) (t27c4a : Option Addr) (t27c4n : Nat) (t27c4k : Nat) (t27c5a : Option Addr) (t27c5n : Nat) (t27c5k : Nat), ldAll H_5 t2b t2o [.int .i64 t27c0, .int .i64 t27c1, .int .i64 t27c2, .int .i64 t27c3, .slice t27c4a t27c4n t27c4k, .slice t27c5a t27c5n t27c5k] ∧
    (∃ (H_6 : Heap), stc H_5 t4b t4o [.int .i64 t27c0, .int .i64 t27c1, .int .i64 t27c2, .int .i64 t27c3, .slice t27c4a t27c4n t27c4k, .slice t27c5a t27c5n t27c5k] = some H_6 ∧
    (∃ (r4c0_2 : Int) (r4c1_2 : Int) (r4c2_2 : Int) (r4c3_2 : Int) (r4c4a_2 : Option Addr) (r4c4n_2 : Nat) (r4c4k_2 : Nat) (r4c5a_2 : Option Addr) (r4c5n_2 : Nat) (r4c5k_2 : Nat), ldAll H_6 t4b t4o [.int .i64 r4c0_2, .int .i64 r4c1_2, .int .i64 r4c2_2, .int .i64 r4c3_2, .slice r4c4a_2 r4c4n_2 r4c4k_2, .slice r4c5a_2 r4c5n_2 r4c5k_2] ∧
    (r = (.tuple #[.agg #[.int .i64 r4c0_2, .int .i64 r4c1_2, .int .i64 r4c2_2, .int .i64 r4c3_2, .slice r4c4a_2 r4c4n_2 r4c4k_2, .slice r4c5a_2 r4c5n_2 r4c5k_2], .int .i64 0], H_6))))))))))))) :
    L0 t2b t2o t4b t4o t6 H r := by
  intro J
  show KR _ _ _ (.code (sub B [1, 0, 0, 1]) :: S2) _ _ _
  by_cases c7 : t6 = true
  · replace h := iteT c7 h
    refine KR.br true (by kernel_rfl) (vB (bT c7)) ?_
    refine KR.run 3 [(4, .pointer (some ⟨t4b, t4o, none⟩)), (15, .agg #[.int .i64 0, .int .i64 0, .int .i64 0, .int .i64 0, .slice none 0 0, .slice none 0 0])] 28 (s' := (.reg (opsAt (sub B [1, 0, 0, 1, 0, 0])) [1, 2] :: S4)) (by kernel_rfl) fun J => ?_
    obtain ⟨H_1, q8, h⟩ := h
    refine KR.se (one_st (by kernel_rfl) q8) ?_
    refine KR.run 2 [(4, .pointer (some ⟨t4b, t4o, none⟩)), (5, .int .i64 1)] 28 (s' := (.code (sub B [1, 0, 0, 1, 0, 1]) :: S2)) (by kernel_rfl) fun J => ?_
    obtain ⟨r4c0, r4c1, r4c2, r4c3, r4c4a, r4c4n, r4c4k, r4c5a, r4c5n, r4c5k, q9, h⟩ := h
    exact KR.finR (l := [.cell 4 41, .tmp 5]) (vs := [.agg #[.int .i64 r4c0, .int .i64 r4c1, .int .i64 r4c2, .int .i64 r4c3, .slice r4c4a r4c4n r4c4k, .slice r4c5a r4c5n r4c5k], .int .i64 1]) (by kernel_rfl) (Res.cellA (by kernel_rfl) q9 (Res.tmp (by kernel_rfl) Res.nil)) (by kernel_rfl) h
  · replace h := iteF c7 h
    refine KR.br false (by kernel_rfl) (vB (bF c7)) ?_
    refine KR.run 3 [(2, .pointer (some ⟨t2b, t2o, none⟩)), (4, .pointer (some ⟨t4b, t4o, none⟩)), (17, .pointer (some ⟨t2b, (t2o + 3), none⟩))] 28 (s' := (.reg (opsAt (sub B [1, 0, 0, 1, 1, 0])) [1, 2, 3] :: S5)) (by kernel_rfl) fun J => ?_
    obtain ⟨t18, q10, h⟩ := h
    refine KR.rd (one_ld (by kernel_rfl) q10) ?_
    refine KR.run 3 [(2, .pointer (some ⟨t2b, t2o, none⟩)), (4, .pointer (some ⟨t4b, t4o, none⟩)), (16, .bool (t18 == 0))] 28 (s' := (.code (sub B [1, 0, 0, 1, 1, 1]) :: S2)) (by kernel_rfl) fun J => ?_
    by_cases c11 : t18 = 0
    · replace h := iteT c11 h
      refine KR.br true (by kernel_rfl) (vB (eT c11)) ?_
      refine KR.run 3 [(4, .pointer (some ⟨t4b, t4o, none⟩)), (20, .agg #[.int .i64 0, .int .i64 0, .int .i64 0, .int .i64 0, .slice none 0 0, .slice none 0 0])] 28 (s' := (.reg (opsAt (sub B [1, 0, 0, 1, 1, 1, 0, 0])) [1, 2] :: S6)) (by kernel_rfl) fun J => ?_
      obtain ⟨H_2, q12, h⟩ := h
      refine KR.se (one_st (by kernel_rfl) q12) ?_
      refine KR.run 2 [(4, .pointer (some ⟨t4b, t4o, none⟩)), (5, .int .i64 11)] 28 (s' := (.code (sub B [1, 0, 0, 1, 1, 1, 0, 1]) :: S2)) (by kernel_rfl) fun J => ?_
      obtain ⟨r4c0_1, r4c1_1, r4c2_1, r4c3_1, r4c4a_1, r4c4n_1, r4c4k_1, r4c5a_1, r4c5n_1, r4c5k_1, q13, h⟩ := h
      exact KR.finR (l := [.cell 4 41, .tmp 5]) (vs := [.agg #[.int .i64 r4c0_1, .int .i64 r4c1_1, .int .i64 r4c2_1, .int .i64 r4c3_1, .slice r4c4a_1 r4c4n_1 r4c4k_1, .slice r4c5a_1 r4c5n_1 r4c5k_1], .int .i64 11]) (by kernel_rfl) (Res.cellA (by kernel_rfl) q13 (Res.tmp (by kernel_rfl) Res.nil)) (by kernel_rfl) h
    · replace h := iteF c11 h
      refine KR.br false (by kernel_rfl) (vB (eF c11)) ?_
      refine KR.run 4 [(2, .pointer (some ⟨t2b, t2o, none⟩)), (4, .pointer (some ⟨t4b, t4o, none⟩))] 28 (s' := (.reg (opsAt (sub B [1, 1, 0])) [0, 1, 2] :: S7)) (by kernel_rfl) fun J => ?_
      obtain ⟨t21c0, t21c1, t21c2, t21c3, t21c4a, t21c4n, t21c4k, t21c5a, t21c5n, t21c5k, q14, h⟩ := h
      refine KR.rd (one_ldA (by kernel_rfl) q14) ?_
      obtain ⟨t22c0, t22c1, t22c2, t22c3, t22c4a, t22c4n, t22c4k, t22c5a, t22c5n, t22c5k, H_3, q15, h⟩ := h
      refine KR.se (one_ca (by kernel_rfl) q15) ?_
      obtain ⟨H_4, q16, h⟩ := h
      refine KR.se (one_st (by kernel_rfl) q16) ?_
      refine KR.run 4 [(2, .pointer (some ⟨t2b, t2o, none⟩)), (4, .pointer (some ⟨t4b, t4o, none⟩)), (23, .pointer (some ⟨t2b, (t2o + 3), none⟩))] 28 (s' := (.reg (opsAt (sub B [1, 1, 1, 0])) [1, 2, 3, 4] :: S8)) (by kernel_rfl) fun J => ?_
      obtain ⟨t24, q17, h⟩ := h
      refine KR.rd (one_ld (by kernel_rfl) q17) ?_
      refine KR.run 2 [(2, .pointer (some ⟨t2b, t2o, none⟩)), (4, .pointer (some ⟨t4b, t4o, none⟩)), (25, .int .i64 (IntKind.wrap .i64 (t24 - 1))), (26, .pointer (some ⟨t2b, (t2o + 3), none⟩))] 28 (s' := (.reg (opsAt (sub B [1, 1, 1, 0])) [4] :: S8)) (by kernel_rfl) fun J => ?_
      obtain ⟨H_5, q18, h⟩ := h
      refine KR.se (one_st (by kernel_rfl) q18) ?_
      refine KR.run 3 [(2, .pointer (some ⟨t2b, t2o, none⟩)), (4, .pointer (some ⟨t4b, t4o, none⟩))] 28 (s' := (.reg (opsAt (sub B [1, 1, 1, 1, 0])) [0, 1, 2] :: S9)) (by kernel_rfl) fun J => ?_
      obtain ⟨t27c0, t27c1, t27c2, t27c3, t27c4a, t27c4n, t27c4k, t27c5a, t27c5n, t27c5k, q19, h⟩ := h
      refine KR.rd (one_ldA (by kernel_rfl) q19) ?_
      obtain ⟨H_6, q20, h⟩ := h
      refine KR.se (one_st (by kernel_rfl) q20) ?_
      refine KR.run 2 [(4, .pointer (some ⟨t4b, t4o, none⟩)), (5, .int .i64 0)] 28 (s' := (.code (sub B [1, 1, 1, 1, 1]) :: [])) (by kernel_rfl) fun J => ?_
      obtain ⟨r4c0_2, r4c1_2, r4c2_2, r4c3_2, r4c4a_2, r4c4n_2, r4c4k_2, r4c5a_2, r4c5n_2, r4c5k_2, q21, h⟩ := h
      exact KR.finR (l := [.cell 4 41, .tmp 5]) (vs := [.agg #[.int .i64 r4c0_2, .int .i64 r4c1_2, .int .i64 r4c2_2, .int .i64 r4c3_2, .slice r4c4a_2 r4c4n_2 r4c4k_2, .slice r4c5a_2 r4c5n_2 r4c5k_2], .int .i64 0]) (by kernel_rfl) (Res.cellA (by kernel_rfl) q21 (Res.tmp (by kernel_rfl) Res.nil)) (by kernel_rfl) h
theorem call {a0c0 : Int} {a0c1 : Int} {a0c2 : Int} {a0c3 : Int} {a0c4a : Option Addr} {a0c4n : Nat} {a0c4k : Nat} {a0c5a : Option Addr} {a0c5n : Nat} {a0c5k : Nat} {a1 : Int} {H : Heap} {r : Value × Heap} (h :
    ∃ (H_1 : Heap), H_1 = H.push (.row [.int .i64 a0c0, .int .i64 a0c1, .int .i64 a0c2, .int .i64 a0c3, .slice a0c4a a0c4n a0c4k, .slice a0c5a a0c5n a0c5k] true) ∧
    (∃ (H_2 : Heap), H_2 = H_1.push (.row [.int .i64 0, .int .i64 0, .int .i64 0, .int .i64 0, .slice none 0 0, .slice none 0 0] true) ∧
    (∃ (t7c0 : Int) (t7c1 : Int) (t7c2 : Int) (t7c3 : Int) (t7c4a : Option Addr) (t7c4n : Nat) (t7c4k : Nat) (t7c5a : Option Addr) (t7c5n : Nat) (t7c5k : Nat), ldAll H_2 H.next 0 [.int .i64 t7c0, .int .i64 t7c1, .int .i64 t7c2, .int .i64 t7c3, .slice t7c4a t7c4n t7c4k, .slice t7c5a t7c5n t7c5k] ∧
    (∃ (t8 : Bool) (H_3 : Heap), xC Try.prog good 28 [.agg #[.int .i64 t7c0, .int .i64 t7c1, .int .i64 t7c2, .int .i64 t7c3, .slice t7c4a t7c4n t7c4k, .slice t7c5a t7c5n t7c5k]] H_2 = some (.bool t8, H_3) ∧
    (if t8 = true then
    (∃ (t12 : Bool) (H_4 : Heap), xC Try.prog good 61 [.int .i64 a1] H_3 = some (.bool t12, H_4) ∧
    (L0 (H.next) (0) (H_1.next) (0) ((!t12)) H_4 r))
    else
    (L0 (H.next) (0) (H_1.next) (0) (true) H_3 r)))))) :
    xC Try.prog good 58 [.agg #[.int .i64 a0c0, .int .i64 a0c1, .int .i64 a0c2, .int .i64 a0c3, .slice a0c4a a0c4n a0c4k, .slice a0c5a a0c5n a0c5k], .int .i64 a1] H = some r := by
  refine KR.enter (fn := Try.f58) (c := B) (by kernel_rfl) (by kernel_rfl) ?_
  refine KR.run 2 [(0, .agg #[.int .i64 a0c0, .int .i64 a0c1, .int .i64 a0c2, .int .i64 a0c3, .slice a0c4a a0c4n a0c4k, .slice a0c5a a0c5n a0c5k]), (1, .int .i64 a1)] 28 (s' := (.reg (opsAt (sub B [0])) [0, 1, 2] :: S0)) (by kernel_rfl) fun J => ?_
  obtain ⟨H_1, q1, h⟩ := h
  refine KR.mk (w := pRow [.int .i64 a0c0, .int .i64 a0c1, .int .i64 a0c2, .int .i64 a0c3, .slice a0c4a a0c4n a0c4k, .slice a0c5a a0c5n a0c5k]) (one_al (by kernel_rfl)) q1 ?_
  obtain ⟨H_2, q2, h⟩ := h
  refine KR.mk (w := pRow [.int .i64 0, .int .i64 0, .int .i64 0, .int .i64 0, .slice none 0 0, .slice none 0 0]) (one_al (by kernel_rfl)) q2 ?_
  refine KR.run 6 [(1, .int .i64 a1), (2, .pointer (some ⟨H.next, 0, none⟩)), (4, .pointer (some ⟨H_1.next, 0, none⟩))] 28 (s' := (.reg (opsAt (sub B [1, 0, 0, 0])) [0, 1, 2, 3, 4, 5, 6, 7, 8] :: S3)) (by kernel_rfl) fun J => ?_
  obtain ⟨t7c0, t7c1, t7c2, t7c3, t7c4a, t7c4n, t7c4k, t7c5a, t7c5n, t7c5k, q3, h⟩ := h
  refine KR.rd (one_ldA (by kernel_rfl) q3) ?_
  obtain ⟨t8, H_3, q4, h⟩ := h
  refine KR.se (one_ca (by kernel_rfl) q4) ?_
  refine KR.run 2 [(1, .int .i64 a1), (2, .pointer (some ⟨H.next, 0, none⟩)), (4, .pointer (some ⟨H_1.next, 0, none⟩)), (10, .bool (!t8))] 28 (s' := (.reg (opsAt (sub B [1, 0, 0, 0])) [4, 5, 6, 7, 8] :: S3)) (by kernel_rfl) fun J => ?_
  by_cases c5 : t8 = true
  · replace h := iteT c5 h
    refine KR.setV 10 (by kernel_rfl) (nB (bT c5)) ?_
    refine KR.run 1 [(2, .pointer (some ⟨H.next, 0, none⟩)), (4, .pointer (some ⟨H_1.next, 0, none⟩)), (10, .bool false), (11, .int .i64 a1)] 28 (s' := (.reg (opsAt (sub B [1, 0, 0, 0])) [5, 6, 7, 8] :: S3)) (by kernel_rfl) fun J => ?_
    obtain ⟨t12, H_4, q6, h⟩ := h
    refine KR.se (one_ca (by kernel_rfl) q6) ?_
    exact KR.run 4 [(2, .pointer (some ⟨H.next, 0, none⟩)), (4, .pointer (some ⟨H_1.next, 0, none⟩)), (6, .bool (!t12))] 28 (s' := (.code (sub B [1, 0, 0, 1]) :: S2)) (by kernel_rfl) h
  · replace h := iteF c5 h
    refine KR.setV 10 (by kernel_rfl) (nB (bF c5)) ?_
    exact KR.run 6 [(2, .pointer (some ⟨H.next, 0, none⟩)), (4, .pointer (some ⟨H_1.next, 0, none⟩)), (6, .bool true)] 28 (s' := (.code (sub B [1, 0, 0, 1]) :: S2)) (by kernel_rfl) h
end F58
/-! #### 59 slices.Contains[[]int,int] -/
namespace F59
noncomputable def B : Code := bodyOf Try.f59
noncomputable def S0 : List It := (.code (sub B [1, 1]) :: [])
theorem call {a0a : Option Addr} {a0n : Nat} {a0k : Nat} {a1 : Int} {H : Heap} {r : Value × Heap} (h :
    ∃ (t7 : Int) (H_1 : Heap), xC Try.prog good 60 [.slice a0a a0n a0k, .int .i64 a1] H = some (.int .i64 t7, H_1) ∧
    (r = (.bool (decide (t7 ≥ 0)), H_1))) :
    xC Try.prog good 59 [.slice a0a a0n a0k, .int .i64 a1] H = some r := by
  refine KR.enter (fn := Try.f59) (c := B) (by kernel_rfl) (by kernel_rfl) ?_
  refine KR.run 8 [(5, .slice a0a a0n a0k), (6, .int .i64 a1)] 9 (s' := (.reg (opsAt (sub B [1, 0])) [2, 3, 4] :: S0)) (by kernel_rfl) fun J => ?_
  obtain ⟨t7, H_1, q1, h⟩ := h
  refine KR.se (one_ca (by kernel_rfl) q1) ?_
  refine KR.run 3 [(4, .bool (decide (t7 ≥ 0)))] 9 (s' := (.code (sub B [1, 1]) :: [])) (by kernel_rfl) fun J => ?_
  exact KR.fin (by kernel_rfl) h
end F59
/-! #### 60 slices.Index[[]int,int] -/
namespace F60
noncomputable def B : Code := bodyOf Try.f60
noncomputable def S0 : List It := (.code (sub B [1, 1]) :: [])
noncomputable def S1 : List It := (.blk 0 :: S0)
noncomputable def S2 : List It := (.lp (sub B [1, 0, 1, 0, 0]) :: S1)
noncomputable def S3 : List It := (.code (sub B [1, 0, 1, 0, 0, 1, 1]) :: S2)
noncomputable def S4 : List It := (.code (sub B [1, 0, 1, 0, 0, 1, 1, 1]) :: S2)
noncomputable def S5 : List It := (.blk 1 :: S4)
noncomputable def S6 : List It := (.code (sub B [1, 0, 1, 0, 0, 1, 1, 0, 0, 1, 1]) :: S5)
def L0 (t0a : Option Addr) (t0n : Nat) (t0k : Nat) (t1 : Int) (t7 : Int) (t8 : Int) (H : Heap) (r : Value × Heap) : Prop := ∀ J, KR Try.prog good Try.f60 S2 (mat J 19 [(0, .slice t0a t0n t0k), (1, .int .i64 t1), (7, .int .i64 t7), (8, .int .i64 t8)]) H r
theorem L0_step {t0a : Option Addr} {t0n : Nat} {t0k : Nat} {t1 : Int} {t7 : Int} {t8 : Int} {H : Heap} {r : Value × Heap} (h :
    if t8 < t7 then
    (∃ (t0ab t0ao : Nat), t0a = some ⟨t0ab, t0ao, none⟩ ∧
    ((0 : Int) ≤ t8 ∧ t8 < ((t0n : Nat) : Int) ∧
    (∃ (t15 : Int), ldc H t0ab (t0ao + Int.toNat t8 * 1) = some (.int .i64 t15) ∧
    (if t1 = t15 then
    (r = (.int .i64 t8, H))
    else
    (L0 ((some ⟨t0ab, t0ao, none⟩)) (t0n) (t0k) (t1) (t7) ((IntKind.wrap .i64 (t8 + 1))) H r)))))
    else
    (r = (.int .i64 (-1), H))) :
    L0 t0a t0n t0k t1 t7 t8 H r := by
  intro J
  show KR _ _ _ (.lp (sub B [1, 0, 1, 0, 0]) :: S1) _ _ _
  refine KR.run 6 [(0, .slice t0a t0n t0k), (1, .int .i64 t1), (7, .int .i64 t7), (8, .int .i64 t8), (9, .bool (decide (t8 < t7)))] 19 (s' := (.code (sub B [1, 0, 1, 0, 0, 1, 0]) :: S3)) (by kernel_rfl) fun J => ?_
  by_cases c1 : t8 < t7
  · replace h := iteT c1 h
    refine KR.br true (by kernel_rfl) (vB (dT c1)) ?_
    obtain ⟨t0ab, t0ao, rfl, h⟩ := h
    refine KR.run 13 [(0, .slice (some ⟨t0ab, t0ao, none⟩) t0n t0k), (1, .int .i64 t1), (5, .int .i64 t8), (7, .int .i64 t7), (8, .int .i64 t8), (11, .int .i64 t1), (12, .slice (some ⟨t0ab, t0ao, none⟩) t0n t0k), (13, .int .i64 t8)] 19 (s' := (.reg (opsAt (sub B [1, 0, 1, 0, 0, 1, 1, 0, 0, 1, 0])) [3, 4, 5] :: S6)) (by kernel_rfl) fun J => ?_
    obtain ⟨q2, q2x, h⟩ := h
    refine KR.p (one_ix 1 t0ab t0ao (by kernel_rfl) q2 q2x) ?_
    obtain ⟨t15, q3, h⟩ := h
    refine KR.rd (one_ld (by kernel_rfl) q3) ?_
    refine KR.run 2 [(0, .slice (some ⟨t0ab, t0ao, none⟩) t0n t0k), (1, .int .i64 t1), (5, .int .i64 t8), (7, .int .i64 t7), (8, .int .i64 t8), (16, .bool (t1 == t15))] 19 (s' := (.code (sub B [1, 0, 1, 0, 0, 1, 1, 0, 0, 1, 1]) :: S5)) (by kernel_rfl) fun J => ?_
    by_cases c4 : t1 = t15
    · replace h := iteT c4 h
      refine KR.br true (by kernel_rfl) (vB (eT c4)) ?_
      refine KR.run 5 [(4, .int .i64 t8)] 19 (s' := (.code (sub B [1, 0, 1, 0, 0, 1, 1, 0, 0, 1, 1, 0, 1]) :: S5)) (by kernel_rfl) fun J => ?_
      exact KR.fin (by kernel_rfl) h
    · replace h := iteF c4 h
      refine KR.br false (by kernel_rfl) (vB (eF c4)) ?_
      exact KR.run 6 [(0, .slice (some ⟨t0ab, t0ao, none⟩) t0n t0k), (1, .int .i64 t1), (7, .int .i64 t7), (8, .int .i64 (IntKind.wrap .i64 (t8 + 1)))] 19 (s' := (.lp (sub B [1, 0, 1, 0, 0]) :: S1)) (by kernel_rfl) h
  · replace h := iteF c1 h
    refine KR.br false (by kernel_rfl) (vB (dF c1)) ?_
    refine KR.run 5 [(4, .int .i64 (-1))] 19 (s' := (.code (sub B [1, 1, 1]) :: [])) (by kernel_rfl) fun J => ?_
    exact KR.fin (by kernel_rfl) h
theorem call {a0a : Option Addr} {a0n : Nat} {a0k : Nat} {a1 : Int} {H : Heap} {r : Value × Heap} (h :
    L0 (a0a) (a0n) (a0k) (a1) (((a0n : Nat) : Int)) 0 H r) :
    xC Try.prog good 60 [.slice a0a a0n a0k, .int .i64 a1] H = some r := by
  refine KR.enter (fn := Try.f60) (c := B) (by kernel_rfl) (by kernel_rfl) ?_
  exact KR.run 13 [(0, .slice a0a a0n a0k), (1, .int .i64 a1), (7, .int .i64 ((a0n : Nat) : Int)), (8, .int .i64 0)] 19 (s' := (.lp (sub B [1, 0, 1, 0, 0]) :: S1)) (by kernel_rfl) h
end F60
/-! #### 61 campanile/route.node -/
namespace F61
noncomputable def B : Code := bodyOf Try.f61
noncomputable def S0 : List It := (.code (sub B [1, 1]) :: [])
theorem call {a0 : Int} {H : Heap} {r : Value × Heap} (h :
    ∃ (t4 : Bool) (H_1 : Heap), xC Try.prog good 62 [.int .i64 a0, .int .i64 0, .int .i64 15] H = some (.bool t4, H_1) ∧
    (r = (.bool t4, H_1))) :
    xC Try.prog good 61 [.int .i64 a0] H = some r := by
  refine KR.enter (fn := Try.f61) (c := B) (by kernel_rfl) (by kernel_rfl) ?_
  refine KR.run 7 [(3, .int .i64 a0)] 5 (s' := (.reg (opsAt (sub B [1, 0])) [1, 2] :: S0)) (by kernel_rfl) fun J => ?_
  obtain ⟨t4, H_1, q1, h⟩ := h
  refine KR.se (one_ca (by kernel_rfl) q1) ?_
  refine KR.run 2 [(2, .bool t4)] 5 (s' := (.code (sub B [1, 1]) :: [])) (by kernel_rfl) fun J => ?_
  exact KR.fin (by kernel_rfl) h
end F61
/-! #### 62 campanile/route.in -/
namespace F62
noncomputable def B : Code := bodyOf Try.f62
noncomputable def S0 : List It := (.code (sub B [1, 1]) :: [])
theorem call {a0 : Int} {a1 : Int} {a2 : Int} {H : Heap} {r : Value × Heap} (h :
    if a0 ≥ a1 then
    (r = (.bool (decide (a0 ≤ a2)), H))
    else
    (r = (.bool false, H))) :
    xC Try.prog good 62 [.int .i64 a0, .int .i64 a1, .int .i64 a2] H = some r := by
  refine KR.enter (fn := Try.f62) (c := B) (by kernel_rfl) (by kernel_rfl) ?_
  refine KR.run 10 [(0, .int .i64 a0), (2, .int .i64 a2), (10, .bool (decide (a0 ≥ a1)))] 15 (s' := (.reg (opsAt (sub B [1, 0])) [4, 5, 6, 7, 8] :: S0)) (by kernel_rfl) fun J => ?_
  by_cases c1 : a0 ≥ a1
  · replace h := iteT c1 h
    refine KR.setV 10 (by kernel_rfl) (dT c1) ?_
    refine KR.run 6 [(6, .bool (decide (a0 ≤ a2)))] 15 (s' := (.code (sub B [1, 1]) :: [])) (by kernel_rfl) fun J => ?_
    exact KR.fin (by kernel_rfl) h
  · replace h := iteF c1 h
    refine KR.setV 10 (by kernel_rfl) (dF c1) ?_
    refine KR.run 6 [(6, .bool false)] 15 (s' := (.code (sub B [1, 1]) :: [])) (by kernel_rfl) fun J => ?_
    exact KR.fin (by kernel_rfl) h
end F62
/-! #### 67 slices.Equal[[]int,int] -/
namespace F67
noncomputable def B : Code := bodyOf Try.f67
noncomputable def S0 : List It := (.code (sub B [1, 1]) :: [])
noncomputable def S1 : List It := (.code (sub B [1, 1, 1]) :: [])
noncomputable def S2 : List It := (.blk 0 :: S1)
noncomputable def S3 : List It := (.lp (sub B [1, 1, 0, 1, 0, 0]) :: S2)
noncomputable def S4 : List It := (.code (sub B [1, 1, 0, 1, 0, 0, 1, 1]) :: S3)
noncomputable def S5 : List It := (.code (sub B [1, 1, 0, 1, 0, 0, 1, 1, 1]) :: S3)
noncomputable def S6 : List It := (.blk 1 :: S5)
noncomputable def S7 : List It := (.code (sub B [1, 1, 0, 1, 0, 0, 1, 1, 0, 0, 1, 1]) :: S6)
def L0 (t0a : Option Addr) (t0n : Nat) (t0k : Nat) (t1a : Option Addr) (t1n : Nat) (t1k : Nat) (t12 : Int) (t13 : Int) (H : Heap) (r : Value × Heap) : Prop := ∀ J, KR Try.prog good Try.f67 S3 (mat J 26 [(0, .slice t0a t0n t0k), (1, .slice t1a t1n t1k), (12, .int .i64 t12), (13, .int .i64 t13)]) H r
theorem L0_step {t0a : Option Addr} {t0n : Nat} {t0k : Nat} {t1a : Option Addr} {t1n : Nat} {t1k : Nat} {t12 : Int} {t13 : Int} {H : Heap} {r : Value × Heap} (h :
    if t13 < t12 then
    (∃ (t0ab t0ao : Nat), t0a = some ⟨t0ab, t0ao, none⟩ ∧
    ((0 : Int) ≤ t13 ∧ t13 < ((t0n : Nat) : Int) ∧
    (∃ (t19 : Int), ldc H t0ab (t0ao + Int.toNat t13 * 1) = some (.int .i64 t19) ∧
    (∃ (t1ab t1ao : Nat), t1a = some ⟨t1ab, t1ao, none⟩ ∧
    ((0 : Int) ≤ t13 ∧ t13 < ((t1n : Nat) : Int) ∧
    (∃ (t23 : Int), ldc H t1ab (t1ao + Int.toNat t13 * 1) = some (.int .i64 t23) ∧
    (if t19 = t23 then
    (L0 ((some ⟨t0ab, t0ao, none⟩)) (t0n) (t0k) ((some ⟨t1ab, t1ao, none⟩)) (t1n) (t1k) (t12) ((IntKind.wrap .i64 (t13 + 1))) H r)
    else
    (r = (.bool false, H)))))))))
    else
    (r = (.bool true, H))) :
    L0 t0a t0n t0k t1a t1n t1k t12 t13 H r := by
  intro J
  show KR _ _ _ (.lp (sub B [1, 1, 0, 1, 0, 0]) :: S2) _ _ _
  refine KR.run 6 [(0, .slice t0a t0n t0k), (1, .slice t1a t1n t1k), (12, .int .i64 t12), (13, .int .i64 t13), (14, .bool (decide (t13 < t12)))] 26 (s' := (.code (sub B [1, 1, 0, 1, 0, 0, 1, 0]) :: S4)) (by kernel_rfl) fun J => ?_
  by_cases c2 : t13 < t12
  · replace h := iteT c2 h
    refine KR.br true (by kernel_rfl) (vB (dT c2)) ?_
    refine KR.run 9 [(0, .slice t0a t0n t0k), (1, .slice t1a t1n t1k), (5, .int .i64 t13), (12, .int .i64 t12), (13, .int .i64 t13)] 26 (s' := (.code (sub B [1, 1, 0, 1, 0, 0, 1, 1, 0, 0, 1, 0]) :: S7)) (by kernel_rfl) fun J => ?_
    refine KR.sd (by kernel_rfl) ?_
    obtain ⟨t0ab, t0ao, rfl, h⟩ := h
    refine KR.run 2 [(0, .slice (some ⟨t0ab, t0ao, none⟩) t0n t0k), (1, .slice t1a t1n t1k), (5, .int .i64 t13), (12, .int .i64 t12), (13, .int .i64 t13), (16, .slice (some ⟨t0ab, t0ao, none⟩) t0n t0k), (17, .int .i64 t13)] 26 (s' := (.reg (opsAt (sub B [1, 1, 0, 1, 0, 0, 1, 1, 0, 0, 1, 0])) [2, 3, 4, 5, 6, 7, 8] :: S7)) (by kernel_rfl) fun J => ?_
    obtain ⟨q3, q3x, h⟩ := h
    refine KR.p (one_ix 1 t0ab t0ao (by kernel_rfl) q3 q3x) ?_
    obtain ⟨t19, q4, h⟩ := h
    refine KR.rd (one_ld (by kernel_rfl) q4) ?_
    obtain ⟨t1ab, t1ao, rfl, h⟩ := h
    refine KR.run 2 [(0, .slice (some ⟨t0ab, t0ao, none⟩) t0n t0k), (1, .slice (some ⟨t1ab, t1ao, none⟩) t1n t1k), (12, .int .i64 t12), (13, .int .i64 t13), (19, .int .i64 t19), (20, .slice (some ⟨t1ab, t1ao, none⟩) t1n t1k), (21, .int .i64 t13)] 26 (s' := (.reg (opsAt (sub B [1, 1, 0, 1, 0, 0, 1, 1, 0, 0, 1, 0])) [6, 7, 8] :: S7)) (by kernel_rfl) fun J => ?_
    obtain ⟨q5, q5x, h⟩ := h
    refine KR.p (one_ix 1 t1ab t1ao (by kernel_rfl) q5 q5x) ?_
    obtain ⟨t23, q6, h⟩ := h
    refine KR.rd (one_ld (by kernel_rfl) q6) ?_
    refine KR.run 2 [(0, .slice (some ⟨t0ab, t0ao, none⟩) t0n t0k), (1, .slice (some ⟨t1ab, t1ao, none⟩) t1n t1k), (12, .int .i64 t12), (13, .int .i64 t13), (24, .bool (!(t19 == t23)))] 26 (s' := (.code (sub B [1, 1, 0, 1, 0, 0, 1, 1, 0, 0, 1, 1]) :: S6)) (by kernel_rfl) fun J => ?_
    by_cases c7 : t19 = t23
    · replace h := iteT c7 h
      refine KR.br false (by kernel_rfl) (vB (nB (eT c7))) ?_
      exact KR.run 6 [(0, .slice (some ⟨t0ab, t0ao, none⟩) t0n t0k), (1, .slice (some ⟨t1ab, t1ao, none⟩) t1n t1k), (12, .int .i64 t12), (13, .int .i64 (IntKind.wrap .i64 (t13 + 1)))] 26 (s' := (.lp (sub B [1, 1, 0, 1, 0, 0]) :: S2)) (by kernel_rfl) h
    · replace h := iteF c7 h
      refine KR.br true (by kernel_rfl) (vB (nB (eF c7))) ?_
      refine KR.run 4 [(4, .bool false)] 26 (s' := (.code (sub B [1, 1, 0, 1, 0, 0, 1, 1, 0, 0, 1, 1, 0, 1]) :: S6)) (by kernel_rfl) fun J => ?_
      exact KR.fin (by kernel_rfl) h
  · replace h := iteF c2 h
    refine KR.br false (by kernel_rfl) (vB (dF c2)) ?_
    refine KR.run 5 [(4, .bool true)] 26 (s' := (.code (sub B [1, 1, 1, 1]) :: [])) (by kernel_rfl) fun J => ?_
    exact KR.fin (by kernel_rfl) h
theorem call {a0a : Option Addr} {a0n : Nat} {a0k : Nat} {a1a : Option Addr} {a1n : Nat} {a1k : Nat} {H : Heap} {r : Value × Heap} (h :
    if ((a0n : Nat) : Int) = ((a1n : Nat) : Int) then
    (L0 (a0a) (a0n) (a0k) (a1a) (a1n) (a1k) (((a0n : Nat) : Int)) 0 H r)
    else
    (r = (.bool false, H))) :
    xC Try.prog good 67 [.slice a0a a0n a0k, .slice a1a a1n a1k] H = some r := by
  refine KR.enter (fn := Try.f67) (c := B) (by kernel_rfl) (by kernel_rfl) ?_
  refine KR.run 13 [(0, .slice a0a a0n a0k), (1, .slice a1a a1n a1k), (10, .bool (!(((a0n : Nat) : Int) == ((a1n : Nat) : Int))))] 26 (s' := (.code (sub B [1, 0, 1]) :: S0)) (by kernel_rfl) fun J => ?_
  by_cases c1 : ((a0n : Nat) : Int) = ((a1n : Nat) : Int)
  · replace h := iteT c1 h
    refine KR.br false (by kernel_rfl) (vB (nB (eT c1))) ?_
    exact KR.run 10 [(0, .slice a0a a0n a0k), (1, .slice a1a a1n a1k), (12, .int .i64 ((a0n : Nat) : Int)), (13, .int .i64 0)] 26 (s' := (.lp (sub B [1, 1, 0, 1, 0, 0]) :: S2)) (by kernel_rfl) h
  · replace h := iteF c1 h
    refine KR.br true (by kernel_rfl) (vB (nB (eF c1))) ?_
    refine KR.run 4 [(4, .bool false)] 26 (s' := (.code (sub B [1, 0, 1, 0, 1]) :: S0)) (by kernel_rfl) fun J => ?_
    exact KR.fin (by kernel_rfl) h
end F67
/-! #### 68 slices.Equal[[]byte,byte] -/
namespace F68
noncomputable def B : Code := bodyOf Try.f68
noncomputable def S0 : List It := (.code (sub B [1, 1]) :: [])
noncomputable def S1 : List It := (.code (sub B [1, 1, 1]) :: [])
noncomputable def S2 : List It := (.blk 0 :: S1)
noncomputable def S3 : List It := (.lp (sub B [1, 1, 0, 1, 0, 0]) :: S2)
noncomputable def S4 : List It := (.code (sub B [1, 1, 0, 1, 0, 0, 1, 1]) :: S3)
noncomputable def S5 : List It := (.code (sub B [1, 1, 0, 1, 0, 0, 1, 1, 1]) :: S3)
noncomputable def S6 : List It := (.blk 1 :: S5)
noncomputable def S7 : List It := (.code (sub B [1, 1, 0, 1, 0, 0, 1, 1, 0, 0, 1, 1]) :: S6)
def L0 (t0a : Option Addr) (t0n : Nat) (t0k : Nat) (t1a : Option Addr) (t1n : Nat) (t1k : Nat) (t12 : Int) (t13 : Int) (H : Heap) (r : Value × Heap) : Prop := ∀ J, KR Try.prog good Try.f68 S3 (mat J 26 [(0, .slice t0a t0n t0k), (1, .slice t1a t1n t1k), (12, .int .i64 t12), (13, .int .i64 t13)]) H r
theorem L0_step {t0a : Option Addr} {t0n : Nat} {t0k : Nat} {t1a : Option Addr} {t1n : Nat} {t1k : Nat} {t12 : Int} {t13 : Int} {H : Heap} {r : Value × Heap} (h :
    if t13 < t12 then
    (∃ (t0ab t0ao : Nat), t0a = some ⟨t0ab, t0ao, none⟩ ∧
    ((0 : Int) ≤ t13 ∧ t13 < ((t0n : Nat) : Int) ∧
    (∃ (t19 : Int), ldc H t0ab (t0ao + Int.toNat t13 * 1) = some (.int .u8 t19) ∧
    (∃ (t1ab t1ao : Nat), t1a = some ⟨t1ab, t1ao, none⟩ ∧
    ((0 : Int) ≤ t13 ∧ t13 < ((t1n : Nat) : Int) ∧
    (∃ (t23 : Int), ldc H t1ab (t1ao + Int.toNat t13 * 1) = some (.int .u8 t23) ∧
    (if t19 = t23 then
    (L0 ((some ⟨t0ab, t0ao, none⟩)) (t0n) (t0k) ((some ⟨t1ab, t1ao, none⟩)) (t1n) (t1k) (t12) ((IntKind.wrap .i64 (t13 + 1))) H r)
    else
    (r = (.bool false, H)))))))))
    else
    (r = (.bool true, H))) :
    L0 t0a t0n t0k t1a t1n t1k t12 t13 H r := by
  intro J
  show KR _ _ _ (.lp (sub B [1, 1, 0, 1, 0, 0]) :: S2) _ _ _
  refine KR.run 6 [(0, .slice t0a t0n t0k), (1, .slice t1a t1n t1k), (12, .int .i64 t12), (13, .int .i64 t13), (14, .bool (decide (t13 < t12)))] 26 (s' := (.code (sub B [1, 1, 0, 1, 0, 0, 1, 0]) :: S4)) (by kernel_rfl) fun J => ?_
  by_cases c2 : t13 < t12
  · replace h := iteT c2 h
    refine KR.br true (by kernel_rfl) (vB (dT c2)) ?_
    refine KR.run 9 [(0, .slice t0a t0n t0k), (1, .slice t1a t1n t1k), (5, .int .i64 t13), (12, .int .i64 t12), (13, .int .i64 t13)] 26 (s' := (.code (sub B [1, 1, 0, 1, 0, 0, 1, 1, 0, 0, 1, 0]) :: S7)) (by kernel_rfl) fun J => ?_
    refine KR.sd (by kernel_rfl) ?_
    obtain ⟨t0ab, t0ao, rfl, h⟩ := h
    refine KR.run 2 [(0, .slice (some ⟨t0ab, t0ao, none⟩) t0n t0k), (1, .slice t1a t1n t1k), (5, .int .i64 t13), (12, .int .i64 t12), (13, .int .i64 t13), (16, .slice (some ⟨t0ab, t0ao, none⟩) t0n t0k), (17, .int .i64 t13)] 26 (s' := (.reg (opsAt (sub B [1, 1, 0, 1, 0, 0, 1, 1, 0, 0, 1, 0])) [2, 3, 4, 5, 6, 7, 8] :: S7)) (by kernel_rfl) fun J => ?_
    obtain ⟨q3, q3x, h⟩ := h
    refine KR.p (one_ix 1 t0ab t0ao (by kernel_rfl) q3 q3x) ?_
    obtain ⟨t19, q4, h⟩ := h
    refine KR.rd (one_ld (by kernel_rfl) q4) ?_
    obtain ⟨t1ab, t1ao, rfl, h⟩ := h
    refine KR.run 2 [(0, .slice (some ⟨t0ab, t0ao, none⟩) t0n t0k), (1, .slice (some ⟨t1ab, t1ao, none⟩) t1n t1k), (12, .int .i64 t12), (13, .int .i64 t13), (19, .int .u8 t19), (20, .slice (some ⟨t1ab, t1ao, none⟩) t1n t1k), (21, .int .i64 t13)] 26 (s' := (.reg (opsAt (sub B [1, 1, 0, 1, 0, 0, 1, 1, 0, 0, 1, 0])) [6, 7, 8] :: S7)) (by kernel_rfl) fun J => ?_
    obtain ⟨q5, q5x, h⟩ := h
    refine KR.p (one_ix 1 t1ab t1ao (by kernel_rfl) q5 q5x) ?_
    obtain ⟨t23, q6, h⟩ := h
    refine KR.rd (one_ld (by kernel_rfl) q6) ?_
    refine KR.run 2 [(0, .slice (some ⟨t0ab, t0ao, none⟩) t0n t0k), (1, .slice (some ⟨t1ab, t1ao, none⟩) t1n t1k), (12, .int .i64 t12), (13, .int .i64 t13), (24, .bool (!(t19 == t23)))] 26 (s' := (.code (sub B [1, 1, 0, 1, 0, 0, 1, 1, 0, 0, 1, 1]) :: S6)) (by kernel_rfl) fun J => ?_
    by_cases c7 : t19 = t23
    · replace h := iteT c7 h
      refine KR.br false (by kernel_rfl) (vB (nB (eT c7))) ?_
      exact KR.run 6 [(0, .slice (some ⟨t0ab, t0ao, none⟩) t0n t0k), (1, .slice (some ⟨t1ab, t1ao, none⟩) t1n t1k), (12, .int .i64 t12), (13, .int .i64 (IntKind.wrap .i64 (t13 + 1)))] 26 (s' := (.lp (sub B [1, 1, 0, 1, 0, 0]) :: S2)) (by kernel_rfl) h
    · replace h := iteF c7 h
      refine KR.br true (by kernel_rfl) (vB (nB (eF c7))) ?_
      refine KR.run 4 [(4, .bool false)] 26 (s' := (.code (sub B [1, 1, 0, 1, 0, 0, 1, 1, 0, 0, 1, 1, 0, 1]) :: S6)) (by kernel_rfl) fun J => ?_
      exact KR.fin (by kernel_rfl) h
  · replace h := iteF c2 h
    refine KR.br false (by kernel_rfl) (vB (dF c2)) ?_
    refine KR.run 5 [(4, .bool true)] 26 (s' := (.code (sub B [1, 1, 1, 1]) :: [])) (by kernel_rfl) fun J => ?_
    exact KR.fin (by kernel_rfl) h
theorem call {a0a : Option Addr} {a0n : Nat} {a0k : Nat} {a1a : Option Addr} {a1n : Nat} {a1k : Nat} {H : Heap} {r : Value × Heap} (h :
    if ((a0n : Nat) : Int) = ((a1n : Nat) : Int) then
    (L0 (a0a) (a0n) (a0k) (a1a) (a1n) (a1k) (((a0n : Nat) : Int)) 0 H r)
    else
    (r = (.bool false, H))) :
    xC Try.prog good 68 [.slice a0a a0n a0k, .slice a1a a1n a1k] H = some r := by
  refine KR.enter (fn := Try.f68) (c := B) (by kernel_rfl) (by kernel_rfl) ?_
  refine KR.run 13 [(0, .slice a0a a0n a0k), (1, .slice a1a a1n a1k), (10, .bool (!(((a0n : Nat) : Int) == ((a1n : Nat) : Int))))] 26 (s' := (.code (sub B [1, 0, 1]) :: S0)) (by kernel_rfl) fun J => ?_
  by_cases c1 : ((a0n : Nat) : Int) = ((a1n : Nat) : Int)
  · replace h := iteT c1 h
    refine KR.br false (by kernel_rfl) (vB (nB (eT c1))) ?_
    exact KR.run 10 [(0, .slice a0a a0n a0k), (1, .slice a1a a1n a1k), (12, .int .i64 ((a0n : Nat) : Int)), (13, .int .i64 0)] 26 (s' := (.lp (sub B [1, 1, 0, 1, 0, 0]) :: S2)) (by kernel_rfl) h
  · replace h := iteF c1 h
    refine KR.br true (by kernel_rfl) (vB (nB (eF c1))) ?_
    refine KR.run 4 [(4, .bool false)] 26 (s' := (.code (sub B [1, 0, 1, 0, 1]) :: S0)) (by kernel_rfl) fun J => ?_
    exact KR.fin (by kernel_rfl) h
end F68
/-! #### 76 campanile/route.own -/
namespace F76
noncomputable def B : Code := bodyOf Try.f76
noncomputable def S0 : List It := (.code (sub B [1]) :: [])
noncomputable def S1 : List It := (.code (sub B [1, 1]) :: [])
noncomputable def S2 : List It := (.code (sub B [1, 1, 1]) :: [])
theorem call {a0c0 : Int} {a0c1 : Int} {a0c2 : Int} {a0c3 : Int} {a0c4a : Option Addr} {a0c4n : Nat} {a0c4k : Nat} {a0c5a : Option Addr} {a0c5n : Nat} {a0c5k : Nat} {H : Heap} {r : Value × Heap} (h :
    ∃ (H_1 : Heap), H_1 = H.push (.row [.int .i64 a0c0, .int .i64 a0c1, .int .i64 a0c2, .int .i64 a0c3, .slice a0c4a a0c4n a0c4k, .slice a0c5a a0c5n a0c5k] true) ∧
    (∃ (H_2 : Heap), H_2 = H_1.push (.row [.int .i64 0, .int .i64 0, .int .i64 0, .int .i64 0, .slice none 0 0, .slice none 0 0] true) ∧
    (∃ (t4a : Option Addr) (t4n : Nat) (t4k : Nat), ldc H_2 H.next 4 = some (.slice t4a t4n t4k) ∧
    (∃ (t5a : Option Addr) (t5n : Nat) (t5k : Nat) (H_3 : Heap), xC Try.prog good 55 [.slice t4a t4n t4k] H_2 = some (.slice t5a t5n t5k, H_3) ∧
    (∃ (t7a : Option Addr) (t7n : Nat) (t7k : Nat), ldc H_2 H.next 5 = some (.slice t7a t7n t7k) ∧
    (∃ (t8a : Option Addr) (t8n : Nat) (t8k : Nat) (H_4 : Heap), xC Try.prog good 78 [.slice t7a t7n t7k] H_3 = some (.slice t8a t8n t8k, H_4) ∧
    (∃ (H_5 : Heap), stc H_4 H.next 4 [.slice t5a t5n t5k] = some H_5 ∧
    (∃ (H_6 : Heap), stc H_5 H.next 5 [.slice t8a t8n t8k] = some H_6 ∧
    (ldc H_3 H.next 5 = some (.slice t7a t7n t7k) ∧
    (∃ (t11c0 : Int) (t11c1 : Int) (t11c2 : Int) (t11c3 : Int) (t11c4a : Option Addr) (t11c4n : Nat) (t11c4k : Nat) (t11c5a : Option Addr) (t11c5n : Nat) (t11c5k : Nat), ldAll H_6 H.next 0 [.int .i64 t11c0, .int .i64 t11c1, .int .i64 t11c2, .int .i64 t11c3, .slice t11c4a t11c4n t11c4k, .slice t11c5a t11c5n t11c5k] ∧
    (∃ (H_7 : Heap), stc H_6 H_1.next 0 [.int .i64 t11c0, .int .i64 t11c1, .int .i64 t11c2, .int .i64 t11c3, .slice t11c4a t11c4n t11c4k, .slice t11c5a t11c5n t11c5k] = some H_7 ∧
    (∃ (r2c0 : Int) (r2c1 : Int) (r2c2 : Int) (r2c3 : Int) (r2c4a : Option Addr) (r2c4n : Nat) (r2c4k : Nat) (r2c5a : Option Addr) (r2c5n : Nat) (r2c5k : Nat), ldAll H_7 H_1.next 0 [.int .i64 r2c0, .int .i64 r2c1, .int .i64 r2c2, .int .i64 r2c3, .slice r2c4a r2c4n r2c4k, .slice r2c5a r2c5n r2c5k] ∧
    (r = (.agg #[.int .i64 r2c0, .int .i64 r2c1, .int .i64 r2c2, .int .i64 r2c3, .slice r2c4a r2c4n r2c4k, .slice r2c5a r2c5n r2c5k], H_7)))))))))))))) :
    xC Try.prog good 76 [.agg #[.int .i64 a0c0, .int .i64 a0c1, .int .i64 a0c2, .int .i64 a0c3, .slice a0c4a a0c4n a0c4k, .slice a0c5a a0c5n a0c5k]] H = some r := by
  refine KR.enter (fn := Try.f76) (c := B) (by kernel_rfl) (by kernel_rfl) ?_
  refine KR.run 2 [(0, .agg #[.int .i64 a0c0, .int .i64 a0c1, .int .i64 a0c2, .int .i64 a0c3, .slice a0c4a a0c4n a0c4k, .slice a0c5a a0c5n a0c5k])] 12 (s' := (.reg (opsAt (sub B [0])) [0, 1] :: S0)) (by kernel_rfl) fun J => ?_
  obtain ⟨H_1, q1, h⟩ := h
  refine KR.mk (w := pRow [.int .i64 a0c0, .int .i64 a0c1, .int .i64 a0c2, .int .i64 a0c3, .slice a0c4a a0c4n a0c4k, .slice a0c5a a0c5n a0c5k]) (one_al (by kernel_rfl)) q1 ?_
  obtain ⟨H_2, q2, h⟩ := h
  refine KR.mk (w := pRow [.int .i64 0, .int .i64 0, .int .i64 0, .int .i64 0, .slice none 0 0, .slice none 0 0]) (one_al (by kernel_rfl)) q2 ?_
  refine KR.run 2 [(1, .pointer (some ⟨H.next, 0, none⟩)), (2, .pointer (some ⟨H_1.next, 0, none⟩))] 12 (s' := (.code (sub B [1, 0]) :: S1)) (by kernel_rfl) fun J => ?_
  refine KE.start H_2 (by kernel_rfl) (by kernel_rfl) ?_
  refine KE.run 1 [(1, .pointer (some ⟨H.next, 0, none⟩)), (2, .pointer (some ⟨H_1.next, 0, none⟩)), (3, .pointer (some ⟨H.next, 4, none⟩))] 12 1 (by kernel_rfl) fun J => ?_
  obtain ⟨t4a, t4n, t4k, q3, h⟩ := h
  refine KE.rdN (one_ld (by kernel_rfl) q3) (by kernel_rfl) ?_
  obtain ⟨t5a, t5n, t5k, H_3, q4, h⟩ := h
  refine KE.se (one_ca (by kernel_rfl) q4) (by kernel_rfl) ?_
  refine KE.run 1 [(1, .pointer (some ⟨H.next, 0, none⟩)), (2, .pointer (some ⟨H_1.next, 0, none⟩)), (5, .slice t5a t5n t5k), (6, .pointer (some ⟨H.next, 5, none⟩))] 12 4 (by kernel_rfl) fun J => ?_
  obtain ⟨t7a, t7n, t7k, q5, h⟩ := h
  refine KE.rdF (one_ld (by kernel_rfl) q5) (by kernel_rfl) ?_
  obtain ⟨t8a, t8n, t8k, H_4, q6, h⟩ := h
  refine KE.se (one_ca (by kernel_rfl) q6) (by kernel_rfl) ?_
  refine KE.run 1 [(1, .pointer (some ⟨H.next, 0, none⟩)), (2, .pointer (some ⟨H_1.next, 0, none⟩)), (5, .slice t5a t5n t5k), (8, .slice t8a t8n t8k), (9, .pointer (some ⟨H.next, 4, none⟩))] 12 7 (by kernel_rfl) fun J => ?_
  obtain ⟨H_5, q7, h⟩ := h
  refine KE.se (one_st (by kernel_rfl) q7) (by kernel_rfl) ?_
  refine KE.run 1 [(1, .pointer (some ⟨H.next, 0, none⟩)), (2, .pointer (some ⟨H_1.next, 0, none⟩)), (8, .slice t8a t8n t8k), (10, .pointer (some ⟨H.next, 5, none⟩))] 12 9 (by kernel_rfl) fun J => ?_
  obtain ⟨H_6, q8, h⟩ := h
  refine KE.se (one_st (by kernel_rfl) q8) (by kernel_rfl) ?_
  obtain ⟨q9, h⟩ := h
  refine KE.fin (H' := H_6) (by kernel_rfl) (rdsS (rfl) (rd_ok (Hs := [H_3]) (by kernel_rfl) (by kernel_rfl) ⟨one_ld (by kernel_rfl) q9, trivial⟩)) (by kernel_rfl) ?_
  refine KR.run 2 [(1, .pointer (some ⟨H.next, 0, none⟩)), (2, .pointer (some ⟨H_1.next, 0, none⟩))] 12 (s' := (.reg (opsAt (sub B [1, 1, 0])) [0, 1] :: S2)) (by kernel_rfl) fun J => ?_
  obtain ⟨t11c0, t11c1, t11c2, t11c3, t11c4a, t11c4n, t11c4k, t11c5a, t11c5n, t11c5k, q10, h⟩ := h
  refine KR.rd (one_ldA (by kernel_rfl) q10) ?_
  obtain ⟨H_7, q11, h⟩ := h
  refine KR.se (one_st (by kernel_rfl) q11) ?_
  refine KR.run 1 [(2, .pointer (some ⟨H_1.next, 0, none⟩))] 12 (s' := (.code (sub B [1, 1, 1]) :: [])) (by kernel_rfl) fun J => ?_
  obtain ⟨r2c0, r2c1, r2c2, r2c3, r2c4a, r2c4n, r2c4k, r2c5a, r2c5n, r2c5k, q12, h⟩ := h
  exact KR.finR (l := [.cell 2 41]) (vs := [.agg #[.int .i64 r2c0, .int .i64 r2c1, .int .i64 r2c2, .int .i64 r2c3, .slice r2c4a r2c4n r2c4k, .slice r2c5a r2c5n r2c5k]]) (by kernel_rfl) (Res.cellA (by kernel_rfl) q12 Res.nil) (by kernel_rfl) h
end F76
/-! #### 78 slices.Clone[[]byte,byte] -/
namespace F78
noncomputable def B : Code := bodyOf Try.f78
noncomputable def S0 : List It := (.code (sub B [1, 1]) :: [])
noncomputable def S2 : List It := (.code (sub B [1, 1, 1]) :: [])
noncomputable def S1 : List It := (.code (sub B [1, 0, 1]) :: S0)
theorem call {a0a : Option Addr} {a0n : Nat} {a0k : Nat} {H : Heap} {r : Value × Heap} (h :
    if (Option.isNone a0a) = true then
    (r = (.slice none 0 0, H))
    else
    (∃ (H_1 : Heap), H_1 = H.push (.row [] true) ∧
    (∃ (t7a : Option Addr) (t7n : Nat) (t7k : Nat) (H_2 : Heap), papp H_1 1 1 (some ⟨H.next, 0, none⟩) 0 (UNK 1) a0a a0n a0k = some ((t7a, t7n, t7k), H_2) ∧
    (r = (.slice t7a t7n t7k, H_2))))) :
    xC Try.prog good 78 [.slice a0a a0n a0k] H = some r := by
  refine KR.enter (fn := Try.f78) (c := B) (by kernel_rfl) (by kernel_rfl) ?_
  refine KR.run 8 [(0, .slice a0a a0n a0k), (3, .slice a0a a0n a0k)] 8 (s' := (.reg (opsAt (sub B [1, 0, 0])) [1] :: S1)) (by kernel_rfl) fun J => ?_
  refine KR.p (one_nl false a0a (by kernel_rfl)) ?_
  refine KR.run 1 [(0, .slice a0a a0n a0k), (4, .bool (Option.isNone a0a))] 8 (s' := (.code (sub B [1, 0, 1]) :: S0)) (by kernel_rfl) fun J => ?_
  by_cases c2 : (Option.isNone a0a) = true
  · replace h := iteT c2 h
    refine KR.br true (by kernel_rfl) (vB (bT c2)) ?_
    refine KR.run 4 [(2, .slice none 0 0)] 8 (s' := (.code (sub B [1, 0, 1, 0, 1]) :: S0)) (by kernel_rfl) fun J => ?_
    exact KR.fin (by kernel_rfl) h
  · replace h := iteF c2 h
    refine KR.br false (by kernel_rfl) (vB (bF c2)) ?_
    refine KR.run 3 [(0, .slice a0a a0n a0k)] 8 (s' := (.reg (opsAt (sub B [1, 1, 0])) [0, 1, 2, 3] :: S2)) (by kernel_rfl) fun J => ?_
    obtain ⟨H_1, q3, h⟩ := h
    refine KR.mk (w := sRow 0 1 []) (one_al (by kernel_rfl)) q3 ?_
    refine KR.run 1 [(5, .slice (some ⟨H.next, 0, none⟩) 0 (UNK 1)), (6, .slice a0a a0n a0k)] 8 (s' := (.reg (opsAt (sub B [1, 1, 0])) [2, 3] :: S2)) (by kernel_rfl) fun J => ?_
    obtain ⟨t7a, t7n, t7k, H_2, q4, h⟩ := h
    refine KR.se (one_ap 1 1 (by kernel_rfl) q4) ?_
    refine KR.run 2 [(2, .slice t7a t7n t7k)] 8 (s' := (.code (sub B [1, 1, 1]) :: [])) (by kernel_rfl) fun J => ?_
    exact KR.fin (by kernel_rfl) h
end F78
end Go.X
