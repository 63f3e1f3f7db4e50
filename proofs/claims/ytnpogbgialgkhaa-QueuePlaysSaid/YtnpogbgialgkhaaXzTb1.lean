/- The walks of the functions: printed. -/
import Derived.Test.YtnpogbgialgkhaaXzGb
set_option linter.unusedVariables false
set_option maxRecDepth 100000
namespace Go.X
open Go Go.RowKit Go.Proofs
/-! #### 19 (*campanile/queue.Queue).Len -/
namespace F19
noncomputable def B : Code := bodyOf Try.f19
noncomputable def S0 : List It := (.code (sub B [1, 1]) :: [])
noncomputable def S2 : List It := (.code (sub B [1, 1, 1]) :: [])
noncomputable def S1 : List It := (.code (sub B [1, 0, 1]) :: S0)
theorem call {a0 : Option Addr} {H : Heap} {r : Value × Heap} (h :
    if (Option.isNone a0) = true then
    (r = (.int .i64 0, H))
    else
    (∃ (a0b a0o : Nat), a0 = some ⟨a0b, a0o, none⟩ ∧
    (∃ (t8a : Option Addr) (t8n : Nat) (t8k : Nat), ldc H a0b (a0o + 1) = some (.slice t8a t8n t8k) ∧
    (r = (.int .i64 ((t8n : Nat) : Int), H))))) :
    xC Try.prog good 19 [.pointer a0] H = some r := by
  refine KR.enter (fn := Try.f19) (c := B) (by kernel_rfl) (by kernel_rfl) ?_
  refine KR.run 8 [(0, .pointer a0), (3, .pointer a0)] 10 (s' := (.reg (opsAt (sub B [1, 0, 0])) [1] :: S1)) (by kernel_rfl) fun J => ?_
  refine KR.p (one_nl false a0 (by kernel_rfl)) ?_
  refine KR.run 1 [(0, .pointer a0), (4, .bool (Option.isNone a0))] 10 (s' := (.code (sub B [1, 0, 1]) :: S0)) (by kernel_rfl) fun J => ?_
  by_cases c2 : (Option.isNone a0) = true
  · replace h := iteT c2 h
    refine KR.br true (by kernel_rfl) (vB (bT c2)) ?_
    refine KR.run 4 [(2, .int .i64 0)] 10 (s' := (.code (sub B [1, 0, 1, 0, 1]) :: S0)) (by kernel_rfl) fun J => ?_
    exact KR.fin (by kernel_rfl) h
  · replace h := iteF c2 h
    refine KR.br false (by kernel_rfl) (vB (bF c2)) ?_
    obtain ⟨a0b, a0o, rfl, h⟩ := h
    refine KR.run 6 [(7, .pointer (some ⟨a0b, (a0o + 1), none⟩))] 10 (s' := (.reg (opsAt (sub B [1, 1, 0])) [3, 4, 5] :: S2)) (by kernel_rfl) fun J => ?_
    obtain ⟨t8a, t8n, t8k, q3, h⟩ := h
    refine KR.rd (one_ld (by kernel_rfl) q3) ?_
    refine KR.run 3 [(2, .int .i64 ((t8n : Nat) : Int))] 10 (s' := (.code (sub B [1, 1, 1]) :: [])) (by kernel_rfl) fun J => ?_
    exact KR.fin (by kernel_rfl) h
end F19
/-! #### 20 (*campanile/queue.Queue).Lost -/
namespace F20
noncomputable def B : Code := bodyOf Try.f20
noncomputable def S0 : List It := (.code (sub B [1, 1]) :: [])
noncomputable def S2 : List It := (.code (sub B [1, 1, 1]) :: [])
noncomputable def S1 : List It := (.code (sub B [1, 0, 1]) :: S0)
theorem call {a0 : Option Addr} {H : Heap} {r : Value × Heap} (h :
    if (Option.isNone a0) = true then
    (r = (.int .i64 0, H))
    else
    (∃ (a0b a0o : Nat), a0 = some ⟨a0b, a0o, none⟩ ∧
    (∃ (t8 : Int), ldc H a0b (a0o + 2) = some (.int .i64 t8) ∧
    (r = (.int .i64 t8, H))))) :
    xC Try.prog good 20 [.pointer a0] H = some r := by
  refine KR.enter (fn := Try.f20) (c := B) (by kernel_rfl) (by kernel_rfl) ?_
  refine KR.run 8 [(0, .pointer a0), (3, .pointer a0)] 9 (s' := (.reg (opsAt (sub B [1, 0, 0])) [1] :: S1)) (by kernel_rfl) fun J => ?_
  refine KR.p (one_nl false a0 (by kernel_rfl)) ?_
  refine KR.run 1 [(0, .pointer a0), (4, .bool (Option.isNone a0))] 9 (s' := (.code (sub B [1, 0, 1]) :: S0)) (by kernel_rfl) fun J => ?_
  by_cases c2 : (Option.isNone a0) = true
  · replace h := iteT c2 h
    refine KR.br true (by kernel_rfl) (vB (bT c2)) ?_
    refine KR.run 4 [(2, .int .i64 0)] 9 (s' := (.code (sub B [1, 0, 1, 0, 1]) :: S0)) (by kernel_rfl) fun J => ?_
    exact KR.fin (by kernel_rfl) h
  · replace h := iteF c2 h
    refine KR.br false (by kernel_rfl) (vB (bF c2)) ?_
    obtain ⟨a0b, a0o, rfl, h⟩ := h
    refine KR.run 6 [(7, .pointer (some ⟨a0b, (a0o + 2), none⟩))] 9 (s' := (.reg (opsAt (sub B [1, 1, 0])) [3, 4] :: S2)) (by kernel_rfl) fun J => ?_
    obtain ⟨t8, q3, h⟩ := h
    refine KR.rd (one_ld (by kernel_rfl) q3) ?_
    refine KR.run 2 [(2, .int .i64 t8)] 9 (s' := (.code (sub B [1, 1, 1]) :: [])) (by kernel_rfl) fun J => ?_
    exact KR.fin (by kernel_rfl) h
end F20
/-! #### 21 campanile/campanilelaw5.awake -/
namespace F21
noncomputable def B : Code := bodyOf Try.f21
noncomputable def S0 : List It := (.code (sub B [1, 1]) :: [])
theorem call  {H : Heap} {r : Value × Heap} (h :
    ∃ (H_1 : Heap), H_1 = H.push (.row [.int .i64 11, .int .i64 20, .int .i64 26] true) ∧
    (∃ (t2 : Int) (H_2 : Heap), xC Try.prog good 27 [.slice (some ⟨H.next, 0, none⟩) 3 (UNK 1), .int .u32 0, .int .i64 4, .int .i64 1] H_1 = some (.int .i64 t2, H_2) ∧
    (if t2 = 26 then
    (∃ (H_3 : Heap), H_3 = H_2.push (.row [.int .i64 3] true) ∧
    (∃ (t6 : Bool) (H_4 : Heap), xC Try.prog good 22 [.slice (some ⟨H_2.next, 0, none⟩) 1 (UNK 1)] H_3 = some (.bool t6, H_4) ∧
    (r = (.bool t6, H_4))))
    else
    (r = (.bool false, H_2))))) :
    xC Try.prog good 21 [] H = some r := by
  refine KR.enter (fn := Try.f21) (c := B) (by kernel_rfl) (by kernel_rfl) ?_
  refine KR.run 6 [] 8 (s' := (.reg (opsAt (sub B [1, 0])) [0, 1, 2, 3, 4, 5, 6, 7] :: S0)) (by kernel_rfl) fun J => ?_
  obtain ⟨H_1, q1, h⟩ := h
  refine KR.mk (w := sRow 3 1 [.int .i64 11, .int .i64 20, .int .i64 26]) (one_al (by kernel_rfl)) q1 ?_
  obtain ⟨t2, H_2, q2, h⟩ := h
  refine KR.se (one_ca (by kernel_rfl) q2) ?_
  refine KR.run 2 [(4, .bool (t2 == 26))] 8 (s' := (.reg (opsAt (sub B [1, 0])) [4, 5, 6, 7] :: S0)) (by kernel_rfl) fun J => ?_
  by_cases c3 : t2 = 26
  · replace h := iteT c3 h
    refine KR.setV 4 (by kernel_rfl) (eT c3) ?_
    obtain ⟨H_3, q4, h⟩ := h
    refine KR.mk (w := sRow 1 1 [.int .i64 3]) (one_al (by kernel_rfl)) q4 ?_
    obtain ⟨t6, H_4, q5, h⟩ := h
    refine KR.se (one_ca (by kernel_rfl) q5) ?_
    refine KR.run 3 [(0, .bool t6)] 8 (s' := (.code (sub B [1, 1]) :: [])) (by kernel_rfl) fun J => ?_
    exact KR.fin (by kernel_rfl) h
  · replace h := iteF c3 h
    refine KR.setV 4 (by kernel_rfl) (eF c3) ?_
    refine KR.run 5 [(0, .bool false)] 8 (s' := (.code (sub B [1, 1]) :: [])) (by kernel_rfl) fun J => ?_
    exact KR.fin (by kernel_rfl) h
end F21
/-! #### 22 campanile/hop.May -/
namespace F22
noncomputable def B : Code := bodyOf Try.f22
noncomputable def S0 : List It := (.code (sub B [1, 1]) :: [])
noncomputable def S8 : List It := (.code (sub B [1, 1, 1]) :: [])
noncomputable def S1 : List It := (.blk 0 :: S0)
noncomputable def S2 : List It := (.lp (sub B [1, 0, 1, 0, 0]) :: S1)
noncomputable def S3 : List It := (.code (sub B [1, 0, 1, 0, 0, 1, 1]) :: S2)
noncomputable def S4 : List It := (.code (sub B [1, 0, 1, 0, 0, 1, 1, 1]) :: S2)
noncomputable def S5 : List It := (.blk 1 :: S4)
noncomputable def S6 : List It := (.code (sub B [1, 0, 1, 0, 0, 1, 1, 0, 0, 1]) :: S5)
noncomputable def S7 : List It := (.code (sub B [1, 0, 1, 0, 0, 1, 1, 0, 0, 1, 1]) :: S5)
def L0 (t0a : Option Addr) (t0n : Nat) (t0k : Nat) (t5a : Option Addr) (t5n : Nat) (t5k : Nat) (t6 : Int) (t7 : Int) (H : Heap) (r : Value × Heap) : Prop := ∀ J, KR Try.prog good Try.f22 S2 (mat J 34 [(0, .slice t0a t0n t0k), (5, .slice t5a t5n t5k), (6, .int .i64 t6), (7, .int .i64 t7)]) H r
def L1 (t0a : Option Addr) (t0n : Nat) (t0k : Nat) (t5b : Nat) (t5o : Nat) (t5n : Nat) (t5k : Nat) (t6 : Int) (t7 : Int) (t24 : Bool) (H : Heap) (r : Value × Heap) : Prop := ∀ J, KR Try.prog good Try.f22 S7 (mat J 34 [(0, .slice t0a t0n t0k), (5, .slice (some ⟨t5b, t5o, none⟩) t5n t5k), (6, .int .i64 t6), (7, .int .i64 t7), (24, .bool t24)]) H r
theorem L0_step {t0a : Option Addr} {t0n : Nat} {t0k : Nat} {t5a : Option Addr} {t5n : Nat} {t5k : Nat} {t6 : Int} {t7 : Int} {H : Heap} {r : Value × Heap} (h :
    if t7 < t6 then
    (∃ (t5ab t5ao : Nat), t5a = some ⟨t5ab, t5ao, none⟩ ∧
    ((0 : Int) ≤ t7 ∧ t7 < ((t5n : Nat) : Int) ∧
    (∃ (t11 : Int), ldc H t5ab (t5ao + Int.toNat t7 * 1) = some (.int .i64 t11) ∧
    (if t11 < 0 then
    (L1 (t0a) (t0n) (t0k) (t5ab) (t5ao) (t5n) (t5k) (t6) (t7) (true) H r)
    else
    (if t11 > 31 then
    (L1 (t0a) (t0n) (t0k) (t5ab) (t5ao) (t5n) (t5k) (t6) (t7) (true) H r)
    else
    (∃ (t21a : Option Addr) (t21n : Nat) (t21k : Nat), psl 1 t0a t0n t0k none (some t7) none = some (t21a, t21n, t21k) ∧
    (∃ (t23 : Bool) (H_1 : Heap), xC Try.prog good 35 [.slice t21a t21n t21k, .int .i64 t11] H = some (.bool t23, H_1) ∧
    (L1 (t0a) (t0n) (t0k) (t5ab) (t5ao) (t5n) (t5k) (t6) (t7) (t23) H_1 r))))))))
    else
    (if ((t0n : Nat) : Int) ≥ 1 then
    (r = (.bool (decide (((t0n : Nat) : Int) ≤ 16)), H))
    else
    (r = (.bool false, H)))) :
    L0 t0a t0n t0k t5a t5n t5k t6 t7 H r := by
  intro J
  show KR _ _ _ (.lp (sub B [1, 0, 1, 0, 0]) :: S1) _ _ _
  refine KR.run 6 [(0, .slice t0a t0n t0k), (5, .slice t5a t5n t5k), (6, .int .i64 t6), (7, .int .i64 t7), (8, .bool (decide (t7 < t6)))] 34 (s' := (.code (sub B [1, 0, 1, 0, 0, 1, 0]) :: S3)) (by kernel_rfl) fun J => ?_
  by_cases c1 : t7 < t6
  · replace h := iteT c1 h
    refine KR.br true (by kernel_rfl) (vB (dT c1)) ?_
    obtain ⟨t5ab, t5ao, rfl, h⟩ := h
    refine KR.run 6 [(0, .slice t0a t0n t0k), (5, .slice (some ⟨t5ab, t5ao, none⟩) t5n t5k), (6, .int .i64 t6), (7, .int .i64 t7), (9, .int .i64 t7)] 34 (s' := (.reg (opsAt (sub B [1, 0, 1, 0, 0, 1, 1, 0, 0, 0])) [1, 2, 3, 4] :: S6)) (by kernel_rfl) fun J => ?_
    obtain ⟨q2, q2x, h⟩ := h
    refine KR.p (one_ix 1 t5ab t5ao (by kernel_rfl) q2 q2x) ?_
    obtain ⟨t11, q3, h⟩ := h
    refine KR.rd (one_ld (by kernel_rfl) q3) ?_
    refine KR.run 8 [(0, .slice t0a t0n t0k), (3, .int .i64 t7), (4, .int .i64 t11), (5, .slice (some ⟨t5ab, t5ao, none⟩) t5n t5k), (6, .int .i64 t6), (7, .int .i64 t7), (14, .bool (decide (t11 < 0)))] 34 (s' := (.reg (opsAt (sub B [1, 0, 1, 0, 0, 1, 1, 0, 0, 1, 0])) [3, 4, 5, 6, 7, 8, 9, 10, 11, 12] :: S7)) (by kernel_rfl) fun J => ?_
    by_cases c4 : t11 < 0
    · replace h := iteT c4 h
      refine KR.setV 14 (by kernel_rfl) (dT c4) ?_
      exact KR.run 11 [(0, .slice t0a t0n t0k), (5, .slice (some ⟨t5ab, t5ao, none⟩) t5n t5k), (6, .int .i64 t6), (7, .int .i64 t7), (24, .bool true)] 34 (s' := (.code (sub B [1, 0, 1, 0, 0, 1, 1, 0, 0, 1, 1]) :: S5)) (by kernel_rfl) h
    · replace h := iteF c4 h
      refine KR.setV 14 (by kernel_rfl) (dF c4) ?_
      refine KR.run 4 [(0, .slice t0a t0n t0k), (3, .int .i64 t7), (4, .int .i64 t11), (5, .slice (some ⟨t5ab, t5ao, none⟩) t5n t5k), (6, .int .i64 t6), (7, .int .i64 t7), (18, .bool (decide (t11 > 31)))] 34 (s' := (.reg (opsAt (sub B [1, 0, 1, 0, 0, 1, 1, 0, 0, 1, 0])) [7, 8, 9, 10, 11, 12] :: S7)) (by kernel_rfl) fun J => ?_
      by_cases c5 : t11 > 31
      · replace h := iteT c5 h
        refine KR.setV 18 (by kernel_rfl) (dT c5) ?_
        exact KR.run 7 [(0, .slice t0a t0n t0k), (5, .slice (some ⟨t5ab, t5ao, none⟩) t5n t5k), (6, .int .i64 t6), (7, .int .i64 t7), (24, .bool true)] 34 (s' := (.code (sub B [1, 0, 1, 0, 0, 1, 1, 0, 0, 1, 1]) :: S5)) (by kernel_rfl) h
      · replace h := iteF c5 h
        refine KR.setV 18 (by kernel_rfl) (dF c5) ?_
        refine KR.run 2 [(0, .slice t0a t0n t0k), (4, .int .i64 t11), (5, .slice (some ⟨t5ab, t5ao, none⟩) t5n t5k), (6, .int .i64 t6), (7, .int .i64 t7), (18, .bool false), (19, .slice t0a t0n t0k), (20, .int .i64 t7)] 34 (s' := (.reg (opsAt (sub B [1, 0, 1, 0, 0, 1, 1, 0, 0, 1, 0])) [9, 10, 11, 12] :: S7)) (by kernel_rfl) fun J => ?_
        obtain ⟨t21a, t21n, t21k, q6, h⟩ := h
        refine KR.p (one_sl (by kernel_rfl) q6) ?_
        refine KR.run 1 [(0, .slice t0a t0n t0k), (5, .slice (some ⟨t5ab, t5ao, none⟩) t5n t5k), (6, .int .i64 t6), (7, .int .i64 t7), (18, .bool false), (21, .slice t21a t21n t21k), (22, .int .i64 t11)] 34 (s' := (.reg (opsAt (sub B [1, 0, 1, 0, 0, 1, 1, 0, 0, 1, 0])) [11, 12] :: S7)) (by kernel_rfl) fun J => ?_
        obtain ⟨t23, H_1, q7, h⟩ := h
        refine KR.se (one_ca (by kernel_rfl) q7) ?_
        exact KR.run 2 [(0, .slice t0a t0n t0k), (5, .slice (some ⟨t5ab, t5ao, none⟩) t5n t5k), (6, .int .i64 t6), (7, .int .i64 t7), (24, .bool t23)] 34 (s' := (.code (sub B [1, 0, 1, 0, 0, 1, 1, 0, 0, 1, 1]) :: S5)) (by kernel_rfl) h
  · replace h := iteF c1 h
    refine KR.br false (by kernel_rfl) (vB (dF c1)) ?_
    refine KR.run 7 [(0, .slice t0a t0n t0k), (29, .bool (decide (((t0n : Nat) : Int) ≥ 1)))] 34 (s' := (.reg (opsAt (sub B [1, 1, 0])) [4, 5, 6, 7, 8] :: S8)) (by kernel_rfl) fun J => ?_
    by_cases c8 : ((t0n : Nat) : Int) ≥ 1
    · replace h := iteT c8 h
      refine KR.setV 29 (by kernel_rfl) (dT c8) ?_
      refine KR.run 6 [(2, .bool (decide (((t0n : Nat) : Int) ≤ 16)))] 34 (s' := (.code (sub B [1, 1, 1]) :: [])) (by kernel_rfl) fun J => ?_
      exact KR.fin (by kernel_rfl) h
    · replace h := iteF c8 h
      refine KR.setV 29 (by kernel_rfl) (dF c8) ?_
      refine KR.run 6 [(2, .bool false)] 34 (s' := (.code (sub B [1, 1, 1]) :: [])) (by kernel_rfl) fun J => ?_
      exact KR.fin (by kernel_rfl) h
theorem L1_step {t0a : Option Addr} {t0n : Nat} {t0k : Nat} {t5b : Nat} {t5o : Nat} {t5n : Nat} {t5k : Nat} {t6 : Int} {t7 : Int} {t24 : Bool} {H : Heap} {r : Value × Heap} (h :
    if t24 = true then
    (r = (.bool false, H))
    else
    (L0 (t0a) (t0n) (t0k) ((some ⟨t5b, t5o, none⟩)) (t5n) (t5k) (t6) ((IntKind.wrap .i64 (t7 + 1))) H r)) :
    L1 t0a t0n t0k t5b t5o t5n t5k t6 t7 t24 H r := by
  intro J
  show KR _ _ _ (.code (sub B [1, 0, 1, 0, 0, 1, 1, 0, 0, 1, 1]) :: S5) _ _ _
  by_cases c9 : t24 = true
  · replace h := iteT c9 h
    refine KR.br true (by kernel_rfl) (vB (bT c9)) ?_
    refine KR.run 4 [(2, .bool false)] 34 (s' := (.code (sub B [1, 0, 1, 0, 0, 1, 1, 0, 0, 1, 1, 0, 1]) :: S5)) (by kernel_rfl) fun J => ?_
    exact KR.fin (by kernel_rfl) h
  · replace h := iteF c9 h
    refine KR.br false (by kernel_rfl) (vB (bF c9)) ?_
    exact KR.run 6 [(0, .slice t0a t0n t0k), (5, .slice (some ⟨t5b, t5o, none⟩) t5n t5k), (6, .int .i64 t6), (7, .int .i64 (IntKind.wrap .i64 (t7 + 1)))] 34 (s' := (.lp (sub B [1, 0, 1, 0, 0]) :: S1)) (by kernel_rfl) h
theorem call {a0a : Option Addr} {a0n : Nat} {a0k : Nat} {H : Heap} {r : Value × Heap} (h :
    L0 (a0a) (a0n) (a0k) (a0a) (a0n) (a0k) (((a0n : Nat) : Int)) 0 H r) :
    xC Try.prog good 22 [.slice a0a a0n a0k] H = some r := by
  refine KR.enter (fn := Try.f22) (c := B) (by kernel_rfl) (by kernel_rfl) ?_
  exact KR.run 13 [(0, .slice a0a a0n a0k), (5, .slice a0a a0n a0k), (6, .int .i64 ((a0n : Nat) : Int)), (7, .int .i64 0)] 34 (s' := (.lp (sub B [1, 0, 1, 0, 0]) :: S1)) (by kernel_rfl) h
end F22
/-! #### 23 campanile/campanileref1.MayHops -/
namespace F23
noncomputable def B : Code := bodyOf Try.f23
noncomputable def S0 : List It := (.code (sub B [1, 1]) :: [])
noncomputable def S2 : List It := (.code (sub B [1, 1, 1]) :: [])
noncomputable def S1 : List It := (.code (sub B [1, 0, 1]) :: S0)
noncomputable def S3 : List It := (.blk 0 :: S2)
noncomputable def S4 : List It := (.lp (sub B [1, 1, 0, 1, 0, 0]) :: S3)
noncomputable def S5 : List It := (.code (sub B [1, 1, 0, 1, 0, 0, 1, 1]) :: S4)
noncomputable def S6 : List It := (.code (sub B [1, 1, 0, 1, 0, 0, 1, 1, 1]) :: S4)
noncomputable def S7 : List It := (.blk 1 :: S6)
noncomputable def S8 : List It := (.code (sub B [1, 1, 0, 1, 0, 0, 1, 1, 0, 0, 1]) :: S7)
noncomputable def S9 : List It := (.code (sub B [1, 1, 0, 1, 0, 0, 1, 1, 0, 0, 1, 1]) :: S7)
noncomputable def S11 : List It := (.code (sub B [1, 1, 0, 1, 0, 0, 1, 1, 0, 0, 1, 1, 1]) :: S7)
noncomputable def S12 : List It := (.blk 2 :: S7)
noncomputable def S10 : List It := (.code (sub B [1, 1, 0, 1, 0, 0, 1, 1, 0, 0, 1, 0, 1]) :: S9)
noncomputable def S13 : List It := (.lp (sub B [1, 1, 0, 1, 0, 0, 1, 1, 0, 0, 1, 1, 1, 0, 0]) :: S12)
noncomputable def S14 : List It := (.code (sub B [1, 1, 0, 1, 0, 0, 1, 1, 0, 0, 1, 1, 1, 0, 0, 1, 1]) :: S13)
noncomputable def S15 : List It := (.code (sub B [1, 1, 0, 1, 0, 0, 1, 1, 0, 0, 1, 1, 1, 0, 0, 1, 1, 1]) :: S13)
noncomputable def S16 : List It := (.blk 3 :: S15)
noncomputable def S17 : List It := (.code (sub B [1, 1, 0, 1, 0, 0, 1, 1, 0, 0, 1, 1, 1, 0, 0, 1, 1, 0, 0, 1]) :: S16)
def L0 (t0a : Option Addr) (t0n : Nat) (t0k : Nat) (t14 : Bool) (H : Heap) (r : Value × Heap) : Prop := ∀ J, KR Try.prog good Try.f23 S1 (mat J 41 [(0, .slice t0a t0n t0k), (14, .bool t14)]) H r
def L1 (t0a : Option Addr) (t0n : Nat) (t0k : Nat) (t15a : Option Addr) (t15n : Nat) (t15k : Nat) (t16 : Int) (t17 : Int) (H : Heap) (r : Value × Heap) : Prop := ∀ J, KR Try.prog good Try.f23 S4 (mat J 41 [(0, .slice t0a t0n t0k), (15, .slice t15a t15n t15k), (16, .int .i64 t16), (17, .int .i64 t17)]) H r
def L2 (t0a : Option Addr) (t0n : Nat) (t0k : Nat) (t3 : Int) (t4 : Int) (t15b : Nat) (t15o : Nat) (t15n : Nat) (t15k : Nat) (t16 : Int) (t17 : Int) (t27 : Bool) (H : Heap) (r : Value × Heap) : Prop := ∀ J, KR Try.prog good Try.f23 S10 (mat J 41 [(0, .slice t0a t0n t0k), (3, .int .i64 t3), (4, .int .i64 t4), (15, .slice (some ⟨t15b, t15o, none⟩) t15n t15k), (16, .int .i64 t16), (17, .int .i64 t17), (27, .bool t27)]) H r
def L3 (t0a : Option Addr) (t0n : Nat) (t0k : Nat) (t4 : Int) (t15b : Nat) (t15o : Nat) (t15n : Nat) (t15k : Nat) (t16 : Int) (t17 : Int) (t30a : Option Addr) (t30n : Nat) (t30k : Nat) (t31 : Int) (t32 : Int) (H : Heap) (r : Value × Heap) : Prop := ∀ J, KR Try.prog good Try.f23 S13 (mat J 41 [(0, .slice t0a t0n t0k), (4, .int .i64 t4), (15, .slice (some ⟨t15b, t15o, none⟩) t15n t15k), (16, .int .i64 t16), (17, .int .i64 t17), (30, .slice t30a t30n t30k), (31, .int .i64 t31), (32, .int .i64 t32)]) H r
theorem L0_step {t0a : Option Addr} {t0n : Nat} {t0k : Nat} {t14 : Bool} {H : Heap} {r : Value × Heap} (h :
    if t14 = true then
    (r = (.bool false, H))
    else
    (L1 (t0a) (t0n) (t0k) (t0a) (t0n) (t0k) (((t0n : Nat) : Int)) 0 H r)) :
    L0 t0a t0n t0k t14 H r := by
  intro J
  show KR _ _ _ (.code (sub B [1, 0, 1]) :: S0) _ _ _
  by_cases c2 : t14 = true
  · replace h := iteT c2 h
    refine KR.br true (by kernel_rfl) (vB (bT c2)) ?_
    refine KR.run 4 [(2, .bool false)] 41 (s' := (.code (sub B [1, 0, 1, 0, 1]) :: S0)) (by kernel_rfl) fun J => ?_
    exact KR.fin (by kernel_rfl) h
  · replace h := iteF c2 h
    refine KR.br false (by kernel_rfl) (vB (bF c2)) ?_
    exact KR.run 10 [(0, .slice t0a t0n t0k), (15, .slice t0a t0n t0k), (16, .int .i64 ((t0n : Nat) : Int)), (17, .int .i64 0)] 41 (s' := (.lp (sub B [1, 1, 0, 1, 0, 0]) :: S3)) (by kernel_rfl) h
theorem L1_step {t0a : Option Addr} {t0n : Nat} {t0k : Nat} {t15a : Option Addr} {t15n : Nat} {t15k : Nat} {t16 : Int} {t17 : Int} {H : Heap} {r : Value × Heap} (h :
    if t17 < t16 then
    (∃ (t15ab t15ao : Nat), t15a = some ⟨t15ab, t15ao, none⟩ ∧
    ((0 : Int) ≤ t17 ∧ t17 < ((t15n : Nat) : Int) ∧
    (∃ (t21 : Int), ldc H t15ab (t15ao + Int.toNat t17 * 1) = some (.int .i64 t21) ∧
    (if t21 < 0 then
    (L2 (t0a) (t0n) (t0k) (t17) (t21) (t15ab) (t15ao) (t15n) (t15k) (t16) (t17) (true) H r)
    else
    (L2 (t0a) (t0n) (t0k) (t17) (t21) (t15ab) (t15ao) (t15n) (t15k) (t16) (t17) ((decide (t21 > 31))) H r)))))
    else
    (r = (.bool true, H))) :
    L1 t0a t0n t0k t15a t15n t15k t16 t17 H r := by
  intro J
  show KR _ _ _ (.lp (sub B [1, 1, 0, 1, 0, 0]) :: S3) _ _ _
  refine KR.run 6 [(0, .slice t0a t0n t0k), (15, .slice t15a t15n t15k), (16, .int .i64 t16), (17, .int .i64 t17), (18, .bool (decide (t17 < t16)))] 41 (s' := (.code (sub B [1, 1, 0, 1, 0, 0, 1, 0]) :: S5)) (by kernel_rfl) fun J => ?_
  by_cases c3 : t17 < t16
  · replace h := iteT c3 h
    refine KR.br true (by kernel_rfl) (vB (dT c3)) ?_
    obtain ⟨t15ab, t15ao, rfl, h⟩ := h
    refine KR.run 6 [(0, .slice t0a t0n t0k), (15, .slice (some ⟨t15ab, t15ao, none⟩) t15n t15k), (16, .int .i64 t16), (17, .int .i64 t17), (19, .int .i64 t17)] 41 (s' := (.reg (opsAt (sub B [1, 1, 0, 1, 0, 0, 1, 1, 0, 0, 0])) [1, 2, 3, 4] :: S8)) (by kernel_rfl) fun J => ?_
    obtain ⟨q4, q4x, h⟩ := h
    refine KR.p (one_ix 1 t15ab t15ao (by kernel_rfl) q4 q4x) ?_
    obtain ⟨t21, q5, h⟩ := h
    refine KR.rd (one_ld (by kernel_rfl) q5) ?_
    refine KR.run 9 [(0, .slice t0a t0n t0k), (3, .int .i64 t17), (4, .int .i64 t21), (15, .slice (some ⟨t15ab, t15ao, none⟩) t15n t15k), (16, .int .i64 t16), (17, .int .i64 t17), (24, .bool (decide (t21 < 0)))] 41 (s' := (.reg (opsAt (sub B [1, 1, 0, 1, 0, 0, 1, 1, 0, 0, 1, 0, 0])) [3, 4, 5] :: S10)) (by kernel_rfl) fun J => ?_
    by_cases c6 : t21 < 0
    · replace h := iteT c6 h
      refine KR.setV 24 (by kernel_rfl) (dT c6) ?_
      exact KR.run 4 [(0, .slice t0a t0n t0k), (3, .int .i64 t17), (4, .int .i64 t21), (15, .slice (some ⟨t15ab, t15ao, none⟩) t15n t15k), (16, .int .i64 t16), (17, .int .i64 t17), (27, .bool true)] 41 (s' := (.code (sub B [1, 1, 0, 1, 0, 0, 1, 1, 0, 0, 1, 0, 1]) :: S9)) (by kernel_rfl) h
    · replace h := iteF c6 h
      refine KR.setV 24 (by kernel_rfl) (dF c6) ?_
      exact KR.run 4 [(0, .slice t0a t0n t0k), (3, .int .i64 t17), (4, .int .i64 t21), (15, .slice (some ⟨t15ab, t15ao, none⟩) t15n t15k), (16, .int .i64 t16), (17, .int .i64 t17), (27, .bool (decide (t21 > 31)))] 41 (s' := (.code (sub B [1, 1, 0, 1, 0, 0, 1, 1, 0, 0, 1, 0, 1]) :: S9)) (by kernel_rfl) h
  · replace h := iteF c3 h
    refine KR.br false (by kernel_rfl) (vB (dF c3)) ?_
    refine KR.run 5 [(2, .bool true)] 41 (s' := (.code (sub B [1, 1, 1, 1]) :: [])) (by kernel_rfl) fun J => ?_
    exact KR.fin (by kernel_rfl) h
theorem L2_step {t0a : Option Addr} {t0n : Nat} {t0k : Nat} {t3 : Int} {t4 : Int} {t15b : Nat} {t15o : Nat} {t15n : Nat} {t15k : Nat} {t16 : Int} {t17 : Int} {t27 : Bool} {H : Heap} {r : Value × Heap} (h :
    if t27 = true then
    (r = (.bool false, H))
    else
    (∃ (t30a : Option Addr) (t30n : Nat) (t30k : Nat), psl 1 t0a t0n t0k none (some t3) none = some (t30a, t30n, t30k) ∧
    (L3 (t0a) (t0n) (t0k) (t4) (t15b) (t15o) (t15n) (t15k) (t16) (t17) (t30a) (t30n) (t30k) (((t30n : Nat) : Int)) 0 H r))) :
    L2 t0a t0n t0k t3 t4 t15b t15o t15n t15k t16 t17 t27 H r := by
  intro J
  show KR _ _ _ (.code (sub B [1, 1, 0, 1, 0, 0, 1, 1, 0, 0, 1, 0, 1]) :: S9) _ _ _
  by_cases c7 : t27 = true
  · replace h := iteT c7 h
    refine KR.br true (by kernel_rfl) (vB (bT c7)) ?_
    refine KR.run 4 [(2, .bool false)] 41 (s' := (.code (sub B [1, 1, 0, 1, 0, 0, 1, 1, 0, 0, 1, 0, 1, 0, 1]) :: S9)) (by kernel_rfl) fun J => ?_
    exact KR.fin (by kernel_rfl) h
  · replace h := iteF c7 h
    refine KR.br false (by kernel_rfl) (vB (bF c7)) ?_
    refine KR.run 5 [(0, .slice t0a t0n t0k), (4, .int .i64 t4), (15, .slice (some ⟨t15b, t15o, none⟩) t15n t15k), (16, .int .i64 t16), (17, .int .i64 t17), (28, .slice t0a t0n t0k), (29, .int .i64 t3)] 41 (s' := (.reg (opsAt (sub B [1, 1, 0, 1, 0, 0, 1, 1, 0, 0, 1, 1, 0])) [2, 3, 4] :: S11)) (by kernel_rfl) fun J => ?_
    obtain ⟨t30a, t30n, t30k, q8, h⟩ := h
    refine KR.p (one_sl (by kernel_rfl) q8) ?_
    exact KR.run 5 [(0, .slice t0a t0n t0k), (4, .int .i64 t4), (15, .slice (some ⟨t15b, t15o, none⟩) t15n t15k), (16, .int .i64 t16), (17, .int .i64 t17), (30, .slice t30a t30n t30k), (31, .int .i64 ((t30n : Nat) : Int)), (32, .int .i64 0)] 41 (s' := (.lp (sub B [1, 1, 0, 1, 0, 0, 1, 1, 0, 0, 1, 1, 1, 0, 0]) :: S12)) (by kernel_rfl) h
theorem L3_step {t0a : Option Addr} {t0n : Nat} {t0k : Nat} {t4 : Int} {t15b : Nat} {t15o : Nat} {t15n : Nat} {t15k : Nat} {t16 : Int} {t17 : Int} {t30a : Option Addr} {t30n : Nat} {t30k : Nat} {t31 : Int} {t32 : Int} {H : Heap} {r : Value × Heap} (h :
    if t32 < t31 then
    (∃ (t30ab t30ao : Nat), t30a = some ⟨t30ab, t30ao, none⟩ ∧
    ((0 : Int) ≤ t32 ∧ t32 < ((t30n : Nat) : Int) ∧
    (∃ (t35 : Int), ldc H t30ab (t30ao + Int.toNat t32 * 1) = some (.int .i64 t35) ∧
    (if t4 = t35 then
    (r = (.bool false, H))
    else
    (L3 (t0a) (t0n) (t0k) (t4) (t15b) (t15o) (t15n) (t15k) (t16) (t17) ((some ⟨t30ab, t30ao, none⟩)) (t30n) (t30k) (t31) ((IntKind.wrap .i64 (t32 + 1))) H r)))))
    else
    (L1 (t0a) (t0n) (t0k) ((some ⟨t15b, t15o, none⟩)) (t15n) (t15k) (t16) ((IntKind.wrap .i64 (t17 + 1))) H r)) :
    L3 t0a t0n t0k t4 t15b t15o t15n t15k t16 t17 t30a t30n t30k t31 t32 H r := by
  intro J
  show KR _ _ _ (.lp (sub B [1, 1, 0, 1, 0, 0, 1, 1, 0, 0, 1, 1, 1, 0, 0]) :: S12) _ _ _
  refine KR.run 6 [(0, .slice t0a t0n t0k), (4, .int .i64 t4), (15, .slice (some ⟨t15b, t15o, none⟩) t15n t15k), (16, .int .i64 t16), (17, .int .i64 t17), (30, .slice t30a t30n t30k), (31, .int .i64 t31), (32, .int .i64 t32), (33, .bool (decide (t32 < t31)))] 41 (s' := (.code (sub B [1, 1, 0, 1, 0, 0, 1, 1, 0, 0, 1, 1, 1, 0, 0, 1, 0]) :: S14)) (by kernel_rfl) fun J => ?_
  by_cases c9 : t32 < t31
  · replace h := iteT c9 h
    refine KR.br true (by kernel_rfl) (vB (dT c9)) ?_
    obtain ⟨t30ab, t30ao, rfl, h⟩ := h
    refine KR.run 5 [(0, .slice t0a t0n t0k), (4, .int .i64 t4), (15, .slice (some ⟨t15b, t15o, none⟩) t15n t15k), (16, .int .i64 t16), (17, .int .i64 t17), (30, .slice (some ⟨t30ab, t30ao, none⟩) t30n t30k), (31, .int .i64 t31), (32, .int .i64 t32)] 41 (s' := (.reg (opsAt (sub B [1, 1, 0, 1, 0, 0, 1, 1, 0, 0, 1, 1, 1, 0, 0, 1, 1, 0, 0, 0])) [0, 1, 2] :: S17)) (by kernel_rfl) fun J => ?_
    obtain ⟨q10, q10x, h⟩ := h
    refine KR.p (one_ix 1 t30ab t30ao (by kernel_rfl) q10 q10x) ?_
    obtain ⟨t35, q11, h⟩ := h
    refine KR.rd (one_ld (by kernel_rfl) q11) ?_
    refine KR.run 8 [(0, .slice t0a t0n t0k), (4, .int .i64 t4), (15, .slice (some ⟨t15b, t15o, none⟩) t15n t15k), (16, .int .i64 t16), (17, .int .i64 t17), (30, .slice (some ⟨t30ab, t30ao, none⟩) t30n t30k), (31, .int .i64 t31), (32, .int .i64 t32), (38, .bool (t4 == t35))] 41 (s' := (.code (sub B [1, 1, 0, 1, 0, 0, 1, 1, 0, 0, 1, 1, 1, 0, 0, 1, 1, 0, 0, 1, 1]) :: S16)) (by kernel_rfl) fun J => ?_
    by_cases c12 : t4 = t35
    · replace h := iteT c12 h
      refine KR.br true (by kernel_rfl) (vB (eT c12)) ?_
      refine KR.run 4 [(2, .bool false)] 41 (s' := (.code (sub B [1, 1, 0, 1, 0, 0, 1, 1, 0, 0, 1, 1, 1, 0, 0, 1, 1, 0, 0, 1, 1, 0, 1]) :: S16)) (by kernel_rfl) fun J => ?_
      exact KR.fin (by kernel_rfl) h
    · replace h := iteF c12 h
      refine KR.br false (by kernel_rfl) (vB (eF c12)) ?_
      exact KR.run 6 [(0, .slice t0a t0n t0k), (4, .int .i64 t4), (15, .slice (some ⟨t15b, t15o, none⟩) t15n t15k), (16, .int .i64 t16), (17, .int .i64 t17), (30, .slice (some ⟨t30ab, t30ao, none⟩) t30n t30k), (31, .int .i64 t31), (32, .int .i64 (IntKind.wrap .i64 (t32 + 1)))] 41 (s' := (.lp (sub B [1, 1, 0, 1, 0, 0, 1, 1, 0, 0, 1, 1, 1, 0, 0]) :: S12)) (by kernel_rfl) h
  · replace h := iteF c9 h
    refine KR.br false (by kernel_rfl) (vB (dF c9)) ?_
    exact KR.run 6 [(0, .slice t0a t0n t0k), (15, .slice (some ⟨t15b, t15o, none⟩) t15n t15k), (16, .int .i64 t16), (17, .int .i64 (IntKind.wrap .i64 (t17 + 1)))] 41 (s' := (.lp (sub B [1, 1, 0, 1, 0, 0]) :: S3)) (by kernel_rfl) h
theorem call {a0a : Option Addr} {a0n : Nat} {a0k : Nat} {H : Heap} {r : Value × Heap} (h :
    if ((a0n : Nat) : Int) < 1 then
    (L0 (a0a) (a0n) (a0k) (true) H r)
    else
    (L0 (a0a) (a0n) (a0k) ((decide (((a0n : Nat) : Int) > 16))) H r)) :
    xC Try.prog good 23 [.slice a0a a0n a0k] H = some r := by
  refine KR.enter (fn := Try.f23) (c := B) (by kernel_rfl) (by kernel_rfl) ?_
  refine KR.run 11 [(0, .slice a0a a0n a0k), (10, .bool (decide (((a0n : Nat) : Int) < 1)))] 41 (s' := (.reg (opsAt (sub B [1, 0, 0])) [4, 5, 6, 7] :: S1)) (by kernel_rfl) fun J => ?_
  by_cases c1 : ((a0n : Nat) : Int) < 1
  · replace h := iteT c1 h
    refine KR.setV 10 (by kernel_rfl) (dT c1) ?_
    exact KR.run 5 [(0, .slice a0a a0n a0k), (14, .bool true)] 41 (s' := (.code (sub B [1, 0, 1]) :: S0)) (by kernel_rfl) h
  · replace h := iteF c1 h
    refine KR.setV 10 (by kernel_rfl) (dF c1) ?_
    exact KR.run 5 [(0, .slice a0a a0n a0k), (14, .bool (decide (((a0n : Nat) : Int) > 16)))] 41 (s' := (.code (sub B [1, 0, 1]) :: S0)) (by kernel_rfl) h
end F23
/-! #### 24 campanile/campanileref1.SameInts -/
namespace F24
noncomputable def B : Code := bodyOf Try.f24
noncomputable def S0 : List It := (.code (sub B [1, 1]) :: [])
noncomputable def S1 : List It := (.code (sub B [1, 1, 1]) :: [])
noncomputable def S2 : List It := (.blk 0 :: S1)
noncomputable def S3 : List It := (.lp (sub B [1, 1, 0, 1, 0, 0]) :: S2)
noncomputable def S4 : List It := (.code (sub B [1, 1, 0, 1, 0, 0, 1, 1]) :: S3)
noncomputable def S5 : List It := (.code (sub B [1, 1, 0, 1, 0, 0, 1, 1, 1]) :: S3)
noncomputable def S6 : List It := (.blk 1 :: S5)
noncomputable def S7 : List It := (.code (sub B [1, 1, 0, 1, 0, 0, 1, 1, 0, 0, 1, 1]) :: S6)
def L0 (t0a : Option Addr) (t0n : Nat) (t0k : Nat) (t1a : Option Addr) (t1n : Nat) (t1k : Nat) (t12 : Int) (t13 : Int) (H : Heap) (r : Value × Heap) : Prop := ∀ J, KR Try.prog good Try.f24 S3 (mat J 26 [(0, .slice t0a t0n t0k), (1, .slice t1a t1n t1k), (12, .int .i64 t12), (13, .int .i64 t13)]) H r
theorem L0_step {t0a : Option Addr} {t0n : Nat} {t0k : Nat} {t1a : Option Addr} {t1n : Nat} {t1k : Nat} {t12 : Int} {t13 : Int} {H : Heap} {r : Value × Heap} (h :
    if t13 < t12 then
    (∃ (t0ab t0ao : Nat), t0a = some ⟨t0ab, t0ao, none⟩ ∧
    ((0 : Int) ≤ t13 ∧ t13 < ((t0n : Nat) : Int) ∧
    (∃ (t19 : Int), ldc H t0ab (t0ao + Int.toNat t13 * 1) = some (.int .i64 t19) ∧
    (∃ (t1ab t1ao : Nat), t1a = some ⟨t1ab, t1ao, none⟩ ∧
    ((0 : Int) ≤ t13 ∧ t13 < ((t1n : Nat) : Int) ∧
    (∃ (t23 : Int), ldc H t1ab (t1ao + Int.toNat t13 * 1) = some (.int .i64 t23) ∧
    (if t19 = t23 then
    (L0 ((some ⟨t0ab, t0ao, none⟩)) (t0n) (t0k) ((some ⟨t1ab, t1ao, none⟩)) (t1n) (t1k) (t12) ((IntKind.wrap .i64 (t13 + 1))) H r)
    else
    (r = (.bool false, H)))))))))
    else
    (r = (.bool true, H))) :
    L0 t0a t0n t0k t1a t1n t1k t12 t13 H r := by
  intro J
  show KR _ _ _ (.lp (sub B [1, 1, 0, 1, 0, 0]) :: S2) _ _ _
  refine KR.run 6 [(0, .slice t0a t0n t0k), (1, .slice t1a t1n t1k), (12, .int .i64 t12), (13, .int .i64 t13), (14, .bool (decide (t13 < t12)))] 26 (s' := (.code (sub B [1, 1, 0, 1, 0, 0, 1, 0]) :: S4)) (by kernel_rfl) fun J => ?_
  by_cases c2 : t13 < t12
  · replace h := iteT c2 h
    refine KR.br true (by kernel_rfl) (vB (dT c2)) ?_
    refine KR.run 9 [(0, .slice t0a t0n t0k), (1, .slice t1a t1n t1k), (5, .int .i64 t13), (12, .int .i64 t12), (13, .int .i64 t13)] 26 (s' := (.code (sub B [1, 1, 0, 1, 0, 0, 1, 1, 0, 0, 1, 0]) :: S7)) (by kernel_rfl) fun J => ?_
    refine KR.sd (by kernel_rfl) ?_
    obtain ⟨t0ab, t0ao, rfl, h⟩ := h
    refine KR.run 2 [(0, .slice (some ⟨t0ab, t0ao, none⟩) t0n t0k), (1, .slice t1a t1n t1k), (5, .int .i64 t13), (12, .int .i64 t12), (13, .int .i64 t13), (16, .slice (some ⟨t0ab, t0ao, none⟩) t0n t0k), (17, .int .i64 t13)] 26 (s' := (.reg (opsAt (sub B [1, 1, 0, 1, 0, 0, 1, 1, 0, 0, 1, 0])) [2, 3, 4, 5, 6, 7, 8] :: S7)) (by kernel_rfl) fun J => ?_
    obtain ⟨q3, q3x, h⟩ := h
    refine KR.p (one_ix 1 t0ab t0ao (by kernel_rfl) q3 q3x) ?_
    obtain ⟨t19, q4, h⟩ := h
    refine KR.rd (one_ld (by kernel_rfl) q4) ?_
    obtain ⟨t1ab, t1ao, rfl, h⟩ := h
    refine KR.run 2 [(0, .slice (some ⟨t0ab, t0ao, none⟩) t0n t0k), (1, .slice (some ⟨t1ab, t1ao, none⟩) t1n t1k), (12, .int .i64 t12), (13, .int .i64 t13), (19, .int .i64 t19), (20, .slice (some ⟨t1ab, t1ao, none⟩) t1n t1k), (21, .int .i64 t13)] 26 (s' := (.reg (opsAt (sub B [1, 1, 0, 1, 0, 0, 1, 1, 0, 0, 1, 0])) [6, 7, 8] :: S7)) (by kernel_rfl) fun J => ?_
    obtain ⟨q5, q5x, h⟩ := h
    refine KR.p (one_ix 1 t1ab t1ao (by kernel_rfl) q5 q5x) ?_
    obtain ⟨t23, q6, h⟩ := h
    refine KR.rd (one_ld (by kernel_rfl) q6) ?_
    refine KR.run 2 [(0, .slice (some ⟨t0ab, t0ao, none⟩) t0n t0k), (1, .slice (some ⟨t1ab, t1ao, none⟩) t1n t1k), (12, .int .i64 t12), (13, .int .i64 t13), (24, .bool (!(t19 == t23)))] 26 (s' := (.code (sub B [1, 1, 0, 1, 0, 0, 1, 1, 0, 0, 1, 1]) :: S6)) (by kernel_rfl) fun J => ?_
    by_cases c7 : t19 = t23
    · replace h := iteT c7 h
      refine KR.br false (by kernel_rfl) (vB (nB (eT c7))) ?_
      exact KR.run 6 [(0, .slice (some ⟨t0ab, t0ao, none⟩) t0n t0k), (1, .slice (some ⟨t1ab, t1ao, none⟩) t1n t1k), (12, .int .i64 t12), (13, .int .i64 (IntKind.wrap .i64 (t13 + 1)))] 26 (s' := (.lp (sub B [1, 1, 0, 1, 0, 0]) :: S2)) (by kernel_rfl) h
    · replace h := iteF c7 h
      refine KR.br true (by kernel_rfl) (vB (nB (eF c7))) ?_
      refine KR.run 4 [(4, .bool false)] 26 (s' := (.code (sub B [1, 1, 0, 1, 0, 0, 1, 1, 0, 0, 1, 1, 0, 1]) :: S6)) (by kernel_rfl) fun J => ?_
      exact KR.fin (by kernel_rfl) h
  · replace h := iteF c2 h
    refine KR.br false (by kernel_rfl) (vB (dF c2)) ?_
    refine KR.run 5 [(4, .bool true)] 26 (s' := (.code (sub B [1, 1, 1, 1]) :: [])) (by kernel_rfl) fun J => ?_
    exact KR.fin (by kernel_rfl) h
theorem call {a0a : Option Addr} {a0n : Nat} {a0k : Nat} {a1a : Option Addr} {a1n : Nat} {a1k : Nat} {H : Heap} {r : Value × Heap} (h :
    if ((a0n : Nat) : Int) = ((a1n : Nat) : Int) then
    (L0 (a0a) (a0n) (a0k) (a1a) (a1n) (a1k) (((a0n : Nat) : Int)) 0 H r)
    else
    (r = (.bool false, H))) :
    xC Try.prog good 24 [.slice a0a a0n a0k, .slice a1a a1n a1k] H = some r := by
  refine KR.enter (fn := Try.f24) (c := B) (by kernel_rfl) (by kernel_rfl) ?_
  refine KR.run 13 [(0, .slice a0a a0n a0k), (1, .slice a1a a1n a1k), (10, .bool (!(((a0n : Nat) : Int) == ((a1n : Nat) : Int))))] 26 (s' := (.code (sub B [1, 0, 1]) :: S0)) (by kernel_rfl) fun J => ?_
  by_cases c1 : ((a0n : Nat) : Int) = ((a1n : Nat) : Int)
  · replace h := iteT c1 h
    refine KR.br false (by kernel_rfl) (vB (nB (eT c1))) ?_
    exact KR.run 10 [(0, .slice a0a a0n a0k), (1, .slice a1a a1n a1k), (12, .int .i64 ((a0n : Nat) : Int)), (13, .int .i64 0)] 26 (s' := (.lp (sub B [1, 1, 0, 1, 0, 0]) :: S2)) (by kernel_rfl) h
  · replace h := iteF c1 h
    refine KR.br true (by kernel_rfl) (vB (nB (eF c1))) ?_
    refine KR.run 4 [(4, .bool false)] 26 (s' := (.code (sub B [1, 0, 1, 0, 1]) :: S0)) (by kernel_rfl) fun J => ?_
    exact KR.fin (by kernel_rfl) h
end F24
/-! #### 25 campanile/hop.Open -/
namespace F25
noncomputable def B : Code := bodyOf Try.f25
noncomputable def S0 : List It := (.code (sub B [1]) :: [])
noncomputable def S1 : List It := (.code (sub B [1, 1]) :: [])
noncomputable def S3 : List It := (.code (sub B [1, 1, 1]) :: [])
noncomputable def S4 : List It := (.code (sub B [1, 1, 1, 1]) :: [])
noncomputable def S2 : List It := (.code (sub B [1, 0, 1]) :: S1)
noncomputable def S5 : List It := (.code (sub B [1, 1, 1, 0, 1, 0, 1]) :: S4)
theorem call {a0a : Option Addr} {a0n : Nat} {a0k : Nat} {a1 : Int} {H : Heap} {r : Value × Heap} (h :
    ∃ (H_1 : Heap), H_1 = H.push (.row [.int .u32 a1] true) ∧
    (∃ (t7 : Bool) (H_2 : Heap), xC Try.prog good 22 [.slice a0a a0n a0k] H_1 = some (.bool t7, H_2) ∧
    (if t7 = true then
    (∃ (t10a : Option Addr) (t10n : Nat) (t10k : Nat) (H_3 : Heap), xC Try.prog good 37 [.slice a0a a0n a0k] H_2 = some (.slice t10a t10n t10k, H_3) ∧
    (∃ (t12a : Option Addr) (t12n : Nat) (t12k : Nat) (H_4 : Heap), xC Try.prog good 36 [.slice t10a t10n t10k, .func (.func 38) #[] #[.pointer (some ⟨H.next, 0, none⟩)]] H_3 = some (.slice t12a t12n t12k, H_4) ∧
    (if ((t12n : Nat) : Int) = 0 then
    (∃ (t17a : Option Addr) (t17n : Nat) (t17k : Nat) (H_5 : Heap), xC Try.prog good 37 [.slice a0a a0n a0k] H_4 = some (.slice t17a t17n t17k, H_5) ∧
    (r = (.slice t17a t17n t17k, H_5)))
    else
    (r = (.slice t12a t12n t12k, H_4)))))
    else
    (r = (.slice none 0 0, H_2))))) :
    xC Try.prog good 25 [.slice a0a a0n a0k, .int .u32 a1] H = some r := by
  refine KR.enter (fn := Try.f25) (c := B) (by kernel_rfl) (by kernel_rfl) ?_
  refine KR.run 2 [(0, .slice a0a a0n a0k), (1, .int .u32 a1)] 19 (s' := (.reg (opsAt (sub B [0])) [0, 1] :: S0)) (by kernel_rfl) fun J => ?_
  obtain ⟨H_1, q1, h⟩ := h
  refine KR.mk (w := pRow [.int .u32 a1]) (one_al (by kernel_rfl)) q1 ?_
  refine KR.run 6 [(0, .slice a0a a0n a0k), (3, .pointer (some ⟨H.next, 0, none⟩)), (6, .slice a0a a0n a0k)] 19 (s' := (.reg (opsAt (sub B [1, 0, 0])) [1, 2] :: S2)) (by kernel_rfl) fun J => ?_
  obtain ⟨t7, H_2, q2, h⟩ := h
  refine KR.se (one_ca (by kernel_rfl) q2) ?_
  refine KR.run 2 [(0, .slice a0a a0n a0k), (3, .pointer (some ⟨H.next, 0, none⟩)), (8, .bool (!t7))] 19 (s' := (.code (sub B [1, 0, 1]) :: S1)) (by kernel_rfl) fun J => ?_
  by_cases c3 : t7 = true
  · replace h := iteT c3 h
    refine KR.br false (by kernel_rfl) (vB (nB (bT c3))) ?_
    refine KR.run 4 [(0, .slice a0a a0n a0k), (3, .pointer (some ⟨H.next, 0, none⟩)), (9, .slice a0a a0n a0k)] 19 (s' := (.reg (opsAt (sub B [1, 1, 0])) [1, 2, 3, 4] :: S3)) (by kernel_rfl) fun J => ?_
    obtain ⟨t10a, t10n, t10k, H_3, q4, h⟩ := h
    refine KR.se (one_ca (by kernel_rfl) q4) ?_
    refine KR.run 1 [(0, .slice a0a a0n a0k), (10, .slice t10a t10n t10k), (11, .func (.func 38) #[] #[.pointer (some ⟨H.next, 0, none⟩)])] 19 (s' := (.reg (opsAt (sub B [1, 1, 0])) [3, 4] :: S3)) (by kernel_rfl) fun J => ?_
    obtain ⟨t12a, t12n, t12k, H_4, q5, h⟩ := h
    refine KR.se (one_ca (by kernel_rfl) q5) ?_
    refine KR.run 9 [(0, .slice a0a a0n a0k), (5, .slice t12a t12n t12k), (15, .bool (((t12n : Nat) : Int) == 0))] 19 (s' := (.code (sub B [1, 1, 1, 0, 1]) :: S4)) (by kernel_rfl) fun J => ?_
    by_cases c6 : ((t12n : Nat) : Int) = 0
    · replace h := iteT c6 h
      refine KR.br true (by kernel_rfl) (vB (eT c6)) ?_
      refine KR.run 3 [(16, .slice a0a a0n a0k)] 19 (s' := (.reg (opsAt (sub B [1, 1, 1, 0, 1, 0, 0])) [1, 2] :: S5)) (by kernel_rfl) fun J => ?_
      obtain ⟨t17a, t17n, t17k, H_5, q7, h⟩ := h
      refine KR.se (one_ca (by kernel_rfl) q7) ?_
      refine KR.run 2 [(4, .slice t17a t17n t17k)] 19 (s' := (.code (sub B [1, 1, 1, 0, 1, 0, 1]) :: S4)) (by kernel_rfl) fun J => ?_
      exact KR.fin (by kernel_rfl) h
    · replace h := iteF c6 h
      refine KR.br false (by kernel_rfl) (vB (eF c6)) ?_
      refine KR.run 6 [(4, .slice t12a t12n t12k)] 19 (s' := (.code (sub B [1, 1, 1, 1, 1]) :: [])) (by kernel_rfl) fun J => ?_
      exact KR.fin (by kernel_rfl) h
  · replace h := iteF c3 h
    refine KR.br true (by kernel_rfl) (vB (nB (bF c3))) ?_
    refine KR.run 4 [(4, .slice none 0 0)] 19 (s' := (.code (sub B [1, 0, 1, 0, 1]) :: S1)) (by kernel_rfl) fun J => ?_
    exact KR.fin (by kernel_rfl) h
end F25
/-! #### 26 campanile/campanileref1.Open -/
namespace F26
noncomputable def B : Code := bodyOf Try.f26
noncomputable def S0 : List It := (.code (sub B [1, 1]) :: [])
noncomputable def S2 : List It := (.code (sub B [1, 1, 1, 1]) :: [])
noncomputable def S10 : List It := (.code (sub B [1, 1, 1, 1, 1]) :: [])
noncomputable def S1 : List It := (.code (sub B [1, 0, 1]) :: S0)
noncomputable def S3 : List It := (.blk 0 :: S2)
noncomputable def S11 : List It := (.code (sub B [1, 1, 1, 1, 0, 1, 0, 1]) :: S10)
noncomputable def S4 : List It := (.lp (sub B [1, 1, 1, 0, 1, 0, 0]) :: S3)
noncomputable def S5 : List It := (.code (sub B [1, 1, 1, 0, 1, 0, 0, 1, 1]) :: S4)
noncomputable def S6 : List It := (.code (sub B [1, 1, 1, 0, 1, 0, 0, 1, 1, 1]) :: S4)
noncomputable def S7 : List It := (.blk 1 :: S6)
noncomputable def S8 : List It := (.code (sub B [1, 1, 1, 0, 1, 0, 0, 1, 1, 0, 0, 1]) :: S7)
noncomputable def S9 : List It := (.code (sub B [1, 1, 1, 0, 1, 0, 0, 1, 1, 0, 0, 1, 1]) :: S7)
def L0 (t0a : Option Addr) (t0n : Nat) (t0k : Nat) (t1 : Int) (t5a : Option Addr) (t5n : Nat) (t5k : Nat) (t11a : Option Addr) (t11n : Nat) (t11k : Nat) (t12 : Int) (t13 : Int) (H : Heap) (r : Value × Heap) : Prop := ∀ J, KR Try.prog good Try.f26 S4 (mat J 35 [(0, .slice t0a t0n t0k), (1, .int .u32 t1), (5, .slice t5a t5n t5k), (11, .slice t11a t11n t11k), (12, .int .i64 t12), (13, .int .i64 t13)]) H r
theorem L0_step {t0a : Option Addr} {t0n : Nat} {t0k : Nat} {t1 : Int} {t5a : Option Addr} {t5n : Nat} {t5k : Nat} {t11a : Option Addr} {t11n : Nat} {t11k : Nat} {t12 : Int} {t13 : Int} {H : Heap} {r : Value × Heap} (h :
    if t13 < t12 then
    (∃ (t11ab t11ao : Nat), t11a = some ⟨t11ab, t11ao, none⟩ ∧
    ((0 : Int) ≤ t13 ∧ t13 < ((t11n : Nat) : Int) ∧
    (∃ (t16 : Int), ldc H t11ab (t11ao + Int.toNat t13 * 1) = some (.int .i64 t16) ∧
    ((0 : Int) ≤ (IntKind.wrap .u64 t16) ∧
    (if (iand .u32 (ishr .u32 t1 (IntKind.wrap .u64 t16)) 1) = 0 then
    (∃ (H_1 : Heap), H_1 = H.push (.row [.int .i64 t16] true) ∧
    (∃ (t26a : Option Addr) (t26n : Nat) (t26k : Nat) (H_2 : Heap), papp H_1 1 8 t5a t5n t5k (some ⟨H.next, 0, none⟩) 1 (UNK 1) = some ((t26a, t26n, t26k), H_2) ∧
    (L0 (t0a) (t0n) (t0k) (t1) (t26a) (t26n) (t26k) ((some ⟨t11ab, t11ao, none⟩)) (t11n) (t11k) (t12) ((IntKind.wrap .i64 (t13 + 1))) H_2 r)))
    else
    (L0 (t0a) (t0n) (t0k) (t1) (t5a) (t5n) (t5k) ((some ⟨t11ab, t11ao, none⟩)) (t11n) (t11k) (t12) ((IntKind.wrap .i64 (t13 + 1))) H r))))))
    else
    (if ((t5n : Nat) : Int) = 0 then
    (∃ (t33a : Option Addr) (t33n : Nat) (t33k : Nat) (H_3 : Heap), papp H 1 8 t5a t5n t5k t0a t0n t0k = some ((t33a, t33n, t33k), H_3) ∧
    (r = (.slice t33a t33n t33k, H_3)))
    else
    (r = (.slice t5a t5n t5k, H)))) :
    L0 t0a t0n t0k t1 t5a t5n t5k t11a t11n t11k t12 t13 H r := by
  intro J
  show KR _ _ _ (.lp (sub B [1, 1, 1, 0, 1, 0, 0]) :: S3) _ _ _
  refine KR.run 6 [(0, .slice t0a t0n t0k), (1, .int .u32 t1), (5, .slice t5a t5n t5k), (11, .slice t11a t11n t11k), (12, .int .i64 t12), (13, .int .i64 t13), (14, .bool (decide (t13 < t12)))] 35 (s' := (.code (sub B [1, 1, 1, 0, 1, 0, 0, 1, 0]) :: S5)) (by kernel_rfl) fun J => ?_
  by_cases c3 : t13 < t12
  · replace h := iteT c3 h
    refine KR.br true (by kernel_rfl) (vB (dT c3)) ?_
    obtain ⟨t11ab, t11ao, rfl, h⟩ := h
    refine KR.run 5 [(0, .slice t0a t0n t0k), (1, .int .u32 t1), (5, .slice t5a t5n t5k), (11, .slice (some ⟨t11ab, t11ao, none⟩) t11n t11k), (12, .int .i64 t12), (13, .int .i64 t13)] 35 (s' := (.reg (opsAt (sub B [1, 1, 1, 0, 1, 0, 0, 1, 1, 0, 0, 0])) [0, 1, 2] :: S8)) (by kernel_rfl) fun J => ?_
    obtain ⟨q4, q4x, h⟩ := h
    refine KR.p (one_ix 1 t11ab t11ao (by kernel_rfl) q4 q4x) ?_
    obtain ⟨t16, q5, h⟩ := h
    refine KR.rd (one_ld (by kernel_rfl) q5) ?_
    refine KR.run 7 [(0, .slice t0a t0n t0k), (1, .int .u32 t1), (5, .slice t5a t5n t5k), (7, .int .i64 t16), (11, .slice (some ⟨t11ab, t11ao, none⟩) t11n t11k), (12, .int .i64 t12), (13, .int .i64 t13), (17, .int .u32 t1), (19, .int .u64 (IntKind.wrap .u64 t16))] 35 (s' := (.reg (opsAt (sub B [1, 1, 1, 0, 1, 0, 0, 1, 1, 0, 0, 1, 0])) [3, 4, 5] :: S9)) (by kernel_rfl) fun J => ?_
    obtain ⟨q6, h⟩ := h
    refine KR.p (one_shr .u32 .u64 t1 (by kernel_rfl) q6) ?_
    refine KR.run 3 [(0, .slice t0a t0n t0k), (1, .int .u32 t1), (5, .slice t5a t5n t5k), (7, .int .i64 t16), (11, .slice (some ⟨t11ab, t11ao, none⟩) t11n t11k), (12, .int .i64 t12), (13, .int .i64 t13), (22, .bool ((iand .u32 (ishr .u32 t1 (IntKind.wrap .u64 t16)) 1) == 0))] 35 (s' := (.code (sub B [1, 1, 1, 0, 1, 0, 0, 1, 1, 0, 0, 1, 1]) :: S7)) (by kernel_rfl) fun J => ?_
    by_cases c7 : (iand .u32 (ishr .u32 t1 (IntKind.wrap .u64 t16)) 1) = 0
    · replace h := iteT c7 h
      refine KR.br true (by kernel_rfl) (vB (eT c7)) ?_
      refine KR.run 3 [(0, .slice t0a t0n t0k), (1, .int .u32 t1), (11, .slice (some ⟨t11ab, t11ao, none⟩) t11n t11k), (12, .int .i64 t12), (13, .int .i64 t13), (23, .slice t5a t5n t5k), (24, .int .i64 t16)] 35 (s' := (.reg (opsAt (sub B [1, 1, 1, 0, 1, 0, 0, 1, 1, 0, 0, 1, 1, 0])) [2, 3, 4] :: S7)) (by kernel_rfl) fun J => ?_
      obtain ⟨H_1, q8, h⟩ := h
      refine KR.mk (w := sRow 1 1 [.int .i64 t16]) (one_al (by kernel_rfl)) q8 ?_
      obtain ⟨t26a, t26n, t26k, H_2, q9, h⟩ := h
      refine KR.se (one_ap 1 8 (by kernel_rfl) q9) ?_
      exact KR.run 7 [(0, .slice t0a t0n t0k), (1, .int .u32 t1), (5, .slice t26a t26n t26k), (11, .slice (some ⟨t11ab, t11ao, none⟩) t11n t11k), (12, .int .i64 t12), (13, .int .i64 (IntKind.wrap .i64 (t13 + 1)))] 35 (s' := (.lp (sub B [1, 1, 1, 0, 1, 0, 0]) :: S3)) (by kernel_rfl) h
    · replace h := iteF c7 h
      refine KR.br false (by kernel_rfl) (vB (eF c7)) ?_
      exact KR.run 6 [(0, .slice t0a t0n t0k), (1, .int .u32 t1), (5, .slice t5a t5n t5k), (11, .slice (some ⟨t11ab, t11ao, none⟩) t11n t11k), (12, .int .i64 t12), (13, .int .i64 (IntKind.wrap .i64 (t13 + 1)))] 35 (s' := (.lp (sub B [1, 1, 1, 0, 1, 0, 0]) :: S3)) (by kernel_rfl) h
  · replace h := iteF c3 h
    refine KR.br false (by kernel_rfl) (vB (dF c3)) ?_
    refine KR.run 8 [(0, .slice t0a t0n t0k), (5, .slice t5a t5n t5k), (30, .bool (((t5n : Nat) : Int) == 0))] 35 (s' := (.code (sub B [1, 1, 1, 1, 0, 1]) :: S10)) (by kernel_rfl) fun J => ?_
    by_cases c10 : ((t5n : Nat) : Int) = 0
    · replace h := iteT c10 h
      refine KR.br true (by kernel_rfl) (vB (eT c10)) ?_
      refine KR.run 4 [(31, .slice t5a t5n t5k), (32, .slice t0a t0n t0k)] 35 (s' := (.reg (opsAt (sub B [1, 1, 1, 1, 0, 1, 0, 0])) [2, 3] :: S11)) (by kernel_rfl) fun J => ?_
      obtain ⟨t33a, t33n, t33k, H_3, q11, h⟩ := h
      refine KR.se (one_ap 1 8 (by kernel_rfl) q11) ?_
      refine KR.run 2 [(4, .slice t33a t33n t33k)] 35 (s' := (.code (sub B [1, 1, 1, 1, 0, 1, 0, 1]) :: S10)) (by kernel_rfl) fun J => ?_
      exact KR.fin (by kernel_rfl) h
    · replace h := iteF c10 h
      refine KR.br false (by kernel_rfl) (vB (eF c10)) ?_
      refine KR.run 6 [(4, .slice t5a t5n t5k)] 35 (s' := (.code (sub B [1, 1, 1, 1, 1, 1]) :: [])) (by kernel_rfl) fun J => ?_
      exact KR.fin (by kernel_rfl) h
theorem call {a0a : Option Addr} {a0n : Nat} {a0k : Nat} {a1 : Int} {H : Heap} {r : Value × Heap} (h :
    ∃ (t9 : Bool) (H_1 : Heap), xC Try.prog good 23 [.slice a0a a0n a0k] H = some (.bool t9, H_1) ∧
    (if t9 = true then
    (L0 (a0a) (a0n) (a0k) (a1) (none) (0) (0) (a0a) (a0n) (a0k) (((a0n : Nat) : Int)) 0 H_1 r)
    else
    (r = (.slice none 0 0, H_1)))) :
    xC Try.prog good 26 [.slice a0a a0n a0k, .int .u32 a1] H = some r := by
  refine KR.enter (fn := Try.f26) (c := B) (by kernel_rfl) (by kernel_rfl) ?_
  refine KR.run 8 [(0, .slice a0a a0n a0k), (1, .int .u32 a1), (8, .slice a0a a0n a0k)] 35 (s' := (.reg (opsAt (sub B [1, 0, 0])) [1, 2] :: S1)) (by kernel_rfl) fun J => ?_
  obtain ⟨t9, H_1, q1, h⟩ := h
  refine KR.se (one_ca (by kernel_rfl) q1) ?_
  refine KR.run 2 [(0, .slice a0a a0n a0k), (1, .int .u32 a1), (10, .bool (!t9))] 35 (s' := (.code (sub B [1, 0, 1]) :: S0)) (by kernel_rfl) fun J => ?_
  by_cases c2 : t9 = true
  · replace h := iteT c2 h
    refine KR.br false (by kernel_rfl) (vB (nB (bT c2))) ?_
    exact KR.run 14 [(0, .slice a0a a0n a0k), (1, .int .u32 a1), (5, .slice none 0 0), (11, .slice a0a a0n a0k), (12, .int .i64 ((a0n : Nat) : Int)), (13, .int .i64 0)] 35 (s' := (.lp (sub B [1, 1, 1, 0, 1, 0, 0]) :: S3)) (by kernel_rfl) h
  · replace h := iteF c2 h
    refine KR.br true (by kernel_rfl) (vB (nB (bF c2))) ?_
    refine KR.run 4 [(4, .slice none 0 0)] 35 (s' := (.code (sub B [1, 0, 1, 0, 1]) :: S0)) (by kernel_rfl) fun J => ?_
    exact KR.fin (by kernel_rfl) h
end F26
/-! #### 27 campanile/hop.Channel -/
namespace F27
noncomputable def B : Code := bodyOf Try.f27
noncomputable def S0 : List It := (.code (sub B [1, 1]) :: [])
noncomputable def S1 : List It := (.code (sub B [1, 1, 1]) :: [])
noncomputable def S3 : List It := (.code (sub B [1, 1, 1, 1]) :: [])
noncomputable def S2 : List It := (.code (sub B [1, 1, 0, 1]) :: S1)
def L0 (t2 : Int) (t3 : Int) (t9a : Option Addr) (t9n : Nat) (t9k : Nat) (t31 : Bool) (H : Heap) (r : Value × Heap) : Prop := ∀ J, KR Try.prog good Try.f27 S2 (mat J 41 [(2, .int .i64 t2), (3, .int .i64 t3), (9, .slice t9a t9n t9k), (31, .bool t31)]) H r
theorem L0_step {t2 : Int} {t3 : Int} {t9a : Option Addr} {t9n : Nat} {t9k : Nat} {t31 : Bool} {H : Heap} {r : Value × Heap} (h :
    if t31 = true then
    (r = (.int .i64 (-1), H))
    else
    (((t9n : Nat) : Int) ≠ 0 ∧
    (∃ (t9ab t9ao : Nat), t9a = some ⟨t9ab, t9ao, none⟩ ∧
    ((0 : Int) ≤ (Int.tmod (IntKind.wrap .i64 (t2 + t3)) ((t9n : Nat) : Int)) ∧ (Int.tmod (IntKind.wrap .i64 (t2 + t3)) ((t9n : Nat) : Int)) < ((t9n : Nat) : Int) ∧
    (∃ (t40 : Int), ldc H t9ab (t9ao + Int.toNat (Int.tmod (IntKind.wrap .i64 (t2 + t3)) ((t9n : Nat) : Int)) * 1) = some (.int .i64 t40) ∧
    (r = (.int .i64 t40, H))))))) :
    L0 t2 t3 t9a t9n t9k t31 H r := by
  intro J
  show KR _ _ _ (.code (sub B [1, 1, 0, 1]) :: S1) _ _ _
  by_cases c6 : t31 = true
  · replace h := iteT c6 h
    refine KR.br true (by kernel_rfl) (vB (bT c6)) ?_
    refine KR.run 4 [(8, .int .i64 (-1))] 41 (s' := (.code (sub B [1, 1, 0, 1, 0, 1]) :: S1)) (by kernel_rfl) fun J => ?_
    exact KR.fin (by kernel_rfl) h
  · replace h := iteF c6 h
    refine KR.br false (by kernel_rfl) (vB (bF c6)) ?_
    refine KR.run 9 [(32, .slice t9a t9n t9k), (35, .int .i64 (IntKind.wrap .i64 (t2 + t3))), (37, .int .i64 ((t9n : Nat) : Int))] 41 (s' := (.reg (opsAt (sub B [1, 1, 1, 0])) [6, 7, 8, 9] :: S3)) (by kernel_rfl) fun J => ?_
    obtain ⟨q7, h⟩ := h
    refine KR.p (one_rem .i64 (IntKind.wrap .i64 (t2 + t3)) (by kernel_rfl) q7) ?_
    obtain ⟨t9ab, t9ao, rfl, h⟩ := h
    obtain ⟨q8, q8x, h⟩ := h
    refine KR.p (one_ix 1 t9ab t9ao (by kernel_rfl) q8 q8x) ?_
    obtain ⟨t40, q9, h⟩ := h
    refine KR.rd (one_ld (by kernel_rfl) q9) ?_
    refine KR.run 2 [(8, .int .i64 t40)] 41 (s' := (.code (sub B [1, 1, 1, 1]) :: [])) (by kernel_rfl) fun J => ?_
    exact KR.fin (by kernel_rfl) h
theorem call {a0a : Option Addr} {a0n : Nat} {a0k : Nat} {a1 : Int} {a2 : Int} {a3 : Int} {H : Heap} {r : Value × Heap} (h :
    ∃ (t12a : Option Addr) (t12n : Nat) (t12k : Nat) (H_1 : Heap), xC Try.prog good 25 [.slice a0a a0n a0k, .int .u32 a1] H = some (.slice t12a t12n t12k, H_1) ∧
    (if ((t12n : Nat) : Int) = 0 then
    (L0 (a2) (a3) (t12a) (t12n) (t12k) (true) H_1 r)
    else
    (if a2 < 0 then
    (L0 (a2) (a3) (t12a) (t12n) (t12k) (true) H_1 r)
    else
    (if a2 ≥ 1099511627776 then
    (L0 (a2) (a3) (t12a) (t12n) (t12k) (true) H_1 r)
    else
    (if a3 < 0 then
    (L0 (a2) (a3) (t12a) (t12n) (t12k) (true) H_1 r)
    else
    (L0 (a2) (a3) (t12a) (t12n) (t12k) ((decide (a3 > 255))) H_1 r)))))) :
    xC Try.prog good 27 [.slice a0a a0n a0k, .int .u32 a1, .int .i64 a2, .int .i64 a3] H = some r := by
  refine KR.enter (fn := Try.f27) (c := B) (by kernel_rfl) (by kernel_rfl) ?_
  refine KR.run 8 [(2, .int .i64 a2), (3, .int .i64 a3), (10, .slice a0a a0n a0k), (11, .int .u32 a1)] 41 (s' := (.reg (opsAt (sub B [1, 0])) [2, 3] :: S0)) (by kernel_rfl) fun J => ?_
  obtain ⟨t12a, t12n, t12k, H_1, q1, h⟩ := h
  refine KR.se (one_ca (by kernel_rfl) q1) ?_
  refine KR.run 9 [(2, .int .i64 a2), (3, .int .i64 a3), (9, .slice t12a t12n t12k), (16, .bool (((t12n : Nat) : Int) == 0))] 41 (s' := (.reg (opsAt (sub B [1, 1, 0, 0])) [4, 5, 6, 7, 8, 9, 10, 11, 12, 13, 14, 15, 16, 17, 18] :: S2)) (by kernel_rfl) fun J => ?_
  by_cases c2 : ((t12n : Nat) : Int) = 0
  · replace h := iteT c2 h
    refine KR.setV 16 (by kernel_rfl) (eT c2) ?_
    exact KR.run 16 [(2, .int .i64 a2), (3, .int .i64 a3), (9, .slice t12a t12n t12k), (31, .bool true)] 41 (s' := (.code (sub B [1, 1, 0, 1]) :: S1)) (by kernel_rfl) h
  · replace h := iteF c2 h
    refine KR.setV 16 (by kernel_rfl) (eF c2) ?_
    refine KR.run 4 [(2, .int .i64 a2), (3, .int .i64 a3), (9, .slice t12a t12n t12k), (20, .bool (decide (a2 < 0)))] 41 (s' := (.reg (opsAt (sub B [1, 1, 0, 0])) [8, 9, 10, 11, 12, 13, 14, 15, 16, 17, 18] :: S2)) (by kernel_rfl) fun J => ?_
    by_cases c3 : a2 < 0
    · replace h := iteT c3 h
      refine KR.setV 20 (by kernel_rfl) (dT c3) ?_
      exact KR.run 12 [(2, .int .i64 a2), (3, .int .i64 a3), (9, .slice t12a t12n t12k), (31, .bool true)] 41 (s' := (.code (sub B [1, 1, 0, 1]) :: S1)) (by kernel_rfl) h
    · replace h := iteF c3 h
      refine KR.setV 20 (by kernel_rfl) (dF c3) ?_
      refine KR.run 4 [(2, .int .i64 a2), (3, .int .i64 a3), (9, .slice t12a t12n t12k), (24, .bool (decide (a2 ≥ 1099511627776)))] 41 (s' := (.reg (opsAt (sub B [1, 1, 0, 0])) [12, 13, 14, 15, 16, 17, 18] :: S2)) (by kernel_rfl) fun J => ?_
      by_cases c4 : a2 ≥ 1099511627776
      · replace h := iteT c4 h
        refine KR.setV 24 (by kernel_rfl) (dT c4) ?_
        exact KR.run 8 [(2, .int .i64 a2), (3, .int .i64 a3), (9, .slice t12a t12n t12k), (31, .bool true)] 41 (s' := (.code (sub B [1, 1, 0, 1]) :: S1)) (by kernel_rfl) h
      · replace h := iteF c4 h
        refine KR.setV 24 (by kernel_rfl) (dF c4) ?_
        refine KR.run 4 [(2, .int .i64 a2), (3, .int .i64 a3), (9, .slice t12a t12n t12k), (28, .bool (decide (a3 < 0)))] 41 (s' := (.reg (opsAt (sub B [1, 1, 0, 0])) [16, 17, 18] :: S2)) (by kernel_rfl) fun J => ?_
        by_cases c5 : a3 < 0
        · replace h := iteT c5 h
          refine KR.setV 28 (by kernel_rfl) (dT c5) ?_
          exact KR.run 4 [(2, .int .i64 a2), (3, .int .i64 a3), (9, .slice t12a t12n t12k), (31, .bool true)] 41 (s' := (.code (sub B [1, 1, 0, 1]) :: S1)) (by kernel_rfl) h
        · replace h := iteF c5 h
          refine KR.setV 28 (by kernel_rfl) (dF c5) ?_
          exact KR.run 4 [(2, .int .i64 a2), (3, .int .i64 a3), (9, .slice t12a t12n t12k), (31, .bool (decide (a3 > 255)))] 41 (s' := (.code (sub B [1, 1, 0, 1]) :: S1)) (by kernel_rfl) h
end F27
/-! #### 28 campanile/campanileref1.Channel -/
namespace F28
noncomputable def B : Code := bodyOf Try.f28
noncomputable def S0 : List It := (.code (sub B [1, 1]) :: [])
noncomputable def S2 : List It := (.code (sub B [1, 1, 1]) :: [])
noncomputable def S3 : List It := (.code (sub B [1, 1, 1, 1]) :: [])
noncomputable def S1 : List It := (.code (sub B [1, 0, 1]) :: S0)
def L0 (t0a : Option Addr) (t0n : Nat) (t0k : Nat) (t1 : Int) (t2 : Int) (t3 : Int) (t25 : Bool) (H : Heap) (r : Value × Heap) : Prop := ∀ J, KR Try.prog good Try.f28 S1 (mat J 38 [(0, .slice t0a t0n t0k), (1, .int .u32 t1), (2, .int .i64 t2), (3, .int .i64 t3), (25, .bool t25)]) H r
theorem L0_step {t0a : Option Addr} {t0n : Nat} {t0k : Nat} {t1 : Int} {t2 : Int} {t3 : Int} {t25 : Bool} {H : Heap} {r : Value × Heap} (h :
    if t25 = true then
    (r = (.int .i64 (-1), H))
    else
    (∃ (t28a : Option Addr) (t28n : Nat) (t28k : Nat) (H_1 : Heap), xC Try.prog good 26 [.slice t0a t0n t0k, .int .u32 t1] H = some (.slice t28a t28n t28k, H_1) ∧
    (((t28n : Nat) : Int) ≠ 0 ∧
    (∃ (t28ab t28ao : Nat), t28a = some ⟨t28ab, t28ao, none⟩ ∧
    ((0 : Int) ≤ (Int.tmod (IntKind.wrap .i64 (t2 + t3)) ((t28n : Nat) : Int)) ∧ (Int.tmod (IntKind.wrap .i64 (t2 + t3)) ((t28n : Nat) : Int)) < ((t28n : Nat) : Int) ∧
    (∃ (t37 : Int), ldc H_1 t28ab (t28ao + Int.toNat (Int.tmod (IntKind.wrap .i64 (t2 + t3)) ((t28n : Nat) : Int)) * 1) = some (.int .i64 t37) ∧
    (r = (.int .i64 t37, H_1)))))))) :
    L0 t0a t0n t0k t1 t2 t3 t25 H r := by
  intro J
  show KR _ _ _ (.code (sub B [1, 0, 1]) :: S0) _ _ _
  by_cases c6 : t25 = true
  · replace h := iteT c6 h
    refine KR.br true (by kernel_rfl) (vB (bT c6)) ?_
    refine KR.run 4 [(8, .int .i64 (-1))] 38 (s' := (.code (sub B [1, 0, 1, 0, 1]) :: S0)) (by kernel_rfl) fun J => ?_
    exact KR.fin (by kernel_rfl) h
  · replace h := iteF c6 h
    refine KR.br false (by kernel_rfl) (vB (bF c6)) ?_
    refine KR.run 5 [(2, .int .i64 t2), (3, .int .i64 t3), (26, .slice t0a t0n t0k), (27, .int .u32 t1)] 38 (s' := (.reg (opsAt (sub B [1, 1, 0])) [2, 3] :: S2)) (by kernel_rfl) fun J => ?_
    obtain ⟨t28a, t28n, t28k, H_1, q7, h⟩ := h
    refine KR.se (one_ca (by kernel_rfl) q7) ?_
    refine KR.run 10 [(29, .slice t28a t28n t28k), (32, .int .i64 (IntKind.wrap .i64 (t2 + t3))), (34, .int .i64 ((t28n : Nat) : Int))] 38 (s' := (.reg (opsAt (sub B [1, 1, 1, 0])) [6, 7, 8, 9] :: S3)) (by kernel_rfl) fun J => ?_
    obtain ⟨q8, h⟩ := h
    refine KR.p (one_rem .i64 (IntKind.wrap .i64 (t2 + t3)) (by kernel_rfl) q8) ?_
    obtain ⟨t28ab, t28ao, rfl, h⟩ := h
    obtain ⟨q9, q9x, h⟩ := h
    refine KR.p (one_ix 1 t28ab t28ao (by kernel_rfl) q9 q9x) ?_
    obtain ⟨t37, q10, h⟩ := h
    refine KR.rd (one_ld (by kernel_rfl) q10) ?_
    refine KR.run 2 [(8, .int .i64 t37)] 38 (s' := (.code (sub B [1, 1, 1, 1]) :: [])) (by kernel_rfl) fun J => ?_
    exact KR.fin (by kernel_rfl) h
theorem call {a0a : Option Addr} {a0n : Nat} {a0k : Nat} {a1 : Int} {a2 : Int} {a3 : Int} {H : Heap} {r : Value × Heap} (h :
    ∃ (t11 : Bool) (H_1 : Heap), xC Try.prog good 23 [.slice a0a a0n a0k] H = some (.bool t11, H_1) ∧
    (if t11 = true then
    (∃ (t15 : Bool) (H_2 : Heap), xC Try.prog good 39 [.int .i64 a2] H_1 = some (.bool t15, H_2) ∧
    (if t15 = true then
    (if a3 < 0 then
    (L0 (a0a) (a0n) (a0k) (a1) (a2) (a3) (true) H_2 r)
    else
    (L0 (a0a) (a0n) (a0k) (a1) (a2) (a3) ((decide (a3 > 255))) H_2 r))
    else
    (L0 (a0a) (a0n) (a0k) (a1) (a2) (a3) (true) H_2 r)))
    else
    (L0 (a0a) (a0n) (a0k) (a1) (a2) (a3) (true) H_1 r))) :
    xC Try.prog good 28 [.slice a0a a0n a0k, .int .u32 a1, .int .i64 a2, .int .i64 a3] H = some r := by
  refine KR.enter (fn := Try.f28) (c := B) (by kernel_rfl) (by kernel_rfl) ?_
  refine KR.run 8 [(0, .slice a0a a0n a0k), (1, .int .u32 a1), (2, .int .i64 a2), (3, .int .i64 a3), (10, .slice a0a a0n a0k)] 38 (s' := (.reg (opsAt (sub B [1, 0, 0])) [1, 2, 3, 4, 5, 6, 7, 8, 9, 10, 11, 12, 13, 14, 15] :: S1)) (by kernel_rfl) fun J => ?_
  obtain ⟨t11, H_1, q1, h⟩ := h
  refine KR.se (one_ca (by kernel_rfl) q1) ?_
  refine KR.run 2 [(0, .slice a0a a0n a0k), (1, .int .u32 a1), (2, .int .i64 a2), (3, .int .i64 a3), (13, .bool (!t11))] 38 (s' := (.reg (opsAt (sub B [1, 0, 0])) [4, 5, 6, 7, 8, 9, 10, 11, 12, 13, 14, 15] :: S1)) (by kernel_rfl) fun J => ?_
  by_cases c2 : t11 = true
  · replace h := iteT c2 h
    refine KR.setV 13 (by kernel_rfl) (nB (bT c2)) ?_
    refine KR.run 1 [(0, .slice a0a a0n a0k), (1, .int .u32 a1), (2, .int .i64 a2), (3, .int .i64 a3), (13, .bool false), (14, .int .i64 a2)] 38 (s' := (.reg (opsAt (sub B [1, 0, 0])) [5, 6, 7, 8, 9, 10, 11, 12, 13, 14, 15] :: S1)) (by kernel_rfl) fun J => ?_
    obtain ⟨t15, H_2, q3, h⟩ := h
    refine KR.se (one_ca (by kernel_rfl) q3) ?_
    refine KR.run 3 [(0, .slice a0a a0n a0k), (1, .int .u32 a1), (2, .int .i64 a2), (3, .int .i64 a3), (18, .bool (!t15))] 38 (s' := (.reg (opsAt (sub B [1, 0, 0])) [9, 10, 11, 12, 13, 14, 15] :: S1)) (by kernel_rfl) fun J => ?_
    by_cases c4 : t15 = true
    · replace h := iteT c4 h
      refine KR.setV 18 (by kernel_rfl) (nB (bT c4)) ?_
      refine KR.run 4 [(0, .slice a0a a0n a0k), (1, .int .u32 a1), (2, .int .i64 a2), (3, .int .i64 a3), (22, .bool (decide (a3 < 0)))] 38 (s' := (.reg (opsAt (sub B [1, 0, 0])) [13, 14, 15] :: S1)) (by kernel_rfl) fun J => ?_
      by_cases c5 : a3 < 0
      · replace h := iteT c5 h
        refine KR.setV 22 (by kernel_rfl) (dT c5) ?_
        exact KR.run 4 [(0, .slice a0a a0n a0k), (1, .int .u32 a1), (2, .int .i64 a2), (3, .int .i64 a3), (25, .bool true)] 38 (s' := (.code (sub B [1, 0, 1]) :: S0)) (by kernel_rfl) h
      · replace h := iteF c5 h
        refine KR.setV 22 (by kernel_rfl) (dF c5) ?_
        exact KR.run 4 [(0, .slice a0a a0n a0k), (1, .int .u32 a1), (2, .int .i64 a2), (3, .int .i64 a3), (25, .bool (decide (a3 > 255)))] 38 (s' := (.code (sub B [1, 0, 1]) :: S0)) (by kernel_rfl) h
    · replace h := iteF c4 h
      refine KR.setV 18 (by kernel_rfl) (nB (bF c4)) ?_
      exact KR.run 8 [(0, .slice a0a a0n a0k), (1, .int .u32 a1), (2, .int .i64 a2), (3, .int .i64 a3), (25, .bool true)] 38 (s' := (.code (sub B [1, 0, 1]) :: S0)) (by kernel_rfl) h
  · replace h := iteF c2 h
    refine KR.setV 13 (by kernel_rfl) (nB (bF c2)) ?_
    exact KR.run 13 [(0, .slice a0a a0n a0k), (1, .int .u32 a1), (2, .int .i64 a2), (3, .int .i64 a3), (25, .bool true)] 38 (s' := (.code (sub B [1, 0, 1]) :: S0)) (by kernel_rfl) h
end F28
/-! #### 29 campanile/campanileref8.NewQueue -/
namespace F29
noncomputable def B : Code := bodyOf Try.f29
noncomputable def S0 : List It := (.code (sub B [1, 1]) :: [])
theorem call {a0 : Int} {H : Heap} {r : Value × Heap} (h :
    ∃ (H_1 : Heap), H_1 = H.push (.row [.int .i64 (imax 1 (imin a0 32)), .slice none 0 0, .int .i64 0] true) ∧
    (r = (.pointer (some ⟨H.next, 0, none⟩), H_1))) :
    xC Try.prog good 29 [.int .i64 a0] H = some r := by
  refine KR.enter (fn := Try.f29) (c := B) (by kernel_rfl) (by kernel_rfl) ?_
  refine KR.run 10 [(6, .agg #[.int .i64 (imax 1 (imin a0 32)), .slice none 0 0, .int .i64 0])] 8 (s' := (.reg (opsAt (sub B [1, 0])) [4, 5] :: S0)) (by kernel_rfl) fun J => ?_
  obtain ⟨H_1, q1, h⟩ := h
  refine KR.mk (w := pRow [.int .i64 (imax 1 (imin a0 32)), .slice none 0 0, .int .i64 0]) (one_al (by kernel_rfl)) q1 ?_
  refine KR.run 2 [(2, .pointer (some ⟨H.next, 0, none⟩))] 8 (s' := (.code (sub B [1, 1]) :: [])) (by kernel_rfl) fun J => ?_
  exact KR.fin (by kernel_rfl) h
end F29
/-! #### 30 (*campanile/campanileref8.Queue).Put -/
namespace F30
noncomputable def B : Code := bodyOf Try.f30
noncomputable def S0 : List It := (.code (sub B [1, 1]) :: [])
noncomputable def S3 : List It := (.code (sub B [1, 1, 1]) :: [])
noncomputable def S1 : List It := (.code (sub B [1, 0, 1]) :: S0)
noncomputable def S2 : List It := (.code (sub B [1, 0, 1, 0, 1]) :: S0)
theorem call {a0 : Option Addr} {a1 : Int} {a2a : Option Addr} {a2n : Nat} {a2k : Nat} {H : Heap} {r : Value × Heap} (h :
    ∃ (a0b a0o : Nat), a0 = some ⟨a0b, a0o, none⟩ ∧
    (∃ (t10a : Option Addr) (t10n : Nat) (t10k : Nat), ldc H a0b (a0o + 1) = some (.slice t10a t10n t10k) ∧
    (∃ (t15 : Int), ldc H a0b a0o = some (.int .i64 t15) ∧
    (if ((t10n : Nat) : Int) ≥ t15 then
    (∃ (t21 : Int), ldc H a0b (a0o + 2) = some (.int .i64 t21) ∧
    (∃ (H_1 : Heap), stc H a0b (a0o + 2) [.int .i64 (imin (IntKind.wrap .i64 (t21 + 1)) 1000000)] = some H_1 ∧
    (r = (.bool false, H_1))))
    else
    (∃ (t30a : Option Addr) (t30n : Nat) (t30k : Nat), ldc H a0b (a0o + 1) = some (.slice t30a t30n t30k) ∧
    (∃ (t31a : Option Addr) (t31n : Nat) (t31k : Nat) (H_2 : Heap), papp H 2 32 none 0 0 t30a t30n t30k = some ((t31a, t31n, t31k), H_2) ∧
    (∃ (t34a : Option Addr) (t34n : Nat) (t34k : Nat) (H_3 : Heap), papp H_2 1 1 none 0 0 a2a a2n a2k = some ((t34a, t34n, t34k), H_3) ∧
    (∃ (H_4 : Heap), H_4 = H_3.push (.row [.int .i64 a1, .slice t34a t34n t34k] true) ∧
    (∃ (t37a : Option Addr) (t37n : Nat) (t37k : Nat) (H_5 : Heap), papp H_4 2 32 t31a t31n t31k (some ⟨H_3.next, 0, none⟩) 1 (UNK 2) = some ((t37a, t37n, t37k), H_5) ∧
    (∃ (H_6 : Heap), stc H_5 a0b (a0o + 1) [.slice t37a t37n t37k] = some H_6 ∧
    (r = (.bool true, H_6)))))))))))) :
    xC Try.prog good 30 [.pointer a0, .int .i64 a1, .slice a2a a2n a2k] H = some r := by
  refine KR.enter (fn := Try.f30) (c := B) (by kernel_rfl) (by kernel_rfl) ?_
  refine KR.run 6 [(0, .pointer a0), (1, .int .i64 a1), (2, .slice a2a a2n a2k)] 40 (s' := (.code (sub B [1, 0, 0]) :: S1)) (by kernel_rfl) fun J => ?_
  refine KR.sd (by kernel_rfl) ?_
  obtain ⟨a0b, a0o, rfl, h⟩ := h
  refine KR.run 3 [(0, .pointer (some ⟨a0b, a0o, none⟩)), (1, .int .i64 a1), (2, .slice a2a a2n a2k), (9, .pointer (some ⟨a0b, (a0o + 1), none⟩))] 40 (s' := (.reg (opsAt (sub B [1, 0, 0])) [3, 4, 5, 6, 7, 8, 9] :: S1)) (by kernel_rfl) fun J => ?_
  obtain ⟨t10a, t10n, t10k, q1, h⟩ := h
  refine KR.rd (one_ld (by kernel_rfl) q1) ?_
  refine KR.run 4 [(0, .pointer (some ⟨a0b, a0o, none⟩)), (1, .int .i64 a1), (2, .slice a2a a2n a2k), (11, .int .i64 ((t10n : Nat) : Int)), (14, .pointer (some ⟨a0b, a0o, none⟩))] 40 (s' := (.reg (opsAt (sub B [1, 0, 0])) [8, 9] :: S1)) (by kernel_rfl) fun J => ?_
  obtain ⟨t15, q2, h⟩ := h
  refine KR.rd (one_ld (by kernel_rfl) q2) ?_
  refine KR.run 2 [(0, .pointer (some ⟨a0b, a0o, none⟩)), (1, .int .i64 a1), (2, .slice a2a a2n a2k), (16, .bool (decide (((t10n : Nat) : Int) ≥ t15)))] 40 (s' := (.code (sub B [1, 0, 1]) :: S0)) (by kernel_rfl) fun J => ?_
  by_cases c3 : ((t10n : Nat) : Int) ≥ t15
  · replace h := iteT c3 h
    refine KR.br true (by kernel_rfl) (vB (dT c3)) ?_
    refine KR.run 6 [(17, .pointer (some ⟨a0b, a0o, none⟩)), (20, .pointer (some ⟨a0b, (a0o + 2), none⟩))] 40 (s' := (.reg (opsAt (sub B [1, 0, 1, 0, 0])) [4, 5, 6, 7, 8, 9] :: S2)) (by kernel_rfl) fun J => ?_
    obtain ⟨t21, q4, h⟩ := h
    refine KR.rd (one_ld (by kernel_rfl) q4) ?_
    refine KR.run 4 [(23, .int .i64 (imin (IntKind.wrap .i64 (t21 + 1)) 1000000)), (25, .pointer (some ⟨a0b, (a0o + 2), none⟩))] 40 (s' := (.reg (opsAt (sub B [1, 0, 1, 0, 0])) [9] :: S2)) (by kernel_rfl) fun J => ?_
    obtain ⟨H_1, q5, h⟩ := h
    refine KR.se (one_st (by kernel_rfl) q5) ?_
    refine KR.run 5 [(6, .bool false)] 40 (s' := (.code (sub B [1, 0, 1, 0, 1, 1]) :: S0)) (by kernel_rfl) fun J => ?_
    exact KR.fin (by kernel_rfl) h
  · replace h := iteF c3 h
    refine KR.br false (by kernel_rfl) (vB (dF c3)) ?_
    refine KR.run 7 [(1, .int .i64 a1), (2, .slice a2a a2n a2k), (26, .pointer (some ⟨a0b, a0o, none⟩)), (29, .pointer (some ⟨a0b, (a0o + 1), none⟩))] 40 (s' := (.reg (opsAt (sub B [1, 1, 0])) [4, 5, 6, 7, 8, 9, 10, 11, 12, 13, 14] :: S3)) (by kernel_rfl) fun J => ?_
    obtain ⟨t30a, t30n, t30k, q6, h⟩ := h
    refine KR.rd (one_ld (by kernel_rfl) q6) ?_
    obtain ⟨t31a, t31n, t31k, H_2, q7, h⟩ := h
    refine KR.se (one_ap 2 32 (by kernel_rfl) q7) ?_
    refine KR.run 2 [(26, .pointer (some ⟨a0b, a0o, none⟩)), (31, .slice t31a t31n t31k), (32, .int .i64 a1), (33, .slice a2a a2n a2k)] 40 (s' := (.reg (opsAt (sub B [1, 1, 0])) [8, 9, 10, 11, 12, 13, 14] :: S3)) (by kernel_rfl) fun J => ?_
    obtain ⟨t34a, t34n, t34k, H_3, q8, h⟩ := h
    refine KR.se (one_ap 1 1 (by kernel_rfl) q8) ?_
    refine KR.run 1 [(26, .pointer (some ⟨a0b, a0o, none⟩)), (31, .slice t31a t31n t31k), (35, .agg #[.int .i64 a1, .slice t34a t34n t34k])] 40 (s' := (.reg (opsAt (sub B [1, 1, 0])) [10, 11, 12, 13, 14] :: S3)) (by kernel_rfl) fun J => ?_
    obtain ⟨H_4, q9, h⟩ := h
    refine KR.mk (w := sRow 1 2 [.int .i64 a1, .slice t34a t34n t34k]) (one_al (by kernel_rfl)) q9 ?_
    obtain ⟨t37a, t37n, t37k, H_5, q10, h⟩ := h
    refine KR.se (one_ap 2 32 (by kernel_rfl) q10) ?_
    refine KR.run 2 [(37, .slice t37a t37n t37k), (39, .pointer (some ⟨a0b, (a0o + 1), none⟩))] 40 (s' := (.reg (opsAt (sub B [1, 1, 0])) [14] :: S3)) (by kernel_rfl) fun J => ?_
    obtain ⟨H_6, q11, h⟩ := h
    refine KR.se (one_st (by kernel_rfl) q11) ?_
    refine KR.run 5 [(6, .bool true)] 40 (s' := (.code (sub B [1, 1, 1, 1]) :: [])) (by kernel_rfl) fun J => ?_
    exact KR.fin (by kernel_rfl) h
end F30
/-! #### 31 (*campanile/campanileref8.Queue).Take -/
namespace F31
noncomputable def B : Code := bodyOf Try.f31
noncomputable def S0 : List It := (.code (sub B [1, 1]) :: [])
noncomputable def S2 : List It := (.code (sub B [1, 1, 1]) :: [])
noncomputable def S3 : List It := (.code (sub B [1, 1, 1, 1]) :: [])
noncomputable def S1 : List It := (.code (sub B [1, 0, 1]) :: S0)
def L0 (t0 : Option Addr) (t1 : Int) (t17 : Bool) (H : Heap) (r : Value × Heap) : Prop := ∀ J, KR Try.prog good Try.f31 S1 (mat J 45 [(0, .pointer t0), (1, .int .i64 t1), (17, .bool t17)]) H r
theorem L0_step {t0 : Option Addr} {t1 : Int} {t17 : Bool} {H : Heap} {r : Value × Heap} (h :
    if t17 = true then
    (r = (.tuple #[.slice none 0 0, .bool false], H))
    else
    (∃ (t0b t0o : Nat), t0 = some ⟨t0b, t0o, none⟩ ∧
    (∃ (t21a : Option Addr) (t21n : Nat) (t21k : Nat), ldc H t0b (t0o + 1) = some (.slice t21a t21n t21k) ∧
    (∃ (t21ab t21ao : Nat), t21a = some ⟨t21ab, t21ao, none⟩ ∧
    ((0 : Int) ≤ t1 ∧ t1 < ((t21n : Nat) : Int) ∧
    (∃ (t25a : Option Addr) (t25n : Nat) (t25k : Nat), ldc H t21ab ((t21ao + Int.toNat t1 * 2) + 1) = some (.slice t25a t25n t25k) ∧
    (∃ (t30a : Option Addr) (t30n : Nat) (t30k : Nat), ldc H t0b (t0o + 1) = some (.slice t30a t30n t30k) ∧
    (∃ (t32a : Option Addr) (t32n : Nat) (t32k : Nat), psl 2 t30a t30n t30k none (some t1) none = some (t32a, t32n, t32k) ∧
    (∃ (t33a : Option Addr) (t33n : Nat) (t33k : Nat) (H_1 : Heap), papp H 2 32 none 0 0 t32a t32n t32k = some ((t33a, t33n, t33k), H_1) ∧
    (∃ (t37a : Option Addr) (t37n : Nat) (t37k : Nat), ldc H t0b (t0o + 1) = some (.slice t37a t37n t37k) ∧
    (∃ (t40a : Option Addr) (t40n : Nat) (t40k : Nat), psl 2 t37a t37n t37k (some (IntKind.wrap .i64 (t1 + 1))) none none = some (t40a, t40n, t40k) ∧
    (∃ (t41a : Option Addr) (t41n : Nat) (t41k : Nat) (H_2 : Heap), papp H_1 2 32 t33a t33n t33k t40a t40n t40k = some ((t41a, t41n, t41k), H_2) ∧
    (∃ (H_3 : Heap), stc H_2 t0b (t0o + 1) [.slice t41a t41n t41k] = some H_3 ∧
    (ldc H_1 t0b (t0o + 1) = some (.slice t37a t37n t37k) ∧
    (r = (.tuple #[.slice t25a t25n t25k, .bool true], H_3)))))))))))))))) :
    L0 t0 t1 t17 H r := by
  intro J
  show KR _ _ _ (.code (sub B [1, 0, 1]) :: S0) _ _ _
  by_cases c3 : t17 = true
  · replace h := iteT c3 h
    refine KR.br true (by kernel_rfl) (vB (bT c3)) ?_
    refine KR.run 5 [(4, .slice none 0 0), (5, .bool false)] 45 (s' := (.code (sub B [1, 0, 1, 0, 1]) :: S0)) (by kernel_rfl) fun J => ?_
    exact KR.fin (by kernel_rfl) h
  · replace h := iteF c3 h
    refine KR.br false (by kernel_rfl) (vB (bF c3)) ?_
    obtain ⟨t0b, t0o, rfl, h⟩ := h
    refine KR.run 6 [(0, .pointer (some ⟨t0b, t0o, none⟩)), (1, .int .i64 t1), (20, .pointer (some ⟨t0b, (t0o + 1), none⟩))] 45 (s' := (.reg (opsAt (sub B [1, 1, 0])) [3, 4, 5, 6, 7, 8] :: S2)) (by kernel_rfl) fun J => ?_
    obtain ⟨t21a, t21n, t21k, q4, h⟩ := h
    refine KR.rd (one_ld (by kernel_rfl) q4) ?_
    obtain ⟨t21ab, t21ao, rfl, h⟩ := h
    refine KR.run 1 [(0, .pointer (some ⟨t0b, t0o, none⟩)), (1, .int .i64 t1), (21, .slice (some ⟨t21ab, t21ao, none⟩) t21n t21k), (22, .int .i64 t1)] 45 (s' := (.reg (opsAt (sub B [1, 1, 0])) [5, 6, 7, 8] :: S2)) (by kernel_rfl) fun J => ?_
    obtain ⟨q5, q5x, h⟩ := h
    refine KR.p (one_ix 2 t21ab t21ao (by kernel_rfl) q5 q5x) ?_
    refine KR.run 1 [(0, .pointer (some ⟨t0b, t0o, none⟩)), (1, .int .i64 t1), (24, .pointer (some ⟨t21ab, ((t21ao + Int.toNat t1 * 2) + 1), none⟩))] 45 (s' := (.reg (opsAt (sub B [1, 1, 0])) [7, 8] :: S2)) (by kernel_rfl) fun J => ?_
    obtain ⟨t25a, t25n, t25k, q6, h⟩ := h
    refine KR.rd (one_ld (by kernel_rfl) q6) ?_
    refine KR.run 3 [(0, .pointer (some ⟨t0b, t0o, none⟩)), (1, .int .i64 t1), (6, .slice t25a t25n t25k)] 45 (s' := (.code (sub B [1, 1, 1, 0]) :: S3)) (by kernel_rfl) fun J => ?_
    refine KE.start H (by kernel_rfl) (by kernel_rfl) ?_
    refine KE.run 4 [(0, .pointer (some ⟨t0b, t0o, none⟩)), (1, .int .i64 t1), (6, .slice t25a t25n t25k), (26, .pointer (some ⟨t0b, t0o, none⟩)), (29, .pointer (some ⟨t0b, (t0o + 1), none⟩))] 45 4 (by kernel_rfl) fun J => ?_
    obtain ⟨t30a, t30n, t30k, q7, h⟩ := h
    refine KE.rdN (one_ld (by kernel_rfl) q7) (by kernel_rfl) ?_
    refine KE.run 1 [(0, .pointer (some ⟨t0b, t0o, none⟩)), (1, .int .i64 t1), (6, .slice t25a t25n t25k), (26, .pointer (some ⟨t0b, t0o, none⟩)), (30, .slice t30a t30n t30k), (31, .int .i64 t1)] 45 6 (by kernel_rfl) fun J => ?_
    obtain ⟨t32a, t32n, t32k, q8, h⟩ := h
    refine KE.p (one_sl (by kernel_rfl) q8) ?_
    obtain ⟨t33a, t33n, t33k, H_1, q9, h⟩ := h
    refine KE.se (one_ap 2 32 (by kernel_rfl) q9) (by kernel_rfl) ?_
    refine KE.run 3 [(1, .int .i64 t1), (6, .slice t25a t25n t25k), (26, .pointer (some ⟨t0b, t0o, none⟩)), (33, .slice t33a t33n t33k), (36, .pointer (some ⟨t0b, (t0o + 1), none⟩))] 45 11 (by kernel_rfl) fun J => ?_
    obtain ⟨t37a, t37n, t37k, q10, h⟩ := h
    refine KE.rdF (one_ld (by kernel_rfl) q10) (by kernel_rfl) ?_
    refine KE.run 2 [(6, .slice t25a t25n t25k), (26, .pointer (some ⟨t0b, t0o, none⟩)), (33, .slice t33a t33n t33k), (37, .slice t37a t37n t37k), (39, .int .i64 (IntKind.wrap .i64 (t1 + 1)))] 45 14 (by kernel_rfl) fun J => ?_
    obtain ⟨t40a, t40n, t40k, q11, h⟩ := h
    refine KE.p (one_sl (by kernel_rfl) q11) ?_
    obtain ⟨t41a, t41n, t41k, H_2, q12, h⟩ := h
    refine KE.se (one_ap 2 32 (by kernel_rfl) q12) (by kernel_rfl) ?_
    refine KE.run 2 [(6, .slice t25a t25n t25k), (41, .slice t41a t41n t41k), (43, .pointer (some ⟨t0b, (t0o + 1), none⟩))] 45 18 (by kernel_rfl) fun J => ?_
    obtain ⟨H_3, q13, h⟩ := h
    refine KE.se (one_st (by kernel_rfl) q13) (by kernel_rfl) ?_
    obtain ⟨q14, h⟩ := h
    refine KE.fin (H' := H_3) (by kernel_rfl) (rdsS (rfl) (rd_ok (Hs := [H_1]) (by kernel_rfl) (by kernel_rfl) ⟨one_ld (by kernel_rfl) q14, trivial⟩)) (by kernel_rfl) ?_
    refine KR.run 6 [(4, .slice t25a t25n t25k), (5, .bool true)] 45 (s' := (.code (sub B [1, 1, 1, 1, 1]) :: [])) (by kernel_rfl) fun J => ?_
    exact KR.fin (by kernel_rfl) h
theorem call {a0 : Option Addr} {a1 : Int} {H : Heap} {r : Value × Heap} (h :
    if a1 < 0 then
    (L0 (a0) (a1) (true) H r)
    else
    (∃ (a0b a0o : Nat), a0 = some ⟨a0b, a0o, none⟩ ∧
    (∃ (t14a : Option Addr) (t14n : Nat) (t14k : Nat), ldc H a0b (a0o + 1) = some (.slice t14a t14n t14k) ∧
    (L0 ((some ⟨a0b, a0o, none⟩)) (a1) ((decide (a1 ≥ ((t14n : Nat) : Int)))) H r)))) :
    xC Try.prog good 31 [.pointer a0, .int .i64 a1] H = some r := by
  refine KR.enter (fn := Try.f31) (c := B) (by kernel_rfl) (by kernel_rfl) ?_
  refine KR.run 11 [(0, .pointer a0), (1, .int .i64 a1), (9, .bool (decide (a1 < 0)))] 45 (s' := (.reg (opsAt (sub B [1, 0, 0])) [3, 4, 5, 6, 7, 8, 9, 10] :: S1)) (by kernel_rfl) fun J => ?_
  by_cases c1 : a1 < 0
  · replace h := iteT c1 h
    refine KR.setV 9 (by kernel_rfl) (dT c1) ?_
    exact KR.run 9 [(0, .pointer a0), (1, .int .i64 a1), (17, .bool true)] 45 (s' := (.code (sub B [1, 0, 1]) :: S0)) (by kernel_rfl) h
  · replace h := iteF c1 h
    refine KR.setV 9 (by kernel_rfl) (dF c1) ?_
    obtain ⟨a0b, a0o, rfl, h⟩ := h
    refine KR.run 4 [(0, .pointer (some ⟨a0b, a0o, none⟩)), (1, .int .i64 a1), (9, .bool false), (10, .int .i64 a1), (13, .pointer (some ⟨a0b, (a0o + 1), none⟩))] 45 (s' := (.reg (opsAt (sub B [1, 0, 0])) [7, 8, 9, 10] :: S1)) (by kernel_rfl) fun J => ?_
    obtain ⟨t14a, t14n, t14k, q2, h⟩ := h
    refine KR.rd (one_ld (by kernel_rfl) q2) ?_
    exact KR.run 4 [(0, .pointer (some ⟨a0b, a0o, none⟩)), (1, .int .i64 a1), (17, .bool (decide (a1 ≥ ((t14n : Nat) : Int))))] 45 (s' := (.code (sub B [1, 0, 1]) :: S0)) (by kernel_rfl) h
end F31
/-! #### 32 (*campanile/campanileref8.Queue).Move -/
namespace F32
noncomputable def B : Code := bodyOf Try.f32
noncomputable def S0 : List It := (.code (sub B [1, 1, 1]) :: [])
noncomputable def S1 : List It := (.code (sub B [1, 1, 0, 1]) :: S0)
noncomputable def S2 : List It := (.blk 0 :: S0)
noncomputable def S3 : List It := (.lp (sub B [1, 1, 0, 1, 0, 0]) :: S2)
noncomputable def S4 : List It := (.code (sub B [1, 1, 0, 1, 0, 0, 1, 1]) :: S3)
noncomputable def S5 : List It := (.code (sub B [1, 1, 0, 1, 0, 0, 1, 1, 1]) :: S3)
noncomputable def S6 : List It := (.blk 1 :: S5)
noncomputable def S7 : List It := (.code (sub B [1, 1, 0, 1, 0, 0, 1, 1, 0, 0, 1]) :: S6)
noncomputable def S8 : List It := (.code (sub B [1, 1, 0, 1, 0, 0, 1, 1, 0, 0, 1, 1]) :: S6)
noncomputable def S9 : List It := (.code (sub B [1, 1, 0, 1, 0, 0, 1, 1, 0, 0, 1, 1, 0, 1]) :: S6)
def L0 (t0b : Nat) (t0o : Nat) (t1 : Int) (t2 : Int) (t7 : Int) (t13a : Option Addr) (t13n : Nat) (t13k : Nat) (t14 : Int) (t15 : Int) (H : Heap) (r : Value × Heap) : Prop := ∀ J, KR Try.prog good Try.f32 S3 (mat J 36 [(0, .pointer (some ⟨t0b, t0o, none⟩)), (1, .int .i64 t1), (2, .int .i64 t2), (7, .int .i64 t7), (13, .slice t13a t13n t13k), (14, .int .i64 t14), (15, .int .i64 t15)]) H r
theorem L0_step {t0b : Nat} {t0o : Nat} {t1 : Int} {t2 : Int} {t7 : Int} {t13a : Option Addr} {t13n : Nat} {t13k : Nat} {t14 : Int} {t15 : Int} {H : Heap} {r : Value × Heap} (h :
    if t15 < t14 then
    (∃ (t13ab t13ao : Nat), t13a = some ⟨t13ab, t13ao, none⟩ ∧
    ((0 : Int) ≤ t15 ∧ t15 < ((t13n : Nat) : Int) ∧
    (∃ (t19c0 : Int) (t19c1a : Option Addr) (t19c1n : Nat) (t19c1k : Nat), ldAll H t13ab (t13ao + Int.toNat t15 * 2) [.int .i64 t19c0, .slice t19c1a t19c1n t19c1k] ∧
    (∃ (H_1 : Heap), H_1 = H.push (.row [.int .i64 0, .slice none 0 0] true) ∧
    (∃ (H_2 : Heap), stc H_1 H.next 0 [.int .i64 t19c0, .slice t19c1a t19c1n t19c1k] = some H_2 ∧
    (∃ (t21 : Int), ldc H_2 H.next 0 = some (.int .i64 t21) ∧
    (if t21 = t1 then
    (∃ (t27a : Option Addr) (t27n : Nat) (t27k : Nat), ldc H_2 t0b (t0o + 1) = some (.slice t27a t27n t27k) ∧
    (∃ (t27ab t27ao : Nat), t27a = some ⟨t27ab, t27ao, none⟩ ∧
    ((0 : Int) ≤ t15 ∧ t15 < ((t27n : Nat) : Int) ∧
    (∃ (H_3 : Heap), stc H_2 t27ab (t27ao + Int.toNat t15 * 2) [.int .i64 t2] = some H_3 ∧
    (L0 (t0b) (t0o) (t1) (t2) ((IntKind.wrap .i64 (t7 + 1))) ((some ⟨t13ab, t13ao, none⟩)) (t13n) (t13k) (t14) ((IntKind.wrap .i64 (t15 + 1))) H_3 r)))))
    else
    (L0 (t0b) (t0o) (t1) (t2) (t7) ((some ⟨t13ab, t13ao, none⟩)) (t13n) (t13k) (t14) ((IntKind.wrap .i64 (t15 + 1))) H_2 r))))))))
    else
    (r = (.int .i64 t7, H))) :
    L0 t0b t0o t1 t2 t7 t13a t13n t13k t14 t15 H r := by
  intro J
  show KR _ _ _ (.lp (sub B [1, 1, 0, 1, 0, 0]) :: S2) _ _ _
  refine KR.run 6 [(0, .pointer (some ⟨t0b, t0o, none⟩)), (1, .int .i64 t1), (2, .int .i64 t2), (7, .int .i64 t7), (13, .slice t13a t13n t13k), (14, .int .i64 t14), (15, .int .i64 t15), (16, .bool (decide (t15 < t14)))] 36 (s' := (.code (sub B [1, 1, 0, 1, 0, 0, 1, 0]) :: S4)) (by kernel_rfl) fun J => ?_
  by_cases c2 : t15 < t14
  · replace h := iteT c2 h
    refine KR.br true (by kernel_rfl) (vB (dT c2)) ?_
    obtain ⟨t13ab, t13ao, rfl, h⟩ := h
    refine KR.run 6 [(0, .pointer (some ⟨t0b, t0o, none⟩)), (1, .int .i64 t1), (2, .int .i64 t2), (7, .int .i64 t7), (13, .slice (some ⟨t13ab, t13ao, none⟩) t13n t13k), (14, .int .i64 t14), (15, .int .i64 t15), (17, .int .i64 t15)] 36 (s' := (.reg (opsAt (sub B [1, 1, 0, 1, 0, 0, 1, 1, 0, 0, 0])) [1, 2, 3, 4, 5] :: S7)) (by kernel_rfl) fun J => ?_
    obtain ⟨q3, q3x, h⟩ := h
    refine KR.p (one_ix 2 t13ab t13ao (by kernel_rfl) q3 q3x) ?_
    obtain ⟨t19c0, t19c1a, t19c1n, t19c1k, q4, h⟩ := h
    refine KR.rd (one_ldA (by kernel_rfl) q4) ?_
    obtain ⟨H_1, q5, h⟩ := h
    refine KR.mk (w := pRow [.int .i64 0, .slice none 0 0]) (one_al (by kernel_rfl)) q5 ?_
    refine KR.run 1 [(0, .pointer (some ⟨t0b, t0o, none⟩)), (1, .int .i64 t1), (2, .int .i64 t2), (7, .int .i64 t7), (8, .int .i64 t15), (9, .pointer (some ⟨H.next, 0, none⟩)), (13, .slice (some ⟨t13ab, t13ao, none⟩) t13n t13k), (14, .int .i64 t14), (15, .int .i64 t15), (19, .agg #[.int .i64 t19c0, .slice t19c1a t19c1n t19c1k])] 36 (s' := (.reg (opsAt (sub B [1, 1, 0, 1, 0, 0, 1, 1, 0, 0, 0])) [5] :: S7)) (by kernel_rfl) fun J => ?_
    obtain ⟨H_2, q6, h⟩ := h
    refine KR.se (one_st (by kernel_rfl) q6) ?_
    refine KR.run 4 [(0, .pointer (some ⟨t0b, t0o, none⟩)), (1, .int .i64 t1), (2, .int .i64 t2), (7, .int .i64 t7), (8, .int .i64 t15), (13, .slice (some ⟨t13ab, t13ao, none⟩) t13n t13k), (14, .int .i64 t14), (15, .int .i64 t15), (20, .pointer (some ⟨H.next, 0, none⟩))] 36 (s' := (.reg (opsAt (sub B [1, 1, 0, 1, 0, 0, 1, 1, 0, 0, 1, 0])) [1, 2, 3] :: S8)) (by kernel_rfl) fun J => ?_
    obtain ⟨t21, q7, h⟩ := h
    refine KR.rd (one_ld (by kernel_rfl) q7) ?_
    refine KR.run 3 [(0, .pointer (some ⟨t0b, t0o, none⟩)), (1, .int .i64 t1), (2, .int .i64 t2), (7, .int .i64 t7), (8, .int .i64 t15), (13, .slice (some ⟨t13ab, t13ao, none⟩) t13n t13k), (14, .int .i64 t14), (15, .int .i64 t15), (23, .bool (t21 == t1))] 36 (s' := (.code (sub B [1, 1, 0, 1, 0, 0, 1, 1, 0, 0, 1, 1]) :: S6)) (by kernel_rfl) fun J => ?_
    by_cases c8 : t21 = t1
    · replace h := iteT c8 h
      refine KR.br true (by kernel_rfl) (vB (eT c8)) ?_
      refine KR.run 5 [(0, .pointer (some ⟨t0b, t0o, none⟩)), (1, .int .i64 t1), (2, .int .i64 t2), (7, .int .i64 t7), (8, .int .i64 t15), (13, .slice (some ⟨t13ab, t13ao, none⟩) t13n t13k), (14, .int .i64 t14), (15, .int .i64 t15), (26, .pointer (some ⟨t0b, (t0o + 1), none⟩))] 36 (s' := (.reg (opsAt (sub B [1, 1, 0, 1, 0, 0, 1, 1, 0, 0, 1, 1, 0, 0])) [3, 4, 5, 6, 7, 8] :: S9)) (by kernel_rfl) fun J => ?_
      obtain ⟨t27a, t27n, t27k, q9, h⟩ := h
      refine KR.rd (one_ld (by kernel_rfl) q9) ?_
      obtain ⟨t27ab, t27ao, rfl, h⟩ := h
      refine KR.run 2 [(0, .pointer (some ⟨t0b, t0o, none⟩)), (1, .int .i64 t1), (2, .int .i64 t2), (7, .int .i64 t7), (13, .slice (some ⟨t13ab, t13ao, none⟩) t13n t13k), (14, .int .i64 t14), (15, .int .i64 t15), (27, .slice (some ⟨t27ab, t27ao, none⟩) t27n t27k), (28, .int .i64 t15), (29, .int .i64 t2)] 36 (s' := (.reg (opsAt (sub B [1, 1, 0, 1, 0, 0, 1, 1, 0, 0, 1, 1, 0, 0])) [6, 7, 8] :: S9)) (by kernel_rfl) fun J => ?_
      obtain ⟨q10, q10x, h⟩ := h
      refine KR.p (one_ix 2 t27ab t27ao (by kernel_rfl) q10 q10x) ?_
      refine KR.run 1 [(0, .pointer (some ⟨t0b, t0o, none⟩)), (1, .int .i64 t1), (2, .int .i64 t2), (7, .int .i64 t7), (13, .slice (some ⟨t13ab, t13ao, none⟩) t13n t13k), (14, .int .i64 t14), (15, .int .i64 t15), (29, .int .i64 t2), (31, .pointer (some ⟨t27ab, (t27ao + Int.toNat t15 * 2), none⟩))] 36 (s' := (.reg (opsAt (sub B [1, 1, 0, 1, 0, 0, 1, 1, 0, 0, 1, 1, 0, 0])) [8] :: S9)) (by kernel_rfl) fun J => ?_
      obtain ⟨H_3, q11, h⟩ := h
      refine KR.se (one_st (by kernel_rfl) q11) ?_
      exact KR.run 11 [(0, .pointer (some ⟨t0b, t0o, none⟩)), (1, .int .i64 t1), (2, .int .i64 t2), (7, .int .i64 (IntKind.wrap .i64 (t7 + 1))), (13, .slice (some ⟨t13ab, t13ao, none⟩) t13n t13k), (14, .int .i64 t14), (15, .int .i64 (IntKind.wrap .i64 (t15 + 1)))] 36 (s' := (.lp (sub B [1, 1, 0, 1, 0, 0]) :: S2)) (by kernel_rfl) h
    · replace h := iteF c8 h
      refine KR.br false (by kernel_rfl) (vB (eF c8)) ?_
      exact KR.run 6 [(0, .pointer (some ⟨t0b, t0o, none⟩)), (1, .int .i64 t1), (2, .int .i64 t2), (7, .int .i64 t7), (13, .slice (some ⟨t13ab, t13ao, none⟩) t13n t13k), (14, .int .i64 t14), (15, .int .i64 (IntKind.wrap .i64 (t15 + 1)))] 36 (s' := (.lp (sub B [1, 1, 0, 1, 0, 0]) :: S2)) (by kernel_rfl) h
  · replace h := iteF c2 h
    refine KR.br false (by kernel_rfl) (vB (dF c2)) ?_
    refine KR.run 6 [(6, .int .i64 t7)] 36 (s' := (.code (sub B [1, 1, 1, 1]) :: [])) (by kernel_rfl) fun J => ?_
    exact KR.fin (by kernel_rfl) h
theorem call {a0 : Option Addr} {a1 : Int} {a2 : Int} {H : Heap} {r : Value × Heap} (h :
    ∃ (a0b a0o : Nat), a0 = some ⟨a0b, a0o, none⟩ ∧
    (∃ (t13a : Option Addr) (t13n : Nat) (t13k : Nat), ldc H a0b (a0o + 1) = some (.slice t13a t13n t13k) ∧
    (L0 (a0b) (a0o) (a1) (a2) 0 (t13a) (t13n) (t13k) (((t13n : Nat) : Int)) 0 H r))) :
    xC Try.prog good 32 [.pointer a0, .int .i64 a1, .int .i64 a2] H = some r := by
  refine KR.enter (fn := Try.f32) (c := B) (by kernel_rfl) (by kernel_rfl) ?_
  obtain ⟨a0b, a0o, rfl, h⟩ := h
  refine KR.run 14 [(0, .pointer (some ⟨a0b, a0o, none⟩)), (1, .int .i64 a1), (2, .int .i64 a2), (7, .int .i64 0), (12, .pointer (some ⟨a0b, (a0o + 1), none⟩))] 36 (s' := (.reg (opsAt (sub B [1, 1, 0, 0])) [3, 4, 5] :: S1)) (by kernel_rfl) fun J => ?_
  obtain ⟨t13a, t13n, t13k, q1, h⟩ := h
  refine KR.rd (one_ld (by kernel_rfl) q1) ?_
  exact KR.run 5 [(0, .pointer (some ⟨a0b, a0o, none⟩)), (1, .int .i64 a1), (2, .int .i64 a2), (7, .int .i64 0), (13, .slice t13a t13n t13k), (14, .int .i64 ((t13n : Nat) : Int)), (15, .int .i64 0)] 36 (s' := (.lp (sub B [1, 1, 0, 1, 0, 0]) :: S2)) (by kernel_rfl) h
end F32
/-! #### 33 slices.Clone[[]byte,byte] -/
namespace F33
noncomputable def B : Code := bodyOf Try.f33
noncomputable def S0 : List It := (.code (sub B [1, 1]) :: [])
noncomputable def S2 : List It := (.code (sub B [1, 1, 1]) :: [])
noncomputable def S1 : List It := (.code (sub B [1, 0, 1]) :: S0)
theorem call {a0a : Option Addr} {a0n : Nat} {a0k : Nat} {H : Heap} {r : Value × Heap} (h :
    if (Option.isNone a0a) = true then
    (r = (.slice none 0 0, H))
    else
    (∃ (H_1 : Heap), H_1 = H.push (.row [] true) ∧
    (∃ (t7a : Option Addr) (t7n : Nat) (t7k : Nat) (H_2 : Heap), papp H_1 1 1 (some ⟨H.next, 0, none⟩) 0 (UNK 1) a0a a0n a0k = some ((t7a, t7n, t7k), H_2) ∧
    (r = (.slice t7a t7n t7k, H_2))))) :
    xC Try.prog good 33 [.slice a0a a0n a0k] H = some r := by
  refine KR.enter (fn := Try.f33) (c := B) (by kernel_rfl) (by kernel_rfl) ?_
  refine KR.run 8 [(0, .slice a0a a0n a0k), (3, .slice a0a a0n a0k)] 8 (s' := (.reg (opsAt (sub B [1, 0, 0])) [1] :: S1)) (by kernel_rfl) fun J => ?_
  refine KR.p (one_nl false a0a (by kernel_rfl)) ?_
  refine KR.run 1 [(0, .slice a0a a0n a0k), (4, .bool (Option.isNone a0a))] 8 (s' := (.code (sub B [1, 0, 1]) :: S0)) (by kernel_rfl) fun J => ?_
  by_cases c2 : (Option.isNone a0a) = true
  · replace h := iteT c2 h
    refine KR.br true (by kernel_rfl) (vB (bT c2)) ?_
    refine KR.run 4 [(2, .slice none 0 0)] 8 (s' := (.code (sub B [1, 0, 1, 0, 1]) :: S0)) (by kernel_rfl) fun J => ?_
    exact KR.fin (by kernel_rfl) h
  · replace h := iteF c2 h
    refine KR.br false (by kernel_rfl) (vB (bF c2)) ?_
    refine KR.run 3 [(0, .slice a0a a0n a0k)] 8 (s' := (.reg (opsAt (sub B [1, 1, 0])) [0, 1, 2, 3] :: S2)) (by kernel_rfl) fun J => ?_
    obtain ⟨H_1, q3, h⟩ := h
    refine KR.mk (w := sRow 0 1 []) (one_al (by kernel_rfl)) q3 ?_
    refine KR.run 1 [(5, .slice (some ⟨H.next, 0, none⟩) 0 (UNK 1)), (6, .slice a0a a0n a0k)] 8 (s' := (.reg (opsAt (sub B [1, 1, 0])) [2, 3] :: S2)) (by kernel_rfl) fun J => ?_
    obtain ⟨t7a, t7n, t7k, H_2, q4, h⟩ := h
    refine KR.se (one_ap 1 1 (by kernel_rfl) q4) ?_
    refine KR.run 2 [(2, .slice t7a t7n t7k)] 8 (s' := (.code (sub B [1, 1, 1]) :: [])) (by kernel_rfl) fun J => ?_
    exact KR.fin (by kernel_rfl) h
end F33
/-! #### 34 slices.Delete[[]campanile/queue.one,campanile/queue.one] -/
namespace F34
noncomputable def B : Code := bodyOf Try.f34
noncomputable def S0 : List It := (.code (sub B [1, 1]) :: [])
noncomputable def S1 : List It := (.code (sub B [1, 1, 1]) :: [])
noncomputable def S2 : List It := (.code (sub B [1, 1, 1, 1, 1]) :: [])
noncomputable def S3 : List It := (.code (sub B [1, 1, 1, 1, 1, 1]) :: [])
theorem call {a0a : Option Addr} {a0n : Nat} {a0k : Nat} {a1 : Int} {a2 : Int} {H : Heap} {r : Value × Heap} (h :
    ∃ (t13a : Option Addr) (t13n : Nat) (t13k : Nat), psl 2 a0a a0n a0k (some a1) (some a2) (some ((a0n : Nat) : Int)) = some (t13a, t13n, t13k) ∧
    (if a1 = a2 then
    (r = (.slice a0a a0n a0k, H))
    else
    (∃ (t22a : Option Addr) (t22n : Nat) (t22k : Nat), psl 2 a0a a0n a0k none (some a1) none = some (t22a, t22n, t22k) ∧
    (∃ (t25a : Option Addr) (t25n : Nat) (t25k : Nat), psl 2 a0a a0n a0k (some a2) none none = some (t25a, t25n, t25k) ∧
    (∃ (t26a : Option Addr) (t26n : Nat) (t26k : Nat) (H_1 : Heap), papp H 2 32 t22a t22n t22k t25a t25n t25k = some ((t26a, t26n, t26k), H_1) ∧
    (∃ (t31a : Option Addr) (t31n : Nat) (t31k : Nat), pslR H_1 2 t26a t26n t26k ((t26n : Nat) : Int) ((a0n : Nat) : Int) = some (t31a, t31n, t31k) ∧
    (∃ (H_2 : Heap), pclear H_1 [.int .i64 0, .slice none 0 0] t31a t31n t31k = some H_2 ∧
    (r = (.slice t26a t26n t26k, H_2))))))))) :
    xC Try.prog good 34 [.slice a0a a0n a0k, .int .i64 a1, .int .i64 a2] H = some r := by
  refine KR.enter (fn := Try.f34) (c := B) (by kernel_rfl) (by kernel_rfl) ?_
  refine KR.run 11 [(0, .slice a0a a0n a0k), (1, .int .i64 a1), (2, .int .i64 a2), (8, .slice a0a a0n a0k), (9, .int .i64 a1), (10, .int .i64 a2), (12, .int .i64 ((a0n : Nat) : Int))] 33 (s' := (.reg (opsAt (sub B [1, 0])) [5] :: S0)) (by kernel_rfl) fun J => ?_
  obtain ⟨t13a, t13n, t13k, q1, h⟩ := h
  refine KR.p (one_sl (by kernel_rfl) q1) ?_
  refine KR.run 8 [(0, .slice a0a a0n a0k), (1, .int .i64 a1), (2, .int .i64 a2), (16, .bool (a1 == a2))] 33 (s' := (.code (sub B [1, 1, 0, 1]) :: S1)) (by kernel_rfl) fun J => ?_
  by_cases c2 : a1 = a2
  · replace h := iteT c2 h
    refine KR.br true (by kernel_rfl) (vB (eT c2)) ?_
    refine KR.run 5 [(6, .slice a0a a0n a0k)] 33 (s' := (.code (sub B [1, 1, 0, 1, 0, 1]) :: S1)) (by kernel_rfl) fun J => ?_
    exact KR.fin (by kernel_rfl) h
  · replace h := iteF c2 h
    refine KR.br false (by kernel_rfl) (vB (eF c2)) ?_
    refine KR.run 8 [(0, .slice a0a a0n a0k), (1, .int .i64 a1), (2, .int .i64 a2), (7, .int .i64 ((a0n : Nat) : Int))] 33 (s' := (.code (sub B [1, 1, 1, 1, 0]) :: S2)) (by kernel_rfl) fun J => ?_
    refine KR.sd (by kernel_rfl) ?_
    refine KR.run 2 [(0, .slice a0a a0n a0k), (2, .int .i64 a2), (7, .int .i64 ((a0n : Nat) : Int)), (20, .slice a0a a0n a0k), (21, .int .i64 a1)] 33 (s' := (.reg (opsAt (sub B [1, 1, 1, 1, 0])) [2, 3, 4, 5, 6, 7] :: S2)) (by kernel_rfl) fun J => ?_
    obtain ⟨t22a, t22n, t22k, q3, h⟩ := h
    refine KR.p (one_sl (by kernel_rfl) q3) ?_
    refine KR.run 2 [(7, .int .i64 ((a0n : Nat) : Int)), (22, .slice t22a t22n t22k), (23, .slice a0a a0n a0k), (24, .int .i64 a2)] 33 (s' := (.reg (opsAt (sub B [1, 1, 1, 1, 0])) [5, 6, 7] :: S2)) (by kernel_rfl) fun J => ?_
    obtain ⟨t25a, t25n, t25k, q4, h⟩ := h
    refine KR.p (one_sl (by kernel_rfl) q4) ?_
    obtain ⟨t26a, t26n, t26k, H_1, q5, h⟩ := h
    refine KR.se (one_ap 2 32 (by kernel_rfl) q5) ?_
    refine KR.run 8 [(0, .slice t26a t26n t26k), (27, .slice t26a t26n t26k), (29, .int .i64 ((t26n : Nat) : Int)), (30, .int .i64 ((a0n : Nat) : Int))] 33 (s' := (.reg (opsAt (sub B [1, 1, 1, 1, 1, 0])) [4, 5] :: S3)) (by kernel_rfl) fun J => ?_
    obtain ⟨t31a, t31n, t31k, q6, h⟩ := h
    refine KR.rd (one_sr (by kernel_rfl) q6) ?_
    obtain ⟨H_2, q7, h⟩ := h
    refine KR.se (one_cl (by kernel_rfl) q7) ?_
    refine KR.run 6 [(6, .slice t26a t26n t26k)] 33 (s' := (.code (sub B [1, 1, 1, 1, 1, 1, 1]) :: [])) (by kernel_rfl) fun J => ?_
    exact KR.fin (by kernel_rfl) h
end F34
/-! #### 35 slices.Contains[[]int,int] -/
namespace F35
noncomputable def B : Code := bodyOf Try.f35
noncomputable def S0 : List It := (.code (sub B [1, 1]) :: [])
theorem call {a0a : Option Addr} {a0n : Nat} {a0k : Nat} {a1 : Int} {H : Heap} {r : Value × Heap} (h :
    ∃ (t7 : Int) (H_1 : Heap), xC Try.prog good 40 [.slice a0a a0n a0k, .int .i64 a1] H = some (.int .i64 t7, H_1) ∧
    (r = (.bool (decide (t7 ≥ 0)), H_1))) :
    xC Try.prog good 35 [.slice a0a a0n a0k, .int .i64 a1] H = some r := by
  refine KR.enter (fn := Try.f35) (c := B) (by kernel_rfl) (by kernel_rfl) ?_
  refine KR.run 8 [(5, .slice a0a a0n a0k), (6, .int .i64 a1)] 9 (s' := (.reg (opsAt (sub B [1, 0])) [2, 3, 4] :: S0)) (by kernel_rfl) fun J => ?_
  obtain ⟨t7, H_1, q1, h⟩ := h
  refine KR.se (one_ca (by kernel_rfl) q1) ?_
  refine KR.run 3 [(4, .bool (decide (t7 ≥ 0)))] 9 (s' := (.code (sub B [1, 1]) :: [])) (by kernel_rfl) fun J => ?_
  exact KR.fin (by kernel_rfl) h
end F35
/-! #### 36 slices.DeleteFunc[[]int,int] -/
namespace F36
noncomputable def B : Code := bodyOf Try.f36
noncomputable def S0 : List It := (.code (sub B [1, 1]) :: [])
noncomputable def S1 : List It := (.code (sub B [1, 1, 1]) :: [])
noncomputable def S2 : List It := (.code (sub B [1, 1, 1, 1]) :: [])
noncomputable def S11 : List It := (.code (sub B [1, 1, 1, 1, 1]) :: [])
noncomputable def S12 : List It := (.code (sub B [1, 1, 1, 1, 1, 1]) :: [])
noncomputable def S3 : List It := (.blk 0 :: S2)
noncomputable def S4 : List It := (.lp (sub B [1, 1, 1, 0, 1, 0, 0]) :: S3)
noncomputable def S5 : List It := (.code (sub B [1, 1, 1, 0, 1, 0, 0, 1]) :: S4)
noncomputable def S6 : List It := (.code (sub B [1, 1, 1, 0, 1, 0, 0, 1, 1]) :: S4)
noncomputable def S7 : List It := (.blk 1 :: S6)
noncomputable def S8 : List It := (.code (sub B [1, 1, 1, 0, 1, 0, 0, 1, 0, 0, 1]) :: S7)
noncomputable def S9 : List It := (.code (sub B [1, 1, 1, 0, 1, 0, 0, 1, 0, 0, 1, 1]) :: S7)
noncomputable def S10 : List It := (.code (sub B [1, 1, 1, 0, 1, 0, 0, 1, 0, 0, 1, 1, 0, 1]) :: S7)
def L0 (t0a : Option Addr) (t0n : Nat) (t0k : Nat) (t1 : Value) (t5 : Int) (t6 : Int) (H : Heap) (r : Value × Heap) : Prop := ∀ J, KR Try.prog good Try.f36 S4 (mat J 42 [(0, .slice t0a t0n t0k), (1, t1), (5, .int .i64 t5), (6, .int .i64 t6)]) H r
theorem L0_step {t0a : Option Addr} {t0n : Nat} {t0k : Nat} {t1 : Value} {t5 : Int} {t6 : Int} {H : Heap} {r : Value × Heap} (h :
    if t6 < ((t0n : Nat) : Int) then
    (∃ (t0ab t0ao : Nat), t0a = some ⟨t0ab, t0ao, none⟩ ∧
    ((0 : Int) ≤ t6 ∧ t6 < ((t0n : Nat) : Int) ∧
    (∃ (t25 : Int), ldc H t0ab (t0ao + Int.toNat t6 * 1) = some (.int .i64 t25) ∧
    (∃ (t1g : Nat) (t1x t1y : Array Value), t1 = .func (.func t1g) t1x t1y ∧
    (fnGoes Try.prog t1g = true ∧ ∃ (t28 : Bool) (H_1 : Heap), xC Try.prog good t1g (Array.toList t1x ++ [.int .i64 t25] ++ Array.toList t1y) H = some (.bool t28, H_1) ∧
    (if t28 = true then
    (L0 ((some ⟨t0ab, t0ao, none⟩)) (t0n) (t0k) (.func (.func t1g) t1x t1y) (t5) ((IntKind.wrap .i64 (t6 + 1))) H_1 r)
    else
    ((0 : Int) ≤ t5 ∧ t5 < ((t0n : Nat) : Int) ∧
    (∃ (H_2 : Heap), stc H_1 t0ab (t0ao + Int.toNat t5 * 1) [.int .i64 t25] = some H_2 ∧
    (L0 ((some ⟨t0ab, t0ao, none⟩)) (t0n) (t0k) (.func (.func t1g) t1x t1y) ((IntKind.wrap .i64 (t5 + 1))) ((IntKind.wrap .i64 (t6 + 1))) H_2 r)))))))))
    else
    (∃ (t38a : Option Addr) (t38n : Nat) (t38k : Nat), psl 1 t0a t0n t0k (some t5) none none = some (t38a, t38n, t38k) ∧
    (∃ (H_3 : Heap), pclear H [.int .i64 0] t38a t38n t38k = some H_3 ∧
    (∃ (t41a : Option Addr) (t41n : Nat) (t41k : Nat), psl 1 t0a t0n t0k none (some t5) none = some (t41a, t41n, t41k) ∧
    (r = (.slice t41a t41n t41k, H_3)))))) :
    L0 t0a t0n t0k t1 t5 t6 H r := by
  intro J
  show KR _ _ _ (.lp (sub B [1, 1, 1, 0, 1, 0, 0]) :: S3) _ _ _
  refine KR.run 9 [(0, .slice t0a t0n t0k), (1, t1), (5, .int .i64 t5), (6, .int .i64 t6), (19, .bool (decide (t6 < ((t0n : Nat) : Int))))] 42 (s' := (.code (sub B [1, 1, 1, 0, 1, 0, 0, 0, 1]) :: S5)) (by kernel_rfl) fun J => ?_
  by_cases c3 : t6 < ((t0n : Nat) : Int)
  · replace h := iteT c3 h
    refine KR.br true (by kernel_rfl) (vB (dT c3)) ?_
    obtain ⟨t0ab, t0ao, rfl, h⟩ := h
    refine KR.run 7 [(0, .slice (some ⟨t0ab, t0ao, none⟩) t0n t0k), (1, t1), (5, .int .i64 t5), (6, .int .i64 t6), (22, .slice (some ⟨t0ab, t0ao, none⟩) t0n t0k), (23, .int .i64 t6)] 42 (s' := (.reg (opsAt (sub B [1, 1, 1, 0, 1, 0, 0, 1, 0, 0, 0])) [2, 3, 4] :: S8)) (by kernel_rfl) fun J => ?_
    obtain ⟨q4, q4x, h⟩ := h
    refine KR.p (one_ix 1 t0ab t0ao (by kernel_rfl) q4 q4x) ?_
    obtain ⟨t25, q5, h⟩ := h
    refine KR.rd (one_ld (by kernel_rfl) q5) ?_
    refine KR.run 6 [(0, .slice (some ⟨t0ab, t0ao, none⟩) t0n t0k), (1, t1), (5, .int .i64 t5), (6, .int .i64 t6), (7, .int .i64 t25), (26, t1), (27, .int .i64 t25)] 42 (s' := (.reg (opsAt (sub B [1, 1, 1, 0, 1, 0, 0, 1, 0, 0, 1, 0])) [2, 3] :: S9)) (by kernel_rfl) fun J => ?_
    obtain ⟨t1g, t1x, t1y, rfl, h⟩ := h
    obtain ⟨q7x, t28, H_1, q7, h⟩ := h
    refine KR.se (one_fv (by kernel_rfl) q7x q7) ?_
    refine KR.run 2 [(0, .slice (some ⟨t0ab, t0ao, none⟩) t0n t0k), (1, .func (.func t1g) t1x t1y), (5, .int .i64 t5), (6, .int .i64 t6), (7, .int .i64 t25), (29, .bool (!t28))] 42 (s' := (.code (sub B [1, 1, 1, 0, 1, 0, 0, 1, 0, 0, 1, 1]) :: S7)) (by kernel_rfl) fun J => ?_
    by_cases c8 : t28 = true
    · replace h := iteT c8 h
      refine KR.br false (by kernel_rfl) (vB (nB (bT c8))) ?_
      exact KR.run 7 [(0, .slice (some ⟨t0ab, t0ao, none⟩) t0n t0k), (1, .func (.func t1g) t1x t1y), (5, .int .i64 t5), (6, .int .i64 (IntKind.wrap .i64 (t6 + 1)))] 42 (s' := (.lp (sub B [1, 1, 1, 0, 1, 0, 0]) :: S3)) (by kernel_rfl) h
    · replace h := iteF c8 h
      refine KR.br true (by kernel_rfl) (vB (nB (bF c8))) ?_
      refine KR.run 5 [(0, .slice (some ⟨t0ab, t0ao, none⟩) t0n t0k), (1, .func (.func t1g) t1x t1y), (5, .int .i64 t5), (6, .int .i64 t6), (30, .slice (some ⟨t0ab, t0ao, none⟩) t0n t0k), (31, .int .i64 t5), (32, .int .i64 t25)] 42 (s' := (.reg (opsAt (sub B [1, 1, 1, 0, 1, 0, 0, 1, 0, 0, 1, 1, 0, 0])) [3, 4] :: S10)) (by kernel_rfl) fun J => ?_
      obtain ⟨q9, q9x, h⟩ := h
      refine KR.p (one_ix 1 t0ab t0ao (by kernel_rfl) q9 q9x) ?_
      obtain ⟨H_2, q10, h⟩ := h
      refine KR.se (one_st (by kernel_rfl) q10) ?_
      exact KR.run 12 [(0, .slice (some ⟨t0ab, t0ao, none⟩) t0n t0k), (1, .func (.func t1g) t1x t1y), (5, .int .i64 (IntKind.wrap .i64 (t5 + 1))), (6, .int .i64 (IntKind.wrap .i64 (t6 + 1)))] 42 (s' := (.lp (sub B [1, 1, 1, 0, 1, 0, 0]) :: S3)) (by kernel_rfl) h
  · replace h := iteF c3 h
    refine KR.br false (by kernel_rfl) (vB (dF c3)) ?_
    refine KR.run 5 [(0, .slice t0a t0n t0k), (5, .int .i64 t5), (36, .slice t0a t0n t0k), (37, .int .i64 t5)] 42 (s' := (.reg (opsAt (sub B [1, 1, 1, 1, 0])) [2, 3] :: S11)) (by kernel_rfl) fun J => ?_
    obtain ⟨t38a, t38n, t38k, q11, h⟩ := h
    refine KR.p (one_sl (by kernel_rfl) q11) ?_
    obtain ⟨H_3, q12, h⟩ := h
    refine KR.se (one_cl (by kernel_rfl) q12) ?_
    refine KR.run 5 [(39, .slice t0a t0n t0k), (40, .int .i64 t5)] 42 (s' := (.reg (opsAt (sub B [1, 1, 1, 1, 1, 0])) [2, 3] :: S12)) (by kernel_rfl) fun J => ?_
    obtain ⟨t41a, t41n, t41k, q13, h⟩ := h
    refine KR.p (one_sl (by kernel_rfl) q13) ?_
    refine KR.run 2 [(4, .slice t41a t41n t41k)] 42 (s' := (.code (sub B [1, 1, 1, 1, 1, 1]) :: [])) (by kernel_rfl) fun J => ?_
    exact KR.fin (by kernel_rfl) h
theorem call {a0a : Option Addr} {a0n : Nat} {a0k : Nat} {a1 : Value} {H : Heap} {r : Value × Heap} (h :
    ∃ (t10 : Int) (H_1 : Heap), xC Try.prog good 41 [.slice a0a a0n a0k, a1] H = some (.int .i64 t10, H_1) ∧
    (if t10 = (-1) then
    (r = (.slice a0a a0n a0k, H_1))
    else
    (L0 (a0a) (a0n) (a0k) (a1) (t10) ((IntKind.wrap .i64 (t10 + 1))) H_1 r))) :
    xC Try.prog good 36 [.slice a0a a0n a0k, a1] H = some r := by
  refine KR.enter (fn := Try.f36) (c := B) (by kernel_rfl) (by kernel_rfl) ?_
  refine KR.run 8 [(0, .slice a0a a0n a0k), (1, a1), (8, .slice a0a a0n a0k), (9, a1)] 42 (s' := (.reg (opsAt (sub B [1, 0])) [2, 3] :: S0)) (by kernel_rfl) fun J => ?_
  obtain ⟨t10, H_1, q1, h⟩ := h
  refine KR.se (one_ca (by kernel_rfl) q1) ?_
  refine KR.run 8 [(0, .slice a0a a0n a0k), (1, a1), (5, .int .i64 t10), (12, .bool (t10 == (-1)))] 42 (s' := (.code (sub B [1, 1, 0, 1]) :: S1)) (by kernel_rfl) fun J => ?_
  by_cases c2 : t10 = (-1)
  · replace h := iteT c2 h
    refine KR.br true (by kernel_rfl) (vB (eT c2)) ?_
    refine KR.run 5 [(4, .slice a0a a0n a0k)] 42 (s' := (.code (sub B [1, 1, 0, 1, 0, 1]) :: S1)) (by kernel_rfl) fun J => ?_
    exact KR.fin (by kernel_rfl) h
  · replace h := iteF c2 h
    refine KR.br false (by kernel_rfl) (vB (eF c2)) ?_
    exact KR.run 10 [(0, .slice a0a a0n a0k), (1, a1), (5, .int .i64 t10), (6, .int .i64 (IntKind.wrap .i64 (t10 + 1)))] 42 (s' := (.lp (sub B [1, 1, 1, 0, 1, 0, 0]) :: S3)) (by kernel_rfl) h
end F36
/-! #### 37 slices.Clone[[]int,int] -/
namespace F37
noncomputable def B : Code := bodyOf Try.f37
noncomputable def S0 : List It := (.code (sub B [1, 1]) :: [])
noncomputable def S2 : List It := (.code (sub B [1, 1, 1]) :: [])
noncomputable def S1 : List It := (.code (sub B [1, 0, 1]) :: S0)
theorem call {a0a : Option Addr} {a0n : Nat} {a0k : Nat} {H : Heap} {r : Value × Heap} (h :
    if (Option.isNone a0a) = true then
    (r = (.slice none 0 0, H))
    else
    (∃ (H_1 : Heap), H_1 = H.push (.row [] true) ∧
    (∃ (t7a : Option Addr) (t7n : Nat) (t7k : Nat) (H_2 : Heap), papp H_1 1 8 (some ⟨H.next, 0, none⟩) 0 (UNK 1) a0a a0n a0k = some ((t7a, t7n, t7k), H_2) ∧
    (r = (.slice t7a t7n t7k, H_2))))) :
    xC Try.prog good 37 [.slice a0a a0n a0k] H = some r := by
  refine KR.enter (fn := Try.f37) (c := B) (by kernel_rfl) (by kernel_rfl) ?_
  refine KR.run 8 [(0, .slice a0a a0n a0k), (3, .slice a0a a0n a0k)] 8 (s' := (.reg (opsAt (sub B [1, 0, 0])) [1] :: S1)) (by kernel_rfl) fun J => ?_
  refine KR.p (one_nl false a0a (by kernel_rfl)) ?_
  refine KR.run 1 [(0, .slice a0a a0n a0k), (4, .bool (Option.isNone a0a))] 8 (s' := (.code (sub B [1, 0, 1]) :: S0)) (by kernel_rfl) fun J => ?_
  by_cases c2 : (Option.isNone a0a) = true
  · replace h := iteT c2 h
    refine KR.br true (by kernel_rfl) (vB (bT c2)) ?_
    refine KR.run 4 [(2, .slice none 0 0)] 8 (s' := (.code (sub B [1, 0, 1, 0, 1]) :: S0)) (by kernel_rfl) fun J => ?_
    exact KR.fin (by kernel_rfl) h
  · replace h := iteF c2 h
    refine KR.br false (by kernel_rfl) (vB (bF c2)) ?_
    refine KR.run 3 [(0, .slice a0a a0n a0k)] 8 (s' := (.reg (opsAt (sub B [1, 1, 0])) [0, 1, 2, 3] :: S2)) (by kernel_rfl) fun J => ?_
    obtain ⟨H_1, q3, h⟩ := h
    refine KR.mk (w := sRow 0 1 []) (one_al (by kernel_rfl)) q3 ?_
    refine KR.run 1 [(5, .slice (some ⟨H.next, 0, none⟩) 0 (UNK 1)), (6, .slice a0a a0n a0k)] 8 (s' := (.reg (opsAt (sub B [1, 1, 0])) [2, 3] :: S2)) (by kernel_rfl) fun J => ?_
    obtain ⟨t7a, t7n, t7k, H_2, q4, h⟩ := h
    refine KR.se (one_ap 1 8 (by kernel_rfl) q4) ?_
    refine KR.run 2 [(2, .slice t7a t7n t7k)] 8 (s' := (.code (sub B [1, 1, 1]) :: [])) (by kernel_rfl) fun J => ?_
    exact KR.fin (by kernel_rfl) h
end F37
/-! #### 38 campanile/hop.Open$1 -/
namespace F38
noncomputable def B : Code := bodyOf Try.f38
noncomputable def S0 : List It := (.code (sub B [1, 1]) :: [])
theorem call {a0 : Int} {f0 : Option Addr} {H : Heap} {r : Value × Heap} (h :
    ∃ (f0b f0o : Nat), f0 = some ⟨f0b, f0o, none⟩ ∧
    (∃ (t4 : Int), ldc H f0b f0o = some (.int .u32 t4) ∧
    ((0 : Int) ≤ a0 ∧
    (r = (.bool ((iand .u32 (ishr .u32 t4 a0) 1) == 1), H))))) :
    xC Try.prog good 38 [.int .i64 a0, .pointer f0] H = some r := by
  refine KR.enter (fn := Try.f38) (c := B) (by kernel_rfl) (by kernel_rfl) ?_
  refine KR.run 6 [(0, .int .i64 a0), (1, .pointer f0)] 9 (s' := (.reg (opsAt (sub B [1, 0])) [0, 1, 2, 3, 4, 5] :: S0)) (by kernel_rfl) fun J => ?_
  obtain ⟨f0b, f0o, rfl, h⟩ := h
  obtain ⟨t4, q2, h⟩ := h
  refine KR.rd (one_ld (by kernel_rfl) q2) ?_
  refine KR.run 1 [(4, .int .u32 t4), (5, .int .i64 a0)] 9 (s' := (.reg (opsAt (sub B [1, 0])) [2, 3, 4, 5] :: S0)) (by kernel_rfl) fun J => ?_
  obtain ⟨q3, h⟩ := h
  refine KR.p (one_shr .u32 .i64 t4 (by kernel_rfl) q3) ?_
  refine KR.run 4 [(3, .bool ((iand .u32 (ishr .u32 t4 a0) 1) == 1))] 9 (s' := (.code (sub B [1, 1]) :: [])) (by kernel_rfl) fun J => ?_
  exact KR.fin (by kernel_rfl) h
end F38
/-! #### 39 campanile/campanileref1.ASN -/
namespace F39
noncomputable def B : Code := bodyOf Try.f39
noncomputable def S0 : List It := (.code (sub B [1, 1]) :: [])
theorem call {a0 : Int} {H : Heap} {r : Value × Heap} (h :
    if a0 ≥ 0 then
    (r = (.bool (decide (a0 < 1099511627776)), H))
    else
    (r = (.bool false, H))) :
    xC Try.prog good 39 [.int .i64 a0] H = some r := by
  refine KR.enter (fn := Try.f39) (c := B) (by kernel_rfl) (by kernel_rfl) ?_
  refine KR.run 9 [(0, .int .i64 a0), (5, .bool (decide (a0 ≥ 0)))] 9 (s' := (.reg (opsAt (sub B [1, 0])) [3, 4, 5, 6] :: S0)) (by kernel_rfl) fun J => ?_
  by_cases c1 : a0 ≥ 0
  · replace h := iteT c1 h
    refine KR.setV 5 (by kernel_rfl) (dT c1) ?_
    refine KR.run 5 [(2, .bool (decide (a0 < 1099511627776)))] 9 (s' := (.code (sub B [1, 1]) :: [])) (by kernel_rfl) fun J => ?_
    exact KR.fin (by kernel_rfl) h
  · replace h := iteF c1 h
    refine KR.setV 5 (by kernel_rfl) (dF c1) ?_
    refine KR.run 5 [(2, .bool false)] 9 (s' := (.code (sub B [1, 1]) :: [])) (by kernel_rfl) fun J => ?_
    exact KR.fin (by kernel_rfl) h
end F39
/-! #### 40 slices.Index[[]int,int] -/
namespace F40
noncomputable def B : Code := bodyOf Try.f40
noncomputable def S0 : List It := (.code (sub B [1, 1]) :: [])
noncomputable def S1 : List It := (.blk 0 :: S0)
noncomputable def S2 : List It := (.lp (sub B [1, 0, 1, 0, 0]) :: S1)
noncomputable def S3 : List It := (.code (sub B [1, 0, 1, 0, 0, 1, 1]) :: S2)
noncomputable def S4 : List It := (.code (sub B [1, 0, 1, 0, 0, 1, 1, 1]) :: S2)
noncomputable def S5 : List It := (.blk 1 :: S4)
noncomputable def S6 : List It := (.code (sub B [1, 0, 1, 0, 0, 1, 1, 0, 0, 1, 1]) :: S5)
def L0 (t0a : Option Addr) (t0n : Nat) (t0k : Nat) (t1 : Int) (t7 : Int) (t8 : Int) (H : Heap) (r : Value × Heap) : Prop := ∀ J, KR Try.prog good Try.f40 S2 (mat J 19 [(0, .slice t0a t0n t0k), (1, .int .i64 t1), (7, .int .i64 t7), (8, .int .i64 t8)]) H r
theorem L0_step {t0a : Option Addr} {t0n : Nat} {t0k : Nat} {t1 : Int} {t7 : Int} {t8 : Int} {H : Heap} {r : Value × Heap} (h :
    if t8 < t7 then
    (∃ (t0ab t0ao : Nat), t0a = some ⟨t0ab, t0ao, none⟩ ∧
    ((0 : Int) ≤ t8 ∧ t8 < ((t0n : Nat) : Int) ∧
    (∃ (t15 : Int), ldc H t0ab (t0ao + Int.toNat t8 * 1) = some (.int .i64 t15) ∧
    (if t1 = t15 then
    (r = (.int .i64 t8, H))
    else
    (L0 ((some ⟨t0ab, t0ao, none⟩)) (t0n) (t0k) (t1) (t7) ((IntKind.wrap .i64 (t8 + 1))) H r)))))
    else
    (r = (.int .i64 (-1), H))) :
    L0 t0a t0n t0k t1 t7 t8 H r := by
  intro J
  show KR _ _ _ (.lp (sub B [1, 0, 1, 0, 0]) :: S1) _ _ _
  refine KR.run 6 [(0, .slice t0a t0n t0k), (1, .int .i64 t1), (7, .int .i64 t7), (8, .int .i64 t8), (9, .bool (decide (t8 < t7)))] 19 (s' := (.code (sub B [1, 0, 1, 0, 0, 1, 0]) :: S3)) (by kernel_rfl) fun J => ?_
  by_cases c1 : t8 < t7
  · replace h := iteT c1 h
    refine KR.br true (by kernel_rfl) (vB (dT c1)) ?_
    obtain ⟨t0ab, t0ao, rfl, h⟩ := h
    refine KR.run 13 [(0, .slice (some ⟨t0ab, t0ao, none⟩) t0n t0k), (1, .int .i64 t1), (5, .int .i64 t8), (7, .int .i64 t7), (8, .int .i64 t8), (11, .int .i64 t1), (12, .slice (some ⟨t0ab, t0ao, none⟩) t0n t0k), (13, .int .i64 t8)] 19 (s' := (.reg (opsAt (sub B [1, 0, 1, 0, 0, 1, 1, 0, 0, 1, 0])) [3, 4, 5] :: S6)) (by kernel_rfl) fun J => ?_
    obtain ⟨q2, q2x, h⟩ := h
    refine KR.p (one_ix 1 t0ab t0ao (by kernel_rfl) q2 q2x) ?_
    obtain ⟨t15, q3, h⟩ := h
    refine KR.rd (one_ld (by kernel_rfl) q3) ?_
    refine KR.run 2 [(0, .slice (some ⟨t0ab, t0ao, none⟩) t0n t0k), (1, .int .i64 t1), (5, .int .i64 t8), (7, .int .i64 t7), (8, .int .i64 t8), (16, .bool (t1 == t15))] 19 (s' := (.code (sub B [1, 0, 1, 0, 0, 1, 1, 0, 0, 1, 1]) :: S5)) (by kernel_rfl) fun J => ?_
    by_cases c4 : t1 = t15
    · replace h := iteT c4 h
      refine KR.br true (by kernel_rfl) (vB (eT c4)) ?_
      refine KR.run 5 [(4, .int .i64 t8)] 19 (s' := (.code (sub B [1, 0, 1, 0, 0, 1, 1, 0, 0, 1, 1, 0, 1]) :: S5)) (by kernel_rfl) fun J => ?_
      exact KR.fin (by kernel_rfl) h
    · replace h := iteF c4 h
      refine KR.br false (by kernel_rfl) (vB (eF c4)) ?_
      exact KR.run 6 [(0, .slice (some ⟨t0ab, t0ao, none⟩) t0n t0k), (1, .int .i64 t1), (7, .int .i64 t7), (8, .int .i64 (IntKind.wrap .i64 (t8 + 1)))] 19 (s' := (.lp (sub B [1, 0, 1, 0, 0]) :: S1)) (by kernel_rfl) h
  · replace h := iteF c1 h
    refine KR.br false (by kernel_rfl) (vB (dF c1)) ?_
    refine KR.run 5 [(4, .int .i64 (-1))] 19 (s' := (.code (sub B [1, 1, 1]) :: [])) (by kernel_rfl) fun J => ?_
    exact KR.fin (by kernel_rfl) h
theorem call {a0a : Option Addr} {a0n : Nat} {a0k : Nat} {a1 : Int} {H : Heap} {r : Value × Heap} (h :
    L0 (a0a) (a0n) (a0k) (a1) (((a0n : Nat) : Int)) 0 H r) :
    xC Try.prog good 40 [.slice a0a a0n a0k, .int .i64 a1] H = some r := by
  refine KR.enter (fn := Try.f40) (c := B) (by kernel_rfl) (by kernel_rfl) ?_
  exact KR.run 13 [(0, .slice a0a a0n a0k), (1, .int .i64 a1), (7, .int .i64 ((a0n : Nat) : Int)), (8, .int .i64 0)] 19 (s' := (.lp (sub B [1, 0, 1, 0, 0]) :: S1)) (by kernel_rfl) h
end F40
/-! #### 41 slices.IndexFunc[[]int,int] -/
namespace F41
noncomputable def B : Code := bodyOf Try.f41
noncomputable def S0 : List It := (.code (sub B [1, 1]) :: [])
noncomputable def S1 : List It := (.blk 0 :: S0)
noncomputable def S2 : List It := (.lp (sub B [1, 0, 1, 0, 0]) :: S1)
noncomputable def S3 : List It := (.code (sub B [1, 0, 1, 0, 0, 1, 1]) :: S2)
noncomputable def S4 : List It := (.code (sub B [1, 0, 1, 0, 0, 1, 1, 1]) :: S2)
noncomputable def S5 : List It := (.blk 1 :: S4)
noncomputable def S6 : List It := (.code (sub B [1, 0, 1, 0, 0, 1, 1, 0, 0, 1, 1]) :: S5)
def L0 (t0a : Option Addr) (t0n : Nat) (t0k : Nat) (t1 : Value) (t7 : Int) (t8 : Int) (H : Heap) (r : Value × Heap) : Prop := ∀ J, KR Try.prog good Try.f41 S2 (mat J 19 [(0, .slice t0a t0n t0k), (1, t1), (7, .int .i64 t7), (8, .int .i64 t8)]) H r
theorem L0_step {t0a : Option Addr} {t0n : Nat} {t0k : Nat} {t1 : Value} {t7 : Int} {t8 : Int} {H : Heap} {r : Value × Heap} (h :
    if t8 < t7 then
    (∃ (t0ab t0ao : Nat), t0a = some ⟨t0ab, t0ao, none⟩ ∧
    ((0 : Int) ≤ t8 ∧ t8 < ((t0n : Nat) : Int) ∧
    (∃ (t15 : Int), ldc H t0ab (t0ao + Int.toNat t8 * 1) = some (.int .i64 t15) ∧
    (∃ (t1g : Nat) (t1x t1y : Array Value), t1 = .func (.func t1g) t1x t1y ∧
    (fnGoes Try.prog t1g = true ∧ ∃ (t16 : Bool) (H_1 : Heap), xC Try.prog good t1g (Array.toList t1x ++ [.int .i64 t15] ++ Array.toList t1y) H = some (.bool t16, H_1) ∧
    (if t16 = true then
    (r = (.int .i64 t8, H_1))
    else
    (L0 ((some ⟨t0ab, t0ao, none⟩)) (t0n) (t0k) (.func (.func t1g) t1x t1y) (t7) ((IntKind.wrap .i64 (t8 + 1))) H_1 r)))))))
    else
    (r = (.int .i64 (-1), H))) :
    L0 t0a t0n t0k t1 t7 t8 H r := by
  intro J
  show KR _ _ _ (.lp (sub B [1, 0, 1, 0, 0]) :: S1) _ _ _
  refine KR.run 6 [(0, .slice t0a t0n t0k), (1, t1), (7, .int .i64 t7), (8, .int .i64 t8), (9, .bool (decide (t8 < t7)))] 19 (s' := (.code (sub B [1, 0, 1, 0, 0, 1, 0]) :: S3)) (by kernel_rfl) fun J => ?_
  by_cases c1 : t8 < t7
  · replace h := iteT c1 h
    refine KR.br true (by kernel_rfl) (vB (dT c1)) ?_
    obtain ⟨t0ab, t0ao, rfl, h⟩ := h
    refine KR.run 13 [(0, .slice (some ⟨t0ab, t0ao, none⟩) t0n t0k), (1, t1), (5, .int .i64 t8), (7, .int .i64 t7), (8, .int .i64 t8), (11, t1), (12, .slice (some ⟨t0ab, t0ao, none⟩) t0n t0k), (13, .int .i64 t8)] 19 (s' := (.reg (opsAt (sub B [1, 0, 1, 0, 0, 1, 1, 0, 0, 1, 0])) [3, 4, 5] :: S6)) (by kernel_rfl) fun J => ?_
    obtain ⟨q2, q2x, h⟩ := h
    refine KR.p (one_ix 1 t0ab t0ao (by kernel_rfl) q2 q2x) ?_
    obtain ⟨t15, q3, h⟩ := h
    refine KR.rd (one_ld (by kernel_rfl) q3) ?_
    obtain ⟨t1g, t1x, t1y, rfl, h⟩ := h
    obtain ⟨q5x, t16, H_1, q5, h⟩ := h
    refine KR.se (one_fv (by kernel_rfl) q5x q5) ?_
    refine KR.run 1 [(0, .slice (some ⟨t0ab, t0ao, none⟩) t0n t0k), (1, .func (.func t1g) t1x t1y), (5, .int .i64 t8), (7, .int .i64 t7), (8, .int .i64 t8), (16, .bool t16)] 19 (s' := (.code (sub B [1, 0, 1, 0, 0, 1, 1, 0, 0, 1, 1]) :: S5)) (by kernel_rfl) fun J => ?_
    by_cases c6 : t16 = true
    · replace h := iteT c6 h
      refine KR.br true (by kernel_rfl) (vB (bT c6)) ?_
      refine KR.run 5 [(4, .int .i64 t8)] 19 (s' := (.code (sub B [1, 0, 1, 0, 0, 1, 1, 0, 0, 1, 1, 0, 1]) :: S5)) (by kernel_rfl) fun J => ?_
      exact KR.fin (by kernel_rfl) h
    · replace h := iteF c6 h
      refine KR.br false (by kernel_rfl) (vB (bF c6)) ?_
      exact KR.run 6 [(0, .slice (some ⟨t0ab, t0ao, none⟩) t0n t0k), (1, .func (.func t1g) t1x t1y), (7, .int .i64 t7), (8, .int .i64 (IntKind.wrap .i64 (t8 + 1)))] 19 (s' := (.lp (sub B [1, 0, 1, 0, 0]) :: S1)) (by kernel_rfl) h
  · replace h := iteF c1 h
    refine KR.br false (by kernel_rfl) (vB (dF c1)) ?_
    refine KR.run 5 [(4, .int .i64 (-1))] 19 (s' := (.code (sub B [1, 1, 1]) :: [])) (by kernel_rfl) fun J => ?_
    exact KR.fin (by kernel_rfl) h
theorem call {a0a : Option Addr} {a0n : Nat} {a0k : Nat} {a1 : Value} {H : Heap} {r : Value × Heap} (h :
    L0 (a0a) (a0n) (a0k) (a1) (((a0n : Nat) : Int)) 0 H r) :
    xC Try.prog good 41 [.slice a0a a0n a0k, a1] H = some r := by
  refine KR.enter (fn := Try.f41) (c := B) (by kernel_rfl) (by kernel_rfl) ?_
  exact KR.run 13 [(0, .slice a0a a0n a0k), (1, a1), (7, .int .i64 ((a0n : Nat) : Int)), (8, .int .i64 0)] 19 (s' := (.lp (sub B [1, 0, 1, 0, 0]) :: S1)) (by kernel_rfl) h
end F41
end Go.X
