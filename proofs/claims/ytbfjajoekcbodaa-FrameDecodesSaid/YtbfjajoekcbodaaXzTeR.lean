/- The walks of the functions: printed. -/
import Derived.Test.YtbfjajoekcbodaaXzGe
set_option linter.unusedVariables false
set_option maxRecDepth 100000
namespace Go.X
open Go Go.RowKit Go.Proofs
/-! #### 18 campanile/campanileref1.MayIE -/
namespace F18
noncomputable def B : Code := bodyOf Try.f18
noncomputable def S0 : List It := (.code (sub B [1]) :: [])
noncomputable def S1 : List It := (.code (sub B [1, 1]) :: [])
noncomputable def S2 : List It := (.code (sub B [1, 0, 1]) :: S1)
noncomputable def S3 : List It := (.blk 0 :: S1)
noncomputable def S4 : List It := (.code (sub B [1, 0, 1, 0, 1, 0, 1]) :: S3)
noncomputable def S5 : List It := (.code (sub B [1, 0, 1, 0, 1, 1, 1, 0, 1]) :: S3)
noncomputable def S6 : List It := (.code (sub B [1, 0, 1, 0, 1, 1, 1, 1, 1]) :: S3)
noncomputable def S7 : List It := (.code (sub B [1, 0, 1, 0, 1, 1, 1, 1, 1, 0, 1]) :: S3)
noncomputable def S16 : List It := (.code (sub B [1, 0, 1, 0, 1, 1, 1, 1, 1, 0, 1, 1]) :: S3)
noncomputable def S8 : List It := (.code (sub B [1, 0, 1, 0, 1, 1, 1, 1, 1, 0, 0, 1]) :: S7)
noncomputable def S9 : List It := (.blk 1 :: S7)
noncomputable def S10 : List It := (.lp (sub B [1, 0, 1, 0, 1, 1, 1, 1, 1, 0, 0, 1, 0, 0]) :: S9)
noncomputable def S11 : List It := (.code (sub B [1, 0, 1, 0, 1, 1, 1, 1, 1, 0, 0, 1, 0, 0, 1, 1]) :: S10)
noncomputable def S12 : List It := (.code (sub B [1, 0, 1, 0, 1, 1, 1, 1, 1, 0, 0, 1, 0, 0, 1, 1, 1]) :: S10)
noncomputable def S13 : List It := (.blk 2 :: S12)
noncomputable def S14 : List It := (.code (sub B [1, 0, 1, 0, 1, 1, 1, 1, 1, 0, 0, 1, 0, 0, 1, 1, 0, 0, 1]) :: S13)
noncomputable def S15 : List It := (.code (sub B [1, 0, 1, 0, 1, 1, 1, 1, 1, 0, 0, 1, 0, 0, 1, 1, 0, 0, 1, 1]) :: S13)
def L0 (t1b t1o : Nat) (t59 : Bool) (H : Heap) (r : Value × Heap) : Prop := ∀ J, KR Try.prog good Try.f18 S6 (mat J 95 [(1, .pointer (some ⟨t1b, t1o, none⟩)), (59, .bool t59)]) H r
def L1 (t1b t1o : Nat) (t63a : Option Addr) (t63n t63k : Nat) (t64 t65 : Int) (H : Heap) (r : Value × Heap) : Prop := ∀ J, KR Try.prog good Try.f18 S10 (mat J 95 [(1, .pointer (some ⟨t1b, t1o, none⟩)), (63, .slice t63a t63n t63k), (64, .int .i64 t64), (65, .int .i64 t65)]) H r
def L2 (t1b t1o t63b t63o t63n t63k : Nat) (t64 t65 : Int) (t74 : Bool) (H : Heap) (r : Value × Heap) : Prop := ∀ J, KR Try.prog good Try.f18 S15 (mat J 95 [(1, .pointer (some ⟨t1b, t1o, none⟩)), (63, .slice (some ⟨t63b, t63o, none⟩) t63n t63k), (64, .int .i64 t64), (65, .int .i64 t65), (74, .bool t74)]) H r
theorem L0_step {t1b t1o : Nat} {t59 : Bool} {H : Heap} {r : Value × Heap} (h :
    if t59 = true then
    (∃ (t63a : Option Addr) (t63n t63k : Nat), ldc H t1b (t1o + 4) = some (.slice t63a t63n t63k) ∧
    (L1 t1b t1o t63a t63n t63k ((t63n : Int)) 0 H r))
    else
    (r = (.bool false, H))) :
    L0 t1b t1o t59 H r := by
  intro J
  show KR _ _ _ (.code (sub B [1, 0, 1, 0, 1, 1, 1, 1, 1]) :: S3) _ _ _
  by_cases c25 : t59 = true
  · replace h := iteT c25 h
    refine KR.bb true (vB (bT c25)) ?_
    refine KR.go 4 [(1, .pointer (some ⟨t1b, t1o, none⟩)), (62, .pointer (some ⟨t1b, (t1o + 4), none⟩))] 95 (s' := (.reg (opsAt (sub B [1, 0, 1, 0, 1, 1, 1, 1, 1, 0, 0, 0])) [1, 2, 3] :: S8)) fun J => ?_
    obtain ⟨t63a, t63n, t63k, q26, h⟩ := h
    refine KR.rd (one_ld (by kernel_rfl) q26) ?_
    exact KR.go 5 [(1, .pointer (some ⟨t1b, t1o, none⟩)), (63, .slice t63a t63n t63k), (64, .int .i64 (t63n : Int)), (65, .int .i64 0)] 95 (s' := (.lp (sub B [1, 0, 1, 0, 1, 1, 1, 1, 1, 0, 0, 1, 0, 0]) :: S9)) h
  · replace h := iteF c25 h
    refine KR.bb false (vB (bF c25)) ?_
    refine KR.go 6 [(2, .bool false)] 95 (s' := (.code (sub B [1, 1, 1]) :: [])) fun J => ?_
    exact KR.fi h
theorem L1_step {t1b t1o : Nat} {t63a : Option Addr} {t63n t63k : Nat} {t64 t65 : Int} {H : Heap} {r : Value × Heap} (h :
    if t65 < t64 then
    (∃ (t63ab t63ao : Nat), t63a = some ⟨t63ab, t63ao, none⟩ ∧
    ((0 : Int) ≤ t65 ∧ t65 < (t63n : Int) ∧
    (∃ (t68 : Int), ldc H t63ab (t63ao + Int.toNat t65 * 1) = some (.int .i64 t68) ∧
    (if t68 < 0 then
    (L2 t1b t1o t63ab t63ao t63n t63k t64 t65 true H r)
    else
    (L2 t1b t1o t63ab t63ao t63n t63k t64 t65 ((decide (t68 > 255))) H r)))))
    else
    (∃ (t77a : Option Addr) (t77n t77k : Nat), ldc H t1b (t1o + 4) = some (.slice t77a t77n t77k) ∧
    (if (t77n : Int) ≤ 16 then
    (∃ (t82 : Int), ldc H t1b (t1o + 1) = some (.int .i64 t82) ∧
    (if t82 = 0 then
    (∃ (t87 : Int), ldc H t1b (t1o + 2) = some (.int .i64 t87) ∧
    (if t87 = 0 then
    (∃ (t92 : Int), ldc H t1b (t1o + 3) = some (.int .i64 t92) ∧
    (r = (.bool (t92 == 0), H)))
    else
    (r = (.bool false, H))))
    else
    (r = (.bool false, H))))
    else
    (r = (.bool false, H))))) :
    L1 t1b t1o t63a t63n t63k t64 t65 H r := by
  intro J
  show KR _ _ _ (.lp (sub B [1, 0, 1, 0, 1, 1, 1, 1, 1, 0, 0, 1, 0, 0]) :: S9) _ _ _
  refine KR.go 6 [(1, .pointer (some ⟨t1b, t1o, none⟩)), (63, .slice t63a t63n t63k), (64, .int .i64 t64), (65, .int .i64 t65), (66, .bool (decide (t65 < t64)))] 95 (s' := (.code (sub B [1, 0, 1, 0, 1, 1, 1, 1, 1, 0, 0, 1, 0, 0, 1, 0]) :: S11)) fun J => ?_
  by_cases c27 : t65 < t64
  · replace h := iteT c27 h
    refine KR.bb true (vB (dT c27)) ?_
    obtain ⟨t63ab, t63ao, rfl, h⟩ := h
    refine KR.go 5 [(1, .pointer (some ⟨t1b, t1o, none⟩)), (63, .slice (some ⟨t63ab, t63ao, none⟩) t63n t63k), (64, .int .i64 t64), (65, .int .i64 t65)] 95 (s' := (.reg (opsAt (sub B [1, 0, 1, 0, 1, 1, 1, 1, 1, 0, 0, 1, 0, 0, 1, 1, 0, 0, 0])) [0, 1, 2] :: S14)) fun J => ?_
    obtain ⟨q28, q28x, h⟩ := h
    refine KR.p (one_ix 1 t63ab t63ao (by kernel_rfl) q28 q28x) ?_
    obtain ⟨t68, q29, h⟩ := h
    refine KR.rd (one_ld (by kernel_rfl) q29) ?_
    refine KR.go 7 [(1, .pointer (some ⟨t1b, t1o, none⟩)), (4, .int .i64 t68), (63, .slice (some ⟨t63ab, t63ao, none⟩) t63n t63k), (64, .int .i64 t64), (65, .int .i64 t65), (71, .bool (decide (t68 < 0)))] 95 (s' := (.reg (opsAt (sub B [1, 0, 1, 0, 1, 1, 1, 1, 1, 0, 0, 1, 0, 0, 1, 1, 0, 0, 1, 0])) [3, 4, 5] :: S15)) fun J => ?_
    by_cases c30 : t68 < 0
    · replace h := iteT c30 h
      refine KR.setV 71 (by kernel_rfl) (dT c30) ?_
      exact KR.go 4 [(1, .pointer (some ⟨t1b, t1o, none⟩)), (63, .slice (some ⟨t63ab, t63ao, none⟩) t63n t63k), (64, .int .i64 t64), (65, .int .i64 t65), (74, .bool true)] 95 (s' := (.code (sub B [1, 0, 1, 0, 1, 1, 1, 1, 1, 0, 0, 1, 0, 0, 1, 1, 0, 0, 1, 1]) :: S13)) h
    · replace h := iteF c30 h
      refine KR.setV 71 (by kernel_rfl) (dF c30) ?_
      exact KR.go 4 [(1, .pointer (some ⟨t1b, t1o, none⟩)), (63, .slice (some ⟨t63ab, t63ao, none⟩) t63n t63k), (64, .int .i64 t64), (65, .int .i64 t65), (74, .bool (decide (t68 > 255)))] 95 (s' := (.code (sub B [1, 0, 1, 0, 1, 1, 1, 1, 1, 0, 0, 1, 0, 0, 1, 1, 0, 0, 1, 1]) :: S13)) h
  · replace h := iteF c27 h
    refine KR.bb false (vB (dF c27)) ?_
    refine KR.go 4 [(1, .pointer (some ⟨t1b, t1o, none⟩)), (76, .pointer (some ⟨t1b, (t1o + 4), none⟩))] 95 (s' := (.reg (opsAt (sub B [1, 0, 1, 0, 1, 1, 1, 1, 1, 0, 1, 0])) [1, 2, 3, 4, 5, 6, 7, 8, 9, 10, 11, 12, 13, 14, 15, 16, 17, 18, 19] :: S16)) fun J => ?_
    obtain ⟨t77a, t77n, t77k, q31, h⟩ := h
    refine KR.rd (one_ld (by kernel_rfl) q31) ?_
    refine KR.go 3 [(1, .pointer (some ⟨t1b, t1o, none⟩)), (80, .bool (decide ((t77n : Int) ≤ 16)))] 95 (s' := (.reg (opsAt (sub B [1, 0, 1, 0, 1, 1, 1, 1, 1, 0, 1, 0])) [5, 6, 7, 8, 9, 10, 11, 12, 13, 14, 15, 16, 17, 18, 19] :: S16)) fun J => ?_
    by_cases c32 : (t77n : Int) ≤ 16
    · replace h := iteT c32 h
      refine KR.setV 80 (by kernel_rfl) (dT c32) ?_
      refine KR.go 1 [(1, .pointer (some ⟨t1b, t1o, none⟩)), (80, .bool true), (81, .pointer (some ⟨t1b, (t1o + 1), none⟩))] 95 (s' := (.reg (opsAt (sub B [1, 0, 1, 0, 1, 1, 1, 1, 1, 0, 1, 0])) [6, 7, 8, 9, 10, 11, 12, 13, 14, 15, 16, 17, 18, 19] :: S16)) fun J => ?_
      obtain ⟨t82, q33, h⟩ := h
      refine KR.rd (one_ld (by kernel_rfl) q33) ?_
      refine KR.go 3 [(1, .pointer (some ⟨t1b, t1o, none⟩)), (85, .bool (t82 == 0))] 95 (s' := (.reg (opsAt (sub B [1, 0, 1, 0, 1, 1, 1, 1, 1, 0, 1, 0])) [10, 11, 12, 13, 14, 15, 16, 17, 18, 19] :: S16)) fun J => ?_
      by_cases c34 : t82 = 0
      · replace h := iteT c34 h
        refine KR.setV 85 (by kernel_rfl) (eT c34) ?_
        refine KR.go 1 [(1, .pointer (some ⟨t1b, t1o, none⟩)), (85, .bool true), (86, .pointer (some ⟨t1b, (t1o + 2), none⟩))] 95 (s' := (.reg (opsAt (sub B [1, 0, 1, 0, 1, 1, 1, 1, 1, 0, 1, 0])) [11, 12, 13, 14, 15, 16, 17, 18, 19] :: S16)) fun J => ?_
        obtain ⟨t87, q35, h⟩ := h
        refine KR.rd (one_ld (by kernel_rfl) q35) ?_
        refine KR.go 3 [(1, .pointer (some ⟨t1b, t1o, none⟩)), (90, .bool (t87 == 0))] 95 (s' := (.reg (opsAt (sub B [1, 0, 1, 0, 1, 1, 1, 1, 1, 0, 1, 0])) [15, 16, 17, 18, 19] :: S16)) fun J => ?_
        by_cases c36 : t87 = 0
        · replace h := iteT c36 h
          refine KR.setV 90 (by kernel_rfl) (eT c36) ?_
          refine KR.go 1 [(90, .bool true), (91, .pointer (some ⟨t1b, (t1o + 3), none⟩))] 95 (s' := (.reg (opsAt (sub B [1, 0, 1, 0, 1, 1, 1, 1, 1, 0, 1, 0])) [16, 17, 18, 19] :: S16)) fun J => ?_
          obtain ⟨t92, q37, h⟩ := h
          refine KR.rd (one_ld (by kernel_rfl) q37) ?_
          refine KR.go 4 [(2, .bool (t92 == 0))] 95 (s' := (.code (sub B [1, 0, 1, 0, 1, 1, 1, 1, 1, 0, 1, 1]) :: S3)) fun J => ?_
          exact KR.fi h
        · replace h := iteF c36 h
          refine KR.setV 90 (by kernel_rfl) (eF c36) ?_
          refine KR.go 6 [(2, .bool false)] 95 (s' := (.code (sub B [1, 0, 1, 0, 1, 1, 1, 1, 1, 0, 1, 1]) :: S3)) fun J => ?_
          exact KR.fi h
      · replace h := iteF c34 h
        refine KR.setV 85 (by kernel_rfl) (eF c34) ?_
        refine KR.go 11 [(2, .bool false)] 95 (s' := (.code (sub B [1, 0, 1, 0, 1, 1, 1, 1, 1, 0, 1, 1]) :: S3)) fun J => ?_
        exact KR.fi h
    · replace h := iteF c32 h
      refine KR.setV 80 (by kernel_rfl) (dF c32) ?_
      refine KR.go 16 [(2, .bool false)] 95 (s' := (.code (sub B [1, 0, 1, 0, 1, 1, 1, 1, 1, 0, 1, 1]) :: S3)) fun J => ?_
      exact KR.fi h
theorem L2_step {t1b t1o t63b t63o t63n t63k : Nat} {t64 t65 : Int} {t74 : Bool} {H : Heap} {r : Value × Heap} (h :
    if t74 = true then
    (r = (.bool false, H))
    else
    (L1 t1b t1o ((some ⟨t63b, t63o, none⟩)) t63n t63k t64 ((IntKind.wrap .i64 (t65 + 1))) H r)) :
    L2 t1b t1o t63b t63o t63n t63k t64 t65 t74 H r := by
  intro J
  show KR _ _ _ (.code (sub B [1, 0, 1, 0, 1, 1, 1, 1, 1, 0, 0, 1, 0, 0, 1, 1, 0, 0, 1, 1]) :: S13) _ _ _
  by_cases c38 : t74 = true
  · replace h := iteT c38 h
    refine KR.bb true (vB (bT c38)) ?_
    refine KR.go 4 [(2, .bool false)] 95 (s' := (.code (sub B [1, 0, 1, 0, 1, 1, 1, 1, 1, 0, 0, 1, 0, 0, 1, 1, 0, 0, 1, 1, 0, 1]) :: S13)) fun J => ?_
    exact KR.fi h
  · replace h := iteF c38 h
    refine KR.bb false (vB (bF c38)) ?_
    exact KR.go 6 [(1, .pointer (some ⟨t1b, t1o, none⟩)), (63, .slice (some ⟨t63b, t63o, none⟩) t63n t63k), (64, .int .i64 t64), (65, .int .i64 (IntKind.wrap .i64 (t65 + 1)))] 95 (s' := (.lp (sub B [1, 0, 1, 0, 1, 1, 1, 1, 1, 0, 0, 1, 0, 0]) :: S9)) h
theorem call {a0c0 a0c1 a0c2 a0c3 : Int} {a0c4a : Option Addr} {a0c4n a0c4k : Nat} {H : Heap} {r : Value × Heap} (h :
    ∃ (H_1 : Heap), H_1 = H.push (.row [.int .i64 a0c0, .int .i64 a0c1, .int .i64 a0c2, .int .i64 a0c3, .slice a0c4a a0c4n a0c4k] true) ∧
    (∃ (t6 : Int), ldc H_1 H.next 0 = some (.int .i64 t6) ∧
    (if t6 = 1 then
    (∃ (t10 : Int), ldc H_1 H.next 1 = some (.int .i64 t10) ∧
    (∃ (t11 : Bool) (H_2 : Heap), xC Try.prog good 44 [.int .i64 t10] H_1 = some (.bool t11, H_2) ∧
    (if t11 = true then
    (∃ (t14 : Int), ldc H_2 H.next 2 = some (.int .i64 t14) ∧
    (if t14 ≥ 0 then
    (∃ (t19 : Int), ldc H_2 H.next 2 = some (.int .i64 t19) ∧
    (if t19 ≤ 255 then
    (∃ (t24 : Int), ldc H_2 H.next 3 = some (.int .i64 t24) ∧
    (if t24 = 0 then
    (∃ (t29a : Option Addr) (t29n t29k : Nat), ldc H_2 H.next 4 = some (.slice t29a t29n t29k) ∧
    (r = (.bool ((t29n : Int) == 0), H_2)))
    else
    (r = (.bool false, H_2))))
    else
    (r = (.bool false, H_2))))
    else
    (r = (.bool false, H_2))))
    else
    (r = (.bool false, H_2)))))
    else
    (if t6 = 2 then
    (∃ (t36 : Int), ldc H_1 H.next 3 = some (.int .i64 t36) ∧
    (if t36 ≥ (-32768) then
    (∃ (t40 : Int), ldc H_1 H.next 3 = some (.int .i64 t40) ∧
    (if t40 ≤ 32767 then
    (∃ (t45 : Int), ldc H_1 H.next 1 = some (.int .i64 t45) ∧
    (if t45 = 0 then
    (∃ (t50 : Int), ldc H_1 H.next 2 = some (.int .i64 t50) ∧
    (if t50 = 0 then
    (∃ (t55a : Option Addr) (t55n t55k : Nat), ldc H_1 H.next 4 = some (.slice t55a t55n t55k) ∧
    (r = (.bool ((t55n : Int) == 0), H_1)))
    else
    (r = (.bool false, H_1))))
    else
    (r = (.bool false, H_1))))
    else
    (r = (.bool false, H_1))))
    else
    (r = (.bool false, H_1))))
    else
    (if t6 = 3 then
    (L0 (H.next) 0 ((t6 == 3)) H_1 r)
    else
    (L0 (H.next) 0 ((t6 == 4)) H_1 r)))))) :
    xC Try.prog good 18 [.agg #[.int .i64 a0c0, .int .i64 a0c1, .int .i64 a0c2, .int .i64 a0c3, .slice a0c4a a0c4n a0c4k]] H = some r := by
  refine KR.enter (fn := Try.f18) (c := B) (by kernel_rfl) (by kernel_rfl) ?_
  refine KR.go 2 [(0, .agg #[.int .i64 a0c0, .int .i64 a0c1, .int .i64 a0c2, .int .i64 a0c3, .slice a0c4a a0c4n a0c4k])] 95 (s' := (.reg (opsAt (sub B [0])) [0, 1] :: S0)) fun J => ?_
  obtain ⟨H_1, q1, h⟩ := h
  refine KR.mk (w := pRow [.int .i64 a0c0, .int .i64 a0c1, .int .i64 a0c2, .int .i64 a0c3, .slice a0c4a a0c4n a0c4k]) (one_al (by kernel_rfl)) q1 ?_
  refine KR.go 6 [(1, .pointer (some ⟨H.next, 0, none⟩)), (5, .pointer (some ⟨H.next, 0, none⟩))] 95 (s' := (.reg (opsAt (sub B [1, 0, 0])) [1] :: S2)) fun J => ?_
  obtain ⟨t6, q2, h⟩ := h
  refine KR.rd (one_ld (by kernel_rfl) q2) ?_
  refine KR.go 7 [(1, .pointer (some ⟨H.next, 0, none⟩)), (6, .int .i64 t6), (7, .bool (t6 == 1))] 95 (s' := (.code (sub B [1, 0, 1, 0, 1]) :: S3)) fun J => ?_
  by_cases c3 : t6 = 1
  · replace h := iteT c3 h
    refine KR.bb true (vB (eT c3)) ?_
    refine KR.go 3 [(1, .pointer (some ⟨H.next, 0, none⟩)), (9, .pointer (some ⟨H.next, 1, none⟩))] 95 (s' := (.reg (opsAt (sub B [1, 0, 1, 0, 1, 0, 0])) [1, 2, 3, 4, 5, 6, 7, 8, 9, 10, 11, 12, 13, 14, 15, 16, 17, 18, 19, 20, 21, 22, 23, 24] :: S4)) fun J => ?_
    obtain ⟨t10, q4, h⟩ := h
    refine KR.rd (one_ld (by kernel_rfl) q4) ?_
    obtain ⟨t11, H_2, q5, h⟩ := h
    refine KR.se (one_ca (by kernel_rfl) q5) ?_
    refine KR.go 1 [(1, .pointer (some ⟨H.next, 0, none⟩)), (12, .bool t11)] 95 (s' := (.reg (opsAt (sub B [1, 0, 1, 0, 1, 0, 0])) [4, 5, 6, 7, 8, 9, 10, 11, 12, 13, 14, 15, 16, 17, 18, 19, 20, 21, 22, 23, 24] :: S4)) fun J => ?_
    by_cases c6 : t11 = true
    · replace h := iteT c6 h
      refine KR.setV 12 (by kernel_rfl) (bT c6) ?_
      refine KR.go 1 [(1, .pointer (some ⟨H.next, 0, none⟩)), (12, .bool true), (13, .pointer (some ⟨H.next, 2, none⟩))] 95 (s' := (.reg (opsAt (sub B [1, 0, 1, 0, 1, 0, 0])) [5, 6, 7, 8, 9, 10, 11, 12, 13, 14, 15, 16, 17, 18, 19, 20, 21, 22, 23, 24] :: S4)) fun J => ?_
      obtain ⟨t14, q7, h⟩ := h
      refine KR.rd (one_ld (by kernel_rfl) q7) ?_
      refine KR.go 3 [(1, .pointer (some ⟨H.next, 0, none⟩)), (17, .bool (decide (t14 ≥ 0)))] 95 (s' := (.reg (opsAt (sub B [1, 0, 1, 0, 1, 0, 0])) [9, 10, 11, 12, 13, 14, 15, 16, 17, 18, 19, 20, 21, 22, 23, 24] :: S4)) fun J => ?_
      by_cases c8 : t14 ≥ 0
      · replace h := iteT c8 h
        refine KR.setV 17 (by kernel_rfl) (dT c8) ?_
        refine KR.go 1 [(1, .pointer (some ⟨H.next, 0, none⟩)), (17, .bool true), (18, .pointer (some ⟨H.next, 2, none⟩))] 95 (s' := (.reg (opsAt (sub B [1, 0, 1, 0, 1, 0, 0])) [10, 11, 12, 13, 14, 15, 16, 17, 18, 19, 20, 21, 22, 23, 24] :: S4)) fun J => ?_
        obtain ⟨t19, q9, h⟩ := h
        refine KR.rd (one_ld (by kernel_rfl) q9) ?_
        refine KR.go 3 [(1, .pointer (some ⟨H.next, 0, none⟩)), (22, .bool (decide (t19 ≤ 255)))] 95 (s' := (.reg (opsAt (sub B [1, 0, 1, 0, 1, 0, 0])) [14, 15, 16, 17, 18, 19, 20, 21, 22, 23, 24] :: S4)) fun J => ?_
        by_cases c10 : t19 ≤ 255
        · replace h := iteT c10 h
          refine KR.setV 22 (by kernel_rfl) (dT c10) ?_
          refine KR.go 1 [(1, .pointer (some ⟨H.next, 0, none⟩)), (22, .bool true), (23, .pointer (some ⟨H.next, 3, none⟩))] 95 (s' := (.reg (opsAt (sub B [1, 0, 1, 0, 1, 0, 0])) [15, 16, 17, 18, 19, 20, 21, 22, 23, 24] :: S4)) fun J => ?_
          obtain ⟨t24, q11, h⟩ := h
          refine KR.rd (one_ld (by kernel_rfl) q11) ?_
          refine KR.go 3 [(1, .pointer (some ⟨H.next, 0, none⟩)), (27, .bool (t24 == 0))] 95 (s' := (.reg (opsAt (sub B [1, 0, 1, 0, 1, 0, 0])) [19, 20, 21, 22, 23, 24] :: S4)) fun J => ?_
          by_cases c12 : t24 = 0
          · replace h := iteT c12 h
            refine KR.setV 27 (by kernel_rfl) (eT c12) ?_
            refine KR.go 1 [(27, .bool true), (28, .pointer (some ⟨H.next, 4, none⟩))] 95 (s' := (.reg (opsAt (sub B [1, 0, 1, 0, 1, 0, 0])) [20, 21, 22, 23, 24] :: S4)) fun J => ?_
            obtain ⟨t29a, t29n, t29k, q13, h⟩ := h
            refine KR.rd (one_ld (by kernel_rfl) q13) ?_
            refine KR.go 5 [(2, .bool ((t29n : Int) == 0))] 95 (s' := (.code (sub B [1, 0, 1, 0, 1, 0, 1]) :: S3)) fun J => ?_
            exact KR.fi h
          · replace h := iteF c12 h
            refine KR.setV 27 (by kernel_rfl) (eF c12) ?_
            refine KR.go 7 [(2, .bool false)] 95 (s' := (.code (sub B [1, 0, 1, 0, 1, 0, 1]) :: S3)) fun J => ?_
            exact KR.fi h
        · replace h := iteF c10 h
          refine KR.setV 22 (by kernel_rfl) (dF c10) ?_
          refine KR.go 12 [(2, .bool false)] 95 (s' := (.code (sub B [1, 0, 1, 0, 1, 0, 1]) :: S3)) fun J => ?_
          exact KR.fi h
      · replace h := iteF c8 h
        refine KR.setV 17 (by kernel_rfl) (dF c8) ?_
        refine KR.go 17 [(2, .bool false)] 95 (s' := (.code (sub B [1, 0, 1, 0, 1, 0, 1]) :: S3)) fun J => ?_
        exact KR.fi h
    · replace h := iteF c6 h
      refine KR.setV 12 (by kernel_rfl) (bF c6) ?_
      refine KR.go 22 [(2, .bool false)] 95 (s' := (.code (sub B [1, 0, 1, 0, 1, 0, 1]) :: S3)) fun J => ?_
      exact KR.fi h
  · replace h := iteF c3 h
    refine KR.bb false (vB (eF c3)) ?_
    refine KR.go 5 [(1, .pointer (some ⟨H.next, 0, none⟩)), (6, .int .i64 t6), (33, .bool (t6 == 2))] 95 (s' := (.code (sub B [1, 0, 1, 0, 1, 1, 1]) :: S3)) fun J => ?_
    by_cases c14 : t6 = 2
    · replace h := iteT c14 h
      refine KR.bb true (vB (eT c14)) ?_
      refine KR.go 3 [(1, .pointer (some ⟨H.next, 0, none⟩)), (35, .pointer (some ⟨H.next, 3, none⟩))] 95 (s' := (.reg (opsAt (sub B [1, 0, 1, 0, 1, 1, 1, 0, 0])) [1, 2, 3, 4, 5, 6, 7, 8, 9, 10, 11, 12, 13, 14, 15, 16, 17, 18, 19, 20, 21, 22, 23, 24] :: S5)) fun J => ?_
      obtain ⟨t36, q15, h⟩ := h
      refine KR.rd (one_ld (by kernel_rfl) q15) ?_
      refine KR.go 2 [(1, .pointer (some ⟨H.next, 0, none⟩)), (38, .bool (decide (t36 ≥ (-32768))))] 95 (s' := (.reg (opsAt (sub B [1, 0, 1, 0, 1, 1, 1, 0, 0])) [4, 5, 6, 7, 8, 9, 10, 11, 12, 13, 14, 15, 16, 17, 18, 19, 20, 21, 22, 23, 24] :: S5)) fun J => ?_
      by_cases c16 : t36 ≥ (-32768)
      · replace h := iteT c16 h
        refine KR.setV 38 (by kernel_rfl) (dT c16) ?_
        refine KR.go 1 [(1, .pointer (some ⟨H.next, 0, none⟩)), (38, .bool true), (39, .pointer (some ⟨H.next, 3, none⟩))] 95 (s' := (.reg (opsAt (sub B [1, 0, 1, 0, 1, 1, 1, 0, 0])) [5, 6, 7, 8, 9, 10, 11, 12, 13, 14, 15, 16, 17, 18, 19, 20, 21, 22, 23, 24] :: S5)) fun J => ?_
        obtain ⟨t40, q17, h⟩ := h
        refine KR.rd (one_ld (by kernel_rfl) q17) ?_
        refine KR.go 3 [(1, .pointer (some ⟨H.next, 0, none⟩)), (43, .bool (decide (t40 ≤ 32767)))] 95 (s' := (.reg (opsAt (sub B [1, 0, 1, 0, 1, 1, 1, 0, 0])) [9, 10, 11, 12, 13, 14, 15, 16, 17, 18, 19, 20, 21, 22, 23, 24] :: S5)) fun J => ?_
        by_cases c18 : t40 ≤ 32767
        · replace h := iteT c18 h
          refine KR.setV 43 (by kernel_rfl) (dT c18) ?_
          refine KR.go 1 [(1, .pointer (some ⟨H.next, 0, none⟩)), (43, .bool true), (44, .pointer (some ⟨H.next, 1, none⟩))] 95 (s' := (.reg (opsAt (sub B [1, 0, 1, 0, 1, 1, 1, 0, 0])) [10, 11, 12, 13, 14, 15, 16, 17, 18, 19, 20, 21, 22, 23, 24] :: S5)) fun J => ?_
          obtain ⟨t45, q19, h⟩ := h
          refine KR.rd (one_ld (by kernel_rfl) q19) ?_
          refine KR.go 3 [(1, .pointer (some ⟨H.next, 0, none⟩)), (48, .bool (t45 == 0))] 95 (s' := (.reg (opsAt (sub B [1, 0, 1, 0, 1, 1, 1, 0, 0])) [14, 15, 16, 17, 18, 19, 20, 21, 22, 23, 24] :: S5)) fun J => ?_
          by_cases c20 : t45 = 0
          · replace h := iteT c20 h
            refine KR.setV 48 (by kernel_rfl) (eT c20) ?_
            refine KR.go 1 [(1, .pointer (some ⟨H.next, 0, none⟩)), (48, .bool true), (49, .pointer (some ⟨H.next, 2, none⟩))] 95 (s' := (.reg (opsAt (sub B [1, 0, 1, 0, 1, 1, 1, 0, 0])) [15, 16, 17, 18, 19, 20, 21, 22, 23, 24] :: S5)) fun J => ?_
            obtain ⟨t50, q21, h⟩ := h
            refine KR.rd (one_ld (by kernel_rfl) q21) ?_
            refine KR.go 3 [(1, .pointer (some ⟨H.next, 0, none⟩)), (53, .bool (t50 == 0))] 95 (s' := (.reg (opsAt (sub B [1, 0, 1, 0, 1, 1, 1, 0, 0])) [19, 20, 21, 22, 23, 24] :: S5)) fun J => ?_
            by_cases c22 : t50 = 0
            · replace h := iteT c22 h
              refine KR.setV 53 (by kernel_rfl) (eT c22) ?_
              refine KR.go 1 [(53, .bool true), (54, .pointer (some ⟨H.next, 4, none⟩))] 95 (s' := (.reg (opsAt (sub B [1, 0, 1, 0, 1, 1, 1, 0, 0])) [20, 21, 22, 23, 24] :: S5)) fun J => ?_
              obtain ⟨t55a, t55n, t55k, q23, h⟩ := h
              refine KR.rd (one_ld (by kernel_rfl) q23) ?_
              refine KR.go 5 [(2, .bool ((t55n : Int) == 0))] 95 (s' := (.code (sub B [1, 0, 1, 0, 1, 1, 1, 0, 1]) :: S3)) fun J => ?_
              exact KR.fi h
            · replace h := iteF c22 h
              refine KR.setV 53 (by kernel_rfl) (eF c22) ?_
              refine KR.go 7 [(2, .bool false)] 95 (s' := (.code (sub B [1, 0, 1, 0, 1, 1, 1, 0, 1]) :: S3)) fun J => ?_
              exact KR.fi h
          · replace h := iteF c20 h
            refine KR.setV 48 (by kernel_rfl) (eF c20) ?_
            refine KR.go 12 [(2, .bool false)] 95 (s' := (.code (sub B [1, 0, 1, 0, 1, 1, 1, 0, 1]) :: S3)) fun J => ?_
            exact KR.fi h
        · replace h := iteF c18 h
          refine KR.setV 43 (by kernel_rfl) (dF c18) ?_
          refine KR.go 17 [(2, .bool false)] 95 (s' := (.code (sub B [1, 0, 1, 0, 1, 1, 1, 0, 1]) :: S3)) fun J => ?_
          exact KR.fi h
      · replace h := iteF c16 h
        refine KR.setV 38 (by kernel_rfl) (dF c16) ?_
        refine KR.go 22 [(2, .bool false)] 95 (s' := (.code (sub B [1, 0, 1, 0, 1, 1, 1, 0, 1]) :: S3)) fun J => ?_
        exact KR.fi h
    · replace h := iteF c14 h
      refine KR.bb false (vB (eF c14)) ?_
      refine KR.go 6 [(1, .pointer (some ⟨H.next, 0, none⟩)), (6, .int .i64 t6), (59, .bool (t6 == 3))] 95 (s' := (.code (sub B [1, 0, 1, 0, 1, 1, 1, 1, 0, 1]) :: S6)) fun J => ?_
      by_cases c24 : t6 = 3
      · replace h := iteT c24 h
        refine KR.bb true (vB (eT c24)) ?_
        exact KR.go 1 [(1, .pointer (some ⟨H.next, 0, none⟩)), (59, .bool (t6 == 3))] 95 (s' := (.code (sub B [1, 0, 1, 0, 1, 1, 1, 1, 1]) :: S3)) h
      · replace h := iteF c24 h
        refine KR.bb false (vB (eF c24)) ?_
        exact KR.go 4 [(1, .pointer (some ⟨H.next, 0, none⟩)), (59, .bool (t6 == 4))] 95 (s' := (.code (sub B [1, 0, 1, 0, 1, 1, 1, 1, 1]) :: S3)) h
end F18
/-! #### 19 campanile/campanileref1.SameIE -/
namespace F19
noncomputable def B : Code := bodyOf Try.f19
noncomputable def S0 : List It := (.code (sub B [1]) :: [])
noncomputable def S1 : List It := (.code (sub B [1, 1]) :: [])
theorem call {a0c0 a0c1 a0c2 a0c3 : Int} {a0c4a : Option Addr} {a0c4n a0c4k : Nat} {a1c0 a1c1 a1c2 a1c3 : Int} {a1c4a : Option Addr} {a1c4n a1c4k : Nat} {H : Heap} {r : Value × Heap} (h :
    ∃ (H_1 : Heap), H_1 = H.push (.row [.int .i64 a0c0, .int .i64 a0c1, .int .i64 a0c2, .int .i64 a0c3, .slice a0c4a a0c4n a0c4k] true) ∧
    (∃ (H_2 : Heap), H_2 = H_1.push (.row [.int .i64 a1c0, .int .i64 a1c1, .int .i64 a1c2, .int .i64 a1c3, .slice a1c4a a1c4n a1c4k] true) ∧
    (∃ (t6 : Int), ldc H_2 H.next 0 = some (.int .i64 t6) ∧
    (∃ (t8 : Int), ldc H_2 H_1.next 0 = some (.int .i64 t8) ∧
    (if t6 = t8 then
    (∃ (t12 : Int), ldc H_2 H.next 1 = some (.int .i64 t12) ∧
    (∃ (t14 : Int), ldc H_2 H_1.next 1 = some (.int .i64 t14) ∧
    (if t12 = t14 then
    (∃ (t19 : Int), ldc H_2 H.next 2 = some (.int .i64 t19) ∧
    (∃ (t21 : Int), ldc H_2 H_1.next 2 = some (.int .i64 t21) ∧
    (if t19 = t21 then
    (∃ (t26 : Int), ldc H_2 H.next 3 = some (.int .i64 t26) ∧
    (∃ (t28 : Int), ldc H_2 H_1.next 3 = some (.int .i64 t28) ∧
    (if t26 = t28 then
    (∃ (t33a : Option Addr) (t33n t33k : Nat), ldc H_2 H.next 4 = some (.slice t33a t33n t33k) ∧
    (∃ (t35a : Option Addr) (t35n t35k : Nat), ldc H_2 H_1.next 4 = some (.slice t35a t35n t35k) ∧
    (∃ (t36 : Bool) (H_3 : Heap), xC Try.prog good 45 [.slice t33a t33n t33k, .slice t35a t35n t35k] H_2 = some (.bool t36, H_3) ∧
    (r = (.bool t36, H_3)))))
    else
    (r = (.bool false, H_2)))))
    else
    (r = (.bool false, H_2)))))
    else
    (r = (.bool false, H_2)))))
    else
    (r = (.bool false, H_2))))))) :
    xC Try.prog good 19 [.agg #[.int .i64 a0c0, .int .i64 a0c1, .int .i64 a0c2, .int .i64 a0c3, .slice a0c4a a0c4n a0c4k], .agg #[.int .i64 a1c0, .int .i64 a1c1, .int .i64 a1c2, .int .i64 a1c3, .slice a1c4a a1c4n a1c4k]] H = some r := by
  refine KR.enter (fn := Try.f19) (c := B) (by kernel_rfl) (by kernel_rfl) ?_
  refine KR.go 2 [(0, .agg #[.int .i64 a0c0, .int .i64 a0c1, .int .i64 a0c2, .int .i64 a0c3, .slice a0c4a a0c4n a0c4k]), (1, .agg #[.int .i64 a1c0, .int .i64 a1c1, .int .i64 a1c2, .int .i64 a1c3, .slice a1c4a a1c4n a1c4k])] 38 (s' := (.reg (opsAt (sub B [0])) [0, 1, 2] :: S0)) fun J => ?_
  obtain ⟨H_1, q1, h⟩ := h
  refine KR.mk (w := pRow [.int .i64 a0c0, .int .i64 a0c1, .int .i64 a0c2, .int .i64 a0c3, .slice a0c4a a0c4n a0c4k]) (one_al (by kernel_rfl)) q1 ?_
  obtain ⟨H_2, q2, h⟩ := h
  refine KR.mk (w := pRow [.int .i64 a1c0, .int .i64 a1c1, .int .i64 a1c2, .int .i64 a1c3, .slice a1c4a a1c4n a1c4k]) (one_al (by kernel_rfl)) q2 ?_
  refine KR.go 5 [(2, .pointer (some ⟨H.next, 0, none⟩)), (3, .pointer (some ⟨H_1.next, 0, none⟩)), (5, .pointer (some ⟨H.next, 0, none⟩))] 38 (s' := (.reg (opsAt (sub B [1, 0])) [1, 2, 3, 4, 5, 6, 7, 8, 9, 10, 11, 12, 13, 14, 15, 16, 17, 18, 19, 20, 21, 22, 23, 24, 25, 26, 27, 28, 29, 30, 31, 32, 33] :: S1)) fun J => ?_
  obtain ⟨t6, q3, h⟩ := h
  refine KR.rd (one_ld (by kernel_rfl) q3) ?_
  refine KR.go 1 [(2, .pointer (some ⟨H.next, 0, none⟩)), (3, .pointer (some ⟨H_1.next, 0, none⟩)), (6, .int .i64 t6), (7, .pointer (some ⟨H_1.next, 0, none⟩))] 38 (s' := (.reg (opsAt (sub B [1, 0])) [3, 4, 5, 6, 7, 8, 9, 10, 11, 12, 13, 14, 15, 16, 17, 18, 19, 20, 21, 22, 23, 24, 25, 26, 27, 28, 29, 30, 31, 32, 33] :: S1)) fun J => ?_
  obtain ⟨t8, q4, h⟩ := h
  refine KR.rd (one_ld (by kernel_rfl) q4) ?_
  refine KR.go 2 [(2, .pointer (some ⟨H.next, 0, none⟩)), (3, .pointer (some ⟨H_1.next, 0, none⟩)), (10, .bool (t6 == t8))] 38 (s' := (.reg (opsAt (sub B [1, 0])) [6, 7, 8, 9, 10, 11, 12, 13, 14, 15, 16, 17, 18, 19, 20, 21, 22, 23, 24, 25, 26, 27, 28, 29, 30, 31, 32, 33] :: S1)) fun J => ?_
  by_cases c5 : t6 = t8
  · replace h := iteT c5 h
    refine KR.setV 10 (by kernel_rfl) (eT c5) ?_
    refine KR.go 1 [(2, .pointer (some ⟨H.next, 0, none⟩)), (3, .pointer (some ⟨H_1.next, 0, none⟩)), (10, .bool true), (11, .pointer (some ⟨H.next, 1, none⟩))] 38 (s' := (.reg (opsAt (sub B [1, 0])) [7, 8, 9, 10, 11, 12, 13, 14, 15, 16, 17, 18, 19, 20, 21, 22, 23, 24, 25, 26, 27, 28, 29, 30, 31, 32, 33] :: S1)) fun J => ?_
    obtain ⟨t12, q6, h⟩ := h
    refine KR.rd (one_ld (by kernel_rfl) q6) ?_
    refine KR.go 1 [(2, .pointer (some ⟨H.next, 0, none⟩)), (3, .pointer (some ⟨H_1.next, 0, none⟩)), (10, .bool true), (12, .int .i64 t12), (13, .pointer (some ⟨H_1.next, 1, none⟩))] 38 (s' := (.reg (opsAt (sub B [1, 0])) [9, 10, 11, 12, 13, 14, 15, 16, 17, 18, 19, 20, 21, 22, 23, 24, 25, 26, 27, 28, 29, 30, 31, 32, 33] :: S1)) fun J => ?_
    obtain ⟨t14, q7, h⟩ := h
    refine KR.rd (one_ld (by kernel_rfl) q7) ?_
    refine KR.go 3 [(2, .pointer (some ⟨H.next, 0, none⟩)), (3, .pointer (some ⟨H_1.next, 0, none⟩)), (17, .bool (t12 == t14))] 38 (s' := (.reg (opsAt (sub B [1, 0])) [13, 14, 15, 16, 17, 18, 19, 20, 21, 22, 23, 24, 25, 26, 27, 28, 29, 30, 31, 32, 33] :: S1)) fun J => ?_
    by_cases c8 : t12 = t14
    · replace h := iteT c8 h
      refine KR.setV 17 (by kernel_rfl) (eT c8) ?_
      refine KR.go 1 [(2, .pointer (some ⟨H.next, 0, none⟩)), (3, .pointer (some ⟨H_1.next, 0, none⟩)), (17, .bool true), (18, .pointer (some ⟨H.next, 2, none⟩))] 38 (s' := (.reg (opsAt (sub B [1, 0])) [14, 15, 16, 17, 18, 19, 20, 21, 22, 23, 24, 25, 26, 27, 28, 29, 30, 31, 32, 33] :: S1)) fun J => ?_
      obtain ⟨t19, q9, h⟩ := h
      refine KR.rd (one_ld (by kernel_rfl) q9) ?_
      refine KR.go 1 [(2, .pointer (some ⟨H.next, 0, none⟩)), (3, .pointer (some ⟨H_1.next, 0, none⟩)), (17, .bool true), (19, .int .i64 t19), (20, .pointer (some ⟨H_1.next, 2, none⟩))] 38 (s' := (.reg (opsAt (sub B [1, 0])) [16, 17, 18, 19, 20, 21, 22, 23, 24, 25, 26, 27, 28, 29, 30, 31, 32, 33] :: S1)) fun J => ?_
      obtain ⟨t21, q10, h⟩ := h
      refine KR.rd (one_ld (by kernel_rfl) q10) ?_
      refine KR.go 3 [(2, .pointer (some ⟨H.next, 0, none⟩)), (3, .pointer (some ⟨H_1.next, 0, none⟩)), (24, .bool (t19 == t21))] 38 (s' := (.reg (opsAt (sub B [1, 0])) [20, 21, 22, 23, 24, 25, 26, 27, 28, 29, 30, 31, 32, 33] :: S1)) fun J => ?_
      by_cases c11 : t19 = t21
      · replace h := iteT c11 h
        refine KR.setV 24 (by kernel_rfl) (eT c11) ?_
        refine KR.go 1 [(2, .pointer (some ⟨H.next, 0, none⟩)), (3, .pointer (some ⟨H_1.next, 0, none⟩)), (24, .bool true), (25, .pointer (some ⟨H.next, 3, none⟩))] 38 (s' := (.reg (opsAt (sub B [1, 0])) [21, 22, 23, 24, 25, 26, 27, 28, 29, 30, 31, 32, 33] :: S1)) fun J => ?_
        obtain ⟨t26, q12, h⟩ := h
        refine KR.rd (one_ld (by kernel_rfl) q12) ?_
        refine KR.go 1 [(2, .pointer (some ⟨H.next, 0, none⟩)), (3, .pointer (some ⟨H_1.next, 0, none⟩)), (24, .bool true), (26, .int .i64 t26), (27, .pointer (some ⟨H_1.next, 3, none⟩))] 38 (s' := (.reg (opsAt (sub B [1, 0])) [23, 24, 25, 26, 27, 28, 29, 30, 31, 32, 33] :: S1)) fun J => ?_
        obtain ⟨t28, q13, h⟩ := h
        refine KR.rd (one_ld (by kernel_rfl) q13) ?_
        refine KR.go 3 [(2, .pointer (some ⟨H.next, 0, none⟩)), (3, .pointer (some ⟨H_1.next, 0, none⟩)), (31, .bool (t26 == t28))] 38 (s' := (.reg (opsAt (sub B [1, 0])) [27, 28, 29, 30, 31, 32, 33] :: S1)) fun J => ?_
        by_cases c14 : t26 = t28
        · replace h := iteT c14 h
          refine KR.setV 31 (by kernel_rfl) (eT c14) ?_
          refine KR.go 1 [(3, .pointer (some ⟨H_1.next, 0, none⟩)), (31, .bool true), (32, .pointer (some ⟨H.next, 4, none⟩))] 38 (s' := (.reg (opsAt (sub B [1, 0])) [28, 29, 30, 31, 32, 33] :: S1)) fun J => ?_
          obtain ⟨t33a, t33n, t33k, q15, h⟩ := h
          refine KR.rd (one_ld (by kernel_rfl) q15) ?_
          refine KR.go 1 [(31, .bool true), (33, .slice t33a t33n t33k), (34, .pointer (some ⟨H_1.next, 4, none⟩))] 38 (s' := (.reg (opsAt (sub B [1, 0])) [30, 31, 32, 33] :: S1)) fun J => ?_
          obtain ⟨t35a, t35n, t35k, q16, h⟩ := h
          refine KR.rd (one_ld (by kernel_rfl) q16) ?_
          obtain ⟨t36, H_3, q17, h⟩ := h
          refine KR.se (one_ca (by kernel_rfl) q17) ?_
          refine KR.go 3 [(4, .bool t36)] 38 (s' := (.code (sub B [1, 1]) :: [])) fun J => ?_
          exact KR.fi h
        · replace h := iteF c14 h
          refine KR.setV 31 (by kernel_rfl) (eF c14) ?_
          refine KR.go 8 [(4, .bool false)] 38 (s' := (.code (sub B [1, 1]) :: [])) fun J => ?_
          exact KR.fi h
      · replace h := iteF c11 h
        refine KR.setV 24 (by kernel_rfl) (eF c11) ?_
        refine KR.go 15 [(4, .bool false)] 38 (s' := (.code (sub B [1, 1]) :: [])) fun J => ?_
        exact KR.fi h
    · replace h := iteF c8 h
      refine KR.setV 17 (by kernel_rfl) (eF c8) ?_
      refine KR.go 22 [(4, .bool false)] 38 (s' := (.code (sub B [1, 1]) :: [])) fun J => ?_
      exact KR.fi h
  · replace h := iteF c5 h
    refine KR.setV 10 (by kernel_rfl) (eF c5) ?_
    refine KR.go 29 [(4, .bool false)] 38 (s' := (.code (sub B [1, 1]) :: [])) fun J => ?_
    exact KR.fi h
end F19
/-! #### 20 campanile/campanileref1.EncodeIEs -/
namespace F20
noncomputable def B : Code := bodyOf Try.f20
noncomputable def S0 : List It := (.code (sub B [1, 1]) :: [])
noncomputable def S1 : List It := (.code (sub B [1, 1, 1]) :: [])
noncomputable def S2 : List It := (.code (sub B [1, 1, 1, 1]) :: [])
noncomputable def S3 : List It := (.blk 0 :: S2)
noncomputable def S4 : List It := (.lp (sub B [1, 1, 1, 0, 1, 0, 0]) :: S3)
noncomputable def S5 : List It := (.code (sub B [1, 1, 1, 0, 1, 0, 0, 1, 1]) :: S4)
noncomputable def S6 : List It := (.code (sub B [1, 1, 1, 0, 1, 0, 0, 1, 1, 1]) :: S4)
noncomputable def S7 : List It := (.blk 1 :: S6)
noncomputable def S8 : List It := (.code (sub B [1, 1, 1, 0, 1, 0, 0, 1, 1, 0, 0, 1]) :: S7)
noncomputable def S9 : List It := (.code (sub B [1, 1, 1, 0, 1, 0, 0, 1, 1, 0, 0, 1, 1]) :: S7)
noncomputable def S11 : List It := (.code (sub B [1, 1, 1, 0, 1, 0, 0, 1, 1, 0, 0, 1, 1, 1, 1]) :: S7)
noncomputable def S21 : List It := (.reg (opsAt (sub B [1, 1, 1, 0, 1, 0, 0, 1, 1, 0, 0, 1, 1, 1, 1])) [0, 1, 2, 3, 4, 5, 6, 7, 8, 9, 10, 11] :: S7)
noncomputable def S10 : List It := (.code (sub B [1, 1, 1, 0, 1, 0, 0, 1, 1, 0, 0, 1, 0, 1]) :: S9)
noncomputable def S12 : List It := (.code (sub B [1, 1, 1, 0, 1, 0, 0, 1, 1, 0, 0, 1, 1, 1, 0, 1]) :: S11)
noncomputable def S13 : List It := (.blk 2 :: S11)
noncomputable def S14 : List It := (.code (sub B [1, 1, 1, 0, 1, 0, 0, 1, 1, 0, 0, 1, 1, 1, 0, 1, 0, 1, 1, 1, 1, 1]) :: S13)
noncomputable def S15 : List It := (.blk 3 :: S13)
noncomputable def S16 : List It := (.lp (sub B [1, 1, 1, 0, 1, 0, 0, 1, 1, 0, 0, 1, 1, 1, 0, 1, 0, 1, 1, 1, 1, 1, 0, 0]) :: S15)
noncomputable def S17 : List It := (.code (sub B [1, 1, 1, 0, 1, 0, 0, 1, 1, 0, 0, 1, 1, 1, 0, 1, 0, 1, 1, 1, 1, 1, 0, 0, 1, 1]) :: S16)
noncomputable def S18 : List It := (.code (sub B [1, 1, 1, 0, 1, 0, 0, 1, 1, 0, 0, 1, 1, 1, 0, 1, 0, 1, 1, 1, 1, 1, 0, 0, 1, 1, 1]) :: S16)
noncomputable def S19 : List It := (.blk 4 :: S18)
noncomputable def S20 : List It := (.code (sub B [1, 1, 1, 0, 1, 0, 0, 1, 1, 0, 0, 1, 1, 1, 0, 1, 0, 1, 1, 1, 1, 1, 0, 0, 1, 1, 0, 0, 1]) :: S19)
def L0 (t4a : Option Addr) (t4n t4k : Nat) (t17a : Option Addr) (t17n t17k : Nat) (t18 t19 : Int) (H : Heap) (r : Value × Heap) : Prop := ∀ J, KR Try.prog good Try.f20 S4 (mat J 71 [(4, .slice t4a t4n t4k), (17, .slice t17a t17n t17k), (18, .int .i64 t18), (19, .int .i64 t19)]) H r
def L1 (t4a : Option Addr) (t4n t4k t6b t6o : Nat) (t7a : Option Addr) (t7n t7k t17b t17o t17n t17k : Nat) (t18 t19 : Int) (H : Heap) (r : Value × Heap) : Prop := ∀ J, KR Try.prog good Try.f20 S21 (mat J 71 [(4, .slice t4a t4n t4k), (6, .pointer (some ⟨t6b, t6o, none⟩)), (7, .slice t7a t7n t7k), (17, .slice (some ⟨t17b, t17o, none⟩) t17n t17k), (18, .int .i64 t18), (19, .int .i64 t19)]) H r
def L2 (t4a : Option Addr) (t4n t4k t6b t6o : Nat) (t7a : Option Addr) (t7n t7k t17b t17o t17n t17k : Nat) (t18 t19 : Int) (t29a : Option Addr) (t29n t29k : Nat) (t30 t31 : Int) (H : Heap) (r : Value × Heap) : Prop := ∀ J, KR Try.prog good Try.f20 S16 (mat J 71 [(4, .slice t4a t4n t4k), (6, .pointer (some ⟨t6b, t6o, none⟩)), (7, .slice t7a t7n t7k), (17, .slice (some ⟨t17b, t17o, none⟩) t17n t17k), (18, .int .i64 t18), (19, .int .i64 t19), (29, .slice t29a t29n t29k), (30, .int .i64 t30), (31, .int .i64 t31)]) H r
theorem L0_step {t4a : Option Addr} {t4n t4k : Nat} {t17a : Option Addr} {t17n t17k : Nat} {t18 t19 : Int} {H : Heap} {r : Value × Heap} (h :
    if t19 < t18 then
    (∃ (t17ab t17ao : Nat), t17a = some ⟨t17ab, t17ao, none⟩ ∧
    ((0 : Int) ≤ t19 ∧ t19 < (t17n : Int) ∧
    (∃ (t22c0 t22c1 t22c2 t22c3 : Int) (t22c4a : Option Addr) (t22c4n t22c4k : Nat), ldAll H t17ab (t17ao + Int.toNat t19 * 5) [.int .i64 t22c0, .int .i64 t22c1, .int .i64 t22c2, .int .i64 t22c3, .slice t22c4a t22c4n t22c4k] ∧
    (∃ (H_1 : Heap), H_1 = H.push (.row [.int .i64 0, .int .i64 0, .int .i64 0, .int .i64 0, .slice none 0 0] true) ∧
    (∃ (H_2 : Heap), stc H_1 H.next 0 [.int .i64 t22c0, .int .i64 t22c1, .int .i64 t22c2, .int .i64 t22c3, .slice t22c4a t22c4n t22c4k] = some H_2 ∧
    (∃ (t23c0 t23c1 t23c2 t23c3 : Int) (t23c4a : Option Addr) (t23c4n t23c4k : Nat), ldAll H_2 H.next 0 [.int .i64 t23c0, .int .i64 t23c1, .int .i64 t23c2, .int .i64 t23c3, .slice t23c4a t23c4n t23c4k] ∧
    (∃ (t24 : Bool) (H_3 : Heap), xC Try.prog good 18 [.agg #[.int .i64 t23c0, .int .i64 t23c1, .int .i64 t23c2, .int .i64 t23c3, .slice t23c4a t23c4n t23c4k]] H_2 = some (.bool t24, H_3) ∧
    (if t24 = true then
    (∃ (t27 : Int), ldc H_3 H.next 0 = some (.int .i64 t27) ∧
    (if t27 = 1 then
    (∃ (t44 : Int), ldc (reserve H_3 10) H.next 1 = some (.int .i64 t44) ∧
    (∃ (t46a : Option Addr) (t46n t46k : Nat) (H_4 : Heap), xC Try.prog good 46 [.int .u64 (IntKind.wrap .u64 t44), .int .i64 5] (reserve H_3 10) = some (.slice t46a t46n t46k, H_4) ∧
    (∃ (t48 : Int), ldc (reserve H_3 10) H.next 2 = some (.int .i64 t48) ∧
    (∃ (t51a : Option Addr) (t51n t51k : Nat) (H_6 : Heap), papp (H_4.set (H_3.next + 7) (.row [.int .u8 (IntKind.wrap .u8 t48)] true)) 1 1 t46a t46n t46k (some ⟨(H_3.next + 7), 0, none⟩) 1 (UNK 1) = some ((t51a, t51n, t51k), H_6) ∧
    (ldc H_4 H.next 2 = some (.int .i64 t48) ∧
    (L1 t4a t4n t4k (H.next) 0 t51a t51n t51k t17ab t17ao t17n t17k t18 t19 H_6 r))))))
    else
    (if t27 = 2 then
    (∃ (t55 : Int), ldc H_3 H.next 3 = some (.int .i64 t55) ∧
    (∃ (t57a : Option Addr) (t57n t57k : Nat) (H_7 : Heap), xC Try.prog good 46 [.int .u64 (IntKind.wrap .u64 t55), .int .i64 2] H_3 = some (.slice t57a t57n t57k, H_7) ∧
    (L1 t4a t4n t4k (H.next) 0 t57a t57n t57k t17ab t17ao t17n t17k t18 t19 H_7 r)))
    else
    (∃ (t29a : Option Addr) (t29n t29k : Nat), ldc H_3 H.next 4 = some (.slice t29a t29n t29k) ∧
    (L2 t4a t4n t4k (H.next) 0 none 0 0 t17ab t17ao t17n t17k t18 t19 t29a t29n t29k ((t29n : Int)) 0 H_3 r)))))
    else
    (r = (.tuple #[.slice none 0 0, .int .i64 1], H_3))))))))))
    else
    (r = (.tuple #[.slice t4a t4n t4k, .int .i64 0], H))) :
    L0 t4a t4n t4k t17a t17n t17k t18 t19 H r := by
  intro J
  show KR _ _ _ (.lp (sub B [1, 1, 1, 0, 1, 0, 0]) :: S3) _ _ _
  refine KR.go 6 [(4, .slice t4a t4n t4k), (17, .slice t17a t17n t17k), (18, .int .i64 t18), (19, .int .i64 t19), (20, .bool (decide (t19 < t18)))] 71 (s' := (.code (sub B [1, 1, 1, 0, 1, 0, 0, 1, 0]) :: S5)) fun J => ?_
  by_cases c3 : t19 < t18
  · replace h := iteT c3 h
    refine KR.bb true (vB (dT c3)) ?_
    obtain ⟨t17ab, t17ao, rfl, h⟩ := h
    refine KR.go 5 [(4, .slice t4a t4n t4k), (17, .slice (some ⟨t17ab, t17ao, none⟩) t17n t17k), (18, .int .i64 t18), (19, .int .i64 t19)] 71 (s' := (.reg (opsAt (sub B [1, 1, 1, 0, 1, 0, 0, 1, 1, 0, 0, 0])) [0, 1, 2, 3] :: S8)) fun J => ?_
    obtain ⟨q4, q4x, h⟩ := h
    refine KR.p (one_ix 5 t17ab t17ao (by kernel_rfl) q4 q4x) ?_
    obtain ⟨t22c0, t22c1, t22c2, t22c3, t22c4a, t22c4n, t22c4k, q5, h⟩ := h
    refine KR.rd (one_ldA (by kernel_rfl) q5) ?_
    obtain ⟨H_1, q6, h⟩ := h
    refine KR.mk (w := pRow [.int .i64 0, .int .i64 0, .int .i64 0, .int .i64 0, .slice none 0 0]) (one_al (by kernel_rfl)) q6 ?_
    obtain ⟨H_2, q7, h⟩ := h
    refine KR.se (one_st (by kernel_rfl) q7) ?_
    refine KR.go 4 [(4, .slice t4a t4n t4k), (6, .pointer (some ⟨H.next, 0, none⟩)), (17, .slice (some ⟨t17ab, t17ao, none⟩) t17n t17k), (18, .int .i64 t18), (19, .int .i64 t19)] 71 (s' := (.reg (opsAt (sub B [1, 1, 1, 0, 1, 0, 0, 1, 1, 0, 0, 1, 0, 0])) [0, 1, 2] :: S10)) fun J => ?_
    obtain ⟨t23c0, t23c1, t23c2, t23c3, t23c4a, t23c4n, t23c4k, q8, h⟩ := h
    refine KR.rd (one_ldA (by kernel_rfl) q8) ?_
    obtain ⟨t24, H_3, q9, h⟩ := h
    refine KR.se (one_ca (by kernel_rfl) q9) ?_
    refine KR.go 2 [(4, .slice t4a t4n t4k), (6, .pointer (some ⟨H.next, 0, none⟩)), (17, .slice (some ⟨t17ab, t17ao, none⟩) t17n t17k), (18, .int .i64 t18), (19, .int .i64 t19), (25, .bool (!t24))] 71 (s' := (.code (sub B [1, 1, 1, 0, 1, 0, 0, 1, 1, 0, 0, 1, 0, 1]) :: S9)) fun J => ?_
    by_cases c10 : t24 = true
    · replace h := iteT c10 h
      refine KR.bb false (vB (nB (bT c10))) ?_
      refine KR.go 9 [(4, .slice t4a t4n t4k), (6, .pointer (some ⟨H.next, 0, none⟩)), (7, .slice none 0 0), (17, .slice (some ⟨t17ab, t17ao, none⟩) t17n t17k), (18, .int .i64 t18), (19, .int .i64 t19), (26, .pointer (some ⟨H.next, 0, none⟩))] 71 (s' := (.reg (opsAt (sub B [1, 1, 1, 0, 1, 0, 0, 1, 1, 0, 0, 1, 1, 1, 0, 0])) [1] :: S12)) fun J => ?_
      obtain ⟨t27, q11, h⟩ := h
      refine KR.rd (one_ld (by kernel_rfl) q11) ?_
      refine KR.go 7 [(4, .slice t4a t4n t4k), (6, .pointer (some ⟨H.next, 0, none⟩)), (7, .slice none 0 0), (17, .slice (some ⟨t17ab, t17ao, none⟩) t17n t17k), (18, .int .i64 t18), (19, .int .i64 t19), (27, .int .i64 t27), (41, .bool (t27 == 1))] 71 (s' := (.code (sub B [1, 1, 1, 0, 1, 0, 0, 1, 1, 0, 0, 1, 1, 1, 0, 1, 0, 1]) :: S13)) fun J => ?_
      by_cases c12 : t27 = 1
      · replace h := iteT c12 h
        refine KR.bb true (vB (eT c12)) ?_
        refine KE.start (reserve H_3 10) (by kernel_rfl) (by kernel_rfl) ?_
        refine KE.run 1 [(4, .slice t4a t4n t4k), (6, .pointer (some ⟨H.next, 0, none⟩)), (17, .slice (some ⟨t17ab, t17ao, none⟩) t17n t17k), (18, .int .i64 t18), (19, .int .i64 t19), (43, .pointer (some ⟨H.next, 1, none⟩))] 71 1 (by kernel_rfl) fun J => ?_
        obtain ⟨t44, q13, h⟩ := h
        refine KE.rdN (one_ld (by kernel_rfl) q13) (by kernel_rfl) ?_
        refine KE.run 1 [(4, .slice t4a t4n t4k), (6, .pointer (some ⟨H.next, 0, none⟩)), (17, .slice (some ⟨t17ab, t17ao, none⟩) t17n t17k), (18, .int .i64 t18), (19, .int .i64 t19), (45, .int .u64 (IntKind.wrap .u64 t44))] 71 3 (by kernel_rfl) fun J => ?_
        obtain ⟨t46a, t46n, t46k, H_4, q14, h⟩ := h
        refine KE.se (one_ca (by kernel_rfl) q14) (by kernel_rfl) ?_
        refine KE.run 1 [(4, .slice t4a t4n t4k), (6, .pointer (some ⟨H.next, 0, none⟩)), (17, .slice (some ⟨t17ab, t17ao, none⟩) t17n t17k), (18, .int .i64 t18), (19, .int .i64 t19), (46, .slice t46a t46n t46k), (47, .pointer (some ⟨H.next, 2, none⟩))] 71 5 (by kernel_rfl) fun J => ?_
        obtain ⟨t48, q15, h⟩ := h
        refine KE.rdF (one_ld (by kernel_rfl) q15) (by kernel_rfl) ?_
        refine KE.run 1 [(4, .slice t4a t4n t4k), (6, .pointer (some ⟨H.next, 0, none⟩)), (17, .slice (some ⟨t17ab, t17ao, none⟩) t17n t17k), (18, .int .i64 t18), (19, .int .i64 t19), (46, .slice t46a t46n t46k), (49, .int .u8 (IntKind.wrap .u8 t48))] 71 7 (by kernel_rfl) fun J => ?_
        refine KE.al (w := sRow 1 1 [.int .u8 (IntKind.wrap .u8 t48)]) (one_al (by kernel_rfl)) (by kernel_rfl) ?_
        obtain ⟨t51a, t51n, t51k, H_6, q17, h⟩ := h
        refine KE.se (one_ap 1 1 (by kernel_rfl) q17) (by kernel_rfl) ?_
        refine KE.run 1 [(4, .slice t4a t4n t4k), (6, .pointer (some ⟨H.next, 0, none⟩)), (7, .slice t51a t51n t51k), (17, .slice (some ⟨t17ab, t17ao, none⟩) t17n t17k), (18, .int .i64 t18), (19, .int .i64 t19)] 71 10 (by kernel_rfl) fun J => ?_
        obtain ⟨q18, h⟩ := h
        refine KE.fin (H' := H_6) (by kernel_rfl) (rdsS rfl (rd_ok (Hs := [H_4]) (by kernel_rfl) (by kernel_rfl) ⟨one_ld (by kernel_rfl) q18, trivial⟩)) (by kernel_rfl) ?_
        exact KR.go 2 [(4, .slice t4a t4n t4k), (6, .pointer (some ⟨H.next, 0, none⟩)), (7, .slice t51a t51n t51k), (17, .slice (some ⟨t17ab, t17ao, none⟩) t17n t17k), (18, .int .i64 t18), (19, .int .i64 t19)] 71 (s' := (.reg (opsAt (sub B [1, 1, 1, 0, 1, 0, 0, 1, 1, 0, 0, 1, 1, 1, 1])) [0, 1, 2, 3, 4, 5, 6, 7, 8, 9, 10, 11] :: S7)) h
      · replace h := iteF c12 h
        refine KR.bb false (vB (eF c12)) ?_
        refine KR.go 5 [(4, .slice t4a t4n t4k), (6, .pointer (some ⟨H.next, 0, none⟩)), (7, .slice none 0 0), (17, .slice (some ⟨t17ab, t17ao, none⟩) t17n t17k), (18, .int .i64 t18), (19, .int .i64 t19), (52, .bool (t27 == 2))] 71 (s' := (.code (sub B [1, 1, 1, 0, 1, 0, 0, 1, 1, 0, 0, 1, 1, 1, 0, 1, 0, 1, 1, 1]) :: S13)) fun J => ?_
        by_cases c19 : t27 = 2
        · replace h := iteT c19 h
          refine KR.bb true (vB (eT c19)) ?_
          refine KR.go 2 [(4, .slice t4a t4n t4k), (6, .pointer (some ⟨H.next, 0, none⟩)), (17, .slice (some ⟨t17ab, t17ao, none⟩) t17n t17k), (18, .int .i64 t18), (19, .int .i64 t19), (54, .pointer (some ⟨H.next, 3, none⟩))] 71 (s' := (.reg (opsAt (sub B [1, 1, 1, 0, 1, 0, 0, 1, 1, 0, 0, 1, 1, 1, 0, 1, 0, 1, 1, 1, 0])) [1, 2, 3, 4] :: S13)) fun J => ?_
          obtain ⟨t55, q20, h⟩ := h
          refine KR.rd (one_ld (by kernel_rfl) q20) ?_
          refine KR.go 1 [(4, .slice t4a t4n t4k), (6, .pointer (some ⟨H.next, 0, none⟩)), (17, .slice (some ⟨t17ab, t17ao, none⟩) t17n t17k), (18, .int .i64 t18), (19, .int .i64 t19), (56, .int .u64 (IntKind.wrap .u64 t55))] 71 (s' := (.reg (opsAt (sub B [1, 1, 1, 0, 1, 0, 0, 1, 1, 0, 0, 1, 1, 1, 0, 1, 0, 1, 1, 1, 0])) [3, 4] :: S13)) fun J => ?_
          obtain ⟨t57a, t57n, t57k, H_7, q21, h⟩ := h
          refine KR.se (one_ca (by kernel_rfl) q21) ?_
          exact KR.go 4 [(4, .slice t4a t4n t4k), (6, .pointer (some ⟨H.next, 0, none⟩)), (7, .slice t57a t57n t57k), (17, .slice (some ⟨t17ab, t17ao, none⟩) t17n t17k), (18, .int .i64 t18), (19, .int .i64 t19)] 71 (s' := (.reg (opsAt (sub B [1, 1, 1, 0, 1, 0, 0, 1, 1, 0, 0, 1, 1, 1, 1])) [0, 1, 2, 3, 4, 5, 6, 7, 8, 9, 10, 11] :: S7)) h
        · replace h := iteF c19 h
          refine KR.bb false (vB (eF c19)) ?_
          refine KR.go 3 [(4, .slice t4a t4n t4k), (6, .pointer (some ⟨H.next, 0, none⟩)), (7, .slice none 0 0), (17, .slice (some ⟨t17ab, t17ao, none⟩) t17n t17k), (18, .int .i64 t18), (19, .int .i64 t19), (28, .pointer (some ⟨H.next, 4, none⟩))] 71 (s' := (.reg (opsAt (sub B [1, 1, 1, 0, 1, 0, 0, 1, 1, 0, 0, 1, 1, 1, 0, 1, 0, 1, 1, 1, 1, 0])) [1, 2, 3] :: S14)) fun J => ?_
          obtain ⟨t29a, t29n, t29k, q22, h⟩ := h
          refine KR.rd (one_ld (by kernel_rfl) q22) ?_
          exact KR.go 5 [(4, .slice t4a t4n t4k), (6, .pointer (some ⟨H.next, 0, none⟩)), (7, .slice none 0 0), (17, .slice (some ⟨t17ab, t17ao, none⟩) t17n t17k), (18, .int .i64 t18), (19, .int .i64 t19), (29, .slice t29a t29n t29k), (30, .int .i64 (t29n : Int)), (31, .int .i64 0)] 71 (s' := (.lp (sub B [1, 1, 1, 0, 1, 0, 0, 1, 1, 0, 0, 1, 1, 1, 0, 1, 0, 1, 1, 1, 1, 1, 0, 0]) :: S15)) h
    · replace h := iteF c10 h
      refine KR.bb true (vB (nB (bF c10))) ?_
      refine KR.go 5 [(2, .slice none 0 0), (3, .int .i64 1)] 71 (s' := (.code (sub B [1, 1, 1, 0, 1, 0, 0, 1, 1, 0, 0, 1, 0, 1, 0, 1]) :: S9)) fun J => ?_
      exact KR.fi h
  · replace h := iteF c3 h
    refine KR.bb false (vB (dF c3)) ?_
    refine KR.go 7 [(2, .slice t4a t4n t4k), (3, .int .i64 0)] 71 (s' := (.code (sub B [1, 1, 1, 1, 1]) :: [])) fun J => ?_
    exact KR.fi h
theorem L1_step {t4a : Option Addr} {t4n t4k t6b t6o : Nat} {t7a : Option Addr} {t7n t7k t17b t17o t17n t17k : Nat} {t18 t19 : Int} {H : Heap} {r : Value × Heap} (h :
    ∃ (t60 : Int), ldc H t6b t6o = some (.int .i64 t60) ∧
    (∃ (H_1 : Heap), H_1 = H.push (.row [.int .u8 (IntKind.wrap .u8 t60), .int .u8 (IntKind.wrap .u8 (t7n : Int))] true) ∧
    (∃ (t66a : Option Addr) (t66n t66k : Nat) (H_2 : Heap), papp H_1 1 1 t4a t4n t4k (some ⟨H.next, 0, none⟩) 2 (UNK 1) = some ((t66a, t66n, t66k), H_2) ∧
    (∃ (t68a : Option Addr) (t68n t68k : Nat) (H_3 : Heap), papp H_2 1 1 t66a t66n t66k t7a t7n t7k = some ((t68a, t68n, t68k), H_3) ∧
    (L0 t68a t68n t68k ((some ⟨t17b, t17o, none⟩)) t17n t17k t18 ((IntKind.wrap .i64 (t19 + 1))) H_3 r))))) :
    L1 t4a t4n t4k t6b t6o t7a t7n t7k t17b t17o t17n t17k t18 t19 H r := by
  intro J
  show KR _ _ _ (.reg (opsAt (sub B [1, 1, 1, 0, 1, 0, 0, 1, 1, 0, 0, 1, 1, 1, 1])) [0, 1, 2, 3, 4, 5, 6, 7, 8, 9, 10, 11] :: S7) _ _ _
  refine KR.go 2 [(7, .slice t7a t7n t7k), (17, .slice (some ⟨t17b, t17o, none⟩) t17n t17k), (18, .int .i64 t18), (19, .int .i64 t19), (58, .slice t4a t4n t4k), (59, .pointer (some ⟨t6b, t6o, none⟩))] 71 (s' := (.reg (opsAt (sub B [1, 1, 1, 0, 1, 0, 0, 1, 1, 0, 0, 1, 1, 1, 1])) [2, 3, 4, 5, 6, 7, 8, 9, 10, 11] :: S7)) fun J => ?_
  obtain ⟨t60, q23, h⟩ := h
  refine KR.rd (one_ld (by kernel_rfl) q23) ?_
  refine KR.go 4 [(7, .slice t7a t7n t7k), (17, .slice (some ⟨t17b, t17o, none⟩) t17n t17k), (18, .int .i64 t18), (19, .int .i64 t19), (58, .slice t4a t4n t4k), (61, .int .u8 (IntKind.wrap .u8 t60)), (64, .int .u8 (IntKind.wrap .u8 (t7n : Int)))] 71 (s' := (.reg (opsAt (sub B [1, 1, 1, 0, 1, 0, 0, 1, 1, 0, 0, 1, 1, 1, 1])) [7, 8, 9, 10, 11] :: S7)) fun J => ?_
  obtain ⟨H_1, q24, h⟩ := h
  refine KR.mk (w := sRow 2 1 [.int .u8 (IntKind.wrap .u8 t60), .int .u8 (IntKind.wrap .u8 (t7n : Int))]) (one_al (by kernel_rfl)) q24 ?_
  obtain ⟨t66a, t66n, t66k, H_2, q25, h⟩ := h
  refine KR.se (one_ap 1 1 (by kernel_rfl) q25) ?_
  refine KR.go 1 [(17, .slice (some ⟨t17b, t17o, none⟩) t17n t17k), (18, .int .i64 t18), (19, .int .i64 t19), (66, .slice t66a t66n t66k), (67, .slice t7a t7n t7k)] 71 (s' := (.reg (opsAt (sub B [1, 1, 1, 0, 1, 0, 0, 1, 1, 0, 0, 1, 1, 1, 1])) [10, 11] :: S7)) fun J => ?_
  obtain ⟨t68a, t68n, t68k, H_3, q26, h⟩ := h
  refine KR.se (one_ap 1 1 (by kernel_rfl) q26) ?_
  exact KR.go 7 [(4, .slice t68a t68n t68k), (17, .slice (some ⟨t17b, t17o, none⟩) t17n t17k), (18, .int .i64 t18), (19, .int .i64 (IntKind.wrap .i64 (t19 + 1)))] 71 (s' := (.lp (sub B [1, 1, 1, 0, 1, 0, 0]) :: S3)) h
theorem L2_step {t4a : Option Addr} {t4n t4k t6b t6o : Nat} {t7a : Option Addr} {t7n t7k t17b t17o t17n t17k : Nat} {t18 t19 : Int} {t29a : Option Addr} {t29n t29k : Nat} {t30 t31 : Int} {H : Heap} {r : Value × Heap} (h :
    if t31 < t30 then
    (∃ (t29ab t29ao : Nat), t29a = some ⟨t29ab, t29ao, none⟩ ∧
    ((0 : Int) ≤ t31 ∧ t31 < (t29n : Int) ∧
    (∃ (t34 : Int), ldc H t29ab (t29ao + Int.toNat t31 * 1) = some (.int .i64 t34) ∧
    (∃ (H_1 : Heap), H_1 = H.push (.row [.int .u8 (IntKind.wrap .u8 t34)] true) ∧
    (∃ (t39a : Option Addr) (t39n t39k : Nat) (H_2 : Heap), papp H_1 1 1 t7a t7n t7k (some ⟨H.next, 0, none⟩) 1 (UNK 1) = some ((t39a, t39n, t39k), H_2) ∧
    (L2 t4a t4n t4k t6b t6o t39a t39n t39k t17b t17o t17n t17k t18 t19 ((some ⟨t29ab, t29ao, none⟩)) t29n t29k t30 ((IntKind.wrap .i64 (t31 + 1))) H_2 r))))))
    else
    (L1 t4a t4n t4k t6b t6o t7a t7n t7k t17b t17o t17n t17k t18 t19 H r)) :
    L2 t4a t4n t4k t6b t6o t7a t7n t7k t17b t17o t17n t17k t18 t19 t29a t29n t29k t30 t31 H r := by
  intro J
  show KR _ _ _ (.lp (sub B [1, 1, 1, 0, 1, 0, 0, 1, 1, 0, 0, 1, 1, 1, 0, 1, 0, 1, 1, 1, 1, 1, 0, 0]) :: S15) _ _ _
  refine KR.go 6 [(4, .slice t4a t4n t4k), (6, .pointer (some ⟨t6b, t6o, none⟩)), (7, .slice t7a t7n t7k), (17, .slice (some ⟨t17b, t17o, none⟩) t17n t17k), (18, .int .i64 t18), (19, .int .i64 t19), (29, .slice t29a t29n t29k), (30, .int .i64 t30), (31, .int .i64 t31), (32, .bool (decide (t31 < t30)))] 71 (s' := (.code (sub B [1, 1, 1, 0, 1, 0, 0, 1, 1, 0, 0, 1, 1, 1, 0, 1, 0, 1, 1, 1, 1, 1, 0, 0, 1, 0]) :: S17)) fun J => ?_
  by_cases c27 : t31 < t30
  · replace h := iteT c27 h
    refine KR.bb true (vB (dT c27)) ?_
    obtain ⟨t29ab, t29ao, rfl, h⟩ := h
    refine KR.go 5 [(4, .slice t4a t4n t4k), (6, .pointer (some ⟨t6b, t6o, none⟩)), (7, .slice t7a t7n t7k), (17, .slice (some ⟨t17b, t17o, none⟩) t17n t17k), (18, .int .i64 t18), (19, .int .i64 t19), (29, .slice (some ⟨t29ab, t29ao, none⟩) t29n t29k), (30, .int .i64 t30), (31, .int .i64 t31)] 71 (s' := (.reg (opsAt (sub B [1, 1, 1, 0, 1, 0, 0, 1, 1, 0, 0, 1, 1, 1, 0, 1, 0, 1, 1, 1, 1, 1, 0, 0, 1, 1, 0, 0, 0])) [0, 1, 2] :: S20)) fun J => ?_
    obtain ⟨q28, q28x, h⟩ := h
    refine KR.p (one_ix 1 t29ab t29ao (by kernel_rfl) q28 q28x) ?_
    obtain ⟨t34, q29, h⟩ := h
    refine KR.rd (one_ld (by kernel_rfl) q29) ?_
    refine KR.go 6 [(4, .slice t4a t4n t4k), (6, .pointer (some ⟨t6b, t6o, none⟩)), (17, .slice (some ⟨t17b, t17o, none⟩) t17n t17k), (18, .int .i64 t18), (19, .int .i64 t19), (29, .slice (some ⟨t29ab, t29ao, none⟩) t29n t29k), (30, .int .i64 t30), (31, .int .i64 t31), (35, .slice t7a t7n t7k), (37, .int .u8 (IntKind.wrap .u8 t34))] 71 (s' := (.reg (opsAt (sub B [1, 1, 1, 0, 1, 0, 0, 1, 1, 0, 0, 1, 1, 1, 0, 1, 0, 1, 1, 1, 1, 1, 0, 0, 1, 1, 0, 0, 1])) [3, 4, 5] :: S19)) fun J => ?_
    obtain ⟨H_1, q30, h⟩ := h
    refine KR.mk (w := sRow 1 1 [.int .u8 (IntKind.wrap .u8 t34)]) (one_al (by kernel_rfl)) q30 ?_
    obtain ⟨t39a, t39n, t39k, H_2, q31, h⟩ := h
    refine KR.se (one_ap 1 1 (by kernel_rfl) q31) ?_
    exact KR.go 7 [(4, .slice t4a t4n t4k), (6, .pointer (some ⟨t6b, t6o, none⟩)), (7, .slice t39a t39n t39k), (17, .slice (some ⟨t17b, t17o, none⟩) t17n t17k), (18, .int .i64 t18), (19, .int .i64 t19), (29, .slice (some ⟨t29ab, t29ao, none⟩) t29n t29k), (30, .int .i64 t30), (31, .int .i64 (IntKind.wrap .i64 (t31 + 1)))] 71 (s' := (.lp (sub B [1, 1, 1, 0, 1, 0, 0, 1, 1, 0, 0, 1, 1, 1, 0, 1, 0, 1, 1, 1, 1, 1, 0, 0]) :: S15)) h
  · replace h := iteF c27 h
    refine KR.bb false (vB (dF c27)) ?_
    exact KR.go 3 [(4, .slice t4a t4n t4k), (6, .pointer (some ⟨t6b, t6o, none⟩)), (7, .slice t7a t7n t7k), (17, .slice (some ⟨t17b, t17o, none⟩) t17n t17k), (18, .int .i64 t18), (19, .int .i64 t19)] 71 (s' := (.reg (opsAt (sub B [1, 1, 1, 0, 1, 0, 0, 1, 1, 0, 0, 1, 1, 1, 1])) [0, 1, 2, 3, 4, 5, 6, 7, 8, 9, 10, 11] :: S7)) h
theorem call {a0a : Option Addr} {a0n a0k : Nat} {H : Heap} {r : Value × Heap} (h :
    if (a0n : Int) > 4 then
    (r = (.tuple #[.slice none 0 0, .int .i64 1], H))
    else
    (∃ (H_1 : Heap), H_1 = H.push (.row [.int .u8 (IntKind.wrap .u8 (a0n : Int))] true) ∧
    (L0 ((some ⟨H.next, 0, none⟩)) 1 ((UNK 1)) a0a a0n a0k ((a0n : Int)) 0 H_1 r))) :
    xC Try.prog good 20 [.slice a0a a0n a0k] H = some r := by
  refine KR.enter (fn := Try.f20) (c := B) (by kernel_rfl) (by kernel_rfl) ?_
  refine KR.go 12 [(0, .slice a0a a0n a0k), (12, .bool (decide ((a0n : Int) > 4)))] 71 (s' := (.code (sub B [1, 0, 1]) :: S0)) fun J => ?_
  by_cases c1 : (a0n : Int) > 4
  · replace h := iteT c1 h
    refine KR.bb true (vB (dT c1)) ?_
    refine KR.go 5 [(2, .slice none 0 0), (3, .int .i64 1)] 71 (s' := (.code (sub B [1, 0, 1, 0, 1]) :: S0)) fun J => ?_
    exact KR.fi h
  · replace h := iteF c1 h
    refine KR.bb false (vB (dF c1)) ?_
    refine KR.go 6 [(0, .slice a0a a0n a0k), (15, .int .u8 (IntKind.wrap .u8 (a0n : Int)))] 71 (s' := (.reg (opsAt (sub B [1, 1, 0])) [3, 4] :: S1)) fun J => ?_
    obtain ⟨H_1, q2, h⟩ := h
    refine KR.mk (w := sRow 1 1 [.int .u8 (IntKind.wrap .u8 (a0n : Int))]) (one_al (by kernel_rfl)) q2 ?_
    exact KR.go 11 [(4, .slice (some ⟨H.next, 0, none⟩) 1 (UNK 1)), (17, .slice a0a a0n a0k), (18, .int .i64 (a0n : Int)), (19, .int .i64 0)] 71 (s' := (.lp (sub B [1, 1, 1, 0, 1, 0, 0]) :: S3)) h
end F20
/-! #### 22 campanile/campanileref1.Find -/
namespace F22
noncomputable def B : Code := bodyOf Try.f22
noncomputable def S0 : List It := (.code (sub B [1]) :: [])
noncomputable def S1 : List It := (.code (sub B [1, 1]) :: [])
noncomputable def S10 : List It := (.code (sub B [1, 1, 1]) :: [])
noncomputable def S2 : List It := (.blk 0 :: S1)
noncomputable def S3 : List It := (.lp (sub B [1, 0, 1, 0, 0]) :: S2)
noncomputable def S4 : List It := (.code (sub B [1, 0, 1, 0, 0, 1, 1]) :: S3)
noncomputable def S5 : List It := (.code (sub B [1, 0, 1, 0, 0, 1, 1, 1]) :: S3)
noncomputable def S6 : List It := (.blk 1 :: S5)
noncomputable def S7 : List It := (.code (sub B [1, 0, 1, 0, 0, 1, 1, 0, 0, 1]) :: S6)
noncomputable def S8 : List It := (.code (sub B [1, 0, 1, 0, 0, 1, 1, 0, 0, 1, 1]) :: S6)
noncomputable def S9 : List It := (.code (sub B [1, 0, 1, 0, 0, 1, 1, 0, 0, 1, 1, 0, 1]) :: S6)
def L0 (t1 : Int) (t4b t4o : Nat) (t8a : Option Addr) (t8n t8k : Nat) (t9 t10 : Int) (H : Heap) (r : Value × Heap) : Prop := ∀ J, KR Try.prog good Try.f22 S3 (mat J 21 [(1, .int .i64 t1), (4, .pointer (some ⟨t4b, t4o, none⟩)), (8, .slice t8a t8n t8k), (9, .int .i64 t9), (10, .int .i64 t10)]) H r
theorem L0_step {t1 : Int} {t4b t4o : Nat} {t8a : Option Addr} {t8n t8k : Nat} {t9 t10 : Int} {H : Heap} {r : Value × Heap} (h :
    if t10 < t9 then
    (∃ (t8ab t8ao : Nat), t8a = some ⟨t8ab, t8ao, none⟩ ∧
    ((0 : Int) ≤ t10 ∧ t10 < (t8n : Int) ∧
    (∃ (t13c0 t13c1 t13c2 t13c3 : Int) (t13c4a : Option Addr) (t13c4n t13c4k : Nat), ldAll H t8ab (t8ao + Int.toNat t10 * 5) [.int .i64 t13c0, .int .i64 t13c1, .int .i64 t13c2, .int .i64 t13c3, .slice t13c4a t13c4n t13c4k] ∧
    (∃ (H_1 : Heap), H_1 = H.push (.row [.int .i64 0, .int .i64 0, .int .i64 0, .int .i64 0, .slice none 0 0] true) ∧
    (∃ (H_2 : Heap), stc H_1 H.next 0 [.int .i64 t13c0, .int .i64 t13c1, .int .i64 t13c2, .int .i64 t13c3, .slice t13c4a t13c4n t13c4k] = some H_2 ∧
    (∃ (t15 : Int), ldc H_2 H.next 0 = some (.int .i64 t15) ∧
    (if t15 = t1 then
    (∃ (t18c0 t18c1 t18c2 t18c3 : Int) (t18c4a : Option Addr) (t18c4n t18c4k : Nat), ldAll H_2 H.next 0 [.int .i64 t18c0, .int .i64 t18c1, .int .i64 t18c2, .int .i64 t18c3, .slice t18c4a t18c4n t18c4k] ∧
    (∃ (H_3 : Heap), stc H_2 t4b t4o [.int .i64 t18c0, .int .i64 t18c1, .int .i64 t18c2, .int .i64 t18c3, .slice t18c4a t18c4n t18c4k] = some H_3 ∧
    (∃ (r4c0 r4c1 r4c2 r4c3 : Int) (r4c4a : Option Addr) (r4c4n r4c4k : Nat), ldAll H_3 t4b t4o [.int .i64 r4c0, .int .i64 r4c1, .int .i64 r4c2, .int .i64 r4c3, .slice r4c4a r4c4n r4c4k] ∧
    (r = (.tuple #[.agg #[.int .i64 r4c0, .int .i64 r4c1, .int .i64 r4c2, .int .i64 r4c3, .slice r4c4a r4c4n r4c4k], .bool true], H_3)))))
    else
    (L0 t1 t4b t4o ((some ⟨t8ab, t8ao, none⟩)) t8n t8k t9 ((IntKind.wrap .i64 (t10 + 1))) H_2 r))))))))
    else
    (∃ (H_4 : Heap), stc H t4b t4o [.int .i64 0, .int .i64 0, .int .i64 0, .int .i64 0, .slice none 0 0] = some H_4 ∧
    (∃ (r4c0_1 r4c1_1 r4c2_1 r4c3_1 : Int) (r4c4a_1 : Option Addr) (r4c4n_1 r4c4k_1 : Nat), ldAll H_4 t4b t4o [.int .i64 r4c0_1, .int .i64 r4c1_1, .int .i64 r4c2_1, .int .i64 r4c3_1, .slice r4c4a_1 r4c4n_1 r4c4k_1] ∧
    (r = (.tuple #[.agg #[.int .i64 r4c0_1, .int .i64 r4c1_1, .int .i64 r4c2_1, .int .i64 r4c3_1, .slice r4c4a_1 r4c4n_1 r4c4k_1], .bool false], H_4))))) :
    L0 t1 t4b t4o t8a t8n t8k t9 t10 H r := by
  intro J
  show KR _ _ _ (.lp (sub B [1, 0, 1, 0, 0]) :: S2) _ _ _
  refine KR.go 6 [(1, .int .i64 t1), (4, .pointer (some ⟨t4b, t4o, none⟩)), (8, .slice t8a t8n t8k), (9, .int .i64 t9), (10, .int .i64 t10), (11, .bool (decide (t10 < t9)))] 21 (s' := (.code (sub B [1, 0, 1, 0, 0, 1, 0]) :: S4)) fun J => ?_
  by_cases c2 : t10 < t9
  · replace h := iteT c2 h
    refine KR.bb true (vB (dT c2)) ?_
    obtain ⟨t8ab, t8ao, rfl, h⟩ := h
    refine KR.go 5 [(1, .int .i64 t1), (4, .pointer (some ⟨t4b, t4o, none⟩)), (8, .slice (some ⟨t8ab, t8ao, none⟩) t8n t8k), (9, .int .i64 t9), (10, .int .i64 t10)] 21 (s' := (.reg (opsAt (sub B [1, 0, 1, 0, 0, 1, 1, 0, 0, 0])) [0, 1, 2, 3] :: S7)) fun J => ?_
    obtain ⟨q3, q3x, h⟩ := h
    refine KR.p (one_ix 5 t8ab t8ao (by kernel_rfl) q3 q3x) ?_
    obtain ⟨t13c0, t13c1, t13c2, t13c3, t13c4a, t13c4n, t13c4k, q4, h⟩ := h
    refine KR.rd (one_ldA (by kernel_rfl) q4) ?_
    obtain ⟨H_1, q5, h⟩ := h
    refine KR.mk (w := pRow [.int .i64 0, .int .i64 0, .int .i64 0, .int .i64 0, .slice none 0 0]) (one_al (by kernel_rfl)) q5 ?_
    obtain ⟨H_2, q6, h⟩ := h
    refine KR.se (one_st (by kernel_rfl) q6) ?_
    refine KR.go 4 [(1, .int .i64 t1), (4, .pointer (some ⟨t4b, t4o, none⟩)), (7, .pointer (some ⟨H.next, 0, none⟩)), (8, .slice (some ⟨t8ab, t8ao, none⟩) t8n t8k), (9, .int .i64 t9), (10, .int .i64 t10), (14, .pointer (some ⟨H.next, 0, none⟩))] 21 (s' := (.reg (opsAt (sub B [1, 0, 1, 0, 0, 1, 1, 0, 0, 1, 0])) [1, 2, 3] :: S8)) fun J => ?_
    obtain ⟨t15, q7, h⟩ := h
    refine KR.rd (one_ld (by kernel_rfl) q7) ?_
    refine KR.go 3 [(1, .int .i64 t1), (4, .pointer (some ⟨t4b, t4o, none⟩)), (7, .pointer (some ⟨H.next, 0, none⟩)), (8, .slice (some ⟨t8ab, t8ao, none⟩) t8n t8k), (9, .int .i64 t9), (10, .int .i64 t10), (17, .bool (t15 == t1))] 21 (s' := (.code (sub B [1, 0, 1, 0, 0, 1, 1, 0, 0, 1, 1]) :: S6)) fun J => ?_
    by_cases c8 : t15 = t1
    · replace h := iteT c8 h
      refine KR.bb true (vB (eT c8)) ?_
      refine KR.go 2 [(4, .pointer (some ⟨t4b, t4o, none⟩)), (7, .pointer (some ⟨H.next, 0, none⟩))] 21 (s' := (.reg (opsAt (sub B [1, 0, 1, 0, 0, 1, 1, 0, 0, 1, 1, 0, 0])) [0, 1, 2] :: S9)) fun J => ?_
      obtain ⟨t18c0, t18c1, t18c2, t18c3, t18c4a, t18c4n, t18c4k, q9, h⟩ := h
      refine KR.rd (one_ldA (by kernel_rfl) q9) ?_
      obtain ⟨H_3, q10, h⟩ := h
      refine KR.se (one_st (by kernel_rfl) q10) ?_
      refine KR.go 2 [(4, .pointer (some ⟨t4b, t4o, none⟩)), (5, .bool true)] 21 (s' := (.code (sub B [1, 0, 1, 0, 0, 1, 1, 0, 0, 1, 1, 0, 1]) :: S6)) fun J => ?_
      obtain ⟨r4c0, r4c1, r4c2, r4c3, r4c4a, r4c4n, r4c4k, q11, h⟩ := h
      exact KR.finR (l := [.cell 4 24, .tmp 5]) (vs := [.agg #[.int .i64 r4c0, .int .i64 r4c1, .int .i64 r4c2, .int .i64 r4c3, .slice r4c4a r4c4n r4c4k], .bool true]) (by kernel_rfl) (Res.cellA (by kernel_rfl) q11 (Res.tmp (by kernel_rfl) Res.nil)) (by kernel_rfl) h
    · replace h := iteF c8 h
      refine KR.bb false (vB (eF c8)) ?_
      exact KR.go 6 [(1, .int .i64 t1), (4, .pointer (some ⟨t4b, t4o, none⟩)), (8, .slice (some ⟨t8ab, t8ao, none⟩) t8n t8k), (9, .int .i64 t9), (10, .int .i64 (IntKind.wrap .i64 (t10 + 1)))] 21 (s' := (.lp (sub B [1, 0, 1, 0, 0]) :: S2)) h
  · replace h := iteF c2 h
    refine KR.bb false (vB (dF c2)) ?_
    refine KR.go 4 [(4, .pointer (some ⟨t4b, t4o, none⟩)), (20, .agg #[.int .i64 0, .int .i64 0, .int .i64 0, .int .i64 0, .slice none 0 0])] 21 (s' := (.reg (opsAt (sub B [1, 1, 0])) [1, 2] :: S10)) fun J => ?_
    obtain ⟨H_4, q12, h⟩ := h
    refine KR.se (one_st (by kernel_rfl) q12) ?_
    refine KR.go 2 [(4, .pointer (some ⟨t4b, t4o, none⟩)), (5, .bool false)] 21 (s' := (.code (sub B [1, 1, 1]) :: [])) fun J => ?_
    obtain ⟨r4c0_1, r4c1_1, r4c2_1, r4c3_1, r4c4a_1, r4c4n_1, r4c4k_1, q13, h⟩ := h
    exact KR.finR (l := [.cell 4 24, .tmp 5]) (vs := [.agg #[.int .i64 r4c0_1, .int .i64 r4c1_1, .int .i64 r4c2_1, .int .i64 r4c3_1, .slice r4c4a_1 r4c4n_1 r4c4k_1], .bool false]) (by kernel_rfl) (Res.cellA (by kernel_rfl) q13 (Res.tmp (by kernel_rfl) Res.nil)) (by kernel_rfl) h
theorem call {a0a : Option Addr} {a0n a0k : Nat} {a1 : Int} {H : Heap} {r : Value × Heap} (h :
    ∃ (H_1 : Heap), H_1 = H.push (.row [.int .i64 0, .int .i64 0, .int .i64 0, .int .i64 0, .slice none 0 0] true) ∧
    (L0 a1 (H.next) 0 a0a a0n a0k ((a0n : Int)) 0 H_1 r)) :
    xC Try.prog good 22 [.slice a0a a0n a0k, .int .i64 a1] H = some r := by
  refine KR.enter (fn := Try.f22) (c := B) (by kernel_rfl) (by kernel_rfl) ?_
  refine KR.go 2 [(0, .slice a0a a0n a0k), (1, .int .i64 a1)] 21 (s' := (.reg (opsAt (sub B [0])) [0, 1] :: S0)) fun J => ?_
  obtain ⟨H_1, q1, h⟩ := h
  refine KR.mk (w := pRow [.int .i64 0, .int .i64 0, .int .i64 0, .int .i64 0, .slice none 0 0]) (one_al (by kernel_rfl)) q1 ?_
  exact KR.go 11 [(1, .int .i64 a1), (4, .pointer (some ⟨H.next, 0, none⟩)), (8, .slice a0a a0n a0k), (9, .int .i64 (a0n : Int)), (10, .int .i64 0)] 21 (s' := (.lp (sub B [1, 0, 1, 0, 0]) :: S2)) h
end F22
/-! #### 24 campanile/campanileref1.DecodeIEs -/
namespace F24
noncomputable def B : Code := bodyOf Try.f24
noncomputable def S0 : List It := (.code (sub B [1, 1]) :: [])
noncomputable def S1 : List It := (.code (sub B [1, 1, 1]) :: [])
noncomputable def S2 : List It := (.code (sub B [1, 1, 1, 1]) :: [])
noncomputable def S4 : List It := (.code (sub B [1, 1, 1, 1, 1, 1]) :: [])
noncomputable def S13 : List It := (.code (sub B [1, 1, 1, 1, 1, 1, 1]) :: [])
noncomputable def S3 : List It := (.code (sub B [1, 1, 1, 0, 1]) :: S2)
noncomputable def S5 : List It := (.blk 0 :: S4)
noncomputable def S14 : List It := (.code (sub B [1, 1, 1, 1, 1, 1, 0, 1]) :: S13)
noncomputable def S6 : List It := (.lp (sub B [1, 1, 1, 1, 1, 0, 1, 0, 0]) :: S5)
noncomputable def S7 : List It := (.code (sub B [1, 1, 1, 1, 1, 0, 1, 0, 0, 1, 1]) :: S6)
noncomputable def S8 : List It := (.code (sub B [1, 1, 1, 1, 1, 0, 1, 0, 0, 1, 1, 1]) :: S6)
noncomputable def S9 : List It := (.blk 1 :: S8)
noncomputable def S10 : List It := (.code (sub B [1, 1, 1, 1, 1, 0, 1, 0, 0, 1, 1, 0, 0, 1]) :: S9)
noncomputable def S11 : List It := (.code (sub B [1, 1, 1, 1, 1, 0, 1, 0, 0, 1, 1, 0, 0, 1, 1]) :: S9)
noncomputable def S15 : List It := (.code (sub B [1, 1, 1, 1, 1, 0, 1, 0, 0, 1, 1, 0, 0, 1, 1, 1]) :: S9)
noncomputable def S16 : List It := (.code (sub B [1, 1, 1, 1, 1, 0, 1, 0, 0, 1, 1, 0, 0, 1, 1, 1, 1]) :: S9)
noncomputable def S18 : List It := (.code (sub B [1, 1, 1, 1, 1, 0, 1, 0, 0, 1, 1, 0, 0, 1, 1, 1, 1, 1]) :: S9)
noncomputable def S19 : List It := (.code (sub B [1, 1, 1, 1, 1, 0, 1, 0, 0, 1, 1, 0, 0, 1, 1, 1, 1, 1, 1]) :: S9)
noncomputable def S21 : List It := (.code (sub B [1, 1, 1, 1, 1, 0, 1, 0, 0, 1, 1, 0, 0, 1, 1, 1, 1, 1, 1, 1]) :: S9)
noncomputable def S22 : List It := (.code (sub B [1, 1, 1, 1, 1, 0, 1, 0, 0, 1, 1, 0, 0, 1, 1, 1, 1, 1, 1, 1, 1]) :: S9)
noncomputable def S32 : List It := (.reg (opsAt (sub B [1, 1, 1, 1, 1, 0, 1, 0, 0, 1, 1, 0, 0, 1, 1, 1, 1, 1, 1, 1, 1])) [0, 1, 2, 3, 4] :: S9)
noncomputable def S12 : List It := (.code (sub B [1, 1, 1, 1, 1, 0, 1, 0, 0, 1, 1, 0, 0, 1, 0, 1]) :: S11)
noncomputable def S17 : List It := (.code (sub B [1, 1, 1, 1, 1, 0, 1, 0, 0, 1, 1, 0, 0, 1, 1, 1, 0, 1]) :: S16)
noncomputable def S20 : List It := (.code (sub B [1, 1, 1, 1, 1, 0, 1, 0, 0, 1, 1, 0, 0, 1, 1, 1, 1, 1, 0, 1]) :: S19)
noncomputable def S23 : List It := (.code (sub B [1, 1, 1, 1, 1, 0, 1, 0, 0, 1, 1, 0, 0, 1, 1, 1, 1, 1, 1, 1, 0, 1]) :: S22)
noncomputable def S24 : List It := (.blk 2 :: S22)
noncomputable def S25 : List It := (.code (sub B [1, 1, 1, 1, 1, 0, 1, 0, 0, 1, 1, 0, 0, 1, 1, 1, 1, 1, 1, 1, 0, 1, 0, 1, 0, 1]) :: S24)
noncomputable def S26 : List It := (.blk 3 :: S24)
noncomputable def S27 : List It := (.lp (sub B [1, 1, 1, 1, 1, 0, 1, 0, 0, 1, 1, 0, 0, 1, 1, 1, 1, 1, 1, 1, 0, 1, 0, 1, 1, 1, 1, 1, 0, 0]) :: S26)
noncomputable def S28 : List It := (.code (sub B [1, 1, 1, 1, 1, 0, 1, 0, 0, 1, 1, 0, 0, 1, 1, 1, 1, 1, 1, 1, 0, 1, 0, 1, 1, 1, 1, 1, 0, 0, 1, 1]) :: S27)
noncomputable def S29 : List It := (.code (sub B [1, 1, 1, 1, 1, 0, 1, 0, 0, 1, 1, 0, 0, 1, 1, 1, 1, 1, 1, 1, 0, 1, 0, 1, 1, 1, 1, 1, 0, 0, 1, 1, 1]) :: S27)
noncomputable def S30 : List It := (.blk 4 :: S29)
noncomputable def S31 : List It := (.code (sub B [1, 1, 1, 1, 1, 0, 1, 0, 0, 1, 1, 0, 0, 1, 1, 1, 1, 1, 1, 1, 0, 1, 0, 1, 1, 1, 1, 1, 0, 0, 1, 1, 0, 0, 1]) :: S30)
def L0 (t4b t4o : Nat) (t5 : Int) (t27 : Bool) (H : Heap) (r : Value × Heap) : Prop := ∀ J, KR Try.prog good Try.f24 S3 (mat J 132 [(4, .pointer (some ⟨t4b, t4o, none⟩)), (5, .int .i64 t5), (27, .bool t27)]) H r
def L1 (t4b t4o : Nat) (t6a : Option Addr) (t6n t6k : Nat) (t28 t29 : Int) (H : Heap) (r : Value × Heap) : Prop := ∀ J, KR Try.prog good Try.f24 S6 (mat J 132 [(4, .pointer (some ⟨t4b, t4o, none⟩)), (6, .slice t6a t6n t6k), (28, .int .i64 t28), (29, .int .i64 t29)]) H r
def L2 (t4b t4o : Nat) (t6a : Option Addr) (t6n t6k t7b t7o : Nat) (t28 t29 : Int) (t48 : Bool) (H : Heap) (r : Value × Heap) : Prop := ∀ J, KR Try.prog good Try.f24 S12 (mat J 132 [(4, .pointer (some ⟨t4b, t4o, none⟩)), (6, .slice t6a t6n t6k), (7, .pointer (some ⟨t7b, t7o, none⟩)), (28, .int .i64 t28), (29, .int .i64 t29), (48, .bool t48)]) H r
def L3 (t4b t4o : Nat) (t6a : Option Addr) (t6n t6k t7b t7o : Nat) (t8 t28 t29 : Int) (t77 : Bool) (H : Heap) (r : Value × Heap) : Prop := ∀ J, KR Try.prog good Try.f24 S17 (mat J 132 [(4, .pointer (some ⟨t4b, t4o, none⟩)), (6, .slice t6a t6n t6k), (7, .pointer (some ⟨t7b, t7o, none⟩)), (8, .int .i64 t8), (28, .int .i64 t28), (29, .int .i64 t29), (77, .bool t77)]) H r
def L4 (t4b t4o : Nat) (t6a : Option Addr) (t6n t6k t7b t7o : Nat) (t28 t29 : Int) (H : Heap) (r : Value × Heap) : Prop := ∀ J, KR Try.prog good Try.f24 S32 (mat J 132 [(4, .pointer (some ⟨t4b, t4o, none⟩)), (6, .slice t6a t6n t6k), (7, .pointer (some ⟨t7b, t7o, none⟩)), (28, .int .i64 t28), (29, .int .i64 t29)]) H r
def L5 (t4b t4o : Nat) (t6a : Option Addr) (t6n t6k t7b t7o : Nat) (t28 t29 : Int) (t91a : Option Addr) (t91n t91k : Nat) (t92 t93 : Int) (H : Heap) (r : Value × Heap) : Prop := ∀ J, KR Try.prog good Try.f24 S27 (mat J 132 [(4, .pointer (some ⟨t4b, t4o, none⟩)), (6, .slice t6a t6n t6k), (7, .pointer (some ⟨t7b, t7o, none⟩)), (28, .int .i64 t28), (29, .int .i64 t29), (91, .slice t91a t91n t91k), (92, .int .i64 t92), (93, .int .i64 t93)]) H r
theorem L0_step {t4b t4o : Nat} {t5 : Int} {t27 : Bool} {H : Heap} {r : Value × Heap} (h :
    if t27 = true then
    (r = (.tuple #[.slice none 0 0, .int .i64 3], H))
    else
    (L1 t4b t4o none 0 0 t5 0 H r)) :
    L0 t4b t4o t5 t27 H r := by
  intro J
  show KR _ _ _ (.code (sub B [1, 1, 1, 0, 1]) :: S2) _ _ _
  by_cases c5 : t27 = true
  · replace h := iteT c5 h
    refine KR.bb true (vB (bT c5)) ?_
    refine KR.go 5 [(2, .slice none 0 0), (3, .int .i64 3)] 132 (s' := (.code (sub B [1, 1, 1, 0, 1, 0, 1]) :: S2)) fun J => ?_
    exact KR.fi h
  · replace h := iteF c5 h
    refine KR.bb false (vB (bF c5)) ?_
    exact KR.go 13 [(4, .pointer (some ⟨t4b, t4o, none⟩)), (6, .slice none 0 0), (28, .int .i64 t5), (29, .int .i64 0)] 132 (s' := (.lp (sub B [1, 1, 1, 1, 1, 0, 1, 0, 0]) :: S5)) h
theorem L1_step {t4b t4o : Nat} {t6a : Option Addr} {t6n t6k : Nat} {t28 t29 : Int} {H : Heap} {r : Value × Heap} (h :
    if t29 < t28 then
    (∃ (t32 : Int) (H_1 : Heap), xC Try.prog good 53 [.pointer (some ⟨t4b, t4o, none⟩)] H = some (.int .i64 t32, H_1) ∧
    (∃ (H_2 : Heap), H_2 = H_1.push (.row [.int .i64 0, .int .i64 0, .int .i64 0, .int .i64 0, .slice none 0 0] true) ∧
    (∃ (H_3 : Heap), stc H_2 H_1.next 0 [.int .i64 t32, .int .i64 0, .int .i64 0, .int .i64 0, .slice none 0 0] = some H_3 ∧
    (∃ (t37 : Int), ldc H_3 t4b (t4o + 1) = some (.int .i64 t37) ∧
    (if t37 = 0 then
    (∃ (t41 : Int), ldc H_3 H_1.next 0 = some (.int .i64 t41) ∧
    (if t41 < 1 then
    (L2 t4b t4o t6a t6n t6k (H_1.next) 0 t28 t29 true H_3 r)
    else
    (∃ (t45 : Int), ldc H_3 H_1.next 0 = some (.int .i64 t45) ∧
    (L2 t4b t4o t6a t6n t6k (H_1.next) 0 t28 t29 ((decide (t45 > 4))) H_3 r))))
    else
    (L2 t4b t4o t6a t6n t6k (H_1.next) 0 t28 t29 false H_3 r))))))
    else
    (∃ (t127 : Int) (H_4 : Heap), xC Try.prog good 56 [.pointer (some ⟨t4b, t4o, none⟩)] H = some (.int .i64 t127, H_4) ∧
    (if t127 = 0 then
    (r = (.tuple #[.slice t6a t6n t6k, .int .i64 0], H_4))
    else
    (r = (.tuple #[.slice none 0 0, .int .i64 t127], H_4))))) :
    L1 t4b t4o t6a t6n t6k t28 t29 H r := by
  intro J
  show KR _ _ _ (.lp (sub B [1, 1, 1, 1, 1, 0, 1, 0, 0]) :: S5) _ _ _
  refine KR.go 6 [(4, .pointer (some ⟨t4b, t4o, none⟩)), (6, .slice t6a t6n t6k), (28, .int .i64 t28), (29, .int .i64 t29), (30, .bool (decide (t29 < t28)))] 132 (s' := (.code (sub B [1, 1, 1, 1, 1, 0, 1, 0, 0, 1, 0]) :: S7)) fun J => ?_
  by_cases c6 : t29 < t28
  · replace h := iteT c6 h
    refine KR.bb true (vB (dT c6)) ?_
    refine KR.go 6 [(4, .pointer (some ⟨t4b, t4o, none⟩)), (6, .slice t6a t6n t6k), (28, .int .i64 t28), (29, .int .i64 t29), (31, .pointer (some ⟨t4b, t4o, none⟩))] 132 (s' := (.reg (opsAt (sub B [1, 1, 1, 1, 1, 0, 1, 0, 0, 1, 1, 0, 0, 0])) [1, 2, 3, 4] :: S10)) fun J => ?_
    obtain ⟨t32, H_1, q7, h⟩ := h
    refine KR.se (one_ca (by kernel_rfl) q7) ?_
    refine KR.go 1 [(4, .pointer (some ⟨t4b, t4o, none⟩)), (6, .slice t6a t6n t6k), (28, .int .i64 t28), (29, .int .i64 t29), (33, .agg #[.int .i64 t32, .int .i64 0, .int .i64 0, .int .i64 0, .slice none 0 0])] 132 (s' := (.reg (opsAt (sub B [1, 1, 1, 1, 1, 0, 1, 0, 0, 1, 1, 0, 0, 0])) [3, 4] :: S10)) fun J => ?_
    obtain ⟨H_2, q8, h⟩ := h
    refine KR.mk (w := pRow [.int .i64 0, .int .i64 0, .int .i64 0, .int .i64 0, .slice none 0 0]) (one_al (by kernel_rfl)) q8 ?_
    obtain ⟨H_3, q9, h⟩ := h
    refine KR.se (one_st (by kernel_rfl) q9) ?_
    refine KR.go 7 [(4, .pointer (some ⟨t4b, t4o, none⟩)), (6, .slice t6a t6n t6k), (7, .pointer (some ⟨H_1.next, 0, none⟩)), (28, .int .i64 t28), (29, .int .i64 t29), (36, .pointer (some ⟨t4b, (t4o + 1), none⟩))] 132 (s' := (.reg (opsAt (sub B [1, 1, 1, 1, 1, 0, 1, 0, 0, 1, 1, 0, 0, 1, 0, 0])) [3, 4, 5, 6, 7, 8, 9, 10, 11, 12, 13, 14] :: S12)) fun J => ?_
    obtain ⟨t37, q10, h⟩ := h
    refine KR.rd (one_ld (by kernel_rfl) q10) ?_
    refine KR.go 2 [(4, .pointer (some ⟨t4b, t4o, none⟩)), (6, .slice t6a t6n t6k), (7, .pointer (some ⟨H_1.next, 0, none⟩)), (28, .int .i64 t28), (29, .int .i64 t29), (39, .bool (t37 == 0))] 132 (s' := (.reg (opsAt (sub B [1, 1, 1, 1, 1, 0, 1, 0, 0, 1, 1, 0, 0, 1, 0, 0])) [6, 7, 8, 9, 10, 11, 12, 13, 14] :: S12)) fun J => ?_
    by_cases c11 : t37 = 0
    · replace h := iteT c11 h
      refine KR.setV 39 (by kernel_rfl) (eT c11) ?_
      refine KR.go 1 [(4, .pointer (some ⟨t4b, t4o, none⟩)), (6, .slice t6a t6n t6k), (7, .pointer (some ⟨H_1.next, 0, none⟩)), (28, .int .i64 t28), (29, .int .i64 t29), (39, .bool true), (40, .pointer (some ⟨H_1.next, 0, none⟩))] 132 (s' := (.reg (opsAt (sub B [1, 1, 1, 1, 1, 0, 1, 0, 0, 1, 1, 0, 0, 1, 0, 0])) [7, 8, 9, 10, 11, 12, 13, 14] :: S12)) fun J => ?_
      obtain ⟨t41, q12, h⟩ := h
      refine KR.rd (one_ld (by kernel_rfl) q12) ?_
      refine KR.go 2 [(4, .pointer (some ⟨t4b, t4o, none⟩)), (6, .slice t6a t6n t6k), (7, .pointer (some ⟨H_1.next, 0, none⟩)), (28, .int .i64 t28), (29, .int .i64 t29), (39, .bool true), (43, .bool (decide (t41 < 1)))] 132 (s' := (.reg (opsAt (sub B [1, 1, 1, 1, 1, 0, 1, 0, 0, 1, 1, 0, 0, 1, 0, 0])) [10, 11, 12, 13, 14] :: S12)) fun J => ?_
      by_cases c13 : t41 < 1
      · replace h := iteT c13 h
        refine KR.setV 43 (by kernel_rfl) (dT c13) ?_
        exact KR.go 6 [(4, .pointer (some ⟨t4b, t4o, none⟩)), (6, .slice t6a t6n t6k), (7, .pointer (some ⟨H_1.next, 0, none⟩)), (28, .int .i64 t28), (29, .int .i64 t29), (48, .bool true)] 132 (s' := (.code (sub B [1, 1, 1, 1, 1, 0, 1, 0, 0, 1, 1, 0, 0, 1, 0, 1]) :: S11)) h
      · replace h := iteF c13 h
        refine KR.setV 43 (by kernel_rfl) (dF c13) ?_
        refine KR.go 1 [(4, .pointer (some ⟨t4b, t4o, none⟩)), (6, .slice t6a t6n t6k), (7, .pointer (some ⟨H_1.next, 0, none⟩)), (28, .int .i64 t28), (29, .int .i64 t29), (39, .bool true), (43, .bool false), (44, .pointer (some ⟨H_1.next, 0, none⟩))] 132 (s' := (.reg (opsAt (sub B [1, 1, 1, 1, 1, 0, 1, 0, 0, 1, 1, 0, 0, 1, 0, 0])) [11, 12, 13, 14] :: S12)) fun J => ?_
        obtain ⟨t45, q14, h⟩ := h
        refine KR.rd (one_ld (by kernel_rfl) q14) ?_
        exact KR.go 4 [(4, .pointer (some ⟨t4b, t4o, none⟩)), (6, .slice t6a t6n t6k), (7, .pointer (some ⟨H_1.next, 0, none⟩)), (28, .int .i64 t28), (29, .int .i64 t29), (48, .bool (decide (t45 > 4)))] 132 (s' := (.code (sub B [1, 1, 1, 1, 1, 0, 1, 0, 0, 1, 1, 0, 0, 1, 0, 1]) :: S11)) h
    · replace h := iteF c11 h
      refine KR.setV 39 (by kernel_rfl) (eF c11) ?_
      exact KR.go 10 [(4, .pointer (some ⟨t4b, t4o, none⟩)), (6, .slice t6a t6n t6k), (7, .pointer (some ⟨H_1.next, 0, none⟩)), (28, .int .i64 t28), (29, .int .i64 t29), (48, .bool false)] 132 (s' := (.code (sub B [1, 1, 1, 1, 1, 0, 1, 0, 0, 1, 1, 0, 0, 1, 0, 1]) :: S11)) h
  · replace h := iteF c6 h
    refine KR.bb false (vB (dF c6)) ?_
    refine KR.go 5 [(6, .slice t6a t6n t6k), (126, .pointer (some ⟨t4b, t4o, none⟩))] 132 (s' := (.reg (opsAt (sub B [1, 1, 1, 1, 1, 1, 0, 0])) [1, 2] :: S14)) fun J => ?_
    obtain ⟨t127, H_4, q15, h⟩ := h
    refine KR.se (one_ca (by kernel_rfl) q15) ?_
    refine KR.go 7 [(6, .slice t6a t6n t6k), (13, .int .i64 t127), (129, .bool (!(t127 == 0)))] 132 (s' := (.code (sub B [1, 1, 1, 1, 1, 1, 0, 1, 1]) :: S13)) fun J => ?_
    by_cases c16 : t127 = 0
    · replace h := iteT c16 h
      refine KR.bb false (vB (nB (eT c16))) ?_
      refine KR.go 7 [(2, .slice t6a t6n t6k), (3, .int .i64 0)] 132 (s' := (.code (sub B [1, 1, 1, 1, 1, 1, 1, 1]) :: [])) fun J => ?_
      exact KR.fi h
    · replace h := iteF c16 h
      refine KR.bb true (vB (nB (eF c16))) ?_
      refine KR.go 6 [(2, .slice none 0 0), (3, .int .i64 t127)] 132 (s' := (.code (sub B [1, 1, 1, 1, 1, 1, 0, 1, 1, 0, 1]) :: S13)) fun J => ?_
      exact KR.fi h
theorem L2_step {t4b t4o : Nat} {t6a : Option Addr} {t6n t6k t7b t7o : Nat} {t28 t29 : Int} {t48 : Bool} {H : Heap} {r : Value × Heap} (h :
    if t48 = true then
    (r = (.tuple #[.slice none 0 0, .int .i64 3], H))
    else
    (∃ (t50 : Int) (H_1 : Heap), xC Try.prog good 53 [.pointer (some ⟨t4b, t4o, none⟩)] H = some (.int .i64 t50, H_1) ∧
    (∃ (t54 : Int), ldc H_1 t4b (t4o + 1) = some (.int .i64 t54) ∧
    (if t54 = 0 then
    (∃ (t58 : Int), ldc H_1 t7b t7o = some (.int .i64 t58) ∧
    (if t58 = 1 then
    (if t50 = 6 then
    (∃ (t66 : Int), ldc H_1 t7b t7o = some (.int .i64 t66) ∧
    (if t66 = 2 then
    (if t50 = 2 then
    (L3 t4b t4o t6a t6n t6k t7b t7o t50 t28 t29 ((decide (t50 > 16))) H_1 r)
    else
    (L3 t4b t4o t6a t6n t6k t7b t7o t50 t28 t29 true H_1 r))
    else
    (L3 t4b t4o t6a t6n t6k t7b t7o t50 t28 t29 ((decide (t50 > 16))) H_1 r)))
    else
    (L3 t4b t4o t6a t6n t6k t7b t7o t50 t28 t29 true H_1 r))
    else
    (∃ (t66_1 : Int), ldc H_1 t7b t7o = some (.int .i64 t66_1) ∧
    (if t66_1 = 2 then
    (if t50 = 2 then
    (L3 t4b t4o t6a t6n t6k t7b t7o t50 t28 t29 ((decide (t50 > 16))) H_1 r)
    else
    (L3 t4b t4o t6a t6n t6k t7b t7o t50 t28 t29 true H_1 r))
    else
    (L3 t4b t4o t6a t6n t6k t7b t7o t50 t28 t29 ((decide (t50 > 16))) H_1 r)))))
    else
    (L3 t4b t4o t6a t6n t6k t7b t7o t50 t28 t29 false H_1 r))))) :
    L2 t4b t4o t6a t6n t6k t7b t7o t28 t29 t48 H r := by
  intro J
  show KR _ _ _ (.code (sub B [1, 1, 1, 1, 1, 0, 1, 0, 0, 1, 1, 0, 0, 1, 0, 1]) :: S11) _ _ _
  by_cases c17 : t48 = true
  · replace h := iteT c17 h
    refine KR.bb true (vB (bT c17)) ?_
    refine KR.go 5 [(2, .slice none 0 0), (3, .int .i64 3)] 132 (s' := (.code (sub B [1, 1, 1, 1, 1, 0, 1, 0, 0, 1, 1, 0, 0, 1, 0, 1, 0, 1]) :: S11)) fun J => ?_
    exact KR.fi h
  · replace h := iteF c17 h
    refine KR.bb false (vB (bF c17)) ?_
    refine KR.go 4 [(4, .pointer (some ⟨t4b, t4o, none⟩)), (6, .slice t6a t6n t6k), (7, .pointer (some ⟨t7b, t7o, none⟩)), (28, .int .i64 t28), (29, .int .i64 t29), (49, .pointer (some ⟨t4b, t4o, none⟩))] 132 (s' := (.reg (opsAt (sub B [1, 1, 1, 1, 1, 0, 1, 0, 0, 1, 1, 0, 0, 1, 1, 0])) [1, 2] :: S15)) fun J => ?_
    obtain ⟨t50, H_1, q18, h⟩ := h
    refine KR.se (one_ca (by kernel_rfl) q18) ?_
    refine KR.go 8 [(4, .pointer (some ⟨t4b, t4o, none⟩)), (6, .slice t6a t6n t6k), (7, .pointer (some ⟨t7b, t7o, none⟩)), (8, .int .i64 t50), (28, .int .i64 t28), (29, .int .i64 t29), (53, .pointer (some ⟨t4b, (t4o + 1), none⟩))] 132 (s' := (.reg (opsAt (sub B [1, 1, 1, 1, 1, 0, 1, 0, 0, 1, 1, 0, 0, 1, 1, 1, 0, 0])) [3, 4, 5, 6, 7, 8, 9, 10, 11, 12, 13, 14, 15, 16, 17, 18, 19, 20, 21, 22, 23, 24, 25, 26] :: S17)) fun J => ?_
    obtain ⟨t54, q19, h⟩ := h
    refine KR.rd (one_ld (by kernel_rfl) q19) ?_
    refine KR.go 2 [(4, .pointer (some ⟨t4b, t4o, none⟩)), (6, .slice t6a t6n t6k), (7, .pointer (some ⟨t7b, t7o, none⟩)), (8, .int .i64 t50), (28, .int .i64 t28), (29, .int .i64 t29), (56, .bool (t54 == 0))] 132 (s' := (.reg (opsAt (sub B [1, 1, 1, 1, 1, 0, 1, 0, 0, 1, 1, 0, 0, 1, 1, 1, 0, 0])) [6, 7, 8, 9, 10, 11, 12, 13, 14, 15, 16, 17, 18, 19, 20, 21, 22, 23, 24, 25, 26] :: S17)) fun J => ?_
    by_cases c20 : t54 = 0
    · replace h := iteT c20 h
      refine KR.setV 56 (by kernel_rfl) (eT c20) ?_
      refine KR.go 1 [(4, .pointer (some ⟨t4b, t4o, none⟩)), (6, .slice t6a t6n t6k), (7, .pointer (some ⟨t7b, t7o, none⟩)), (8, .int .i64 t50), (28, .int .i64 t28), (29, .int .i64 t29), (56, .bool true), (57, .pointer (some ⟨t7b, t7o, none⟩))] 132 (s' := (.reg (opsAt (sub B [1, 1, 1, 1, 1, 0, 1, 0, 0, 1, 1, 0, 0, 1, 1, 1, 0, 0])) [7, 8, 9, 10, 11, 12, 13, 14, 15, 16, 17, 18, 19, 20, 21, 22, 23, 24, 25, 26] :: S17)) fun J => ?_
      obtain ⟨t58, q21, h⟩ := h
      refine KR.rd (one_ld (by kernel_rfl) q21) ?_
      refine KR.go 2 [(4, .pointer (some ⟨t4b, t4o, none⟩)), (6, .slice t6a t6n t6k), (7, .pointer (some ⟨t7b, t7o, none⟩)), (8, .int .i64 t50), (28, .int .i64 t28), (29, .int .i64 t29), (56, .bool true), (60, .bool (t58 == 1))] 132 (s' := (.reg (opsAt (sub B [1, 1, 1, 1, 1, 0, 1, 0, 0, 1, 1, 0, 0, 1, 1, 1, 0, 0])) [10, 11, 12, 13, 14, 15, 16, 17, 18, 19, 20, 21, 22, 23, 24, 25, 26] :: S17)) fun J => ?_
      by_cases c22 : t58 = 1
      · replace h := iteT c22 h
        refine KR.setV 60 (by kernel_rfl) (eT c22) ?_
        refine KR.go 4 [(4, .pointer (some ⟨t4b, t4o, none⟩)), (6, .slice t6a t6n t6k), (7, .pointer (some ⟨t7b, t7o, none⟩)), (8, .int .i64 t50), (28, .int .i64 t28), (29, .int .i64 t29), (56, .bool true), (64, .bool (!(t50 == 6)))] 132 (s' := (.reg (opsAt (sub B [1, 1, 1, 1, 1, 0, 1, 0, 0, 1, 1, 0, 0, 1, 1, 1, 0, 0])) [14, 15, 16, 17, 18, 19, 20, 21, 22, 23, 24, 25, 26] :: S17)) fun J => ?_
        by_cases c23 : t50 = 6
        · replace h := iteT c23 h
          refine KR.setV 64 (by kernel_rfl) (nB (eT c23)) ?_
          refine KR.go 1 [(4, .pointer (some ⟨t4b, t4o, none⟩)), (6, .slice t6a t6n t6k), (7, .pointer (some ⟨t7b, t7o, none⟩)), (8, .int .i64 t50), (28, .int .i64 t28), (29, .int .i64 t29), (56, .bool true), (64, .bool false), (65, .pointer (some ⟨t7b, t7o, none⟩))] 132 (s' := (.reg (opsAt (sub B [1, 1, 1, 1, 1, 0, 1, 0, 0, 1, 1, 0, 0, 1, 1, 1, 0, 0])) [15, 16, 17, 18, 19, 20, 21, 22, 23, 24, 25, 26] :: S17)) fun J => ?_
          obtain ⟨t66, q24, h⟩ := h
          refine KR.rd (one_ld (by kernel_rfl) q24) ?_
          refine KR.go 2 [(4, .pointer (some ⟨t4b, t4o, none⟩)), (6, .slice t6a t6n t6k), (7, .pointer (some ⟨t7b, t7o, none⟩)), (8, .int .i64 t50), (28, .int .i64 t28), (29, .int .i64 t29), (56, .bool true), (64, .bool false), (68, .bool (t66 == 2))] 132 (s' := (.reg (opsAt (sub B [1, 1, 1, 1, 1, 0, 1, 0, 0, 1, 1, 0, 0, 1, 1, 1, 0, 0])) [18, 19, 20, 21, 22, 23, 24, 25, 26] :: S17)) fun J => ?_
          by_cases c25 : t66 = 2
          · replace h := iteT c25 h
            refine KR.setV 68 (by kernel_rfl) (eT c25) ?_
            refine KR.go 5 [(4, .pointer (some ⟨t4b, t4o, none⟩)), (6, .slice t6a t6n t6k), (7, .pointer (some ⟨t7b, t7o, none⟩)), (8, .int .i64 t50), (28, .int .i64 t28), (29, .int .i64 t29), (56, .bool true), (73, .bool (!(t50 == 2)))] 132 (s' := (.reg (opsAt (sub B [1, 1, 1, 1, 1, 0, 1, 0, 0, 1, 1, 0, 0, 1, 1, 1, 0, 0])) [23, 24, 25, 26] :: S17)) fun J => ?_
            by_cases c26 : t50 = 2
            · replace h := iteT c26 h
              refine KR.setV 73 (by kernel_rfl) (nB (eT c26)) ?_
              exact KR.go 5 [(4, .pointer (some ⟨t4b, t4o, none⟩)), (6, .slice t6a t6n t6k), (7, .pointer (some ⟨t7b, t7o, none⟩)), (8, .int .i64 t50), (28, .int .i64 t28), (29, .int .i64 t29), (77, .bool (decide (t50 > 16)))] 132 (s' := (.code (sub B [1, 1, 1, 1, 1, 0, 1, 0, 0, 1, 1, 0, 0, 1, 1, 1, 0, 1]) :: S16)) h
            · replace h := iteF c26 h
              refine KR.setV 73 (by kernel_rfl) (nB (eF c26)) ?_
              exact KR.go 5 [(4, .pointer (some ⟨t4b, t4o, none⟩)), (6, .slice t6a t6n t6k), (7, .pointer (some ⟨t7b, t7o, none⟩)), (8, .int .i64 t50), (28, .int .i64 t28), (29, .int .i64 t29), (77, .bool true)] 132 (s' := (.code (sub B [1, 1, 1, 1, 1, 0, 1, 0, 0, 1, 1, 0, 0, 1, 1, 1, 0, 1]) :: S16)) h
          · replace h := iteF c25 h
            refine KR.setV 68 (by kernel_rfl) (eF c25) ?_
            exact KR.go 10 [(4, .pointer (some ⟨t4b, t4o, none⟩)), (6, .slice t6a t6n t6k), (7, .pointer (some ⟨t7b, t7o, none⟩)), (8, .int .i64 t50), (28, .int .i64 t28), (29, .int .i64 t29), (77, .bool (decide (t50 > 16)))] 132 (s' := (.code (sub B [1, 1, 1, 1, 1, 0, 1, 0, 0, 1, 1, 0, 0, 1, 1, 1, 0, 1]) :: S16)) h
        · replace h := iteF c23 h
          refine KR.setV 64 (by kernel_rfl) (nB (eF c23)) ?_
          exact KR.go 14 [(4, .pointer (some ⟨t4b, t4o, none⟩)), (6, .slice t6a t6n t6k), (7, .pointer (some ⟨t7b, t7o, none⟩)), (8, .int .i64 t50), (28, .int .i64 t28), (29, .int .i64 t29), (77, .bool true)] 132 (s' := (.code (sub B [1, 1, 1, 1, 1, 0, 1, 0, 0, 1, 1, 0, 0, 1, 1, 1, 0, 1]) :: S16)) h
      · replace h := iteF c22 h
        refine KR.setV 60 (by kernel_rfl) (eF c22) ?_
        refine KR.go 5 [(4, .pointer (some ⟨t4b, t4o, none⟩)), (6, .slice t6a t6n t6k), (7, .pointer (some ⟨t7b, t7o, none⟩)), (8, .int .i64 t50), (28, .int .i64 t28), (29, .int .i64 t29), (56, .bool true), (64, .bool false), (65, .pointer (some ⟨t7b, t7o, none⟩))] 132 (s' := (.reg (opsAt (sub B [1, 1, 1, 1, 1, 0, 1, 0, 0, 1, 1, 0, 0, 1, 1, 1, 0, 0])) [15, 16, 17, 18, 19, 20, 21, 22, 23, 24, 25, 26] :: S17)) fun J => ?_
        obtain ⟨t66_1, q27, h⟩ := h
        refine KR.rd (one_ld (by kernel_rfl) q27) ?_
        refine KR.go 2 [(4, .pointer (some ⟨t4b, t4o, none⟩)), (6, .slice t6a t6n t6k), (7, .pointer (some ⟨t7b, t7o, none⟩)), (8, .int .i64 t50), (28, .int .i64 t28), (29, .int .i64 t29), (56, .bool true), (64, .bool false), (68, .bool (t66_1 == 2))] 132 (s' := (.reg (opsAt (sub B [1, 1, 1, 1, 1, 0, 1, 0, 0, 1, 1, 0, 0, 1, 1, 1, 0, 0])) [18, 19, 20, 21, 22, 23, 24, 25, 26] :: S17)) fun J => ?_
        by_cases c28 : t66_1 = 2
        · replace h := iteT c28 h
          refine KR.setV 68 (by kernel_rfl) (eT c28) ?_
          refine KR.go 5 [(4, .pointer (some ⟨t4b, t4o, none⟩)), (6, .slice t6a t6n t6k), (7, .pointer (some ⟨t7b, t7o, none⟩)), (8, .int .i64 t50), (28, .int .i64 t28), (29, .int .i64 t29), (56, .bool true), (73, .bool (!(t50 == 2)))] 132 (s' := (.reg (opsAt (sub B [1, 1, 1, 1, 1, 0, 1, 0, 0, 1, 1, 0, 0, 1, 1, 1, 0, 0])) [23, 24, 25, 26] :: S17)) fun J => ?_
          by_cases c29 : t50 = 2
          · replace h := iteT c29 h
            refine KR.setV 73 (by kernel_rfl) (nB (eT c29)) ?_
            exact KR.go 5 [(4, .pointer (some ⟨t4b, t4o, none⟩)), (6, .slice t6a t6n t6k), (7, .pointer (some ⟨t7b, t7o, none⟩)), (8, .int .i64 t50), (28, .int .i64 t28), (29, .int .i64 t29), (77, .bool (decide (t50 > 16)))] 132 (s' := (.code (sub B [1, 1, 1, 1, 1, 0, 1, 0, 0, 1, 1, 0, 0, 1, 1, 1, 0, 1]) :: S16)) h
          · replace h := iteF c29 h
            refine KR.setV 73 (by kernel_rfl) (nB (eF c29)) ?_
            exact KR.go 5 [(4, .pointer (some ⟨t4b, t4o, none⟩)), (6, .slice t6a t6n t6k), (7, .pointer (some ⟨t7b, t7o, none⟩)), (8, .int .i64 t50), (28, .int .i64 t28), (29, .int .i64 t29), (77, .bool true)] 132 (s' := (.code (sub B [1, 1, 1, 1, 1, 0, 1, 0, 0, 1, 1, 0, 0, 1, 1, 1, 0, 1]) :: S16)) h
        · replace h := iteF c28 h
          refine KR.setV 68 (by kernel_rfl) (eF c28) ?_
          exact KR.go 10 [(4, .pointer (some ⟨t4b, t4o, none⟩)), (6, .slice t6a t6n t6k), (7, .pointer (some ⟨t7b, t7o, none⟩)), (8, .int .i64 t50), (28, .int .i64 t28), (29, .int .i64 t29), (77, .bool (decide (t50 > 16)))] 132 (s' := (.code (sub B [1, 1, 1, 1, 1, 0, 1, 0, 0, 1, 1, 0, 0, 1, 1, 1, 0, 1]) :: S16)) h
    · replace h := iteF c20 h
      refine KR.setV 56 (by kernel_rfl) (eF c20) ?_
      exact KR.go 22 [(4, .pointer (some ⟨t4b, t4o, none⟩)), (6, .slice t6a t6n t6k), (7, .pointer (some ⟨t7b, t7o, none⟩)), (8, .int .i64 t50), (28, .int .i64 t28), (29, .int .i64 t29), (77, .bool false)] 132 (s' := (.code (sub B [1, 1, 1, 1, 1, 0, 1, 0, 0, 1, 1, 0, 0, 1, 1, 1, 0, 1]) :: S16)) h
theorem L3_step {t4b t4o : Nat} {t6a : Option Addr} {t6n t6k t7b t7o : Nat} {t8 t28 t29 : Int} {t77 : Bool} {H : Heap} {r : Value × Heap} (h :
    if t77 = true then
    (r = (.tuple #[.slice none 0 0, .int .i64 3], H))
    else
    (∃ (t80a : Option Addr) (t80n t80k : Nat) (H_1 : Heap), xC Try.prog good 54 [.pointer (some ⟨t4b, t4o, none⟩), .int .i64 t8] H = some (.slice t80a t80n t80k, H_1) ∧
    (∃ (t84 : Int), ldc H_1 t4b (t4o + 1) = some (.int .i64 t84) ∧
    (if t84 = 0 then
    (∃ (H_2 : Heap), H_2 = H_1.push (.row [.slice t80a t80n t80k, .int .i64 0] true) ∧
    (∃ (t90 : Int), ldc H_2 t7b t7o = some (.int .i64 t90) ∧
    (if t90 = 1 then
    (∃ (t108 : Int) (H_3 : Heap), xC Try.prog good 55 [.pointer (some ⟨H_1.next, 0, none⟩), .int .i64 5] H_2 = some (.int .u64 t108, H_3) ∧
    (∃ (H_4 : Heap), stc H_3 t7b (t7o + 1) [.int .i64 (IntKind.wrap .i64 t108)] = some H_4 ∧
    (∃ (t112 : Int) (H_5 : Heap), xC Try.prog good 53 [.pointer (some ⟨H_1.next, 0, none⟩)] H_4 = some (.int .i64 t112, H_5) ∧
    (∃ (H_6 : Heap), stc H_5 t7b (t7o + 2) [.int .i64 t112] = some H_6 ∧
    (L4 t4b t4o t6a t6n t6k t7b t7o t28 t29 H_6 r)))))
    else
    (if t90 = 2 then
    (∃ (t117 : Int) (H_7 : Heap), xC Try.prog good 55 [.pointer (some ⟨H_1.next, 0, none⟩), .int .i64 2] H_2 = some (.int .u64 t117, H_7) ∧
    (∃ (H_8 : Heap), stc H_7 t7b (t7o + 3) [.int .i64 (IntKind.wrap .i64 (IntKind.wrap .i16 t117))] = some H_8 ∧
    (L4 t4b t4o t6a t6n t6k t7b t7o t28 t29 H_8 r)))
    else
    (L5 t4b t4o t6a t6n t6k t7b t7o t28 t29 t80a t80n t80k ((t80n : Int)) 0 H_2 r)))))
    else
    (r = (.tuple #[.slice none 0 0, .int .i64 2], H_1)))))) :
    L3 t4b t4o t6a t6n t6k t7b t7o t8 t28 t29 t77 H r := by
  intro J
  show KR _ _ _ (.code (sub B [1, 1, 1, 1, 1, 0, 1, 0, 0, 1, 1, 0, 0, 1, 1, 1, 0, 1]) :: S16) _ _ _
  by_cases c30 : t77 = true
  · replace h := iteT c30 h
    refine KR.bb true (vB (bT c30)) ?_
    refine KR.go 5 [(2, .slice none 0 0), (3, .int .i64 3)] 132 (s' := (.code (sub B [1, 1, 1, 1, 1, 0, 1, 0, 0, 1, 1, 0, 0, 1, 1, 1, 0, 1, 0, 1]) :: S16)) fun J => ?_
    exact KR.fi h
  · replace h := iteF c30 h
    refine KR.bb false (vB (bF c30)) ?_
    refine KR.go 5 [(4, .pointer (some ⟨t4b, t4o, none⟩)), (6, .slice t6a t6n t6k), (7, .pointer (some ⟨t7b, t7o, none⟩)), (28, .int .i64 t28), (29, .int .i64 t29), (78, .pointer (some ⟨t4b, t4o, none⟩)), (79, .int .i64 t8)] 132 (s' := (.reg (opsAt (sub B [1, 1, 1, 1, 1, 0, 1, 0, 0, 1, 1, 0, 0, 1, 1, 1, 1, 0])) [2, 3] :: S18)) fun J => ?_
    obtain ⟨t80a, t80n, t80k, H_1, q31, h⟩ := h
    refine KR.se (one_ca (by kernel_rfl) q31) ?_
    refine KR.go 8 [(4, .pointer (some ⟨t4b, t4o, none⟩)), (6, .slice t6a t6n t6k), (7, .pointer (some ⟨t7b, t7o, none⟩)), (9, .slice t80a t80n t80k), (28, .int .i64 t28), (29, .int .i64 t29), (83, .pointer (some ⟨t4b, (t4o + 1), none⟩))] 132 (s' := (.reg (opsAt (sub B [1, 1, 1, 1, 1, 0, 1, 0, 0, 1, 1, 0, 0, 1, 1, 1, 1, 1, 0, 0])) [3, 4] :: S20)) fun J => ?_
    obtain ⟨t84, q32, h⟩ := h
    refine KR.rd (one_ld (by kernel_rfl) q32) ?_
    refine KR.go 2 [(4, .pointer (some ⟨t4b, t4o, none⟩)), (6, .slice t6a t6n t6k), (7, .pointer (some ⟨t7b, t7o, none⟩)), (9, .slice t80a t80n t80k), (28, .int .i64 t28), (29, .int .i64 t29), (85, .bool (!(t84 == 0)))] 132 (s' := (.code (sub B [1, 1, 1, 1, 1, 0, 1, 0, 0, 1, 1, 0, 0, 1, 1, 1, 1, 1, 0, 1]) :: S19)) fun J => ?_
    by_cases c33 : t84 = 0
    · replace h := iteT c33 h
      refine KR.bb false (vB (nB (eT c33))) ?_
      refine KR.go 5 [(4, .pointer (some ⟨t4b, t4o, none⟩)), (6, .slice t6a t6n t6k), (7, .pointer (some ⟨t7b, t7o, none⟩)), (9, .slice t80a t80n t80k), (28, .int .i64 t28), (29, .int .i64 t29), (87, .agg #[.slice t80a t80n t80k, .int .i64 0])] 132 (s' := (.reg (opsAt (sub B [1, 1, 1, 1, 1, 0, 1, 0, 0, 1, 1, 0, 0, 1, 1, 1, 1, 1, 1, 0])) [2, 3] :: S21)) fun J => ?_
      obtain ⟨H_2, q34, h⟩ := h
      refine KR.mk (w := pRow [.slice t80a t80n t80k, .int .i64 0]) (one_al (by kernel_rfl)) q34 ?_
      refine KR.go 6 [(4, .pointer (some ⟨t4b, t4o, none⟩)), (6, .slice t6a t6n t6k), (7, .pointer (some ⟨t7b, t7o, none⟩)), (9, .slice t80a t80n t80k), (10, .pointer (some ⟨H_1.next, 0, none⟩)), (28, .int .i64 t28), (29, .int .i64 t29), (89, .pointer (some ⟨t7b, t7o, none⟩))] 132 (s' := (.reg (opsAt (sub B [1, 1, 1, 1, 1, 0, 1, 0, 0, 1, 1, 0, 0, 1, 1, 1, 1, 1, 1, 1, 0, 0])) [1] :: S23)) fun J => ?_
      obtain ⟨t90, q35, h⟩ := h
      refine KR.rd (one_ld (by kernel_rfl) q35) ?_
      refine KR.go 7 [(4, .pointer (some ⟨t4b, t4o, none⟩)), (6, .slice t6a t6n t6k), (7, .pointer (some ⟨t7b, t7o, none⟩)), (9, .slice t80a t80n t80k), (10, .pointer (some ⟨H_1.next, 0, none⟩)), (28, .int .i64 t28), (29, .int .i64 t29), (90, .int .i64 t90), (105, .bool (t90 == 1))] 132 (s' := (.code (sub B [1, 1, 1, 1, 1, 0, 1, 0, 0, 1, 1, 0, 0, 1, 1, 1, 1, 1, 1, 1, 0, 1, 0, 1]) :: S24)) fun J => ?_
      by_cases c36 : t90 = 1
      · replace h := iteT c36 h
        refine KR.bb true (vB (eT c36)) ?_
        refine KR.go 3 [(4, .pointer (some ⟨t4b, t4o, none⟩)), (6, .slice t6a t6n t6k), (7, .pointer (some ⟨t7b, t7o, none⟩)), (10, .pointer (some ⟨H_1.next, 0, none⟩)), (28, .int .i64 t28), (29, .int .i64 t29), (107, .pointer (some ⟨H_1.next, 0, none⟩))] 132 (s' := (.reg (opsAt (sub B [1, 1, 1, 1, 1, 0, 1, 0, 0, 1, 1, 0, 0, 1, 1, 1, 1, 1, 1, 1, 0, 1, 0, 1, 0, 0])) [1, 2, 3, 4] :: S25)) fun J => ?_
        obtain ⟨t108, H_3, q37, h⟩ := h
        refine KR.se (one_ca (by kernel_rfl) q37) ?_
        refine KR.go 2 [(4, .pointer (some ⟨t4b, t4o, none⟩)), (6, .slice t6a t6n t6k), (7, .pointer (some ⟨t7b, t7o, none⟩)), (10, .pointer (some ⟨H_1.next, 0, none⟩)), (28, .int .i64 t28), (29, .int .i64 t29), (109, .int .i64 (IntKind.wrap .i64 t108)), (110, .pointer (some ⟨t7b, (t7o + 1), none⟩))] 132 (s' := (.reg (opsAt (sub B [1, 1, 1, 1, 1, 0, 1, 0, 0, 1, 1, 0, 0, 1, 1, 1, 1, 1, 1, 1, 0, 1, 0, 1, 0, 0])) [4] :: S25)) fun J => ?_
        obtain ⟨H_4, q38, h⟩ := h
        refine KR.se (one_st (by kernel_rfl) q38) ?_
        refine KR.go 3 [(4, .pointer (some ⟨t4b, t4o, none⟩)), (6, .slice t6a t6n t6k), (7, .pointer (some ⟨t7b, t7o, none⟩)), (28, .int .i64 t28), (29, .int .i64 t29), (111, .pointer (some ⟨H_1.next, 0, none⟩))] 132 (s' := (.reg (opsAt (sub B [1, 1, 1, 1, 1, 0, 1, 0, 0, 1, 1, 0, 0, 1, 1, 1, 1, 1, 1, 1, 0, 1, 0, 1, 0, 1])) [1, 2, 3] :: S24)) fun J => ?_
        obtain ⟨t112, H_5, q39, h⟩ := h
        refine KR.se (one_ca (by kernel_rfl) q39) ?_
        refine KR.go 1 [(4, .pointer (some ⟨t4b, t4o, none⟩)), (6, .slice t6a t6n t6k), (7, .pointer (some ⟨t7b, t7o, none⟩)), (28, .int .i64 t28), (29, .int .i64 t29), (112, .int .i64 t112), (113, .pointer (some ⟨t7b, (t7o + 2), none⟩))] 132 (s' := (.reg (opsAt (sub B [1, 1, 1, 1, 1, 0, 1, 0, 0, 1, 1, 0, 0, 1, 1, 1, 1, 1, 1, 1, 0, 1, 0, 1, 0, 1])) [3] :: S24)) fun J => ?_
        obtain ⟨H_6, q40, h⟩ := h
        refine KR.se (one_st (by kernel_rfl) q40) ?_
        exact KR.go 3 [(4, .pointer (some ⟨t4b, t4o, none⟩)), (6, .slice t6a t6n t6k), (7, .pointer (some ⟨t7b, t7o, none⟩)), (28, .int .i64 t28), (29, .int .i64 t29)] 132 (s' := (.reg (opsAt (sub B [1, 1, 1, 1, 1, 0, 1, 0, 0, 1, 1, 0, 0, 1, 1, 1, 1, 1, 1, 1, 1])) [0, 1, 2, 3, 4] :: S9)) h
      · replace h := iteF c36 h
        refine KR.bb false (vB (eF c36)) ?_
        refine KR.go 5 [(4, .pointer (some ⟨t4b, t4o, none⟩)), (6, .slice t6a t6n t6k), (7, .pointer (some ⟨t7b, t7o, none⟩)), (9, .slice t80a t80n t80k), (10, .pointer (some ⟨H_1.next, 0, none⟩)), (28, .int .i64 t28), (29, .int .i64 t29), (114, .bool (t90 == 2))] 132 (s' := (.code (sub B [1, 1, 1, 1, 1, 0, 1, 0, 0, 1, 1, 0, 0, 1, 1, 1, 1, 1, 1, 1, 0, 1, 0, 1, 1, 1]) :: S24)) fun J => ?_
        by_cases c41 : t90 = 2
        · replace h := iteT c41 h
          refine KR.bb true (vB (eT c41)) ?_
          refine KR.go 2 [(4, .pointer (some ⟨t4b, t4o, none⟩)), (6, .slice t6a t6n t6k), (7, .pointer (some ⟨t7b, t7o, none⟩)), (28, .int .i64 t28), (29, .int .i64 t29), (116, .pointer (some ⟨H_1.next, 0, none⟩))] 132 (s' := (.reg (opsAt (sub B [1, 1, 1, 1, 1, 0, 1, 0, 0, 1, 1, 0, 0, 1, 1, 1, 1, 1, 1, 1, 0, 1, 0, 1, 1, 1, 0])) [1, 2, 3, 4, 5] :: S24)) fun J => ?_
          obtain ⟨t117, H_7, q42, h⟩ := h
          refine KR.se (one_ca (by kernel_rfl) q42) ?_
          refine KR.go 3 [(4, .pointer (some ⟨t4b, t4o, none⟩)), (6, .slice t6a t6n t6k), (7, .pointer (some ⟨t7b, t7o, none⟩)), (28, .int .i64 t28), (29, .int .i64 t29), (119, .int .i64 (IntKind.wrap .i64 (IntKind.wrap .i16 t117))), (120, .pointer (some ⟨t7b, (t7o + 3), none⟩))] 132 (s' := (.reg (opsAt (sub B [1, 1, 1, 1, 1, 0, 1, 0, 0, 1, 1, 0, 0, 1, 1, 1, 1, 1, 1, 1, 0, 1, 0, 1, 1, 1, 0])) [5] :: S24)) fun J => ?_
          obtain ⟨H_8, q43, h⟩ := h
          refine KR.se (one_st (by kernel_rfl) q43) ?_
          exact KR.go 3 [(4, .pointer (some ⟨t4b, t4o, none⟩)), (6, .slice t6a t6n t6k), (7, .pointer (some ⟨t7b, t7o, none⟩)), (28, .int .i64 t28), (29, .int .i64 t29)] 132 (s' := (.reg (opsAt (sub B [1, 1, 1, 1, 1, 0, 1, 0, 0, 1, 1, 0, 0, 1, 1, 1, 1, 1, 1, 1, 1])) [0, 1, 2, 3, 4] :: S9)) h
        · replace h := iteF c41 h
          refine KR.bb false (vB (eF c41)) ?_
          exact KR.go 8 [(4, .pointer (some ⟨t4b, t4o, none⟩)), (6, .slice t6a t6n t6k), (7, .pointer (some ⟨t7b, t7o, none⟩)), (28, .int .i64 t28), (29, .int .i64 t29), (91, .slice t80a t80n t80k), (92, .int .i64 (t80n : Int)), (93, .int .i64 0)] 132 (s' := (.lp (sub B [1, 1, 1, 1, 1, 0, 1, 0, 0, 1, 1, 0, 0, 1, 1, 1, 1, 1, 1, 1, 0, 1, 0, 1, 1, 1, 1, 1, 0, 0]) :: S26)) h
    · replace h := iteF c33 h
      refine KR.bb true (vB (nB (eF c33))) ?_
      refine KR.go 5 [(2, .slice none 0 0), (3, .int .i64 2)] 132 (s' := (.code (sub B [1, 1, 1, 1, 1, 0, 1, 0, 0, 1, 1, 0, 0, 1, 1, 1, 1, 1, 0, 1, 0, 1]) :: S19)) fun J => ?_
      exact KR.fi h
theorem L4_step {t4b t4o : Nat} {t6a : Option Addr} {t6n t6k t7b t7o : Nat} {t28 t29 : Int} {H : Heap} {r : Value × Heap} (h :
    ∃ (t122c0 t122c1 t122c2 t122c3 : Int) (t122c4a : Option Addr) (t122c4n t122c4k : Nat), ldAll H t7b t7o [.int .i64 t122c0, .int .i64 t122c1, .int .i64 t122c2, .int .i64 t122c3, .slice t122c4a t122c4n t122c4k] ∧
    (∃ (H_1 : Heap), H_1 = H.push (.row [.int .i64 t122c0, .int .i64 t122c1, .int .i64 t122c2, .int .i64 t122c3, .slice t122c4a t122c4n t122c4k] true) ∧
    (∃ (t124a : Option Addr) (t124n t124k : Nat) (H_2 : Heap), papp H_1 5 56 t6a t6n t6k (some ⟨H.next, 0, none⟩) 1 (UNK 5) = some ((t124a, t124n, t124k), H_2) ∧
    (L1 t4b t4o t124a t124n t124k t28 ((IntKind.wrap .i64 (t29 + 1))) H_2 r)))) :
    L4 t4b t4o t6a t6n t6k t7b t7o t28 t29 H r := by
  intro J
  show KR _ _ _ (.reg (opsAt (sub B [1, 1, 1, 1, 1, 0, 1, 0, 0, 1, 1, 0, 0, 1, 1, 1, 1, 1, 1, 1, 1])) [0, 1, 2, 3, 4] :: S9) _ _ _
  refine KR.go 1 [(4, .pointer (some ⟨t4b, t4o, none⟩)), (7, .pointer (some ⟨t7b, t7o, none⟩)), (28, .int .i64 t28), (29, .int .i64 t29), (121, .slice t6a t6n t6k)] 132 (s' := (.reg (opsAt (sub B [1, 1, 1, 1, 1, 0, 1, 0, 0, 1, 1, 0, 0, 1, 1, 1, 1, 1, 1, 1, 1])) [1, 2, 3, 4] :: S9)) fun J => ?_
  obtain ⟨t122c0, t122c1, t122c2, t122c3, t122c4a, t122c4n, t122c4k, q44, h⟩ := h
  refine KR.rd (one_ldA (by kernel_rfl) q44) ?_
  obtain ⟨H_1, q45, h⟩ := h
  refine KR.mk (w := sRow 1 5 [.int .i64 t122c0, .int .i64 t122c1, .int .i64 t122c2, .int .i64 t122c3, .slice t122c4a t122c4n t122c4k]) (one_al (by kernel_rfl)) q45 ?_
  obtain ⟨t124a, t124n, t124k, H_2, q46, h⟩ := h
  refine KR.se (one_ap 5 56 (by kernel_rfl) q46) ?_
  exact KR.go 7 [(4, .pointer (some ⟨t4b, t4o, none⟩)), (6, .slice t124a t124n t124k), (28, .int .i64 t28), (29, .int .i64 (IntKind.wrap .i64 (t29 + 1)))] 132 (s' := (.lp (sub B [1, 1, 1, 1, 1, 0, 1, 0, 0]) :: S5)) h
theorem L5_step {t4b t4o : Nat} {t6a : Option Addr} {t6n t6k t7b t7o : Nat} {t28 t29 : Int} {t91a : Option Addr} {t91n t91k : Nat} {t92 t93 : Int} {H : Heap} {r : Value × Heap} (h :
    if t93 < t92 then
    (∃ (t91ab t91ao : Nat), t91a = some ⟨t91ab, t91ao, none⟩ ∧
    ((0 : Int) ≤ t93 ∧ t93 < (t91n : Int) ∧
    (∃ (t96 : Int), ldc H t91ab (t91ao + Int.toNat t93 * 1) = some (.int .u8 t96) ∧
    (∃ (t98a : Option Addr) (t98n t98k : Nat), ldc H t7b (t7o + 4) = some (.slice t98a t98n t98k) ∧
    (∃ (H_1 : Heap), H_1 = H.push (.row [.int .i64 (IntKind.wrap .i64 t96)] true) ∧
    (∃ (t102a : Option Addr) (t102n t102k : Nat) (H_2 : Heap), papp H_1 1 8 t98a t98n t98k (some ⟨H.next, 0, none⟩) 1 (UNK 1) = some ((t102a, t102n, t102k), H_2) ∧
    (∃ (H_3 : Heap), stc H_2 t7b (t7o + 4) [.slice t102a t102n t102k] = some H_3 ∧
    (L5 t4b t4o t6a t6n t6k t7b t7o t28 t29 ((some ⟨t91ab, t91ao, none⟩)) t91n t91k t92 ((IntKind.wrap .i64 (t93 + 1))) H_3 r))))))))
    else
    (L4 t4b t4o t6a t6n t6k t7b t7o t28 t29 H r)) :
    L5 t4b t4o t6a t6n t6k t7b t7o t28 t29 t91a t91n t91k t92 t93 H r := by
  intro J
  show KR _ _ _ (.lp (sub B [1, 1, 1, 1, 1, 0, 1, 0, 0, 1, 1, 0, 0, 1, 1, 1, 1, 1, 1, 1, 0, 1, 0, 1, 1, 1, 1, 1, 0, 0]) :: S26) _ _ _
  refine KR.go 6 [(4, .pointer (some ⟨t4b, t4o, none⟩)), (6, .slice t6a t6n t6k), (7, .pointer (some ⟨t7b, t7o, none⟩)), (28, .int .i64 t28), (29, .int .i64 t29), (91, .slice t91a t91n t91k), (92, .int .i64 t92), (93, .int .i64 t93), (94, .bool (decide (t93 < t92)))] 132 (s' := (.code (sub B [1, 1, 1, 1, 1, 0, 1, 0, 0, 1, 1, 0, 0, 1, 1, 1, 1, 1, 1, 1, 0, 1, 0, 1, 1, 1, 1, 1, 0, 0, 1, 0]) :: S28)) fun J => ?_
  by_cases c47 : t93 < t92
  · replace h := iteT c47 h
    refine KR.bb true (vB (dT c47)) ?_
    obtain ⟨t91ab, t91ao, rfl, h⟩ := h
    refine KR.go 5 [(4, .pointer (some ⟨t4b, t4o, none⟩)), (6, .slice t6a t6n t6k), (7, .pointer (some ⟨t7b, t7o, none⟩)), (28, .int .i64 t28), (29, .int .i64 t29), (91, .slice (some ⟨t91ab, t91ao, none⟩) t91n t91k), (92, .int .i64 t92), (93, .int .i64 t93)] 132 (s' := (.reg (opsAt (sub B [1, 1, 1, 1, 1, 0, 1, 0, 0, 1, 1, 0, 0, 1, 1, 1, 1, 1, 1, 1, 0, 1, 0, 1, 1, 1, 1, 1, 0, 0, 1, 1, 0, 0, 0])) [0, 1, 2] :: S31)) fun J => ?_
    obtain ⟨q48, q48x, h⟩ := h
    refine KR.p (one_ix 1 t91ab t91ao (by kernel_rfl) q48 q48x) ?_
    obtain ⟨t96, q49, h⟩ := h
    refine KR.rd (one_ld (by kernel_rfl) q49) ?_
    refine KR.go 4 [(4, .pointer (some ⟨t4b, t4o, none⟩)), (6, .slice t6a t6n t6k), (7, .pointer (some ⟨t7b, t7o, none⟩)), (12, .int .u8 t96), (28, .int .i64 t28), (29, .int .i64 t29), (91, .slice (some ⟨t91ab, t91ao, none⟩) t91n t91k), (92, .int .i64 t92), (93, .int .i64 t93), (97, .pointer (some ⟨t7b, (t7o + 4), none⟩))] 132 (s' := (.reg (opsAt (sub B [1, 1, 1, 1, 1, 0, 1, 0, 0, 1, 1, 0, 0, 1, 1, 1, 1, 1, 1, 1, 0, 1, 0, 1, 1, 1, 1, 1, 0, 0, 1, 1, 0, 0, 1])) [1, 2, 3, 4, 5, 6, 7] :: S30)) fun J => ?_
    obtain ⟨t98a, t98n, t98k, q50, h⟩ := h
    refine KR.rd (one_ld (by kernel_rfl) q50) ?_
    refine KR.go 2 [(4, .pointer (some ⟨t4b, t4o, none⟩)), (6, .slice t6a t6n t6k), (7, .pointer (some ⟨t7b, t7o, none⟩)), (28, .int .i64 t28), (29, .int .i64 t29), (91, .slice (some ⟨t91ab, t91ao, none⟩) t91n t91k), (92, .int .i64 t92), (93, .int .i64 t93), (98, .slice t98a t98n t98k), (100, .int .i64 (IntKind.wrap .i64 t96))] 132 (s' := (.reg (opsAt (sub B [1, 1, 1, 1, 1, 0, 1, 0, 0, 1, 1, 0, 0, 1, 1, 1, 1, 1, 1, 1, 0, 1, 0, 1, 1, 1, 1, 1, 0, 0, 1, 1, 0, 0, 1])) [4, 5, 6, 7] :: S30)) fun J => ?_
    obtain ⟨H_1, q51, h⟩ := h
    refine KR.mk (w := sRow 1 1 [.int .i64 (IntKind.wrap .i64 t96)]) (one_al (by kernel_rfl)) q51 ?_
    obtain ⟨t102a, t102n, t102k, H_2, q52, h⟩ := h
    refine KR.se (one_ap 1 8 (by kernel_rfl) q52) ?_
    refine KR.go 1 [(4, .pointer (some ⟨t4b, t4o, none⟩)), (6, .slice t6a t6n t6k), (7, .pointer (some ⟨t7b, t7o, none⟩)), (28, .int .i64 t28), (29, .int .i64 t29), (91, .slice (some ⟨t91ab, t91ao, none⟩) t91n t91k), (92, .int .i64 t92), (93, .int .i64 t93), (102, .slice t102a t102n t102k), (103, .pointer (some ⟨t7b, (t7o + 4), none⟩))] 132 (s' := (.reg (opsAt (sub B [1, 1, 1, 1, 1, 0, 1, 0, 0, 1, 1, 0, 0, 1, 1, 1, 1, 1, 1, 1, 0, 1, 0, 1, 1, 1, 1, 1, 0, 0, 1, 1, 0, 0, 1])) [7] :: S30)) fun J => ?_
    obtain ⟨H_3, q53, h⟩ := h
    refine KR.se (one_st (by kernel_rfl) q53) ?_
    exact KR.go 6 [(4, .pointer (some ⟨t4b, t4o, none⟩)), (6, .slice t6a t6n t6k), (7, .pointer (some ⟨t7b, t7o, none⟩)), (28, .int .i64 t28), (29, .int .i64 t29), (91, .slice (some ⟨t91ab, t91ao, none⟩) t91n t91k), (92, .int .i64 t92), (93, .int .i64 (IntKind.wrap .i64 (t93 + 1)))] 132 (s' := (.lp (sub B [1, 1, 1, 1, 1, 0, 1, 0, 0, 1, 1, 0, 0, 1, 1, 1, 1, 1, 1, 1, 0, 1, 0, 1, 1, 1, 1, 1, 0, 0]) :: S26)) h
  · replace h := iteF c47 h
    refine KR.bb false (vB (dF c47)) ?_
    exact KR.go 3 [(4, .pointer (some ⟨t4b, t4o, none⟩)), (6, .slice t6a t6n t6k), (7, .pointer (some ⟨t7b, t7o, none⟩)), (28, .int .i64 t28), (29, .int .i64 t29)] 132 (s' := (.reg (opsAt (sub B [1, 1, 1, 1, 1, 0, 1, 0, 0, 1, 1, 0, 0, 1, 1, 1, 1, 1, 1, 1, 1])) [0, 1, 2, 3, 4] :: S9)) h
theorem call {a0a : Option Addr} {a0n a0k : Nat} {H : Heap} {r : Value × Heap} (h :
    ∃ (H_1 : Heap), H_1 = H.push (.row [.slice a0a a0n a0k, .int .i64 0] true) ∧
    (∃ (t18 : Int) (H_2 : Heap), xC Try.prog good 53 [.pointer (some ⟨H.next, 0, none⟩)] H_1 = some (.int .i64 t18, H_2) ∧
    (∃ (t22 : Int), ldc H_2 H.next 1 = some (.int .i64 t22) ∧
    (if t22 = 0 then
    (L0 (H.next) 0 t18 ((decide (t18 > 4))) H_2 r)
    else
    (L0 (H.next) 0 t18 false H_2 r))))) :
    xC Try.prog good 24 [.slice a0a a0n a0k] H = some r := by
  refine KR.enter (fn := Try.f24) (c := B) (by kernel_rfl) (by kernel_rfl) ?_
  refine KR.go 9 [(15, .agg #[.slice a0a a0n a0k, .int .i64 0])] 132 (s' := (.reg (opsAt (sub B [1, 0])) [2, 3] :: S0)) fun J => ?_
  obtain ⟨H_1, q1, h⟩ := h
  refine KR.mk (w := pRow [.slice a0a a0n a0k, .int .i64 0]) (one_al (by kernel_rfl)) q1 ?_
  refine KR.go 5 [(4, .pointer (some ⟨H.next, 0, none⟩)), (17, .pointer (some ⟨H.next, 0, none⟩))] 132 (s' := (.reg (opsAt (sub B [1, 1, 0])) [1, 2] :: S1)) fun J => ?_
  obtain ⟨t18, H_2, q2, h⟩ := h
  refine KR.se (one_ca (by kernel_rfl) q2) ?_
  refine KR.go 8 [(4, .pointer (some ⟨H.next, 0, none⟩)), (5, .int .i64 t18), (21, .pointer (some ⟨H.next, 1, none⟩))] 132 (s' := (.reg (opsAt (sub B [1, 1, 1, 0, 0])) [3, 4, 5, 6, 7, 8] :: S3)) fun J => ?_
  obtain ⟨t22, q3, h⟩ := h
  refine KR.rd (one_ld (by kernel_rfl) q3) ?_
  refine KR.go 2 [(4, .pointer (some ⟨H.next, 0, none⟩)), (5, .int .i64 t18), (24, .bool (t22 == 0))] 132 (s' := (.reg (opsAt (sub B [1, 1, 1, 0, 0])) [6, 7, 8] :: S3)) fun J => ?_
  by_cases c4 : t22 = 0
  · replace h := iteT c4 h
    refine KR.setV 24 (by kernel_rfl) (eT c4) ?_
    exact KR.go 4 [(4, .pointer (some ⟨H.next, 0, none⟩)), (5, .int .i64 t18), (27, .bool (decide (t18 > 4)))] 132 (s' := (.code (sub B [1, 1, 1, 0, 1]) :: S2)) h
  · replace h := iteF c4 h
    refine KR.setV 24 (by kernel_rfl) (eF c4) ?_
    exact KR.go 4 [(4, .pointer (some ⟨H.next, 0, none⟩)), (5, .int .i64 t18), (27, .bool false)] 132 (s' := (.code (sub B [1, 1, 1, 0, 1]) :: S2)) h
end F24
/-! #### 25 campanile/campanileref1.SameIEs -/
namespace F25
noncomputable def B : Code := bodyOf Try.f25
noncomputable def S0 : List It := (.code (sub B [1, 1]) :: [])
noncomputable def S1 : List It := (.code (sub B [1, 1, 1]) :: [])
noncomputable def S2 : List It := (.blk 0 :: S1)
noncomputable def S3 : List It := (.lp (sub B [1, 1, 0, 1, 0, 0]) :: S2)
noncomputable def S4 : List It := (.code (sub B [1, 1, 0, 1, 0, 0, 1, 1]) :: S3)
noncomputable def S5 : List It := (.code (sub B [1, 1, 0, 1, 0, 0, 1, 1, 1]) :: S3)
noncomputable def S6 : List It := (.blk 1 :: S5)
noncomputable def S7 : List It := (.code (sub B [1, 1, 0, 1, 0, 0, 1, 1, 0, 0, 1, 1]) :: S6)
def L0 (t0a : Option Addr) (t0n t0k : Nat) (t1a : Option Addr) (t1n t1k : Nat) (t12 t13 : Int) (H : Heap) (r : Value × Heap) : Prop := ∀ J, KR Try.prog good Try.f25 S3 (mat J 27 [(0, .slice t0a t0n t0k), (1, .slice t1a t1n t1k), (12, .int .i64 t12), (13, .int .i64 t13)]) H r
theorem L0_step {t0a : Option Addr} {t0n t0k : Nat} {t1a : Option Addr} {t1n t1k : Nat} {t12 t13 : Int} {H : Heap} {r : Value × Heap} (h :
    if t13 < t12 then
    (∃ (t0ab t0ao : Nat), t0a = some ⟨t0ab, t0ao, none⟩ ∧
    ((0 : Int) ≤ t13 ∧ t13 < (t0n : Int) ∧
    (∃ (t19c0 t19c1 t19c2 t19c3 : Int) (t19c4a : Option Addr) (t19c4n t19c4k : Nat), ldAll H t0ab (t0ao + Int.toNat t13 * 5) [.int .i64 t19c0, .int .i64 t19c1, .int .i64 t19c2, .int .i64 t19c3, .slice t19c4a t19c4n t19c4k] ∧
    (∃ (t1ab t1ao : Nat), t1a = some ⟨t1ab, t1ao, none⟩ ∧
    ((0 : Int) ≤ t13 ∧ t13 < (t1n : Int) ∧
    (∃ (t23c0 t23c1 t23c2 t23c3 : Int) (t23c4a : Option Addr) (t23c4n t23c4k : Nat), ldAll H t1ab (t1ao + Int.toNat t13 * 5) [.int .i64 t23c0, .int .i64 t23c1, .int .i64 t23c2, .int .i64 t23c3, .slice t23c4a t23c4n t23c4k] ∧
    (∃ (t24 : Bool) (H_1 : Heap), xC Try.prog good 19 [.agg #[.int .i64 t19c0, .int .i64 t19c1, .int .i64 t19c2, .int .i64 t19c3, .slice t19c4a t19c4n t19c4k], .agg #[.int .i64 t23c0, .int .i64 t23c1, .int .i64 t23c2, .int .i64 t23c3, .slice t23c4a t23c4n t23c4k]] H = some (.bool t24, H_1) ∧
    (if t24 = true then
    (L0 ((some ⟨t0ab, t0ao, none⟩)) t0n t0k ((some ⟨t1ab, t1ao, none⟩)) t1n t1k t12 ((IntKind.wrap .i64 (t13 + 1))) H_1 r)
    else
    (r = (.bool false, H_1))))))))))
    else
    (r = (.bool true, H))) :
    L0 t0a t0n t0k t1a t1n t1k t12 t13 H r := by
  intro J
  show KR _ _ _ (.lp (sub B [1, 1, 0, 1, 0, 0]) :: S2) _ _ _
  refine KR.go 6 [(0, .slice t0a t0n t0k), (1, .slice t1a t1n t1k), (12, .int .i64 t12), (13, .int .i64 t13), (14, .bool (decide (t13 < t12)))] 27 (s' := (.code (sub B [1, 1, 0, 1, 0, 0, 1, 0]) :: S4)) fun J => ?_
  by_cases c2 : t13 < t12
  · replace h := iteT c2 h
    refine KR.bb true (vB (dT c2)) ?_
    refine KR.go 9 [(0, .slice t0a t0n t0k), (1, .slice t1a t1n t1k), (5, .int .i64 t13), (12, .int .i64 t12), (13, .int .i64 t13)] 27 (s' := (.code (sub B [1, 1, 0, 1, 0, 0, 1, 1, 0, 0, 1, 0]) :: S7)) fun J => ?_
    refine KR.sd (by kernel_rfl) ?_
    obtain ⟨t0ab, t0ao, rfl, h⟩ := h
    refine KR.go 2 [(0, .slice (some ⟨t0ab, t0ao, none⟩) t0n t0k), (1, .slice t1a t1n t1k), (5, .int .i64 t13), (12, .int .i64 t12), (13, .int .i64 t13), (16, .slice (some ⟨t0ab, t0ao, none⟩) t0n t0k), (17, .int .i64 t13)] 27 (s' := (.reg (opsAt (sub B [1, 1, 0, 1, 0, 0, 1, 1, 0, 0, 1, 0])) [2, 3, 4, 5, 6, 7, 8, 9] :: S7)) fun J => ?_
    obtain ⟨q3, q3x, h⟩ := h
    refine KR.p (one_ix 5 t0ab t0ao (by kernel_rfl) q3 q3x) ?_
    obtain ⟨t19c0, t19c1, t19c2, t19c3, t19c4a, t19c4n, t19c4k, q4, h⟩ := h
    refine KR.rd (one_ldA (by kernel_rfl) q4) ?_
    obtain ⟨t1ab, t1ao, rfl, h⟩ := h
    refine KR.go 2 [(0, .slice (some ⟨t0ab, t0ao, none⟩) t0n t0k), (1, .slice (some ⟨t1ab, t1ao, none⟩) t1n t1k), (12, .int .i64 t12), (13, .int .i64 t13), (19, .agg #[.int .i64 t19c0, .int .i64 t19c1, .int .i64 t19c2, .int .i64 t19c3, .slice t19c4a t19c4n t19c4k]), (20, .slice (some ⟨t1ab, t1ao, none⟩) t1n t1k), (21, .int .i64 t13)] 27 (s' := (.reg (opsAt (sub B [1, 1, 0, 1, 0, 0, 1, 1, 0, 0, 1, 0])) [6, 7, 8, 9] :: S7)) fun J => ?_
    obtain ⟨q5, q5x, h⟩ := h
    refine KR.p (one_ix 5 t1ab t1ao (by kernel_rfl) q5 q5x) ?_
    obtain ⟨t23c0, t23c1, t23c2, t23c3, t23c4a, t23c4n, t23c4k, q6, h⟩ := h
    refine KR.rd (one_ldA (by kernel_rfl) q6) ?_
    obtain ⟨t24, H_1, q7, h⟩ := h
    refine KR.se (one_ca (by kernel_rfl) q7) ?_
    refine KR.go 2 [(0, .slice (some ⟨t0ab, t0ao, none⟩) t0n t0k), (1, .slice (some ⟨t1ab, t1ao, none⟩) t1n t1k), (12, .int .i64 t12), (13, .int .i64 t13), (25, .bool (!t24))] 27 (s' := (.code (sub B [1, 1, 0, 1, 0, 0, 1, 1, 0, 0, 1, 1]) :: S6)) fun J => ?_
    by_cases c8 : t24 = true
    · replace h := iteT c8 h
      refine KR.bb false (vB (nB (bT c8))) ?_
      exact KR.go 6 [(0, .slice (some ⟨t0ab, t0ao, none⟩) t0n t0k), (1, .slice (some ⟨t1ab, t1ao, none⟩) t1n t1k), (12, .int .i64 t12), (13, .int .i64 (IntKind.wrap .i64 (t13 + 1)))] 27 (s' := (.lp (sub B [1, 1, 0, 1, 0, 0]) :: S2)) h
    · replace h := iteF c8 h
      refine KR.bb true (vB (nB (bF c8))) ?_
      refine KR.go 4 [(4, .bool false)] 27 (s' := (.code (sub B [1, 1, 0, 1, 0, 0, 1, 1, 0, 0, 1, 1, 0, 1]) :: S6)) fun J => ?_
      exact KR.fi h
  · replace h := iteF c2 h
    refine KR.bb false (vB (dF c2)) ?_
    refine KR.go 5 [(4, .bool true)] 27 (s' := (.code (sub B [1, 1, 1, 1]) :: [])) fun J => ?_
    exact KR.fi h
theorem call {a0a : Option Addr} {a0n a0k : Nat} {a1a : Option Addr} {a1n a1k : Nat} {H : Heap} {r : Value × Heap} (h :
    if (a0n : Int) = (a1n : Int) then
    (L0 a0a a0n a0k a1a a1n a1k ((a0n : Int)) 0 H r)
    else
    (r = (.bool false, H))) :
    xC Try.prog good 25 [.slice a0a a0n a0k, .slice a1a a1n a1k] H = some r := by
  refine KR.enter (fn := Try.f25) (c := B) (by kernel_rfl) (by kernel_rfl) ?_
  refine KR.go 13 [(0, .slice a0a a0n a0k), (1, .slice a1a a1n a1k), (10, .bool (!((a0n : Int) == (a1n : Int))))] 27 (s' := (.code (sub B [1, 0, 1]) :: S0)) fun J => ?_
  by_cases c1 : (a0n : Int) = (a1n : Int)
  · replace h := iteT c1 h
    refine KR.bb false (vB (nB (eT c1))) ?_
    exact KR.go 10 [(0, .slice a0a a0n a0k), (1, .slice a1a a1n a1k), (12, .int .i64 (a0n : Int)), (13, .int .i64 0)] 27 (s' := (.lp (sub B [1, 1, 0, 1, 0, 0]) :: S2)) h
  · replace h := iteF c1 h
    refine KR.bb true (vB (nB (eF c1))) ?_
    refine KR.go 4 [(4, .bool false)] 27 (s' := (.code (sub B [1, 0, 1, 0, 1]) :: S0)) fun J => ?_
    exact KR.fi h
end F25
/-! #### 44 campanile/campanileref1.ASN -/
namespace F44
noncomputable def B : Code := bodyOf Try.f44
noncomputable def S0 : List It := (.code (sub B [1, 1]) :: [])
theorem call {a0 : Int} {H : Heap} {r : Value × Heap} (h :
    if a0 ≥ 0 then
    (r = (.bool (decide (a0 < 1099511627776)), H))
    else
    (r = (.bool false, H))) :
    xC Try.prog good 44 [.int .i64 a0] H = some r := by
  refine KR.enter (fn := Try.f44) (c := B) (by kernel_rfl) (by kernel_rfl) ?_
  refine KR.go 9 [(0, .int .i64 a0), (5, .bool (decide (a0 ≥ 0)))] 9 (s' := (.reg (opsAt (sub B [1, 0])) [3, 4, 5, 6] :: S0)) fun J => ?_
  by_cases c1 : a0 ≥ 0
  · replace h := iteT c1 h
    refine KR.setV 5 (by kernel_rfl) (dT c1) ?_
    refine KR.go 5 [(2, .bool (decide (a0 < 1099511627776)))] 9 (s' := (.code (sub B [1, 1]) :: [])) fun J => ?_
    exact KR.fi h
  · replace h := iteF c1 h
    refine KR.setV 5 (by kernel_rfl) (dF c1) ?_
    refine KR.go 5 [(2, .bool false)] 9 (s' := (.code (sub B [1, 1]) :: [])) fun J => ?_
    exact KR.fi h
end F44
/-! #### 45 campanile/campanileref1.SameInts -/
namespace F45
noncomputable def B : Code := bodyOf Try.f45
noncomputable def S0 : List It := (.code (sub B [1, 1]) :: [])
noncomputable def S1 : List It := (.code (sub B [1, 1, 1]) :: [])
noncomputable def S2 : List It := (.blk 0 :: S1)
noncomputable def S3 : List It := (.lp (sub B [1, 1, 0, 1, 0, 0]) :: S2)
noncomputable def S4 : List It := (.code (sub B [1, 1, 0, 1, 0, 0, 1, 1]) :: S3)
noncomputable def S5 : List It := (.code (sub B [1, 1, 0, 1, 0, 0, 1, 1, 1]) :: S3)
noncomputable def S6 : List It := (.blk 1 :: S5)
noncomputable def S7 : List It := (.code (sub B [1, 1, 0, 1, 0, 0, 1, 1, 0, 0, 1, 1]) :: S6)
def L0 (t0a : Option Addr) (t0n t0k : Nat) (t1a : Option Addr) (t1n t1k : Nat) (t12 t13 : Int) (H : Heap) (r : Value × Heap) : Prop := ∀ J, KR Try.prog good Try.f45 S3 (mat J 26 [(0, .slice t0a t0n t0k), (1, .slice t1a t1n t1k), (12, .int .i64 t12), (13, .int .i64 t13)]) H r
theorem L0_step {t0a : Option Addr} {t0n t0k : Nat} {t1a : Option Addr} {t1n t1k : Nat} {t12 t13 : Int} {H : Heap} {r : Value × Heap} (h :
    if t13 < t12 then
    (∃ (t0ab t0ao : Nat), t0a = some ⟨t0ab, t0ao, none⟩ ∧
    ((0 : Int) ≤ t13 ∧ t13 < (t0n : Int) ∧
    (∃ (t19 : Int), ldc H t0ab (t0ao + Int.toNat t13 * 1) = some (.int .i64 t19) ∧
    (∃ (t1ab t1ao : Nat), t1a = some ⟨t1ab, t1ao, none⟩ ∧
    ((0 : Int) ≤ t13 ∧ t13 < (t1n : Int) ∧
    (∃ (t23 : Int), ldc H t1ab (t1ao + Int.toNat t13 * 1) = some (.int .i64 t23) ∧
    (if t19 = t23 then
    (L0 ((some ⟨t0ab, t0ao, none⟩)) t0n t0k ((some ⟨t1ab, t1ao, none⟩)) t1n t1k t12 ((IntKind.wrap .i64 (t13 + 1))) H r)
    else
    (r = (.bool false, H)))))))))
    else
    (r = (.bool true, H))) :
    L0 t0a t0n t0k t1a t1n t1k t12 t13 H r := by
  intro J
  show KR _ _ _ (.lp (sub B [1, 1, 0, 1, 0, 0]) :: S2) _ _ _
  refine KR.go 6 [(0, .slice t0a t0n t0k), (1, .slice t1a t1n t1k), (12, .int .i64 t12), (13, .int .i64 t13), (14, .bool (decide (t13 < t12)))] 26 (s' := (.code (sub B [1, 1, 0, 1, 0, 0, 1, 0]) :: S4)) fun J => ?_
  by_cases c2 : t13 < t12
  · replace h := iteT c2 h
    refine KR.bb true (vB (dT c2)) ?_
    refine KR.go 9 [(0, .slice t0a t0n t0k), (1, .slice t1a t1n t1k), (5, .int .i64 t13), (12, .int .i64 t12), (13, .int .i64 t13)] 26 (s' := (.code (sub B [1, 1, 0, 1, 0, 0, 1, 1, 0, 0, 1, 0]) :: S7)) fun J => ?_
    refine KR.sd (by kernel_rfl) ?_
    obtain ⟨t0ab, t0ao, rfl, h⟩ := h
    refine KR.go 2 [(0, .slice (some ⟨t0ab, t0ao, none⟩) t0n t0k), (1, .slice t1a t1n t1k), (5, .int .i64 t13), (12, .int .i64 t12), (13, .int .i64 t13), (16, .slice (some ⟨t0ab, t0ao, none⟩) t0n t0k), (17, .int .i64 t13)] 26 (s' := (.reg (opsAt (sub B [1, 1, 0, 1, 0, 0, 1, 1, 0, 0, 1, 0])) [2, 3, 4, 5, 6, 7, 8] :: S7)) fun J => ?_
    obtain ⟨q3, q3x, h⟩ := h
    refine KR.p (one_ix 1 t0ab t0ao (by kernel_rfl) q3 q3x) ?_
    obtain ⟨t19, q4, h⟩ := h
    refine KR.rd (one_ld (by kernel_rfl) q4) ?_
    obtain ⟨t1ab, t1ao, rfl, h⟩ := h
    refine KR.go 2 [(0, .slice (some ⟨t0ab, t0ao, none⟩) t0n t0k), (1, .slice (some ⟨t1ab, t1ao, none⟩) t1n t1k), (12, .int .i64 t12), (13, .int .i64 t13), (19, .int .i64 t19), (20, .slice (some ⟨t1ab, t1ao, none⟩) t1n t1k), (21, .int .i64 t13)] 26 (s' := (.reg (opsAt (sub B [1, 1, 0, 1, 0, 0, 1, 1, 0, 0, 1, 0])) [6, 7, 8] :: S7)) fun J => ?_
    obtain ⟨q5, q5x, h⟩ := h
    refine KR.p (one_ix 1 t1ab t1ao (by kernel_rfl) q5 q5x) ?_
    obtain ⟨t23, q6, h⟩ := h
    refine KR.rd (one_ld (by kernel_rfl) q6) ?_
    refine KR.go 2 [(0, .slice (some ⟨t0ab, t0ao, none⟩) t0n t0k), (1, .slice (some ⟨t1ab, t1ao, none⟩) t1n t1k), (12, .int .i64 t12), (13, .int .i64 t13), (24, .bool (!(t19 == t23)))] 26 (s' := (.code (sub B [1, 1, 0, 1, 0, 0, 1, 1, 0, 0, 1, 1]) :: S6)) fun J => ?_
    by_cases c7 : t19 = t23
    · replace h := iteT c7 h
      refine KR.bb false (vB (nB (eT c7))) ?_
      exact KR.go 6 [(0, .slice (some ⟨t0ab, t0ao, none⟩) t0n t0k), (1, .slice (some ⟨t1ab, t1ao, none⟩) t1n t1k), (12, .int .i64 t12), (13, .int .i64 (IntKind.wrap .i64 (t13 + 1)))] 26 (s' := (.lp (sub B [1, 1, 0, 1, 0, 0]) :: S2)) h
    · replace h := iteF c7 h
      refine KR.bb true (vB (nB (eF c7))) ?_
      refine KR.go 4 [(4, .bool false)] 26 (s' := (.code (sub B [1, 1, 0, 1, 0, 0, 1, 1, 0, 0, 1, 1, 0, 1]) :: S6)) fun J => ?_
      exact KR.fi h
  · replace h := iteF c2 h
    refine KR.bb false (vB (dF c2)) ?_
    refine KR.go 5 [(4, .bool true)] 26 (s' := (.code (sub B [1, 1, 1, 1]) :: [])) fun J => ?_
    exact KR.fi h
theorem call {a0a : Option Addr} {a0n a0k : Nat} {a1a : Option Addr} {a1n a1k : Nat} {H : Heap} {r : Value × Heap} (h :
    if (a0n : Int) = (a1n : Int) then
    (L0 a0a a0n a0k a1a a1n a1k ((a0n : Int)) 0 H r)
    else
    (r = (.bool false, H))) :
    xC Try.prog good 45 [.slice a0a a0n a0k, .slice a1a a1n a1k] H = some r := by
  refine KR.enter (fn := Try.f45) (c := B) (by kernel_rfl) (by kernel_rfl) ?_
  refine KR.go 13 [(0, .slice a0a a0n a0k), (1, .slice a1a a1n a1k), (10, .bool (!((a0n : Int) == (a1n : Int))))] 26 (s' := (.code (sub B [1, 0, 1]) :: S0)) fun J => ?_
  by_cases c1 : (a0n : Int) = (a1n : Int)
  · replace h := iteT c1 h
    refine KR.bb false (vB (nB (eT c1))) ?_
    exact KR.go 10 [(0, .slice a0a a0n a0k), (1, .slice a1a a1n a1k), (12, .int .i64 (a0n : Int)), (13, .int .i64 0)] 26 (s' := (.lp (sub B [1, 1, 0, 1, 0, 0]) :: S2)) h
  · replace h := iteF c1 h
    refine KR.bb true (vB (nB (eF c1))) ?_
    refine KR.go 4 [(4, .bool false)] 26 (s' := (.code (sub B [1, 0, 1, 0, 1]) :: S0)) fun J => ?_
    exact KR.fi h
end F45
/-! #### 46 campanile/campanileref1.Bytes -/
namespace F46
noncomputable def B : Code := bodyOf Try.f46
noncomputable def S0 : List It := (.code (sub B [1, 1, 1]) :: [])
noncomputable def S1 : List It := (.blk 0 :: S0)
noncomputable def S2 : List It := (.lp (sub B [1, 1, 0, 1, 0, 0]) :: S1)
noncomputable def S3 : List It := (.code (sub B [1, 1, 0, 1, 0, 0, 1]) :: S2)
noncomputable def S4 : List It := (.code (sub B [1, 1, 0, 1, 0, 0, 1, 1]) :: S2)
noncomputable def S5 : List It := (.blk 1 :: S4)
def L0 (t0 : Int) (t5a : Option Addr) (t5n t5k : Nat) (t6 : Int) (H : Heap) (r : Value × Heap) : Prop := ∀ J, KR Try.prog good Try.f46 S2 (mat J 23 [(0, .int .u64 t0), (5, .slice t5a t5n t5k), (6, .int .i64 t6)]) H r
theorem L0_step {t0 : Int} {t5a : Option Addr} {t5n t5k : Nat} {t6 : Int} {H : Heap} {r : Value × Heap} (h :
    if t6 ≥ 0 then
    ((0 : Int) ≤ (IntKind.wrap .u64 (IntKind.wrap .i64 (8 * t6))) ∧
    (∃ (H_1 : Heap), H_1 = H.push (.row [.int .u8 (IntKind.wrap .u8 (ishr .u64 t0 (IntKind.wrap .u64 (IntKind.wrap .i64 (8 * t6)))))] true) ∧
    (∃ (t21a : Option Addr) (t21n t21k : Nat) (H_2 : Heap), papp H_1 1 1 t5a t5n t5k (some ⟨H.next, 0, none⟩) 1 (UNK 1) = some ((t21a, t21n, t21k), H_2) ∧
    (L0 t0 t21a t21n t21k ((IntKind.wrap .i64 (t6 - 1))) H_2 r))))
    else
    (r = (.slice t5a t5n t5k, H))) :
    L0 t0 t5a t5n t5k t6 H r := by
  intro J
  show KR _ _ _ (.lp (sub B [1, 1, 0, 1, 0, 0]) :: S1) _ _ _
  refine KR.go 7 [(0, .int .u64 t0), (5, .slice t5a t5n t5k), (6, .int .i64 t6), (10, .bool (decide (t6 ≥ 0)))] 23 (s' := (.code (sub B [1, 1, 0, 1, 0, 0, 0, 1]) :: S3)) fun J => ?_
  by_cases c1 : t6 ≥ 0
  · replace h := iteT c1 h
    refine KR.bb true (vB (dT c1)) ?_
    refine KR.go 9 [(0, .int .u64 t0), (6, .int .i64 t6), (13, .slice t5a t5n t5k), (14, .int .u64 t0), (17, .int .u64 (IntKind.wrap .u64 (IntKind.wrap .i64 (8 * t6))))] 23 (s' := (.reg (opsAt (sub B [1, 1, 0, 1, 0, 0, 1, 0, 0])) [5, 6, 7, 8, 9] :: S5)) fun J => ?_
    obtain ⟨q2, h⟩ := h
    refine KR.p (one_shr .u64 .u64 t0 (by kernel_rfl) q2) ?_
    refine KR.go 1 [(0, .int .u64 t0), (6, .int .i64 t6), (13, .slice t5a t5n t5k), (19, .int .u8 (IntKind.wrap .u8 (ishr .u64 t0 (IntKind.wrap .u64 (IntKind.wrap .i64 (8 * t6))))))] 23 (s' := (.reg (opsAt (sub B [1, 1, 0, 1, 0, 0, 1, 0, 0])) [7, 8, 9] :: S5)) fun J => ?_
    obtain ⟨H_1, q3, h⟩ := h
    refine KR.mk (w := sRow 1 1 [.int .u8 (IntKind.wrap .u8 (ishr .u64 t0 (IntKind.wrap .u64 (IntKind.wrap .i64 (8 * t6)))))]) (one_al (by kernel_rfl)) q3 ?_
    obtain ⟨t21a, t21n, t21k, H_2, q4, h⟩ := h
    refine KR.se (one_ap 1 1 (by kernel_rfl) q4) ?_
    exact KR.go 8 [(0, .int .u64 t0), (5, .slice t21a t21n t21k), (6, .int .i64 (IntKind.wrap .i64 (t6 - 1)))] 23 (s' := (.lp (sub B [1, 1, 0, 1, 0, 0]) :: S1)) h
  · replace h := iteF c1 h
    refine KR.bb false (vB (dF c1)) ?_
    refine KR.go 6 [(4, .slice t5a t5n t5k)] 23 (s' := (.code (sub B [1, 1, 1, 1]) :: [])) fun J => ?_
    exact KR.fi h
theorem call {a0 a1 : Int} {H : Heap} {r : Value × Heap} (h :
    L0 a0 none 0 0 ((IntKind.wrap .i64 (a1 - 1))) H r) :
    xC Try.prog good 46 [.int .u64 a0, .int .i64 a1] H = some r := by
  refine KR.enter (fn := Try.f46) (c := B) (by kernel_rfl) (by kernel_rfl) ?_
  exact KR.go 17 [(0, .int .u64 a0), (5, .slice none 0 0), (6, .int .i64 (IntKind.wrap .i64 (a1 - 1)))] 23 (s' := (.lp (sub B [1, 1, 0, 1, 0, 0]) :: S1)) h
end F46
/-! #### 53 (*campanile/campanileref1.Reader).U8 -/
namespace F53
noncomputable def B : Code := bodyOf Try.f53
noncomputable def S0 : List It := (.code (sub B [1, 1]) :: [])
theorem call {a0 : Option Addr} {H : Heap} {r : Value × Heap} (h :
    ∃ (t4 : Int) (H_1 : Heap), xC Try.prog good 55 [.pointer a0, .int .i64 1] H = some (.int .u64 t4, H_1) ∧
    (r = (.int .i64 (IntKind.wrap .i64 t4), H_1))) :
    xC Try.prog good 53 [.pointer a0] H = some r := by
  refine KR.enter (fn := Try.f53) (c := B) (by kernel_rfl) (by kernel_rfl) ?_
  refine KR.go 7 [(3, .pointer a0)] 6 (s' := (.reg (opsAt (sub B [1, 0])) [1, 2, 3] :: S0)) fun J => ?_
  obtain ⟨t4, H_1, q1, h⟩ := h
  refine KR.se (one_ca (by kernel_rfl) q1) ?_
  refine KR.go 3 [(2, .int .i64 (IntKind.wrap .i64 t4))] 6 (s' := (.code (sub B [1, 1]) :: [])) fun J => ?_
  exact KR.fi h
end F53
/-! #### 54 (*campanile/campanileref1.Reader).Raw -/
namespace F54
noncomputable def B : Code := bodyOf Try.f54
noncomputable def S0 : List It := (.code (sub B [1, 1, 1]) :: [])
noncomputable def S3 : List It := (.code (sub B [1, 1, 1, 1]) :: [])
noncomputable def S4 : List It := (.code (sub B [1, 1, 1, 1, 1]) :: [])
noncomputable def S1 : List It := (.code (sub B [1, 1, 0, 1]) :: S0)
noncomputable def S2 : List It := (.code (sub B [1, 1, 0, 1, 0, 1]) :: S0)
def L0 (t0b t0o : Nat) (t1 : Int) (t21 : Bool) (H : Heap) (r : Value × Heap) : Prop := ∀ J, KR Try.prog good Try.f54 S1 (mat J 45 [(0, .pointer (some ⟨t0b, t0o, none⟩)), (1, .int .i64 t1), (21, .bool t21)]) H r
theorem L0_step {t0b t0o : Nat} {t1 : Int} {t21 : Bool} {H : Heap} {r : Value × Heap} (h :
    if t21 = true then
    (∃ (H_1 : Heap), stc H t0b (t0o + 1) [.int .i64 2] = some H_1 ∧
    (∃ (H_2 : Heap), stc H_1 t0b t0o [.slice none 0 0] = some H_2 ∧
    (r = (.slice none 0 0, H_2))))
    else
    (∃ (t31a : Option Addr) (t31n t31k : Nat), ldc H t0b t0o = some (.slice t31a t31n t31k) ∧
    (∃ (t33a : Option Addr) (t33n t33k : Nat), psl 1 t31a t31n t31k none (some t1) none = some (t33a, t33n, t33k) ∧
    (∃ (t34a : Option Addr) (t34n t34k : Nat) (H_3 : Heap), papp H 1 1 none 0 0 t33a t33n t33k = some ((t34a, t34n, t34k), H_3) ∧
    (∃ (t39a : Option Addr) (t39n t39k : Nat), ldc H_3 t0b t0o = some (.slice t39a t39n t39k) ∧
    (∃ (t41a : Option Addr) (t41n t41k : Nat), psl 1 t39a t39n t39k (some t1) none none = some (t41a, t41n, t41k) ∧
    (∃ (H_4 : Heap), stc H_3 t0b t0o [.slice t41a t41n t41k] = some H_4 ∧
    (r = (.slice t34a t34n t34k, H_4))))))))) :
    L0 t0b t0o t1 t21 H r := by
  intro J
  show KR _ _ _ (.code (sub B [1, 1, 0, 1]) :: S0) _ _ _
  by_cases c4 : t21 = true
  · replace h := iteT c4 h
    refine KR.bb true (vB (bT c4)) ?_
    refine KR.go 6 [(23, .pointer (some ⟨t0b, t0o, none⟩)), (25, .pointer (some ⟨t0b, (t0o + 1), none⟩))] 45 (s' := (.reg (opsAt (sub B [1, 1, 0, 1, 0, 0])) [4, 5, 6, 7] :: S2)) fun J => ?_
    obtain ⟨H_1, q5, h⟩ := h
    refine KR.se (one_st (by kernel_rfl) q5) ?_
    refine KR.go 2 [(27, .pointer (some ⟨t0b, t0o, none⟩))] 45 (s' := (.reg (opsAt (sub B [1, 1, 0, 1, 0, 0])) [7] :: S2)) fun J => ?_
    obtain ⟨H_2, q6, h⟩ := h
    refine KR.se (one_st (by kernel_rfl) q6) ?_
    refine KR.go 5 [(4, .slice none 0 0)] 45 (s' := (.code (sub B [1, 1, 0, 1, 0, 1, 1]) :: S0)) fun J => ?_
    exact KR.fi h
  · replace h := iteF c4 h
    refine KR.bb false (vB (bF c4)) ?_
    refine KR.go 6 [(0, .pointer (some ⟨t0b, t0o, none⟩)), (1, .int .i64 t1), (30, .pointer (some ⟨t0b, t0o, none⟩))] 45 (s' := (.reg (opsAt (sub B [1, 1, 1, 0])) [3, 4, 5, 6, 7] :: S3)) fun J => ?_
    obtain ⟨t31a, t31n, t31k, q7, h⟩ := h
    refine KR.rd (one_ld (by kernel_rfl) q7) ?_
    refine KR.go 1 [(0, .pointer (some ⟨t0b, t0o, none⟩)), (1, .int .i64 t1), (31, .slice t31a t31n t31k), (32, .int .i64 t1)] 45 (s' := (.reg (opsAt (sub B [1, 1, 1, 0])) [5, 6, 7] :: S3)) fun J => ?_
    obtain ⟨t33a, t33n, t33k, q8, h⟩ := h
    refine KR.p (one_sl (by kernel_rfl) q8) ?_
    obtain ⟨t34a, t34n, t34k, H_3, q9, h⟩ := h
    refine KR.se (one_ap 1 1 (by kernel_rfl) q9) ?_
    refine KR.go 8 [(1, .int .i64 t1), (5, .slice t34a t34n t34k), (35, .pointer (some ⟨t0b, t0o, none⟩)), (38, .pointer (some ⟨t0b, t0o, none⟩))] 45 (s' := (.reg (opsAt (sub B [1, 1, 1, 1, 0])) [4, 5, 6, 7, 8, 9] :: S4)) fun J => ?_
    obtain ⟨t39a, t39n, t39k, q10, h⟩ := h
    refine KR.rd (one_ld (by kernel_rfl) q10) ?_
    refine KR.go 1 [(5, .slice t34a t34n t34k), (35, .pointer (some ⟨t0b, t0o, none⟩)), (39, .slice t39a t39n t39k), (40, .int .i64 t1)] 45 (s' := (.reg (opsAt (sub B [1, 1, 1, 1, 0])) [6, 7, 8, 9] :: S4)) fun J => ?_
    obtain ⟨t41a, t41n, t41k, q11, h⟩ := h
    refine KR.p (one_sl (by kernel_rfl) q11) ?_
    refine KR.go 2 [(5, .slice t34a t34n t34k), (41, .slice t41a t41n t41k), (43, .pointer (some ⟨t0b, t0o, none⟩))] 45 (s' := (.reg (opsAt (sub B [1, 1, 1, 1, 0])) [9] :: S4)) fun J => ?_
    obtain ⟨H_4, q12, h⟩ := h
    refine KR.se (one_st (by kernel_rfl) q12) ?_
    refine KR.go 6 [(4, .slice t34a t34n t34k)] 45 (s' := (.code (sub B [1, 1, 1, 1, 1, 1]) :: [])) fun J => ?_
    exact KR.fi h
theorem call {a0 : Option Addr} {a1 : Int} {H : Heap} {r : Value × Heap} (h :
    ∃ (a0b a0o : Nat), a0 = some ⟨a0b, a0o, none⟩ ∧
    (∃ (t11 : Int), ldc H a0b (a0o + 1) = some (.int .i64 t11) ∧
    (if t11 = 0 then
    (∃ (t18a : Option Addr) (t18n t18k : Nat), ldc H a0b a0o = some (.slice t18a t18n t18k) ∧
    (L0 a0b a0o ((imax 0 a1)) ((decide ((imax 0 a1) > (t18n : Int)))) H r))
    else
    (L0 a0b a0o ((imax 0 a1)) true H r)))) :
    xC Try.prog good 54 [.pointer a0, .int .i64 a1] H = some r := by
  refine KR.enter (fn := Try.f54) (c := B) (by kernel_rfl) (by kernel_rfl) ?_
  obtain ⟨a0b, a0o, rfl, h⟩ := h
  refine KR.go 16 [(0, .pointer (some ⟨a0b, a0o, none⟩)), (1, .int .i64 (imax 0 a1)), (10, .pointer (some ⟨a0b, (a0o + 1), none⟩))] 45 (s' := (.reg (opsAt (sub B [1, 1, 0, 0])) [3, 4, 5, 6, 7, 8, 9, 10, 11, 12, 13] :: S1)) fun J => ?_
  obtain ⟨t11, q1, h⟩ := h
  refine KR.rd (one_ld (by kernel_rfl) q1) ?_
  refine KR.go 2 [(0, .pointer (some ⟨a0b, a0o, none⟩)), (1, .int .i64 (imax 0 a1)), (13, .bool (!(t11 == 0)))] 45 (s' := (.reg (opsAt (sub B [1, 1, 0, 0])) [6, 7, 8, 9, 10, 11, 12, 13] :: S1)) fun J => ?_
  by_cases c2 : t11 = 0
  · replace h := iteT c2 h
    refine KR.setV 13 (by kernel_rfl) (nB (eT c2)) ?_
    refine KR.go 4 [(0, .pointer (some ⟨a0b, a0o, none⟩)), (1, .int .i64 (imax 0 a1)), (13, .bool false), (14, .int .i64 (imax 0 a1)), (17, .pointer (some ⟨a0b, a0o, none⟩))] 45 (s' := (.reg (opsAt (sub B [1, 1, 0, 0])) [10, 11, 12, 13] :: S1)) fun J => ?_
    obtain ⟨t18a, t18n, t18k, q3, h⟩ := h
    refine KR.rd (one_ld (by kernel_rfl) q3) ?_
    exact KR.go 4 [(0, .pointer (some ⟨a0b, a0o, none⟩)), (1, .int .i64 (imax 0 a1)), (21, .bool (decide ((imax 0 a1) > (t18n : Int))))] 45 (s' := (.code (sub B [1, 1, 0, 1]) :: S0)) h
  · replace h := iteF c2 h
    refine KR.setV 13 (by kernel_rfl) (nB (eF c2)) ?_
    exact KR.go 9 [(0, .pointer (some ⟨a0b, a0o, none⟩)), (1, .int .i64 (imax 0 a1)), (21, .bool true)] 45 (s' := (.code (sub B [1, 1, 0, 1]) :: S0)) h
end F54
/-! #### 55 (*campanile/campanileref1.Reader).Num -/
namespace F55
noncomputable def B : Code := bodyOf Try.f55
noncomputable def S0 : List It := (.code (sub B [1, 1, 1]) :: [])
noncomputable def S1 : List It := (.code (sub B [1, 1, 0, 1]) :: S0)
noncomputable def S2 : List It := (.blk 0 :: S0)
noncomputable def S3 : List It := (.lp (sub B [1, 1, 0, 1, 0, 0]) :: S2)
noncomputable def S4 : List It := (.code (sub B [1, 1, 0, 1, 0, 0, 1, 1]) :: S3)
noncomputable def S5 : List It := (.code (sub B [1, 1, 0, 1, 0, 0, 1, 1, 1]) :: S3)
noncomputable def S6 : List It := (.blk 1 :: S5)
noncomputable def S7 : List It := (.code (sub B [1, 1, 0, 1, 0, 0, 1, 1, 0, 0, 1]) :: S6)
def L0 (t5 : Int) (t10a : Option Addr) (t10n t10k : Nat) (t11 t12 : Int) (H : Heap) (r : Value × Heap) : Prop := ∀ J, KR Try.prog good Try.f55 S3 (mat J 23 [(5, .int .u64 t5), (10, .slice t10a t10n t10k), (11, .int .i64 t11), (12, .int .i64 t12)]) H r
theorem L0_step {t5 : Int} {t10a : Option Addr} {t10n t10k : Nat} {t11 t12 : Int} {H : Heap} {r : Value × Heap} (h :
    if t12 < t11 then
    (∃ (t10ab t10ao : Nat), t10a = some ⟨t10ab, t10ao, none⟩ ∧
    ((0 : Int) ≤ t12 ∧ t12 < (t10n : Int) ∧
    (∃ (t15 : Int), ldc H t10ab (t10ao + Int.toNat t12 * 1) = some (.int .u8 t15) ∧
    (L0 ((ior .u64 (ishl .u64 t5 8) (IntKind.wrap .u64 t15))) ((some ⟨t10ab, t10ao, none⟩)) t10n t10k t11 ((IntKind.wrap .i64 (t12 + 1))) H r))))
    else
    (r = (.int .u64 t5, H))) :
    L0 t5 t10a t10n t10k t11 t12 H r := by
  intro J
  show KR _ _ _ (.lp (sub B [1, 1, 0, 1, 0, 0]) :: S2) _ _ _
  refine KR.go 6 [(5, .int .u64 t5), (10, .slice t10a t10n t10k), (11, .int .i64 t11), (12, .int .i64 t12), (13, .bool (decide (t12 < t11)))] 23 (s' := (.code (sub B [1, 1, 0, 1, 0, 0, 1, 0]) :: S4)) fun J => ?_
  by_cases c2 : t12 < t11
  · replace h := iteT c2 h
    refine KR.bb true (vB (dT c2)) ?_
    obtain ⟨t10ab, t10ao, rfl, h⟩ := h
    refine KR.go 5 [(5, .int .u64 t5), (10, .slice (some ⟨t10ab, t10ao, none⟩) t10n t10k), (11, .int .i64 t11), (12, .int .i64 t12)] 23 (s' := (.reg (opsAt (sub B [1, 1, 0, 1, 0, 0, 1, 1, 0, 0, 0])) [0, 1, 2] :: S7)) fun J => ?_
    obtain ⟨q3, q3x, h⟩ := h
    refine KR.p (one_ix 1 t10ab t10ao (by kernel_rfl) q3 q3x) ?_
    obtain ⟨t15, q4, h⟩ := h
    refine KR.rd (one_ld (by kernel_rfl) q4) ?_
    exact KR.go 15 [(5, .int .u64 (ior .u64 (ishl .u64 t5 8) (IntKind.wrap .u64 t15))), (10, .slice (some ⟨t10ab, t10ao, none⟩) t10n t10k), (11, .int .i64 t11), (12, .int .i64 (IntKind.wrap .i64 (t12 + 1)))] 23 (s' := (.lp (sub B [1, 1, 0, 1, 0, 0]) :: S2)) h
  · replace h := iteF c2 h
    refine KR.bb false (vB (dF c2)) ?_
    refine KR.go 6 [(4, .int .u64 t5)] 23 (s' := (.code (sub B [1, 1, 1, 1]) :: [])) fun J => ?_
    exact KR.fi h
theorem call {a0 : Option Addr} {a1 : Int} {H : Heap} {r : Value × Heap} (h :
    ∃ (t10a : Option Addr) (t10n t10k : Nat) (H_1 : Heap), xC Try.prog good 54 [.pointer a0, .int .i64 a1] H = some (.slice t10a t10n t10k, H_1) ∧
    (L0 0 t10a t10n t10k ((t10n : Int)) 0 H_1 r)) :
    xC Try.prog good 55 [.pointer a0, .int .i64 a1] H = some r := by
  refine KR.enter (fn := Try.f55) (c := B) (by kernel_rfl) (by kernel_rfl) ?_
  refine KR.go 13 [(5, .int .u64 0), (8, .pointer a0), (9, .int .i64 a1)] 23 (s' := (.reg (opsAt (sub B [1, 1, 0, 0])) [2, 3, 4] :: S1)) fun J => ?_
  obtain ⟨t10a, t10n, t10k, H_1, q1, h⟩ := h
  refine KR.se (one_ca (by kernel_rfl) q1) ?_
  exact KR.go 5 [(5, .int .u64 0), (10, .slice t10a t10n t10k), (11, .int .i64 (t10n : Int)), (12, .int .i64 0)] 23 (s' := (.lp (sub B [1, 1, 0, 1, 0, 0]) :: S2)) h
end F55
/-! #### 56 (*campanile/campanileref1.Reader).End -/
namespace F56
noncomputable def B : Code := bodyOf Try.f56
noncomputable def S0 : List It := (.code (sub B [1, 1]) :: [])
noncomputable def S2 : List It := (.code (sub B [1, 1, 1]) :: [])
noncomputable def S1 : List It := (.code (sub B [1, 0, 1]) :: S0)
def L0 (t0b t0o : Nat) (t15 : Bool) (H : Heap) (r : Value × Heap) : Prop := ∀ J, KR Try.prog good Try.f56 S1 (mat J 20 [(0, .pointer (some ⟨t0b, t0o, none⟩)), (15, .bool t15)]) H r
theorem L0_step {t0b t0o : Nat} {t15 : Bool} {H : Heap} {r : Value × Heap} (h :
    if t15 = true then
    (r = (.int .i64 3, H))
    else
    (∃ (t19 : Int), ldc H t0b (t0o + 1) = some (.int .i64 t19) ∧
    (r = (.int .i64 t19, H)))) :
    L0 t0b t0o t15 H r := by
  intro J
  show KR _ _ _ (.code (sub B [1, 0, 1]) :: S0) _ _ _
  by_cases c4 : t15 = true
  · replace h := iteT c4 h
    refine KR.bb true (vB (bT c4)) ?_
    refine KR.go 4 [(2, .int .i64 3)] 20 (s' := (.code (sub B [1, 0, 1, 0, 1]) :: S0)) fun J => ?_
    exact KR.fi h
  · replace h := iteF c4 h
    refine KR.bb false (vB (bF c4)) ?_
    refine KR.go 6 [(18, .pointer (some ⟨t0b, (t0o + 1), none⟩))] 20 (s' := (.reg (opsAt (sub B [1, 1, 0])) [3, 4] :: S2)) fun J => ?_
    obtain ⟨t19, q5, h⟩ := h
    refine KR.rd (one_ld (by kernel_rfl) q5) ?_
    refine KR.go 2 [(2, .int .i64 t19)] 20 (s' := (.code (sub B [1, 1, 1]) :: [])) fun J => ?_
    exact KR.fi h
theorem call {a0 : Option Addr} {H : Heap} {r : Value × Heap} (h :
    ∃ (a0b a0o : Nat), a0 = some ⟨a0b, a0o, none⟩ ∧
    (∃ (t6 : Int), ldc H a0b (a0o + 1) = some (.int .i64 t6) ∧
    (if t6 = 0 then
    (∃ (t12a : Option Addr) (t12n t12k : Nat), ldc H a0b a0o = some (.slice t12a t12n t12k) ∧
    (L0 a0b a0o ((decide ((t12n : Int) > 0))) H r))
    else
    (L0 a0b a0o false H r)))) :
    xC Try.prog good 56 [.pointer a0] H = some r := by
  refine KR.enter (fn := Try.f56) (c := B) (by kernel_rfl) (by kernel_rfl) ?_
  obtain ⟨a0b, a0o, rfl, h⟩ := h
  refine KR.go 10 [(0, .pointer (some ⟨a0b, a0o, none⟩)), (5, .pointer (some ⟨a0b, (a0o + 1), none⟩))] 20 (s' := (.reg (opsAt (sub B [1, 0, 0])) [3, 4, 5, 6, 7, 8, 9, 10, 11, 12] :: S1)) fun J => ?_
  obtain ⟨t6, q1, h⟩ := h
  refine KR.rd (one_ld (by kernel_rfl) q1) ?_
  refine KR.go 2 [(0, .pointer (some ⟨a0b, a0o, none⟩)), (8, .bool (t6 == 0))] 20 (s' := (.reg (opsAt (sub B [1, 0, 0])) [6, 7, 8, 9, 10, 11, 12] :: S1)) fun J => ?_
  by_cases c2 : t6 = 0
  · replace h := iteT c2 h
    refine KR.setV 8 (by kernel_rfl) (eT c2) ?_
    refine KR.go 3 [(0, .pointer (some ⟨a0b, a0o, none⟩)), (8, .bool true), (11, .pointer (some ⟨a0b, a0o, none⟩))] 20 (s' := (.reg (opsAt (sub B [1, 0, 0])) [9, 10, 11, 12] :: S1)) fun J => ?_
    obtain ⟨t12a, t12n, t12k, q3, h⟩ := h
    refine KR.rd (one_ld (by kernel_rfl) q3) ?_
    exact KR.go 4 [(0, .pointer (some ⟨a0b, a0o, none⟩)), (15, .bool (decide ((t12n : Int) > 0)))] 20 (s' := (.code (sub B [1, 0, 1]) :: S0)) h
  · replace h := iteF c2 h
    refine KR.setV 8 (by kernel_rfl) (eF c2) ?_
    exact KR.go 8 [(0, .pointer (some ⟨a0b, a0o, none⟩)), (15, .bool false)] 20 (s' := (.code (sub B [1, 0, 1]) :: S0)) h
end F56
end Go.X
