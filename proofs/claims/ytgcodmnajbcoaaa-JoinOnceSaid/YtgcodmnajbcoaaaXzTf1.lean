/- The walks of the functions: printed. -/
import Derived.Test.YtgcodmnajbcoaaaXzGf
set_option linter.unusedVariables false
set_option maxRecDepth 100000
namespace Go.X
open Go Go.RowKit Go.Proofs
/-! #### 15 campanile/campanileref18.Asked -/
namespace F15
noncomputable def B : Code := bodyOf Try.f15
noncomputable def S0 : List It := (.code (sub B [1]) :: [])
noncomputable def S1 : List It := (.code (sub B [1, 1]) :: [])
noncomputable def S2 : List It := (.code (sub B [1, 1, 1]) :: [])
noncomputable def S4 : List It := (.code (sub B [1, 1, 1, 1]) :: [])
noncomputable def S6 : List It := (.code (sub B [1, 1, 1, 1, 1]) :: [])
noncomputable def S10 : List It := (.code (sub B [1, 1, 1, 1, 1, 1]) :: [])
noncomputable def S12 : List It := (.code (sub B [1, 1, 1, 1, 1, 1, 1]) :: [])
noncomputable def S14 : List It := (.code (sub B [1, 1, 1, 1, 1, 1, 1, 1]) :: [])
noncomputable def S15 : List It := (.code (sub B [1, 1, 1, 1, 1, 1, 1, 1, 1]) :: [])
noncomputable def S3 : List It := (.code (sub B [1, 1, 0, 1, 0, 1]) :: S2)
noncomputable def S5 : List It := (.code (sub B [1, 1, 1, 0, 1]) :: S4)
noncomputable def S7 : List It := (.code (sub B [1, 1, 1, 1, 0, 1]) :: S6)
noncomputable def S8 : List It := (.code (sub B [1, 1, 1, 0, 1, 0, 1]) :: S4)
noncomputable def S9 : List It := (.code (sub B [1, 1, 1, 1, 0, 1, 0, 1]) :: S6)
noncomputable def S11 : List It := (.code (sub B [1, 1, 1, 1, 1, 0, 1, 0, 1]) :: S10)
noncomputable def S13 : List It := (.code (sub B [1, 1, 1, 1, 1, 1, 0, 1, 0, 1]) :: S12)
def L0 (t0b : Nat) (t0o : Nat) (t0n : Nat) (t0k : Nat) (t2b : Nat) (t2o : Nat) (t4b : Nat) (t4o : Nat) (t44 : Bool) (H : Heap) (r : Value × Heap) : Prop := ∀ J, KR Try.prog good Try.f15 S7 (mat J 76 [(0, .slice (some ⟨t0b, t0o, none⟩) t0n t0k), (2, .pointer (some ⟨t2b, t2o, none⟩)), (4, .pointer (some ⟨t4b, t4o, none⟩)), (44, .bool t44)]) H r
theorem L0_step {t0b : Nat} {t0o : Nat} {t0n : Nat} {t0k : Nat} {t2b : Nat} {t2o : Nat} {t4b : Nat} {t4o : Nat} {t44 : Bool} {H : Heap} {r : Value × Heap} (h :
    if t44 = true then
    (∃ (t45c0 : Int) (t45c1 : Int) (t45c2 : Int) (t45c3 : Int) (t45c4 : Int), ldAll H t4b t4o [.int .i64 t45c0, .int .i64 t45c1, .int .u32 t45c2, .int .u32 t45c3, .int .u32 t45c4] ∧
    (∃ (H_1 : Heap), stc H t2b t2o [.int .i64 t45c0, .int .i64 t45c1, .int .u32 t45c2, .int .u32 t45c3, .int .u32 t45c4] = some H_1 ∧
    (∃ (r2c0 : Int) (r2c1 : Int) (r2c2 : Int) (r2c3 : Int) (r2c4 : Int), ldAll H_1 t2b t2o [.int .i64 r2c0, .int .i64 r2c1, .int .u32 r2c2, .int .u32 r2c3, .int .u32 r2c4] ∧
    (r = (.tuple #[.agg #[.int .i64 r2c0, .int .i64 r2c1, .int .u32 r2c2, .int .u32 r2c3, .int .u32 r2c4], .int .i64 3], H_1)))))
    else
    (if ((t0n : Nat) : Int) < 15 then
    (∃ (t49c0 : Int) (t49c1 : Int) (t49c2 : Int) (t49c3 : Int) (t49c4 : Int), ldAll H t4b t4o [.int .i64 t49c0, .int .i64 t49c1, .int .u32 t49c2, .int .u32 t49c3, .int .u32 t49c4] ∧
    (∃ (H_2 : Heap), stc H t2b t2o [.int .i64 t49c0, .int .i64 t49c1, .int .u32 t49c2, .int .u32 t49c3, .int .u32 t49c4] = some H_2 ∧
    (∃ (r2c0_1 : Int) (r2c1_1 : Int) (r2c2_1 : Int) (r2c3_1 : Int) (r2c4_1 : Int), ldAll H_2 t2b t2o [.int .i64 r2c0_1, .int .i64 r2c1_1, .int .u32 r2c2_1, .int .u32 r2c3_1, .int .u32 r2c4_1] ∧
    (r = (.tuple #[.agg #[.int .i64 r2c0_1, .int .i64 r2c1_1, .int .u32 r2c2_1, .int .u32 r2c3_1, .int .u32 r2c4_1], .int .i64 2], H_2)))))
    else
    (if ((t0n : Nat) : Int) > 15 then
    (∃ (t53c0 : Int) (t53c1 : Int) (t53c2 : Int) (t53c3 : Int) (t53c4 : Int), ldAll H t4b t4o [.int .i64 t53c0, .int .i64 t53c1, .int .u32 t53c2, .int .u32 t53c3, .int .u32 t53c4] ∧
    (∃ (H_3 : Heap), stc H t2b t2o [.int .i64 t53c0, .int .i64 t53c1, .int .u32 t53c2, .int .u32 t53c3, .int .u32 t53c4] = some H_3 ∧
    (∃ (r2c0_2 : Int) (r2c1_2 : Int) (r2c2_2 : Int) (r2c3_2 : Int) (r2c4_2 : Int), ldAll H_3 t2b t2o [.int .i64 r2c0_2, .int .i64 r2c1_2, .int .u32 r2c2_2, .int .u32 r2c3_2, .int .u32 r2c4_2] ∧
    (r = (.tuple #[.agg #[.int .i64 r2c0_2, .int .i64 r2c1_2, .int .u32 r2c2_2, .int .u32 r2c3_2, .int .u32 r2c4_2], .int .i64 3], H_3)))))
    else
    (∃ (t55a : Option Addr) (t55n : Nat) (t55k : Nat), psl 1 (some ⟨t0b, t0o, none⟩) t0n t0k (some 3) none none = some (t55a, t55n, t55k) ∧
    (∃ (H_4 : Heap), H_4 = H.push (.row [.slice t55a t55n t55k, .int .i64 0] true) ∧
    ((0 : Int) ≤ 1 ∧ 1 < ((t0n : Nat) : Int) ∧
    (∃ (t60 : Int), ldc H_4 t0b (t0o + 1) = some (.int .u8 t60) ∧
    ((0 : Int) ≤ 2 ∧ 2 < ((t0n : Nat) : Int) ∧
    (∃ (t64 : Int), ldc H_4 t0b (t0o + 2) = some (.int .u8 t64) ∧
    (∃ (t67 : Int) (H_5 : Heap), xC Try.prog good 36 [.pointer (some ⟨H.next, 0, none⟩), .int .i64 4] H_4 = some (.int .u64 t67, H_5) ∧
    (∃ (t70 : Int) (H_6 : Heap), xC Try.prog good 36 [.pointer (some ⟨H.next, 0, none⟩), .int .i64 4] H_5 = some (.int .u64 t70, H_6) ∧
    (∃ (t73 : Int) (H_7 : Heap), xC Try.prog good 36 [.pointer (some ⟨H.next, 0, none⟩), .int .i64 4] H_6 = some (.int .u64 t73, H_7) ∧
    (∃ (H_8 : Heap), stc H_7 t2b t2o [.int .i64 (IntKind.wrap .i64 t60), .int .i64 (IntKind.wrap .i64 t64), .int .u32 (IntKind.wrap .u32 t67), .int .u32 (IntKind.wrap .u32 t70), .int .u32 (IntKind.wrap .u32 t73)] = some H_8 ∧
    (ldc H_5 t0b (t0o + 1) = some (.int .u8 t60) ∧
    ldc H_6 t0b (t0o + 1) = some (.int .u8 t60) ∧
    ldc H_7 t0b (t0o + 1) = some (.int .u8 t60) ∧
    ldc H_5 t0b (t0o + 2) = some (.int .u8 t64) ∧
    ldc H_6 t0b (t0o + 2) = some (.int .u8 t64) ∧
    ldc H_7 t0b (t0o + 2) = some (.int .u8 t64) ∧
    (∃ (r2c0_3 : Int) (r2c1_3 : Int) (r2c2_3 : Int) (r2c3_3 : Int) (r2c4_3 : Int), ldAll H_8 t2b t2o [.int .i64 r2c0_3, .int .i64 r2c1_3, .int .u32 r2c2_3, .int .u32 r2c3_3, .int .u32 r2c4_3] ∧
    (r = (.tuple #[.agg #[.int .i64 r2c0_3, .int .i64 r2c1_3, .int .u32 r2c2_3, .int .u32 r2c3_3, .int .u32 r2c4_3], .int .i64 0], H_8))))))))))))))))) :
    L0 t0b t0o t0n t0k t2b t2o t4b t4o t44 H r := by
  intro J
  show KR _ _ _ (.code (sub B [1, 1, 1, 1, 0, 1]) :: S6) _ _ _
  by_cases c34 : t44 = true
  · replace h := iteT c34 h
    refine KR.br true (by kernel_rfl) (vB (bT c34)) ?_
    refine KR.run 2 [(2, .pointer (some ⟨t2b, t2o, none⟩)), (4, .pointer (some ⟨t4b, t4o, none⟩))] 76 (s' := (.reg (opsAt (sub B [1, 1, 1, 1, 0, 1, 0, 0])) [0, 1, 2] :: S9)) (by kernel_rfl) fun J => ?_
    obtain ⟨t45c0, t45c1, t45c2, t45c3, t45c4, q35, h⟩ := h
    refine KR.rd (one_ldA (by kernel_rfl) q35) ?_
    obtain ⟨H_1, q36, h⟩ := h
    refine KR.se (one_st (by kernel_rfl) q36) ?_
    refine KR.run 2 [(2, .pointer (some ⟨t2b, t2o, none⟩)), (3, .int .i64 3)] 76 (s' := (.code (sub B [1, 1, 1, 1, 0, 1, 0, 1]) :: S6)) (by kernel_rfl) fun J => ?_
    obtain ⟨r2c0, r2c1, r2c2, r2c3, r2c4, q37, h⟩ := h
    exact KR.finR (l := [.cell 2 25, .tmp 3]) (vs := [.agg #[.int .i64 r2c0, .int .i64 r2c1, .int .u32 r2c2, .int .u32 r2c3, .int .u32 r2c4], .int .i64 3]) (by kernel_rfl) (Res.cellA (by kernel_rfl) q37 (Res.tmp (by kernel_rfl) Res.nil)) (by kernel_rfl) h
  · replace h := iteF c34 h
    refine KR.br false (by kernel_rfl) (vB (bF c34)) ?_
    refine KR.run 8 [(0, .slice (some ⟨t0b, t0o, none⟩) t0n t0k), (2, .pointer (some ⟨t2b, t2o, none⟩)), (4, .pointer (some ⟨t4b, t4o, none⟩)), (48, .bool (decide (((t0n : Nat) : Int) < 15)))] 76 (s' := (.code (sub B [1, 1, 1, 1, 1, 0, 1]) :: S10)) (by kernel_rfl) fun J => ?_
    by_cases c38 : ((t0n : Nat) : Int) < 15
    · replace h := iteT c38 h
      refine KR.br true (by kernel_rfl) (vB (dT c38)) ?_
      refine KR.run 2 [(2, .pointer (some ⟨t2b, t2o, none⟩)), (4, .pointer (some ⟨t4b, t4o, none⟩))] 76 (s' := (.reg (opsAt (sub B [1, 1, 1, 1, 1, 0, 1, 0, 0])) [0, 1, 2] :: S11)) (by kernel_rfl) fun J => ?_
      obtain ⟨t49c0, t49c1, t49c2, t49c3, t49c4, q39, h⟩ := h
      refine KR.rd (one_ldA (by kernel_rfl) q39) ?_
      obtain ⟨H_2, q40, h⟩ := h
      refine KR.se (one_st (by kernel_rfl) q40) ?_
      refine KR.run 2 [(2, .pointer (some ⟨t2b, t2o, none⟩)), (3, .int .i64 2)] 76 (s' := (.code (sub B [1, 1, 1, 1, 1, 0, 1, 0, 1]) :: S10)) (by kernel_rfl) fun J => ?_
      obtain ⟨r2c0_1, r2c1_1, r2c2_1, r2c3_1, r2c4_1, q41, h⟩ := h
      exact KR.finR (l := [.cell 2 25, .tmp 3]) (vs := [.agg #[.int .i64 r2c0_1, .int .i64 r2c1_1, .int .u32 r2c2_1, .int .u32 r2c3_1, .int .u32 r2c4_1], .int .i64 2]) (by kernel_rfl) (Res.cellA (by kernel_rfl) q41 (Res.tmp (by kernel_rfl) Res.nil)) (by kernel_rfl) h
    · replace h := iteF c38 h
      refine KR.br false (by kernel_rfl) (vB (dF c38)) ?_
      refine KR.run 8 [(0, .slice (some ⟨t0b, t0o, none⟩) t0n t0k), (2, .pointer (some ⟨t2b, t2o, none⟩)), (4, .pointer (some ⟨t4b, t4o, none⟩)), (52, .bool (decide (((t0n : Nat) : Int) > 15)))] 76 (s' := (.code (sub B [1, 1, 1, 1, 1, 1, 0, 1]) :: S12)) (by kernel_rfl) fun J => ?_
      by_cases c42 : ((t0n : Nat) : Int) > 15
      · replace h := iteT c42 h
        refine KR.br true (by kernel_rfl) (vB (dT c42)) ?_
        refine KR.run 2 [(2, .pointer (some ⟨t2b, t2o, none⟩)), (4, .pointer (some ⟨t4b, t4o, none⟩))] 76 (s' := (.reg (opsAt (sub B [1, 1, 1, 1, 1, 1, 0, 1, 0, 0])) [0, 1, 2] :: S13)) (by kernel_rfl) fun J => ?_
        obtain ⟨t53c0, t53c1, t53c2, t53c3, t53c4, q43, h⟩ := h
        refine KR.rd (one_ldA (by kernel_rfl) q43) ?_
        obtain ⟨H_3, q44, h⟩ := h
        refine KR.se (one_st (by kernel_rfl) q44) ?_
        refine KR.run 2 [(2, .pointer (some ⟨t2b, t2o, none⟩)), (3, .int .i64 3)] 76 (s' := (.code (sub B [1, 1, 1, 1, 1, 1, 0, 1, 0, 1]) :: S12)) (by kernel_rfl) fun J => ?_
        obtain ⟨r2c0_2, r2c1_2, r2c2_2, r2c3_2, r2c4_2, q45, h⟩ := h
        exact KR.finR (l := [.cell 2 25, .tmp 3]) (vs := [.agg #[.int .i64 r2c0_2, .int .i64 r2c1_2, .int .u32 r2c2_2, .int .u32 r2c3_2, .int .u32 r2c4_2], .int .i64 3]) (by kernel_rfl) (Res.cellA (by kernel_rfl) q45 (Res.tmp (by kernel_rfl) Res.nil)) (by kernel_rfl) h
      · replace h := iteF c42 h
        refine KR.br false (by kernel_rfl) (vB (dF c42)) ?_
        refine KR.run 4 [(0, .slice (some ⟨t0b, t0o, none⟩) t0n t0k), (2, .pointer (some ⟨t2b, t2o, none⟩)), (54, .slice (some ⟨t0b, t0o, none⟩) t0n t0k)] 76 (s' := (.reg (opsAt (sub B [1, 1, 1, 1, 1, 1, 1, 0])) [1, 2, 3, 4] :: S14)) (by kernel_rfl) fun J => ?_
        obtain ⟨t55a, t55n, t55k, q46, h⟩ := h
        refine KR.p (one_sl (by kernel_rfl) q46) ?_
        refine KR.run 1 [(0, .slice (some ⟨t0b, t0o, none⟩) t0n t0k), (2, .pointer (some ⟨t2b, t2o, none⟩)), (56, .agg #[.slice t55a t55n t55k, .int .i64 0])] 76 (s' := (.reg (opsAt (sub B [1, 1, 1, 1, 1, 1, 1, 0])) [3, 4] :: S14)) (by kernel_rfl) fun J => ?_
        obtain ⟨H_4, q47, h⟩ := h
        refine KR.mk (w := pRow [.slice t55a t55n t55k, .int .i64 0]) (one_al (by kernel_rfl)) q47 ?_
        refine KR.run 3 [(0, .slice (some ⟨t0b, t0o, none⟩) t0n t0k), (2, .pointer (some ⟨t2b, t2o, none⟩)), (5, .pointer (some ⟨H.next, 0, none⟩))] 76 (s' := (.code (sub B [1, 1, 1, 1, 1, 1, 1, 1, 0]) :: S15)) (by kernel_rfl) fun J => ?_
        refine KE.start H_4 (by kernel_rfl) (by kernel_rfl) ?_
        refine KE.run 1 [(0, .slice (some ⟨t0b, t0o, none⟩) t0n t0k), (2, .pointer (some ⟨t2b, t2o, none⟩)), (5, .pointer (some ⟨H.next, 0, none⟩)), (58, .slice (some ⟨t0b, t0o, none⟩) t0n t0k)] 76 1 (by kernel_rfl) fun J => ?_
        obtain ⟨q48, q48x, h⟩ := h
        refine KE.p (one_ix 1 t0b t0o (by kernel_rfl) q48 q48x) ?_
        obtain ⟨t60, q49, h⟩ := h
        refine KE.rdF (one_ld (by kernel_rfl) q49) (by kernel_rfl) ?_
        refine KE.run 2 [(2, .pointer (some ⟨t2b, t2o, none⟩)), (5, .pointer (some ⟨H.next, 0, none⟩)), (61, .int .i64 (IntKind.wrap .i64 t60)), (62, .slice (some ⟨t0b, t0o, none⟩) t0n t0k)] 76 5 (by kernel_rfl) fun J => ?_
        obtain ⟨q50, q50x, h⟩ := h
        refine KE.p (one_ix 1 t0b t0o (by kernel_rfl) q50 q50x) ?_
        obtain ⟨t64, q51, h⟩ := h
        refine KE.rdF (one_ld (by kernel_rfl) q51) (by kernel_rfl) ?_
        refine KE.run 2 [(2, .pointer (some ⟨t2b, t2o, none⟩)), (5, .pointer (some ⟨H.next, 0, none⟩)), (61, .int .i64 (IntKind.wrap .i64 t60)), (65, .int .i64 (IntKind.wrap .i64 t64)), (66, .pointer (some ⟨H.next, 0, none⟩))] 76 9 (by kernel_rfl) fun J => ?_
        obtain ⟨t67, H_5, q52, h⟩ := h
        refine KE.se (one_ca (by kernel_rfl) q52) (by kernel_rfl) ?_
        refine KE.run 2 [(2, .pointer (some ⟨t2b, t2o, none⟩)), (5, .pointer (some ⟨H.next, 0, none⟩)), (61, .int .i64 (IntKind.wrap .i64 t60)), (65, .int .i64 (IntKind.wrap .i64 t64)), (68, .int .u32 (IntKind.wrap .u32 t67)), (69, .pointer (some ⟨H.next, 0, none⟩))] 76 12 (by kernel_rfl) fun J => ?_
        obtain ⟨t70, H_6, q53, h⟩ := h
        refine KE.se (one_ca (by kernel_rfl) q53) (by kernel_rfl) ?_
        refine KE.run 2 [(2, .pointer (some ⟨t2b, t2o, none⟩)), (61, .int .i64 (IntKind.wrap .i64 t60)), (65, .int .i64 (IntKind.wrap .i64 t64)), (68, .int .u32 (IntKind.wrap .u32 t67)), (71, .int .u32 (IntKind.wrap .u32 t70)), (72, .pointer (some ⟨H.next, 0, none⟩))] 76 15 (by kernel_rfl) fun J => ?_
        obtain ⟨t73, H_7, q54, h⟩ := h
        refine KE.se (one_ca (by kernel_rfl) q54) (by kernel_rfl) ?_
        refine KE.run 2 [(2, .pointer (some ⟨t2b, t2o, none⟩)), (75, .agg #[.int .i64 (IntKind.wrap .i64 t60), .int .i64 (IntKind.wrap .i64 t64), .int .u32 (IntKind.wrap .u32 t67), .int .u32 (IntKind.wrap .u32 t70), .int .u32 (IntKind.wrap .u32 t73)])] 76 18 (by kernel_rfl) fun J => ?_
        obtain ⟨H_8, q55, h⟩ := h
        refine KE.se (one_st (by kernel_rfl) q55) (by kernel_rfl) ?_
        refine KE.run 1 [(2, .pointer (some ⟨t2b, t2o, none⟩)), (3, .int .i64 0)] 76 20 (by kernel_rfl) fun J => ?_
        obtain ⟨q56, q57, q58, q59, q60, q61, h⟩ := h
        refine KE.fin (H' := H_8) (by kernel_rfl) (rdsS (rdsS (rfl) (rd_ok (Hs := [H_5, H_6, H_7]) (by kernel_rfl) (by kernel_rfl) ⟨one_ld (by kernel_rfl) q56, ⟨one_ld (by kernel_rfl) q57, ⟨one_ld (by kernel_rfl) q58, trivial⟩⟩⟩)) (rd_ok (Hs := [H_5, H_6, H_7]) (by kernel_rfl) (by kernel_rfl) ⟨one_ld (by kernel_rfl) q59, ⟨one_ld (by kernel_rfl) q60, ⟨one_ld (by kernel_rfl) q61, trivial⟩⟩⟩)) (by kernel_rfl) ?_
        refine KR.run 0 [(2, .pointer (some ⟨t2b, t2o, none⟩)), (3, .int .i64 0)] 76 (s' := (.code (sub B [1, 1, 1, 1, 1, 1, 1, 1, 1]) :: [])) (by kernel_rfl) fun J => ?_
        obtain ⟨r2c0_3, r2c1_3, r2c2_3, r2c3_3, r2c4_3, q62, h⟩ := h
        exact KR.finR (l := [.cell 2 25, .tmp 3]) (vs := [.agg #[.int .i64 r2c0_3, .int .i64 r2c1_3, .int .u32 r2c2_3, .int .u32 r2c3_3, .int .u32 r2c4_3], .int .i64 0]) (by kernel_rfl) (Res.cellA (by kernel_rfl) q62 (Res.tmp (by kernel_rfl) Res.nil)) (by kernel_rfl) h
theorem call {a0a : Option Addr} {a0n : Nat} {a0k : Nat} {H : Heap} {r : Value × Heap} (h :
    ∃ (H_1 : Heap), H_1 = H.push (.row [.int .i64 0, .int .i64 0, .int .u32 0, .int .u32 0, .int .u32 0] true) ∧
    (∃ (H_2 : Heap), H_2 = H_1.push (.row [.int .i64 0, .int .i64 0, .int .u32 0, .int .u32 0, .int .u32 0] true) ∧
    (∃ (H_3 : Heap), stc H_2 H_1.next 0 [.int .i64 0, .int .i64 0, .int .u32 0, .int .u32 0, .int .u32 0] = some H_3 ∧
    (if ((a0n : Nat) : Int) = 0 then
    (∃ (t10c0 : Int) (t10c1 : Int) (t10c2 : Int) (t10c3 : Int) (t10c4 : Int), ldAll H_3 H_1.next 0 [.int .i64 t10c0, .int .i64 t10c1, .int .u32 t10c2, .int .u32 t10c3, .int .u32 t10c4] ∧
    (∃ (H_4 : Heap), stc H_3 H.next 0 [.int .i64 t10c0, .int .i64 t10c1, .int .u32 t10c2, .int .u32 t10c3, .int .u32 t10c4] = some H_4 ∧
    (∃ (r2c0 : Int) (r2c1 : Int) (r2c2 : Int) (r2c3 : Int) (r2c4 : Int), ldAll H_4 H.next 0 [.int .i64 r2c0, .int .i64 r2c1, .int .u32 r2c2, .int .u32 r2c3, .int .u32 r2c4] ∧
    (r = (.tuple #[.agg #[.int .i64 r2c0, .int .i64 r2c1, .int .u32 r2c2, .int .u32 r2c3, .int .u32 r2c4], .int .i64 2], H_4)))))
    else
    (∃ (a0ab a0ao : Nat), a0a = some ⟨a0ab, a0ao, none⟩ ∧
    ((0 : Int) ≤ 0 ∧ 0 < ((a0n : Nat) : Int) ∧
    (∃ (t13 : Int), ldc H_3 a0ab a0ao = some (.int .u8 t13) ∧
    (if t13 = 74 then
    (if ((a0n : Nat) : Int) > 1 then
    ((0 : Int) ≤ 1 ∧ 1 < ((a0n : Nat) : Int) ∧
    (∃ (t22 : Int), ldc H_3 a0ab (a0ao + 1) = some (.int .u8 t22) ∧
    (if t22 ≥ 16 then
    (L0 (a0ab) (a0ao) (a0n) (a0k) (H.next) (0) (H_1.next) (0) (true) H_3 r)
    else
    (if ((a0n : Nat) : Int) > 2 then
    ((0 : Int) ≤ 2 ∧ 2 < ((a0n : Nat) : Int) ∧
    (∃ (t32 : Int), ldc H_3 a0ab (a0ao + 2) = some (.int .u8 t32) ∧
    (if t32 ≥ 16 then
    (L0 (a0ab) (a0ao) (a0n) (a0k) (H.next) (0) (H_1.next) (0) (true) H_3 r)
    else
    ((0 : Int) ≤ 2 ∧ 2 < ((a0n : Nat) : Int) ∧
    (∃ (t37 : Int), ldc H_3 a0ab (a0ao + 2) = some (.int .u8 t37) ∧
    ((0 : Int) ≤ 1 ∧ 1 < ((a0n : Nat) : Int) ∧
    (∃ (t40 : Int), ldc H_3 a0ab (a0ao + 1) = some (.int .u8 t40) ∧
    (L0 (a0ab) (a0ao) (a0n) (a0k) (H.next) (0) (H_1.next) (0) ((t37 == t40)) H_3 r))))))))
    else
    (L0 (a0ab) (a0ao) (a0n) (a0k) (H.next) (0) (H_1.next) (0) (false) H_3 r)))))
    else
    (if ((a0n : Nat) : Int) > 2 then
    ((0 : Int) ≤ 2 ∧ 2 < ((a0n : Nat) : Int) ∧
    (∃ (t32_1 : Int), ldc H_3 a0ab (a0ao + 2) = some (.int .u8 t32_1) ∧
    (if t32_1 ≥ 16 then
    (L0 (a0ab) (a0ao) (a0n) (a0k) (H.next) (0) (H_1.next) (0) (true) H_3 r)
    else
    ((0 : Int) ≤ 2 ∧ 2 < ((a0n : Nat) : Int) ∧
    (∃ (t37_1 : Int), ldc H_3 a0ab (a0ao + 2) = some (.int .u8 t37_1) ∧
    ((0 : Int) ≤ 1 ∧ 1 < ((a0n : Nat) : Int) ∧
    (∃ (t40_1 : Int), ldc H_3 a0ab (a0ao + 1) = some (.int .u8 t40_1) ∧
    (L0 (a0ab) (a0ao) (a0n) (a0k) (H.next) (0) (H_1.next) (0) ((t37_1 == t40_1)) H_3 r))))))))
    else
    (L0 (a0ab) (a0ao) (a0n) (a0k) (H.next) (0) (H_1.next) (0) (false) H_3 r)))
    else
    (∃ (t15c0 : Int) (t15c1 : Int) (t15c2 : Int) (t15c3 : Int) (t15c4 : Int), ldAll H_3 H_1.next 0 [.int .i64 t15c0, .int .i64 t15c1, .int .u32 t15c2, .int .u32 t15c3, .int .u32 t15c4] ∧
    (∃ (H_5 : Heap), stc H_3 H.next 0 [.int .i64 t15c0, .int .i64 t15c1, .int .u32 t15c2, .int .u32 t15c3, .int .u32 t15c4] = some H_5 ∧
    (∃ (r2c0_1 : Int) (r2c1_1 : Int) (r2c2_1 : Int) (r2c3_1 : Int) (r2c4_1 : Int), ldAll H_5 H.next 0 [.int .i64 r2c0_1, .int .i64 r2c1_1, .int .u32 r2c2_1, .int .u32 r2c3_1, .int .u32 r2c4_1] ∧
    (r = (.tuple #[.agg #[.int .i64 r2c0_1, .int .i64 r2c1_1, .int .u32 r2c2_1, .int .u32 r2c3_1, .int .u32 r2c4_1], .int .i64 3], H_5))))))))))))) :
    xC Try.prog good 15 [.slice a0a a0n a0k] H = some r := by
  refine KR.enter (fn := Try.f15) (c := B) (by kernel_rfl) (by kernel_rfl) ?_
  refine KR.run 2 [(0, .slice a0a a0n a0k)] 76 (s' := (.reg (opsAt (sub B [0])) [0, 1] :: S0)) (by kernel_rfl) fun J => ?_
  obtain ⟨H_1, q1, h⟩ := h
  refine KR.mk (w := pRow [.int .i64 0, .int .i64 0, .int .u32 0, .int .u32 0, .int .u32 0]) (one_al (by kernel_rfl)) q1 ?_
  refine KR.run 5 [(0, .slice a0a a0n a0k), (2, .pointer (some ⟨H.next, 0, none⟩)), (6, .agg #[.int .i64 0, .int .i64 0, .int .u32 0, .int .u32 0, .int .u32 0])] 76 (s' := (.reg (opsAt (sub B [1, 0])) [1, 2] :: S1)) (by kernel_rfl) fun J => ?_
  obtain ⟨H_2, q2, h⟩ := h
  refine KR.mk (w := pRow [.int .i64 0, .int .i64 0, .int .u32 0, .int .u32 0, .int .u32 0]) (one_al (by kernel_rfl)) q2 ?_
  obtain ⟨H_3, q3, h⟩ := h
  refine KR.se (one_st (by kernel_rfl) q3) ?_
  refine KR.run 8 [(0, .slice a0a a0n a0k), (2, .pointer (some ⟨H.next, 0, none⟩)), (4, .pointer (some ⟨H_1.next, 0, none⟩)), (9, .bool (((a0n : Nat) : Int) == 0))] 76 (s' := (.code (sub B [1, 1, 0, 1]) :: S2)) (by kernel_rfl) fun J => ?_
  by_cases c4 : ((a0n : Nat) : Int) = 0
  · replace h := iteT c4 h
    refine KR.br true (by kernel_rfl) (vB (eT c4)) ?_
    refine KR.run 2 [(2, .pointer (some ⟨H.next, 0, none⟩)), (4, .pointer (some ⟨H_1.next, 0, none⟩))] 76 (s' := (.reg (opsAt (sub B [1, 1, 0, 1, 0, 0])) [0, 1, 2] :: S3)) (by kernel_rfl) fun J => ?_
    obtain ⟨t10c0, t10c1, t10c2, t10c3, t10c4, q5, h⟩ := h
    refine KR.rd (one_ldA (by kernel_rfl) q5) ?_
    obtain ⟨H_4, q6, h⟩ := h
    refine KR.se (one_st (by kernel_rfl) q6) ?_
    refine KR.run 2 [(2, .pointer (some ⟨H.next, 0, none⟩)), (3, .int .i64 2)] 76 (s' := (.code (sub B [1, 1, 0, 1, 0, 1]) :: S2)) (by kernel_rfl) fun J => ?_
    obtain ⟨r2c0, r2c1, r2c2, r2c3, r2c4, q7, h⟩ := h
    exact KR.finR (l := [.cell 2 25, .tmp 3]) (vs := [.agg #[.int .i64 r2c0, .int .i64 r2c1, .int .u32 r2c2, .int .u32 r2c3, .int .u32 r2c4], .int .i64 2]) (by kernel_rfl) (Res.cellA (by kernel_rfl) q7 (Res.tmp (by kernel_rfl) Res.nil)) (by kernel_rfl) h
  · replace h := iteF c4 h
    refine KR.br false (by kernel_rfl) (vB (eF c4)) ?_
    obtain ⟨a0ab, a0ao, rfl, h⟩ := h
    refine KR.run 5 [(0, .slice (some ⟨a0ab, a0ao, none⟩) a0n a0k), (2, .pointer (some ⟨H.next, 0, none⟩)), (4, .pointer (some ⟨H_1.next, 0, none⟩)), (11, .slice (some ⟨a0ab, a0ao, none⟩) a0n a0k)] 76 (s' := (.reg (opsAt (sub B [1, 1, 1, 0, 0])) [1, 2, 3] :: S5)) (by kernel_rfl) fun J => ?_
    obtain ⟨q8, q8x, h⟩ := h
    refine KR.p (one_ix 1 a0ab a0ao (by kernel_rfl) q8 q8x) ?_
    obtain ⟨t13, q9, h⟩ := h
    refine KR.rd (one_ld (by kernel_rfl) q9) ?_
    refine KR.run 2 [(0, .slice (some ⟨a0ab, a0ao, none⟩) a0n a0k), (2, .pointer (some ⟨H.next, 0, none⟩)), (4, .pointer (some ⟨H_1.next, 0, none⟩)), (14, .bool (!(t13 == 74)))] 76 (s' := (.code (sub B [1, 1, 1, 0, 1]) :: S4)) (by kernel_rfl) fun J => ?_
    by_cases c10 : t13 = 74
    · replace h := iteT c10 h
      refine KR.br false (by kernel_rfl) (vB (nB (eT c10))) ?_
      refine KR.run 3 [(0, .slice (some ⟨a0ab, a0ao, none⟩) a0n a0k), (2, .pointer (some ⟨H.next, 0, none⟩)), (4, .pointer (some ⟨H_1.next, 0, none⟩))] 76 (s' := (.code (sub B [1, 1, 1, 1, 0, 0]) :: S7)) (by kernel_rfl) fun J => ?_
      refine KR.sd (by kernel_rfl) ?_
      refine KR.run 4 [(0, .slice (some ⟨a0ab, a0ao, none⟩) a0n a0k), (2, .pointer (some ⟨H.next, 0, none⟩)), (4, .pointer (some ⟨H_1.next, 0, none⟩)), (19, .bool (decide (((a0n : Nat) : Int) > 1)))] 76 (s' := (.reg (opsAt (sub B [1, 1, 1, 1, 0, 0])) [4, 5, 6, 7, 8, 9, 10, 11, 12, 13, 14, 15, 16, 17, 18, 19, 20, 21, 22, 23, 24, 25, 26, 27, 28] :: S7)) (by kernel_rfl) fun J => ?_
      by_cases c11 : ((a0n : Nat) : Int) > 1
      · replace h := iteT c11 h
        refine KR.setV 19 (by kernel_rfl) (dT c11) ?_
        refine KR.run 1 [(0, .slice (some ⟨a0ab, a0ao, none⟩) a0n a0k), (2, .pointer (some ⟨H.next, 0, none⟩)), (4, .pointer (some ⟨H_1.next, 0, none⟩)), (19, .bool true), (20, .slice (some ⟨a0ab, a0ao, none⟩) a0n a0k)] 76 (s' := (.reg (opsAt (sub B [1, 1, 1, 1, 0, 0])) [5, 6, 7, 8, 9, 10, 11, 12, 13, 14, 15, 16, 17, 18, 19, 20, 21, 22, 23, 24, 25, 26, 27, 28] :: S7)) (by kernel_rfl) fun J => ?_
        obtain ⟨q12, q12x, h⟩ := h
        refine KR.p (one_ix 1 a0ab a0ao (by kernel_rfl) q12 q12x) ?_
        obtain ⟨t22, q13, h⟩ := h
        refine KR.rd (one_ld (by kernel_rfl) q13) ?_
        refine KR.run 3 [(0, .slice (some ⟨a0ab, a0ao, none⟩) a0n a0k), (2, .pointer (some ⟨H.next, 0, none⟩)), (4, .pointer (some ⟨H_1.next, 0, none⟩)), (25, .bool (decide (t22 ≥ 16)))] 76 (s' := (.reg (opsAt (sub B [1, 1, 1, 1, 0, 0])) [10, 11, 12, 13, 14, 15, 16, 17, 18, 19, 20, 21, 22, 23, 24, 25, 26, 27, 28] :: S7)) (by kernel_rfl) fun J => ?_
        by_cases c14 : t22 ≥ 16
        · replace h := iteT c14 h
          refine KR.setV 25 (by kernel_rfl) (dT c14) ?_
          exact KR.run 20 [(0, .slice (some ⟨a0ab, a0ao, none⟩) a0n a0k), (2, .pointer (some ⟨H.next, 0, none⟩)), (4, .pointer (some ⟨H_1.next, 0, none⟩)), (44, .bool true)] 76 (s' := (.code (sub B [1, 1, 1, 1, 0, 1]) :: S6)) (by kernel_rfl) h
        · replace h := iteF c14 h
          refine KR.setV 25 (by kernel_rfl) (dF c14) ?_
          refine KR.run 4 [(0, .slice (some ⟨a0ab, a0ao, none⟩) a0n a0k), (2, .pointer (some ⟨H.next, 0, none⟩)), (4, .pointer (some ⟨H_1.next, 0, none⟩)), (25, .bool false), (29, .bool (decide (((a0n : Nat) : Int) > 2)))] 76 (s' := (.reg (opsAt (sub B [1, 1, 1, 1, 0, 0])) [14, 15, 16, 17, 18, 19, 20, 21, 22, 23, 24, 25, 26, 27, 28] :: S7)) (by kernel_rfl) fun J => ?_
          by_cases c15 : ((a0n : Nat) : Int) > 2
          · replace h := iteT c15 h
            refine KR.setV 29 (by kernel_rfl) (dT c15) ?_
            refine KR.run 1 [(0, .slice (some ⟨a0ab, a0ao, none⟩) a0n a0k), (2, .pointer (some ⟨H.next, 0, none⟩)), (4, .pointer (some ⟨H_1.next, 0, none⟩)), (25, .bool false), (29, .bool true), (30, .slice (some ⟨a0ab, a0ao, none⟩) a0n a0k)] 76 (s' := (.reg (opsAt (sub B [1, 1, 1, 1, 0, 0])) [15, 16, 17, 18, 19, 20, 21, 22, 23, 24, 25, 26, 27, 28] :: S7)) (by kernel_rfl) fun J => ?_
            obtain ⟨q16, q16x, h⟩ := h
            refine KR.p (one_ix 1 a0ab a0ao (by kernel_rfl) q16 q16x) ?_
            obtain ⟨t32, q17, h⟩ := h
            refine KR.rd (one_ld (by kernel_rfl) q17) ?_
            refine KR.run 2 [(0, .slice (some ⟨a0ab, a0ao, none⟩) a0n a0k), (2, .pointer (some ⟨H.next, 0, none⟩)), (4, .pointer (some ⟨H_1.next, 0, none⟩)), (25, .bool false), (29, .bool true), (34, .bool (decide (t32 ≥ 16)))] 76 (s' := (.reg (opsAt (sub B [1, 1, 1, 1, 0, 0])) [19, 20, 21, 22, 23, 24, 25, 26, 27, 28] :: S7)) (by kernel_rfl) fun J => ?_
            by_cases c18 : t32 ≥ 16
            · replace h := iteT c18 h
              refine KR.setV 34 (by kernel_rfl) (dT c18) ?_
              exact KR.run 11 [(0, .slice (some ⟨a0ab, a0ao, none⟩) a0n a0k), (2, .pointer (some ⟨H.next, 0, none⟩)), (4, .pointer (some ⟨H_1.next, 0, none⟩)), (44, .bool true)] 76 (s' := (.code (sub B [1, 1, 1, 1, 0, 1]) :: S6)) (by kernel_rfl) h
            · replace h := iteF c18 h
              refine KR.setV 34 (by kernel_rfl) (dF c18) ?_
              refine KR.run 1 [(0, .slice (some ⟨a0ab, a0ao, none⟩) a0n a0k), (2, .pointer (some ⟨H.next, 0, none⟩)), (4, .pointer (some ⟨H_1.next, 0, none⟩)), (25, .bool false), (29, .bool true), (34, .bool false), (35, .slice (some ⟨a0ab, a0ao, none⟩) a0n a0k)] 76 (s' := (.reg (opsAt (sub B [1, 1, 1, 1, 0, 0])) [20, 21, 22, 23, 24, 25, 26, 27, 28] :: S7)) (by kernel_rfl) fun J => ?_
              obtain ⟨q19, q19x, h⟩ := h
              refine KR.p (one_ix 1 a0ab a0ao (by kernel_rfl) q19 q19x) ?_
              obtain ⟨t37, q20, h⟩ := h
              refine KR.rd (one_ld (by kernel_rfl) q20) ?_
              refine KR.run 1 [(0, .slice (some ⟨a0ab, a0ao, none⟩) a0n a0k), (2, .pointer (some ⟨H.next, 0, none⟩)), (4, .pointer (some ⟨H_1.next, 0, none⟩)), (25, .bool false), (29, .bool true), (34, .bool false), (37, .int .u8 t37), (38, .slice (some ⟨a0ab, a0ao, none⟩) a0n a0k)] 76 (s' := (.reg (opsAt (sub B [1, 1, 1, 1, 0, 0])) [23, 24, 25, 26, 27, 28] :: S7)) (by kernel_rfl) fun J => ?_
              obtain ⟨q21, q21x, h⟩ := h
              refine KR.p (one_ix 1 a0ab a0ao (by kernel_rfl) q21 q21x) ?_
              obtain ⟨t40, q22, h⟩ := h
              refine KR.rd (one_ld (by kernel_rfl) q22) ?_
              exact KR.run 5 [(0, .slice (some ⟨a0ab, a0ao, none⟩) a0n a0k), (2, .pointer (some ⟨H.next, 0, none⟩)), (4, .pointer (some ⟨H_1.next, 0, none⟩)), (44, .bool (t37 == t40))] 76 (s' := (.code (sub B [1, 1, 1, 1, 0, 1]) :: S6)) (by kernel_rfl) h
          · replace h := iteF c15 h
            refine KR.setV 29 (by kernel_rfl) (dF c15) ?_
            exact KR.run 16 [(0, .slice (some ⟨a0ab, a0ao, none⟩) a0n a0k), (2, .pointer (some ⟨H.next, 0, none⟩)), (4, .pointer (some ⟨H_1.next, 0, none⟩)), (44, .bool false)] 76 (s' := (.code (sub B [1, 1, 1, 1, 0, 1]) :: S6)) (by kernel_rfl) h
      · replace h := iteF c11 h
        refine KR.setV 19 (by kernel_rfl) (dF c11) ?_
        refine KR.run 10 [(0, .slice (some ⟨a0ab, a0ao, none⟩) a0n a0k), (2, .pointer (some ⟨H.next, 0, none⟩)), (4, .pointer (some ⟨H_1.next, 0, none⟩)), (25, .bool false), (29, .bool (decide (((a0n : Nat) : Int) > 2)))] 76 (s' := (.reg (opsAt (sub B [1, 1, 1, 1, 0, 0])) [14, 15, 16, 17, 18, 19, 20, 21, 22, 23, 24, 25, 26, 27, 28] :: S7)) (by kernel_rfl) fun J => ?_
        by_cases c23 : ((a0n : Nat) : Int) > 2
        · replace h := iteT c23 h
          refine KR.setV 29 (by kernel_rfl) (dT c23) ?_
          refine KR.run 1 [(0, .slice (some ⟨a0ab, a0ao, none⟩) a0n a0k), (2, .pointer (some ⟨H.next, 0, none⟩)), (4, .pointer (some ⟨H_1.next, 0, none⟩)), (25, .bool false), (29, .bool true), (30, .slice (some ⟨a0ab, a0ao, none⟩) a0n a0k)] 76 (s' := (.reg (opsAt (sub B [1, 1, 1, 1, 0, 0])) [15, 16, 17, 18, 19, 20, 21, 22, 23, 24, 25, 26, 27, 28] :: S7)) (by kernel_rfl) fun J => ?_
          obtain ⟨q24, q24x, h⟩ := h
          refine KR.p (one_ix 1 a0ab a0ao (by kernel_rfl) q24 q24x) ?_
          obtain ⟨t32_1, q25, h⟩ := h
          refine KR.rd (one_ld (by kernel_rfl) q25) ?_
          refine KR.run 2 [(0, .slice (some ⟨a0ab, a0ao, none⟩) a0n a0k), (2, .pointer (some ⟨H.next, 0, none⟩)), (4, .pointer (some ⟨H_1.next, 0, none⟩)), (25, .bool false), (29, .bool true), (34, .bool (decide (t32_1 ≥ 16)))] 76 (s' := (.reg (opsAt (sub B [1, 1, 1, 1, 0, 0])) [19, 20, 21, 22, 23, 24, 25, 26, 27, 28] :: S7)) (by kernel_rfl) fun J => ?_
          by_cases c26 : t32_1 ≥ 16
          · replace h := iteT c26 h
            refine KR.setV 34 (by kernel_rfl) (dT c26) ?_
            exact KR.run 11 [(0, .slice (some ⟨a0ab, a0ao, none⟩) a0n a0k), (2, .pointer (some ⟨H.next, 0, none⟩)), (4, .pointer (some ⟨H_1.next, 0, none⟩)), (44, .bool true)] 76 (s' := (.code (sub B [1, 1, 1, 1, 0, 1]) :: S6)) (by kernel_rfl) h
          · replace h := iteF c26 h
            refine KR.setV 34 (by kernel_rfl) (dF c26) ?_
            refine KR.run 1 [(0, .slice (some ⟨a0ab, a0ao, none⟩) a0n a0k), (2, .pointer (some ⟨H.next, 0, none⟩)), (4, .pointer (some ⟨H_1.next, 0, none⟩)), (25, .bool false), (29, .bool true), (34, .bool false), (35, .slice (some ⟨a0ab, a0ao, none⟩) a0n a0k)] 76 (s' := (.reg (opsAt (sub B [1, 1, 1, 1, 0, 0])) [20, 21, 22, 23, 24, 25, 26, 27, 28] :: S7)) (by kernel_rfl) fun J => ?_
            obtain ⟨q27, q27x, h⟩ := h
            refine KR.p (one_ix 1 a0ab a0ao (by kernel_rfl) q27 q27x) ?_
            obtain ⟨t37_1, q28, h⟩ := h
            refine KR.rd (one_ld (by kernel_rfl) q28) ?_
            refine KR.run 1 [(0, .slice (some ⟨a0ab, a0ao, none⟩) a0n a0k), (2, .pointer (some ⟨H.next, 0, none⟩)), (4, .pointer (some ⟨H_1.next, 0, none⟩)), (25, .bool false), (29, .bool true), (34, .bool false), (37, .int .u8 t37_1), (38, .slice (some ⟨a0ab, a0ao, none⟩) a0n a0k)] 76 (s' := (.reg (opsAt (sub B [1, 1, 1, 1, 0, 0])) [23, 24, 25, 26, 27, 28] :: S7)) (by kernel_rfl) fun J => ?_
            obtain ⟨q29, q29x, h⟩ := h
            refine KR.p (one_ix 1 a0ab a0ao (by kernel_rfl) q29 q29x) ?_
            obtain ⟨t40_1, q30, h⟩ := h
            refine KR.rd (one_ld (by kernel_rfl) q30) ?_
            exact KR.run 5 [(0, .slice (some ⟨a0ab, a0ao, none⟩) a0n a0k), (2, .pointer (some ⟨H.next, 0, none⟩)), (4, .pointer (some ⟨H_1.next, 0, none⟩)), (44, .bool (t37_1 == t40_1))] 76 (s' := (.code (sub B [1, 1, 1, 1, 0, 1]) :: S6)) (by kernel_rfl) h
        · replace h := iteF c23 h
          refine KR.setV 29 (by kernel_rfl) (dF c23) ?_
          exact KR.run 16 [(0, .slice (some ⟨a0ab, a0ao, none⟩) a0n a0k), (2, .pointer (some ⟨H.next, 0, none⟩)), (4, .pointer (some ⟨H_1.next, 0, none⟩)), (44, .bool false)] 76 (s' := (.code (sub B [1, 1, 1, 1, 0, 1]) :: S6)) (by kernel_rfl) h
    · replace h := iteF c10 h
      refine KR.br true (by kernel_rfl) (vB (nB (eF c10))) ?_
      refine KR.run 2 [(2, .pointer (some ⟨H.next, 0, none⟩)), (4, .pointer (some ⟨H_1.next, 0, none⟩))] 76 (s' := (.reg (opsAt (sub B [1, 1, 1, 0, 1, 0, 0])) [0, 1, 2] :: S8)) (by kernel_rfl) fun J => ?_
      obtain ⟨t15c0, t15c1, t15c2, t15c3, t15c4, q31, h⟩ := h
      refine KR.rd (one_ldA (by kernel_rfl) q31) ?_
      obtain ⟨H_5, q32, h⟩ := h
      refine KR.se (one_st (by kernel_rfl) q32) ?_
      refine KR.run 2 [(2, .pointer (some ⟨H.next, 0, none⟩)), (3, .int .i64 3)] 76 (s' := (.code (sub B [1, 1, 1, 0, 1, 0, 1]) :: S4)) (by kernel_rfl) fun J => ?_
      obtain ⟨r2c0_1, r2c1_1, r2c2_1, r2c3_1, r2c4_1, q33, h⟩ := h
      exact KR.finR (l := [.cell 2 25, .tmp 3]) (vs := [.agg #[.int .i64 r2c0_1, .int .i64 r2c1_1, .int .u32 r2c2_1, .int .u32 r2c3_1, .int .u32 r2c4_1], .int .i64 3]) (by kernel_rfl) (Res.cellA (by kernel_rfl) q33 (Res.tmp (by kernel_rfl) Res.nil)) (by kernel_rfl) h
end F15
/-! #### 16 campanile/join.Given -/
namespace F16
noncomputable def B : Code := bodyOf Try.f16
noncomputable def S0 : List It := (.code (sub B [1]) :: [])
noncomputable def S1 : List It := (.code (sub B [1, 1]) :: [])
noncomputable def S2 : List It := (.code (sub B [1, 1, 1]) :: [])
noncomputable def S5 : List It := (.code (sub B [1, 1, 1, 1]) :: [])
noncomputable def S3 : List It := (.code (sub B [1, 1, 0, 1]) :: S2)
noncomputable def S4 : List It := (.code (sub B [1, 1, 0, 1, 1, 0, 1]) :: S2)
noncomputable def S6 : List It := (.code (sub B [1, 1, 0, 1, 1]) :: S2)
def L0 (t2b : Nat) (t2o : Nat) (t5 : Int) (t6b : Nat) (t6o : Nat) (t22 : Bool) (H : Heap) (r : Value × Heap) : Prop := ∀ J, KR Try.prog good Try.f16 S6 (mat J 27 [(2, .pointer (some ⟨t2b, t2o, none⟩)), (5, .int .i64 t5), (6, .pointer (some ⟨t6b, t6o, none⟩)), (22, .bool t22)]) H r
theorem L0_step {t2b : Nat} {t2o : Nat} {t5 : Int} {t6b : Nat} {t6o : Nat} {t22 : Bool} {H : Heap} {r : Value × Heap} (h :
    if t22 = true then
    (∃ (t24c0 : Int) (t24c1 : Int) (t24c2 : Int) (t24c3a : Option Addr) (t24c3n : Nat) (t24c3k : Nat) (t24c4 : Int), ldAll H t6b t6o [.int .i64 t24c0, .int .i64 t24c1, .int .u32 t24c2, .slice t24c3a t24c3n t24c3k, .int .u32 t24c4] ∧
    (∃ (H_1 : Heap), stc H t2b t2o [.int .i64 t24c0, .int .i64 t24c1, .int .u32 t24c2, .slice t24c3a t24c3n t24c3k, .int .u32 t24c4] = some H_1 ∧
    (∃ (r2c0 : Int) (r2c1 : Int) (r2c2 : Int) (r2c3a : Option Addr) (r2c3n : Nat) (r2c3k : Nat) (r2c4 : Int), ldAll H_1 t2b t2o [.int .i64 r2c0, .int .i64 r2c1, .int .u32 r2c2, .slice r2c3a r2c3n r2c3k, .int .u32 r2c4] ∧
    (r = (.tuple #[.agg #[.int .i64 r2c0, .int .i64 r2c1, .int .u32 r2c2, .slice r2c3a r2c3n r2c3k, .int .u32 r2c4], .int .i64 0], H_1)))))
    else
    (∃ (H_2 : Heap), stc H t2b t2o [.int .i64 0, .int .i64 0, .int .u32 0, .slice none 0 0, .int .u32 0] = some H_2 ∧
    (∃ (r2c0_1 : Int) (r2c1_1 : Int) (r2c2_1 : Int) (r2c3a_1 : Option Addr) (r2c3n_1 : Nat) (r2c3k_1 : Nat) (r2c4_1 : Int), ldAll H_2 t2b t2o [.int .i64 r2c0_1, .int .i64 r2c1_1, .int .u32 r2c2_1, .slice r2c3a_1 r2c3n_1 r2c3k_1, .int .u32 r2c4_1] ∧
    (r = (.tuple #[.agg #[.int .i64 r2c0_1, .int .i64 r2c1_1, .int .u32 r2c2_1, .slice r2c3a_1 r2c3n_1 r2c3k_1, .int .u32 r2c4_1], .int .i64 t5], H_2))))) :
    L0 t2b t2o t5 t6b t6o t22 H r := by
  intro J
  show KR _ _ _ (.code (sub B [1, 1, 0, 1, 1]) :: S2) _ _ _
  by_cases c11 : t22 = true
  · replace h := iteT c11 h
    refine KR.br true (by kernel_rfl) (vB (bT c11)) ?_
    refine KR.run 3 [(2, .pointer (some ⟨t2b, t2o, none⟩)), (23, .pointer (some ⟨t6b, t6o, none⟩))] 27 (s' := (.reg (opsAt (sub B [1, 1, 0, 1, 1, 0, 0])) [1, 2, 3] :: S4)) (by kernel_rfl) fun J => ?_
    obtain ⟨t24c0, t24c1, t24c2, t24c3a, t24c3n, t24c3k, t24c4, q12, h⟩ := h
    refine KR.rd (one_ldA (by kernel_rfl) q12) ?_
    obtain ⟨H_1, q13, h⟩ := h
    refine KR.se (one_st (by kernel_rfl) q13) ?_
    refine KR.run 2 [(2, .pointer (some ⟨t2b, t2o, none⟩)), (3, .int .i64 0)] 27 (s' := (.code (sub B [1, 1, 0, 1, 1, 0, 1]) :: S2)) (by kernel_rfl) fun J => ?_
    obtain ⟨r2c0, r2c1, r2c2, r2c3a, r2c3n, r2c3k, r2c4, q14, h⟩ := h
    exact KR.finR (l := [.cell 2 28, .tmp 3]) (vs := [.agg #[.int .i64 r2c0, .int .i64 r2c1, .int .u32 r2c2, .slice r2c3a r2c3n r2c3k, .int .u32 r2c4], .int .i64 0]) (by kernel_rfl) (Res.cellA (by kernel_rfl) q14 (Res.tmp (by kernel_rfl) Res.nil)) (by kernel_rfl) h
  · replace h := iteF c11 h
    refine KR.br false (by kernel_rfl) (vB (bF c11)) ?_
    refine KR.run 5 [(2, .pointer (some ⟨t2b, t2o, none⟩)), (25, .agg #[.int .i64 0, .int .i64 0, .int .u32 0, .slice none 0 0, .int .u32 0]), (26, .int .i64 t5)] 27 (s' := (.reg (opsAt (sub B [1, 1, 1, 0])) [2, 3] :: S5)) (by kernel_rfl) fun J => ?_
    obtain ⟨H_2, q15, h⟩ := h
    refine KR.se (one_st (by kernel_rfl) q15) ?_
    refine KR.run 2 [(2, .pointer (some ⟨t2b, t2o, none⟩)), (3, .int .i64 t5)] 27 (s' := (.code (sub B [1, 1, 1, 1]) :: [])) (by kernel_rfl) fun J => ?_
    obtain ⟨r2c0_1, r2c1_1, r2c2_1, r2c3a_1, r2c3n_1, r2c3k_1, r2c4_1, q16, h⟩ := h
    exact KR.finR (l := [.cell 2 28, .tmp 3]) (vs := [.agg #[.int .i64 r2c0_1, .int .i64 r2c1_1, .int .u32 r2c2_1, .slice r2c3a_1 r2c3n_1 r2c3k_1, .int .u32 r2c4_1], .int .i64 t5]) (by kernel_rfl) (Res.cellA (by kernel_rfl) q16 (Res.tmp (by kernel_rfl) Res.nil)) (by kernel_rfl) h
theorem call {a0a : Option Addr} {a0n : Nat} {a0k : Nat} {H : Heap} {r : Value × Heap} (h :
    ∃ (H_1 : Heap), H_1 = H.push (.row [.int .i64 0, .int .i64 0, .int .u32 0, .slice none 0 0, .int .u32 0] true) ∧
    (∃ (t10r0 : Value) (t10r1 : Int) (H_2 : Heap), xC Try.prog good 35 [.slice a0a a0n a0k, .int .u8 71] H_1 = some (.tuple #[t10r0, .int .i64 t10r1], H_2) ∧
    ((t10r0 = .nilIface ∧
    (∃ (H_3 : Heap), H_3 = H_2.push (.row [.int .i64 0, .int .i64 0, .int .u32 0, .slice none 0 0, .int .u32 0] true) ∧
    (∃ (H_4 : Heap), stc H_3 H_2.next 0 [.int .i64 0, .int .i64 0, .int .u32 0, .slice none 0 0, .int .u32 0] = some H_4 ∧
    (L0 (H.next) (0) (t10r1) (H_2.next) (0) (false) H_4 r)))) ∨
    (∃ (t10r0t : Nat) (t10r0v : Value), t10r0 = .iface t10r0t t10r0v ∧
    (if t10r0t = 71 then
    (∃ (t15yc0 : Int) (t15yc1 : Int) (t15yc2 : Int) (t15yc3a : Option Addr) (t15yc3n : Nat) (t15yc3k : Nat) (t15yc4 : Int), t10r0v = .agg #[.int .i64 t15yc0, .int .i64 t15yc1, .int .u32 t15yc2, .slice t15yc3a t15yc3n t15yc3k, .int .u32 t15yc4] ∧
    (∃ (H_5 : Heap), H_5 = H_2.push (.row [.int .i64 0, .int .i64 0, .int .u32 0, .slice none 0 0, .int .u32 0] true) ∧
    (∃ (H_6 : Heap), stc H_5 H_2.next 0 [.int .i64 t15yc0, .int .i64 t15yc1, .int .u32 t15yc2, .slice t15yc3a t15yc3n t15yc3k, .int .u32 t15yc4] = some H_6 ∧
    (L0 (H.next) (0) (t10r1) (H_2.next) (0) ((t10r1 == 0)) H_6 r))))
    else
    (∃ (H_7 : Heap), H_7 = H_2.push (.row [.int .i64 0, .int .i64 0, .int .u32 0, .slice none 0 0, .int .u32 0] true) ∧
    (∃ (H_8 : Heap), stc H_7 H_2.next 0 [.int .i64 0, .int .i64 0, .int .u32 0, .slice none 0 0, .int .u32 0] = some H_8 ∧
    (L0 (H.next) (0) (t10r1) (H_2.next) (0) (false) H_8 r)))))))) :
    xC Try.prog good 16 [.slice a0a a0n a0k] H = some r := by
  refine KR.enter (fn := Try.f16) (c := B) (by kernel_rfl) (by kernel_rfl) ?_
  refine KR.run 2 [(0, .slice a0a a0n a0k)] 27 (s' := (.reg (opsAt (sub B [0])) [0, 1] :: S0)) (by kernel_rfl) fun J => ?_
  obtain ⟨H_1, q1, h⟩ := h
  refine KR.mk (w := pRow [.int .i64 0, .int .i64 0, .int .u32 0, .slice none 0 0, .int .u32 0]) (one_al (by kernel_rfl)) q1 ?_
  refine KR.run 5 [(2, .pointer (some ⟨H.next, 0, none⟩)), (9, .slice a0a a0n a0k)] 27 (s' := (.reg (opsAt (sub B [1, 0])) [1, 2, 3, 4, 5, 6] :: S1)) (by kernel_rfl) fun J => ?_
  obtain ⟨t10r0, t10r1, H_2, q2, h⟩ := h
  refine KR.se (one_ca (by kernel_rfl) q2) ?_
  rcases h with ⟨rfl, h⟩ | ⟨t10r0t, t10r0v, rfl, h⟩
  · refine KR.run 14 [(2, .pointer (some ⟨H.next, 0, none⟩)), (5, .int .i64 t10r1), (16, .agg #[.int .i64 0, .int .i64 0, .int .u32 0, .slice none 0 0, .int .u32 0]), (17, .bool false)] 27 (s' := (.reg (opsAt (sub B [1, 1, 0, 0])) [5, 6, 7] :: S3)) (by kernel_rfl) fun J => ?_
    obtain ⟨H_3, q3, h⟩ := h
    refine KR.mk (w := pRow [.int .i64 0, .int .i64 0, .int .u32 0, .slice none 0 0, .int .u32 0]) (one_al (by kernel_rfl)) q3 ?_
    obtain ⟨H_4, q4, h⟩ := h
    refine KR.se (one_st (by kernel_rfl) q4) ?_
    exact KR.run 10 [(2, .pointer (some ⟨H.next, 0, none⟩)), (5, .int .i64 t10r1), (6, .pointer (some ⟨H_2.next, 0, none⟩)), (22, .bool false)] 27 (s' := (.code (sub B [1, 1, 0, 1, 1]) :: S2)) (by kernel_rfl) h
  · refine KR.run 10 [(2, .pointer (some ⟨H.next, 0, none⟩)), (5, .int .i64 t10r1), (14, .iface t10r0t (t10r0v))] 27 (s' := (.reg (opsAt (sub B [1, 1, 0, 0])) [1, 2, 3, 4, 5, 6, 7] :: S3)) (by kernel_rfl) fun J => ?_
    by_cases c6 : t10r0t = 71
    · replace h := iteT c6 h
      subst c6
      obtain ⟨t15yc0, t15yc1, t15yc2, t15yc3a, t15yc3n, t15yc3k, t15yc4, rfl, h⟩ := h
      refine KR.run 4 [(2, .pointer (some ⟨H.next, 0, none⟩)), (5, .int .i64 t10r1), (16, .agg #[.int .i64 t15yc0, .int .i64 t15yc1, .int .u32 t15yc2, .slice t15yc3a t15yc3n t15yc3k, .int .u32 t15yc4]), (17, .bool true)] 27 (s' := (.reg (opsAt (sub B [1, 1, 0, 0])) [5, 6, 7] :: S3)) (by kernel_rfl) fun J => ?_
      obtain ⟨H_5, q7, h⟩ := h
      refine KR.mk (w := pRow [.int .i64 0, .int .i64 0, .int .u32 0, .slice none 0 0, .int .u32 0]) (one_al (by kernel_rfl)) q7 ?_
      obtain ⟨H_6, q8, h⟩ := h
      refine KR.se (one_st (by kernel_rfl) q8) ?_
      exact KR.run 10 [(2, .pointer (some ⟨H.next, 0, none⟩)), (5, .int .i64 t10r1), (6, .pointer (some ⟨H_2.next, 0, none⟩)), (22, .bool (t10r1 == 0))] 27 (s' := (.code (sub B [1, 1, 0, 1, 1]) :: S2)) (by kernel_rfl) h
    · replace h := iteF c6 h
      refine KR.p (one_ta (t := 71) (v := .tuple #[.agg #[.int .i64 0, .int .i64 0, .int .u32 0, .slice none 0 0, .int .u32 0], .bool false]) (by kernel_rfl) c6) ?_
      refine KR.run 3 [(2, .pointer (some ⟨H.next, 0, none⟩)), (5, .int .i64 t10r1), (16, .agg #[.int .i64 0, .int .i64 0, .int .u32 0, .slice none 0 0, .int .u32 0]), (17, .bool false)] 27 (s' := (.reg (opsAt (sub B [1, 1, 0, 0])) [5, 6, 7] :: S3)) (by kernel_rfl) fun J => ?_
      obtain ⟨H_7, q9, h⟩ := h
      refine KR.mk (w := pRow [.int .i64 0, .int .i64 0, .int .u32 0, .slice none 0 0, .int .u32 0]) (one_al (by kernel_rfl)) q9 ?_
      obtain ⟨H_8, q10, h⟩ := h
      refine KR.se (one_st (by kernel_rfl) q10) ?_
      exact KR.run 10 [(2, .pointer (some ⟨H.next, 0, none⟩)), (5, .int .i64 t10r1), (6, .pointer (some ⟨H_2.next, 0, none⟩)), (22, .bool false)] 27 (s' := (.code (sub B [1, 1, 0, 1, 1]) :: S2)) (by kernel_rfl) h
end F16
/-! #### 17 campanile/campanileref18.Given -/
namespace F17
noncomputable def B : Code := bodyOf Try.f17
noncomputable def S0 : List It := (.code (sub B [1]) :: [])
noncomputable def S1 : List It := (.code (sub B [1, 1]) :: [])
noncomputable def S2 : List It := (.code (sub B [1, 1, 1]) :: [])
noncomputable def S3 : List It := (.code (sub B [1, 1, 1, 1]) :: [])
noncomputable def S4 : List It := (.code (sub B [1, 1, 1, 1, 1]) :: [])
noncomputable def S7 : List It := (.code (sub B [1, 1, 1, 1, 1, 1]) :: [])
noncomputable def S8 : List It := (.code (sub B [1, 1, 1, 1, 1, 1, 1]) :: [])
noncomputable def S11 : List It := (.code (sub B [1, 1, 1, 1, 1, 1, 1, 1]) :: [])
noncomputable def S12 : List It := (.code (sub B [1, 1, 1, 1, 1, 1, 1, 1, 1]) :: [])
noncomputable def S13 : List It := (.code (sub B [1, 1, 1, 1, 1, 1, 1, 1, 1, 1]) :: [])
noncomputable def S14 : List It := (.code (sub B [1, 1, 1, 1, 1, 1, 1, 1, 1, 1, 1]) :: [])
noncomputable def S17 : List It := (.code (sub B [1, 1, 1, 1, 1, 1, 1, 1, 1, 1, 1, 1]) :: [])
noncomputable def S30 : List It := (.code (sub B [1, 1, 1, 1, 1, 1, 1, 1, 1, 1, 1, 1, 1]) :: [])
noncomputable def S31 : List It := (.code (sub B [1, 1, 1, 1, 1, 1, 1, 1, 1, 1, 1, 1, 1, 1]) :: [])
noncomputable def S33 : List It := (.code (sub B [1, 1, 1, 1, 1, 1, 1, 1, 1, 1, 1, 1, 1, 1, 1]) :: [])
noncomputable def S5 : List It := (.code (sub B [1, 1, 1, 1, 0, 1]) :: S4)
noncomputable def S6 : List It := (.code (sub B [1, 1, 1, 1, 0, 1, 0, 1]) :: S4)
noncomputable def S9 : List It := (.code (sub B [1, 1, 1, 1, 1, 1, 0, 1]) :: S8)
noncomputable def S10 : List It := (.code (sub B [1, 1, 1, 1, 1, 1, 0, 1, 0, 1]) :: S8)
noncomputable def S15 : List It := (.code (sub B [1, 1, 1, 1, 1, 1, 1, 1, 1, 1, 0, 1]) :: S14)
noncomputable def S16 : List It := (.code (sub B [1, 1, 1, 1, 1, 1, 1, 1, 1, 1, 0, 1, 0, 1]) :: S14)
noncomputable def S18 : List It := (.blk 0 :: S17)
noncomputable def S32 : List It := (.code (sub B [1, 1, 1, 1, 1, 1, 1, 1, 1, 1, 1, 1, 1, 0, 1]) :: S31)
noncomputable def S34 : List It := (.code (sub B [1, 1, 1, 1, 1, 1, 1, 1, 1, 1, 1, 1, 1, 0, 1, 1, 0, 1]) :: S31)
noncomputable def S35 : List It := (.reg (opsAt (sub B [1, 1, 1, 1, 1, 1, 1, 1, 1, 1, 1, 1, 0])) [0, 1, 2, 3, 4] :: S30)
noncomputable def S19 : List It := (.lp (sub B [1, 1, 1, 1, 1, 1, 1, 1, 1, 1, 1, 0, 1, 0, 0]) :: S18)
noncomputable def S20 : List It := (.code (sub B [1, 1, 1, 1, 1, 1, 1, 1, 1, 1, 1, 0, 1, 0, 0, 1, 1]) :: S19)
noncomputable def S21 : List It := (.code (sub B [1, 1, 1, 1, 1, 1, 1, 1, 1, 1, 1, 0, 1, 0, 0, 1, 1, 1]) :: S19)
noncomputable def S22 : List It := (.blk 1 :: S21)
noncomputable def S23 : List It := (.code (sub B [1, 1, 1, 1, 1, 1, 1, 1, 1, 1, 1, 0, 1, 0, 0, 1, 1, 0, 0, 1]) :: S22)
noncomputable def S24 : List It := (.code (sub B [1, 1, 1, 1, 1, 1, 1, 1, 1, 1, 1, 0, 1, 0, 0, 1, 1, 0, 0, 1, 1]) :: S22)
noncomputable def S26 : List It := (.code (sub B [1, 1, 1, 1, 1, 1, 1, 1, 1, 1, 1, 0, 1, 0, 0, 1, 1, 0, 0, 1, 1, 1]) :: S22)
noncomputable def S27 : List It := (.code (sub B [1, 1, 1, 1, 1, 1, 1, 1, 1, 1, 1, 0, 1, 0, 0, 1, 1, 0, 0, 1, 1, 1, 1]) :: S22)
noncomputable def S25 : List It := (.code (sub B [1, 1, 1, 1, 1, 1, 1, 1, 1, 1, 1, 0, 1, 0, 0, 1, 1, 0, 0, 1, 0, 1]) :: S24)
noncomputable def S28 : List It := (.code (sub B [1, 1, 1, 1, 1, 1, 1, 1, 1, 1, 1, 0, 1, 0, 0, 1, 1, 0, 0, 1, 1, 1, 0, 1]) :: S27)
noncomputable def S29 : List It := (.code (sub B [1, 1, 1, 1, 1, 1, 1, 1, 1, 1, 1, 0, 1, 0, 0, 1, 1, 0, 0, 1, 1, 1, 0, 1, 0, 1]) :: S27)
def L0 (t2b : Nat) (t2o : Nat) (t4b : Nat) (t4o : Nat) (t5b : Nat) (t5o : Nat) (t26 : Bool) (H : Heap) (r : Value × Heap) : Prop := ∀ J, KR Try.prog good Try.f17 S5 (mat J 115 [(2, .pointer (some ⟨t2b, t2o, none⟩)), (4, .pointer (some ⟨t4b, t4o, none⟩)), (5, .pointer (some ⟨t5b, t5o, none⟩)), (26, .bool t26)]) H r
def L1 (t2b : Nat) (t2o : Nat) (t4b : Nat) (t4o : Nat) (t5b : Nat) (t5o : Nat) (t7b : Nat) (t7o : Nat) (t41 : Bool) (H : Heap) (r : Value × Heap) : Prop := ∀ J, KR Try.prog good Try.f17 S9 (mat J 115 [(2, .pointer (some ⟨t2b, t2o, none⟩)), (4, .pointer (some ⟨t4b, t4o, none⟩)), (5, .pointer (some ⟨t5b, t5o, none⟩)), (7, .pointer (some ⟨t7b, t7o, none⟩)), (41, .bool t41)]) H r
def L2 (t2b : Nat) (t2o : Nat) (t4b : Nat) (t4o : Nat) (t5b : Nat) (t5o : Nat) (t7b : Nat) (t7o : Nat) (t8 : Int) (t60 : Bool) (H : Heap) (r : Value × Heap) : Prop := ∀ J, KR Try.prog good Try.f17 S15 (mat J 115 [(2, .pointer (some ⟨t2b, t2o, none⟩)), (4, .pointer (some ⟨t4b, t4o, none⟩)), (5, .pointer (some ⟨t5b, t5o, none⟩)), (7, .pointer (some ⟨t7b, t7o, none⟩)), (8, .int .i64 t8), (60, .bool t60)]) H r
def L3 (t2b : Nat) (t2o : Nat) (t4b : Nat) (t4o : Nat) (t5b : Nat) (t5o : Nat) (t7b : Nat) (t7o : Nat) (t62 : Int) (t63 : Int) (H : Heap) (r : Value × Heap) : Prop := ∀ J, KR Try.prog good Try.f17 S19 (mat J 115 [(2, .pointer (some ⟨t2b, t2o, none⟩)), (4, .pointer (some ⟨t4b, t4o, none⟩)), (5, .pointer (some ⟨t5b, t5o, none⟩)), (7, .pointer (some ⟨t7b, t7o, none⟩)), (62, .int .i64 t62), (63, .int .i64 t63)]) H r
def L4 (t2b : Nat) (t2o : Nat) (t4b : Nat) (t4o : Nat) (t5b : Nat) (t5o : Nat) (t7b : Nat) (t7o : Nat) (H : Heap) (r : Value × Heap) : Prop := ∀ J, KR Try.prog good Try.f17 S35 (mat J 115 [(2, .pointer (some ⟨t2b, t2o, none⟩)), (4, .pointer (some ⟨t4b, t4o, none⟩)), (5, .pointer (some ⟨t5b, t5o, none⟩)), (7, .pointer (some ⟨t7b, t7o, none⟩))]) H r
theorem L0_step {t2b : Nat} {t2o : Nat} {t4b : Nat} {t4o : Nat} {t5b : Nat} {t5o : Nat} {t26 : Bool} {H : Heap} {r : Value × Heap} (h :
    if t26 = true then
    (∃ (t27c0 : Int) (t27c1 : Int) (t27c2 : Int) (t27c3a : Option Addr) (t27c3n : Nat) (t27c3k : Nat) (t27c4 : Int), ldAll H t4b t4o [.int .i64 t27c0, .int .i64 t27c1, .int .u32 t27c2, .slice t27c3a t27c3n t27c3k, .int .u32 t27c4] ∧
    (∃ (H_1 : Heap), stc H t2b t2o [.int .i64 t27c0, .int .i64 t27c1, .int .u32 t27c2, .slice t27c3a t27c3n t27c3k, .int .u32 t27c4] = some H_1 ∧
    (∃ (r2c0 : Int) (r2c1 : Int) (r2c2 : Int) (r2c3a : Option Addr) (r2c3n : Nat) (r2c3k : Nat) (r2c4 : Int), ldAll H_1 t2b t2o [.int .i64 r2c0, .int .i64 r2c1, .int .u32 r2c2, .slice r2c3a r2c3n r2c3k, .int .u32 r2c4] ∧
    (r = (.tuple #[.agg #[.int .i64 r2c0, .int .i64 r2c1, .int .u32 r2c2, .slice r2c3a r2c3n r2c3k, .int .u32 r2c4], .int .i64 3], H_1)))))
    else
    (∃ (t29 : Int) (H_2 : Heap), xC Try.prog good 37 [.pointer (some ⟨t5b, t5o, none⟩)] H = some (.int .i64 t29, H_2) ∧
    (∃ (H_3 : Heap), H_3 = H_2.push (.row [.int .i64 0, .int .i64 0, .int .u32 0, .slice none 0 0, .int .u32 0] true) ∧
    (∃ (H_4 : Heap), stc H_3 H_2.next 0 [.int .i64 t29, .int .i64 0, .int .u32 0, .slice none 0 0, .int .u32 0] = some H_4 ∧
    (∃ (t34 : Int), ldc H_4 t5b (t5o + 1) = some (.int .i64 t34) ∧
    (if t34 = 0 then
    (∃ (t38 : Int), ldc H_4 H_2.next 0 = some (.int .i64 t38) ∧
    (∃ (t39 : Bool) (H_5 : Heap), xC Try.prog good 33 [.int .i64 t38] H_4 = some (.bool t39, H_5) ∧
    (L1 (t2b) (t2o) (t4b) (t4o) (t5b) (t5o) (H_2.next) (0) ((!t39)) H_5 r)))
    else
    (L1 (t2b) (t2o) (t4b) (t4o) (t5b) (t5o) (H_2.next) (0) (false) H_4 r))))))) :
    L0 t2b t2o t4b t4o t5b t5o t26 H r := by
  intro J
  show KR _ _ _ (.code (sub B [1, 1, 1, 1, 0, 1]) :: S4) _ _ _
  by_cases c8 : t26 = true
  · replace h := iteT c8 h
    refine KR.br true (by kernel_rfl) (vB (bT c8)) ?_
    refine KR.run 2 [(2, .pointer (some ⟨t2b, t2o, none⟩)), (4, .pointer (some ⟨t4b, t4o, none⟩))] 115 (s' := (.reg (opsAt (sub B [1, 1, 1, 1, 0, 1, 0, 0])) [0, 1, 2] :: S6)) (by kernel_rfl) fun J => ?_
    obtain ⟨t27c0, t27c1, t27c2, t27c3a, t27c3n, t27c3k, t27c4, q9, h⟩ := h
    refine KR.rd (one_ldA (by kernel_rfl) q9) ?_
    obtain ⟨H_1, q10, h⟩ := h
    refine KR.se (one_st (by kernel_rfl) q10) ?_
    refine KR.run 2 [(2, .pointer (some ⟨t2b, t2o, none⟩)), (3, .int .i64 3)] 115 (s' := (.code (sub B [1, 1, 1, 1, 0, 1, 0, 1]) :: S4)) (by kernel_rfl) fun J => ?_
    obtain ⟨r2c0, r2c1, r2c2, r2c3a, r2c3n, r2c3k, r2c4, q11, h⟩ := h
    exact KR.finR (l := [.cell 2 28, .tmp 3]) (vs := [.agg #[.int .i64 r2c0, .int .i64 r2c1, .int .u32 r2c2, .slice r2c3a r2c3n r2c3k, .int .u32 r2c4], .int .i64 3]) (by kernel_rfl) (Res.cellA (by kernel_rfl) q11 (Res.tmp (by kernel_rfl) Res.nil)) (by kernel_rfl) h
  · replace h := iteF c8 h
    refine KR.br false (by kernel_rfl) (vB (bF c8)) ?_
    refine KR.run 4 [(2, .pointer (some ⟨t2b, t2o, none⟩)), (4, .pointer (some ⟨t4b, t4o, none⟩)), (5, .pointer (some ⟨t5b, t5o, none⟩)), (28, .pointer (some ⟨t5b, t5o, none⟩))] 115 (s' := (.reg (opsAt (sub B [1, 1, 1, 1, 1, 0])) [1, 2, 3, 4] :: S7)) (by kernel_rfl) fun J => ?_
    obtain ⟨t29, H_2, q12, h⟩ := h
    refine KR.se (one_ca (by kernel_rfl) q12) ?_
    refine KR.run 1 [(2, .pointer (some ⟨t2b, t2o, none⟩)), (4, .pointer (some ⟨t4b, t4o, none⟩)), (5, .pointer (some ⟨t5b, t5o, none⟩)), (30, .agg #[.int .i64 t29, .int .i64 0, .int .u32 0, .slice none 0 0, .int .u32 0])] 115 (s' := (.reg (opsAt (sub B [1, 1, 1, 1, 1, 0])) [3, 4] :: S7)) (by kernel_rfl) fun J => ?_
    obtain ⟨H_3, q13, h⟩ := h
    refine KR.mk (w := pRow [.int .i64 0, .int .i64 0, .int .u32 0, .slice none 0 0, .int .u32 0]) (one_al (by kernel_rfl)) q13 ?_
    obtain ⟨H_4, q14, h⟩ := h
    refine KR.se (one_st (by kernel_rfl) q14) ?_
    refine KR.run 7 [(2, .pointer (some ⟨t2b, t2o, none⟩)), (4, .pointer (some ⟨t4b, t4o, none⟩)), (5, .pointer (some ⟨t5b, t5o, none⟩)), (7, .pointer (some ⟨H_2.next, 0, none⟩)), (33, .pointer (some ⟨t5b, (t5o + 1), none⟩))] 115 (s' := (.reg (opsAt (sub B [1, 1, 1, 1, 1, 1, 0, 0])) [3, 4, 5, 6, 7, 8, 9, 10] :: S9)) (by kernel_rfl) fun J => ?_
    obtain ⟨t34, q15, h⟩ := h
    refine KR.rd (one_ld (by kernel_rfl) q15) ?_
    refine KR.run 2 [(2, .pointer (some ⟨t2b, t2o, none⟩)), (4, .pointer (some ⟨t4b, t4o, none⟩)), (5, .pointer (some ⟨t5b, t5o, none⟩)), (7, .pointer (some ⟨H_2.next, 0, none⟩)), (36, .bool (t34 == 0))] 115 (s' := (.reg (opsAt (sub B [1, 1, 1, 1, 1, 1, 0, 0])) [6, 7, 8, 9, 10] :: S9)) (by kernel_rfl) fun J => ?_
    by_cases c16 : t34 = 0
    · replace h := iteT c16 h
      refine KR.setV 36 (by kernel_rfl) (eT c16) ?_
      refine KR.run 1 [(2, .pointer (some ⟨t2b, t2o, none⟩)), (4, .pointer (some ⟨t4b, t4o, none⟩)), (5, .pointer (some ⟨t5b, t5o, none⟩)), (7, .pointer (some ⟨H_2.next, 0, none⟩)), (36, .bool true), (37, .pointer (some ⟨H_2.next, 0, none⟩))] 115 (s' := (.reg (opsAt (sub B [1, 1, 1, 1, 1, 1, 0, 0])) [7, 8, 9, 10] :: S9)) (by kernel_rfl) fun J => ?_
      obtain ⟨t38, q17, h⟩ := h
      refine KR.rd (one_ld (by kernel_rfl) q17) ?_
      obtain ⟨t39, H_5, q18, h⟩ := h
      refine KR.se (one_ca (by kernel_rfl) q18) ?_
      exact KR.run 3 [(2, .pointer (some ⟨t2b, t2o, none⟩)), (4, .pointer (some ⟨t4b, t4o, none⟩)), (5, .pointer (some ⟨t5b, t5o, none⟩)), (7, .pointer (some ⟨H_2.next, 0, none⟩)), (41, .bool (!t39))] 115 (s' := (.code (sub B [1, 1, 1, 1, 1, 1, 0, 1]) :: S8)) (by kernel_rfl) h
    · replace h := iteF c16 h
      refine KR.setV 36 (by kernel_rfl) (eF c16) ?_
      exact KR.run 6 [(2, .pointer (some ⟨t2b, t2o, none⟩)), (4, .pointer (some ⟨t4b, t4o, none⟩)), (5, .pointer (some ⟨t5b, t5o, none⟩)), (7, .pointer (some ⟨H_2.next, 0, none⟩)), (41, .bool false)] 115 (s' := (.code (sub B [1, 1, 1, 1, 1, 1, 0, 1]) :: S8)) (by kernel_rfl) h
theorem L1_step {t2b : Nat} {t2o : Nat} {t4b : Nat} {t4o : Nat} {t5b : Nat} {t5o : Nat} {t7b : Nat} {t7o : Nat} {t41 : Bool} {H : Heap} {r : Value × Heap} (h :
    if t41 = true then
    (∃ (t42c0 : Int) (t42c1 : Int) (t42c2 : Int) (t42c3a : Option Addr) (t42c3n : Nat) (t42c3k : Nat) (t42c4 : Int), ldAll H t4b t4o [.int .i64 t42c0, .int .i64 t42c1, .int .u32 t42c2, .slice t42c3a t42c3n t42c3k, .int .u32 t42c4] ∧
    (∃ (H_1 : Heap), stc H t2b t2o [.int .i64 t42c0, .int .i64 t42c1, .int .u32 t42c2, .slice t42c3a t42c3n t42c3k, .int .u32 t42c4] = some H_1 ∧
    (∃ (r2c0 : Int) (r2c1 : Int) (r2c2 : Int) (r2c3a : Option Addr) (r2c3n : Nat) (r2c3k : Nat) (r2c4 : Int), ldAll H_1 t2b t2o [.int .i64 r2c0, .int .i64 r2c1, .int .u32 r2c2, .slice r2c3a r2c3n r2c3k, .int .u32 r2c4] ∧
    (r = (.tuple #[.agg #[.int .i64 r2c0, .int .i64 r2c1, .int .u32 r2c2, .slice r2c3a r2c3n r2c3k, .int .u32 r2c4], .int .i64 3], H_1)))))
    else
    (∃ (t44 : Int) (H_2 : Heap), xC Try.prog good 37 [.pointer (some ⟨t5b, t5o, none⟩)] H = some (.int .i64 t44, H_2) ∧
    (∃ (H_3 : Heap), stc H_2 t7b (t7o + 1) [.int .i64 t44] = some H_3 ∧
    (∃ (t47 : Int) (H_4 : Heap), xC Try.prog good 36 [.pointer (some ⟨t5b, t5o, none⟩), .int .i64 4] H_3 = some (.int .u64 t47, H_4) ∧
    (∃ (H_5 : Heap), stc H_4 t7b (t7o + 2) [.int .u32 (IntKind.wrap .u32 t47)] = some H_5 ∧
    (∃ (t51 : Int) (H_6 : Heap), xC Try.prog good 37 [.pointer (some ⟨t5b, t5o, none⟩)] H_5 = some (.int .i64 t51, H_6) ∧
    (∃ (t55 : Int), ldc H_6 t5b (t5o + 1) = some (.int .i64 t55) ∧
    (if t55 = 0 then
    (L2 (t2b) (t2o) (t4b) (t4o) (t5b) (t5o) (t7b) (t7o) (t51) ((decide (t51 > 8))) H_6 r)
    else
    (L2 (t2b) (t2o) (t4b) (t4o) (t5b) (t5o) (t7b) (t7o) (t51) (false) H_6 r))))))))) :
    L1 t2b t2o t4b t4o t5b t5o t7b t7o t41 H r := by
  intro J
  show KR _ _ _ (.code (sub B [1, 1, 1, 1, 1, 1, 0, 1]) :: S8) _ _ _
  by_cases c19 : t41 = true
  · replace h := iteT c19 h
    refine KR.br true (by kernel_rfl) (vB (bT c19)) ?_
    refine KR.run 2 [(2, .pointer (some ⟨t2b, t2o, none⟩)), (4, .pointer (some ⟨t4b, t4o, none⟩))] 115 (s' := (.reg (opsAt (sub B [1, 1, 1, 1, 1, 1, 0, 1, 0, 0])) [0, 1, 2] :: S10)) (by kernel_rfl) fun J => ?_
    obtain ⟨t42c0, t42c1, t42c2, t42c3a, t42c3n, t42c3k, t42c4, q20, h⟩ := h
    refine KR.rd (one_ldA (by kernel_rfl) q20) ?_
    obtain ⟨H_1, q21, h⟩ := h
    refine KR.se (one_st (by kernel_rfl) q21) ?_
    refine KR.run 2 [(2, .pointer (some ⟨t2b, t2o, none⟩)), (3, .int .i64 3)] 115 (s' := (.code (sub B [1, 1, 1, 1, 1, 1, 0, 1, 0, 1]) :: S8)) (by kernel_rfl) fun J => ?_
    obtain ⟨r2c0, r2c1, r2c2, r2c3a, r2c3n, r2c3k, r2c4, q22, h⟩ := h
    exact KR.finR (l := [.cell 2 28, .tmp 3]) (vs := [.agg #[.int .i64 r2c0, .int .i64 r2c1, .int .u32 r2c2, .slice r2c3a r2c3n r2c3k, .int .u32 r2c4], .int .i64 3]) (by kernel_rfl) (Res.cellA (by kernel_rfl) q22 (Res.tmp (by kernel_rfl) Res.nil)) (by kernel_rfl) h
  · replace h := iteF c19 h
    refine KR.br false (by kernel_rfl) (vB (bF c19)) ?_
    refine KR.run 4 [(2, .pointer (some ⟨t2b, t2o, none⟩)), (4, .pointer (some ⟨t4b, t4o, none⟩)), (5, .pointer (some ⟨t5b, t5o, none⟩)), (7, .pointer (some ⟨t7b, t7o, none⟩)), (43, .pointer (some ⟨t5b, t5o, none⟩))] 115 (s' := (.reg (opsAt (sub B [1, 1, 1, 1, 1, 1, 1, 0])) [1, 2, 3] :: S11)) (by kernel_rfl) fun J => ?_
    obtain ⟨t44, H_2, q23, h⟩ := h
    refine KR.se (one_ca (by kernel_rfl) q23) ?_
    refine KR.run 1 [(2, .pointer (some ⟨t2b, t2o, none⟩)), (4, .pointer (some ⟨t4b, t4o, none⟩)), (5, .pointer (some ⟨t5b, t5o, none⟩)), (7, .pointer (some ⟨t7b, t7o, none⟩)), (44, .int .i64 t44), (45, .pointer (some ⟨t7b, (t7o + 1), none⟩))] 115 (s' := (.reg (opsAt (sub B [1, 1, 1, 1, 1, 1, 1, 0])) [3] :: S11)) (by kernel_rfl) fun J => ?_
    obtain ⟨H_3, q24, h⟩ := h
    refine KR.se (one_st (by kernel_rfl) q24) ?_
    refine KR.run 4 [(2, .pointer (some ⟨t2b, t2o, none⟩)), (4, .pointer (some ⟨t4b, t4o, none⟩)), (5, .pointer (some ⟨t5b, t5o, none⟩)), (7, .pointer (some ⟨t7b, t7o, none⟩)), (46, .pointer (some ⟨t5b, t5o, none⟩))] 115 (s' := (.reg (opsAt (sub B [1, 1, 1, 1, 1, 1, 1, 1, 0])) [1, 2, 3, 4] :: S12)) (by kernel_rfl) fun J => ?_
    obtain ⟨t47, H_4, q25, h⟩ := h
    refine KR.se (one_ca (by kernel_rfl) q25) ?_
    refine KR.run 2 [(2, .pointer (some ⟨t2b, t2o, none⟩)), (4, .pointer (some ⟨t4b, t4o, none⟩)), (5, .pointer (some ⟨t5b, t5o, none⟩)), (7, .pointer (some ⟨t7b, t7o, none⟩)), (48, .int .u32 (IntKind.wrap .u32 t47)), (49, .pointer (some ⟨t7b, (t7o + 2), none⟩))] 115 (s' := (.reg (opsAt (sub B [1, 1, 1, 1, 1, 1, 1, 1, 0])) [4] :: S12)) (by kernel_rfl) fun J => ?_
    obtain ⟨H_5, q26, h⟩ := h
    refine KR.se (one_st (by kernel_rfl) q26) ?_
    refine KR.run 4 [(2, .pointer (some ⟨t2b, t2o, none⟩)), (4, .pointer (some ⟨t4b, t4o, none⟩)), (5, .pointer (some ⟨t5b, t5o, none⟩)), (7, .pointer (some ⟨t7b, t7o, none⟩)), (50, .pointer (some ⟨t5b, t5o, none⟩))] 115 (s' := (.reg (opsAt (sub B [1, 1, 1, 1, 1, 1, 1, 1, 1, 0])) [1, 2] :: S13)) (by kernel_rfl) fun J => ?_
    obtain ⟨t51, H_6, q27, h⟩ := h
    refine KR.se (one_ca (by kernel_rfl) q27) ?_
    refine KR.run 8 [(2, .pointer (some ⟨t2b, t2o, none⟩)), (4, .pointer (some ⟨t4b, t4o, none⟩)), (5, .pointer (some ⟨t5b, t5o, none⟩)), (7, .pointer (some ⟨t7b, t7o, none⟩)), (8, .int .i64 t51), (54, .pointer (some ⟨t5b, (t5o + 1), none⟩))] 115 (s' := (.reg (opsAt (sub B [1, 1, 1, 1, 1, 1, 1, 1, 1, 1, 0, 0])) [3, 4, 5, 6, 7, 8] :: S15)) (by kernel_rfl) fun J => ?_
    obtain ⟨t55, q28, h⟩ := h
    refine KR.rd (one_ld (by kernel_rfl) q28) ?_
    refine KR.run 2 [(2, .pointer (some ⟨t2b, t2o, none⟩)), (4, .pointer (some ⟨t4b, t4o, none⟩)), (5, .pointer (some ⟨t5b, t5o, none⟩)), (7, .pointer (some ⟨t7b, t7o, none⟩)), (8, .int .i64 t51), (57, .bool (t55 == 0))] 115 (s' := (.reg (opsAt (sub B [1, 1, 1, 1, 1, 1, 1, 1, 1, 1, 0, 0])) [6, 7, 8] :: S15)) (by kernel_rfl) fun J => ?_
    by_cases c29 : t55 = 0
    · replace h := iteT c29 h
      refine KR.setV 57 (by kernel_rfl) (eT c29) ?_
      exact KR.run 4 [(2, .pointer (some ⟨t2b, t2o, none⟩)), (4, .pointer (some ⟨t4b, t4o, none⟩)), (5, .pointer (some ⟨t5b, t5o, none⟩)), (7, .pointer (some ⟨t7b, t7o, none⟩)), (8, .int .i64 t51), (60, .bool (decide (t51 > 8)))] 115 (s' := (.code (sub B [1, 1, 1, 1, 1, 1, 1, 1, 1, 1, 0, 1]) :: S14)) (by kernel_rfl) h
    · replace h := iteF c29 h
      refine KR.setV 57 (by kernel_rfl) (eF c29) ?_
      exact KR.run 4 [(2, .pointer (some ⟨t2b, t2o, none⟩)), (4, .pointer (some ⟨t4b, t4o, none⟩)), (5, .pointer (some ⟨t5b, t5o, none⟩)), (7, .pointer (some ⟨t7b, t7o, none⟩)), (8, .int .i64 t51), (60, .bool false)] 115 (s' := (.code (sub B [1, 1, 1, 1, 1, 1, 1, 1, 1, 1, 0, 1]) :: S14)) (by kernel_rfl) h
theorem L2_step {t2b : Nat} {t2o : Nat} {t4b : Nat} {t4o : Nat} {t5b : Nat} {t5o : Nat} {t7b : Nat} {t7o : Nat} {t8 : Int} {t60 : Bool} {H : Heap} {r : Value × Heap} (h :
    if t60 = true then
    (∃ (t61c0 : Int) (t61c1 : Int) (t61c2 : Int) (t61c3a : Option Addr) (t61c3n : Nat) (t61c3k : Nat) (t61c4 : Int), ldAll H t4b t4o [.int .i64 t61c0, .int .i64 t61c1, .int .u32 t61c2, .slice t61c3a t61c3n t61c3k, .int .u32 t61c4] ∧
    (∃ (H_1 : Heap), stc H t2b t2o [.int .i64 t61c0, .int .i64 t61c1, .int .u32 t61c2, .slice t61c3a t61c3n t61c3k, .int .u32 t61c4] = some H_1 ∧
    (∃ (r2c0 : Int) (r2c1 : Int) (r2c2 : Int) (r2c3a : Option Addr) (r2c3n : Nat) (r2c3k : Nat) (r2c4 : Int), ldAll H_1 t2b t2o [.int .i64 r2c0, .int .i64 r2c1, .int .u32 r2c2, .slice r2c3a r2c3n r2c3k, .int .u32 r2c4] ∧
    (r = (.tuple #[.agg #[.int .i64 r2c0, .int .i64 r2c1, .int .u32 r2c2, .slice r2c3a r2c3n r2c3k, .int .u32 r2c4], .int .i64 3], H_1)))))
    else
    (L3 (t2b) (t2o) (t4b) (t4o) (t5b) (t5o) (t7b) (t7o) (t8) 0 H r)) :
    L2 t2b t2o t4b t4o t5b t5o t7b t7o t8 t60 H r := by
  intro J
  show KR _ _ _ (.code (sub B [1, 1, 1, 1, 1, 1, 1, 1, 1, 1, 0, 1]) :: S14) _ _ _
  by_cases c30 : t60 = true
  · replace h := iteT c30 h
    refine KR.br true (by kernel_rfl) (vB (bT c30)) ?_
    refine KR.run 2 [(2, .pointer (some ⟨t2b, t2o, none⟩)), (4, .pointer (some ⟨t4b, t4o, none⟩))] 115 (s' := (.reg (opsAt (sub B [1, 1, 1, 1, 1, 1, 1, 1, 1, 1, 0, 1, 0, 0])) [0, 1, 2] :: S16)) (by kernel_rfl) fun J => ?_
    obtain ⟨t61c0, t61c1, t61c2, t61c3a, t61c3n, t61c3k, t61c4, q31, h⟩ := h
    refine KR.rd (one_ldA (by kernel_rfl) q31) ?_
    obtain ⟨H_1, q32, h⟩ := h
    refine KR.se (one_st (by kernel_rfl) q32) ?_
    refine KR.run 2 [(2, .pointer (some ⟨t2b, t2o, none⟩)), (3, .int .i64 3)] 115 (s' := (.code (sub B [1, 1, 1, 1, 1, 1, 1, 1, 1, 1, 0, 1, 0, 1]) :: S14)) (by kernel_rfl) fun J => ?_
    obtain ⟨r2c0, r2c1, r2c2, r2c3a, r2c3n, r2c3k, r2c4, q33, h⟩ := h
    exact KR.finR (l := [.cell 2 28, .tmp 3]) (vs := [.agg #[.int .i64 r2c0, .int .i64 r2c1, .int .u32 r2c2, .slice r2c3a r2c3n r2c3k, .int .u32 r2c4], .int .i64 3]) (by kernel_rfl) (Res.cellA (by kernel_rfl) q33 (Res.tmp (by kernel_rfl) Res.nil)) (by kernel_rfl) h
  · replace h := iteF c30 h
    refine KR.br false (by kernel_rfl) (vB (bF c30)) ?_
    exact KR.run 9 [(2, .pointer (some ⟨t2b, t2o, none⟩)), (4, .pointer (some ⟨t4b, t4o, none⟩)), (5, .pointer (some ⟨t5b, t5o, none⟩)), (7, .pointer (some ⟨t7b, t7o, none⟩)), (62, .int .i64 t8), (63, .int .i64 0)] 115 (s' := (.lp (sub B [1, 1, 1, 1, 1, 1, 1, 1, 1, 1, 1, 0, 1, 0, 0]) :: S18)) (by kernel_rfl) h
theorem L3_step {t2b : Nat} {t2o : Nat} {t4b : Nat} {t4o : Nat} {t5b : Nat} {t5o : Nat} {t7b : Nat} {t7o : Nat} {t62 : Int} {t63 : Int} {H : Heap} {r : Value × Heap} (h :
    if t63 < t62 then
    (∃ (t66a : Option Addr) (t66n : Nat) (t66k : Nat) (H_1 : Heap), xC Try.prog good 38 [.pointer (some ⟨t5b, t5o, none⟩), .int .i64 5] H = some (.slice t66a t66n t66k, H_1) ∧
    (∃ (t70 : Int), ldc H_1 t5b (t5o + 1) = some (.int .i64 t70) ∧
    (if t70 = 0 then
    (∃ (t66ab t66ao : Nat), t66a = some ⟨t66ab, t66ao, none⟩ ∧
    ((0 : Int) ≤ 0 ∧ 0 < ((t66n : Nat) : Int) ∧
    (∃ (t74 : Int), ldc H_1 t66ab t66ao = some (.int .u8 t74) ∧
    ((0 : Int) ≤ 1 ∧ 1 < ((t66n : Nat) : Int) ∧
    (∃ (t78 : Int), ldc H_1 t66ab (t66ao + 1) = some (.int .u8 t78) ∧
    ((0 : Int) ≤ 2 ∧ 2 < ((t66n : Nat) : Int) ∧
    (∃ (t82 : Int), ldc H_1 t66ab (t66ao + 2) = some (.int .u8 t82) ∧
    ((0 : Int) ≤ 3 ∧ 3 < ((t66n : Nat) : Int) ∧
    (∃ (t86 : Int), ldc H_1 t66ab (t66ao + 3) = some (.int .u8 t86) ∧
    ((0 : Int) ≤ 4 ∧ 4 < ((t66n : Nat) : Int) ∧
    (∃ (t90 : Int), ldc H_1 t66ab (t66ao + 4) = some (.int .u8 t90) ∧
    (∃ (H_2 : Heap), H_2 = H_1.push (.row [.int .i64 0, .int .i64 0, .int .i64 0, .int .i64 0, .int .i64 0] true) ∧
    (∃ (H_3 : Heap), stc H_2 H_1.next 0 [.int .i64 (IntKind.wrap .i64 t74), .int .i64 (IntKind.wrap .i64 t78), .int .i64 (IntKind.wrap .i64 t82), .int .i64 (IntKind.wrap .i64 t86), .int .i64 (IntKind.wrap .i64 t90)] = some H_3 ∧
    (ldc H_2 t66ab t66ao = some (.int .u8 t74) ∧
    ldc H_2 t66ab (t66ao + 1) = some (.int .u8 t78) ∧
    ldc H_2 t66ab (t66ao + 2) = some (.int .u8 t82) ∧
    ldc H_2 t66ab (t66ao + 3) = some (.int .u8 t86) ∧
    ldc H_2 t66ab (t66ao + 4) = some (.int .u8 t90) ∧
    (∃ (t93c0 : Int) (t93c1 : Int) (t93c2 : Int) (t93c3 : Int) (t93c4 : Int), ldAll H_3 H_1.next 0 [.int .i64 t93c0, .int .i64 t93c1, .int .i64 t93c2, .int .i64 t93c3, .int .i64 t93c4] ∧
    (∃ (t94 : Bool) (H_4 : Heap), xC Try.prog good 39 [.agg #[.int .i64 t93c0, .int .i64 t93c1, .int .i64 t93c2, .int .i64 t93c3, .int .i64 t93c4]] H_3 = some (.bool t94, H_4) ∧
    (if t94 = true then
    (∃ (t98a : Option Addr) (t98n : Nat) (t98k : Nat), ldc H_4 t7b (t7o + 3) = some (.slice t98a t98n t98k) ∧
    (∃ (t99c0 : Int) (t99c1 : Int) (t99c2 : Int) (t99c3 : Int) (t99c4 : Int), ldAll H_4 H_1.next 0 [.int .i64 t99c0, .int .i64 t99c1, .int .i64 t99c2, .int .i64 t99c3, .int .i64 t99c4] ∧
    (∃ (H_5 : Heap), H_5 = H_4.push (.row [.int .i64 t99c0, .int .i64 t99c1, .int .i64 t99c2, .int .i64 t99c3, .int .i64 t99c4] true) ∧
    (∃ (t101a : Option Addr) (t101n : Nat) (t101k : Nat) (H_6 : Heap), papp H_5 5 40 t98a t98n t98k (some ⟨H_4.next, 0, none⟩) 1 (UNK 5) = some ((t101a, t101n, t101k), H_6) ∧
    (∃ (H_7 : Heap), stc H_6 t7b (t7o + 3) [.slice t101a t101n t101k] = some H_7 ∧
    (L3 (t2b) (t2o) (t4b) (t4o) (t5b) (t5o) (t7b) (t7o) (t62) ((IntKind.wrap .i64 (t63 + 1))) H_7 r))))))
    else
    (∃ (t96c0 : Int) (t96c1 : Int) (t96c2 : Int) (t96c3a : Option Addr) (t96c3n : Nat) (t96c3k : Nat) (t96c4 : Int), ldAll H_4 t4b t4o [.int .i64 t96c0, .int .i64 t96c1, .int .u32 t96c2, .slice t96c3a t96c3n t96c3k, .int .u32 t96c4] ∧
    (∃ (H_8 : Heap), stc H_4 t2b t2o [.int .i64 t96c0, .int .i64 t96c1, .int .u32 t96c2, .slice t96c3a t96c3n t96c3k, .int .u32 t96c4] = some H_8 ∧
    (∃ (r2c0 : Int) (r2c1 : Int) (r2c2 : Int) (r2c3a : Option Addr) (r2c3n : Nat) (r2c3k : Nat) (r2c4 : Int), ldAll H_8 t2b t2o [.int .i64 r2c0, .int .i64 r2c1, .int .u32 r2c2, .slice r2c3a r2c3n r2c3k, .int .u32 r2c4] ∧
    (r = (.tuple #[.agg #[.int .i64 r2c0, .int .i64 r2c1, .int .u32 r2c2, .slice r2c3a r2c3n r2c3k, .int .u32 r2c4], .int .i64 3], H_8))))))))))))))))))))))
    else
    (L4 (t2b) (t2o) (t4b) (t4o) (t5b) (t5o) (t7b) (t7o) H_1 r))))
    else
    (L4 (t2b) (t2o) (t4b) (t4o) (t5b) (t5o) (t7b) (t7o) H r)) :
    L3 t2b t2o t4b t4o t5b t5o t7b t7o t62 t63 H r := by
  intro J
  show KR _ _ _ (.lp (sub B [1, 1, 1, 1, 1, 1, 1, 1, 1, 1, 1, 0, 1, 0, 0]) :: S18) _ _ _
  refine KR.run 6 [(2, .pointer (some ⟨t2b, t2o, none⟩)), (4, .pointer (some ⟨t4b, t4o, none⟩)), (5, .pointer (some ⟨t5b, t5o, none⟩)), (7, .pointer (some ⟨t7b, t7o, none⟩)), (62, .int .i64 t62), (63, .int .i64 t63), (64, .bool (decide (t63 < t62)))] 115 (s' := (.code (sub B [1, 1, 1, 1, 1, 1, 1, 1, 1, 1, 1, 0, 1, 0, 0, 1, 0]) :: S20)) (by kernel_rfl) fun J => ?_
  by_cases c34 : t63 < t62
  · replace h := iteT c34 h
    refine KR.br true (by kernel_rfl) (vB (dT c34)) ?_
    refine KR.run 6 [(2, .pointer (some ⟨t2b, t2o, none⟩)), (4, .pointer (some ⟨t4b, t4o, none⟩)), (5, .pointer (some ⟨t5b, t5o, none⟩)), (7, .pointer (some ⟨t7b, t7o, none⟩)), (62, .int .i64 t62), (63, .int .i64 t63), (65, .pointer (some ⟨t5b, t5o, none⟩))] 115 (s' := (.reg (opsAt (sub B [1, 1, 1, 1, 1, 1, 1, 1, 1, 1, 1, 0, 1, 0, 0, 1, 1, 0, 0, 0])) [1, 2] :: S23)) (by kernel_rfl) fun J => ?_
    obtain ⟨t66a, t66n, t66k, H_1, q35, h⟩ := h
    refine KR.se (one_ca (by kernel_rfl) q35) ?_
    refine KR.run 8 [(2, .pointer (some ⟨t2b, t2o, none⟩)), (4, .pointer (some ⟨t4b, t4o, none⟩)), (5, .pointer (some ⟨t5b, t5o, none⟩)), (7, .pointer (some ⟨t7b, t7o, none⟩)), (9, .slice t66a t66n t66k), (62, .int .i64 t62), (63, .int .i64 t63), (69, .pointer (some ⟨t5b, (t5o + 1), none⟩))] 115 (s' := (.reg (opsAt (sub B [1, 1, 1, 1, 1, 1, 1, 1, 1, 1, 1, 0, 1, 0, 0, 1, 1, 0, 0, 1, 0, 0])) [3, 4] :: S25)) (by kernel_rfl) fun J => ?_
    obtain ⟨t70, q36, h⟩ := h
    refine KR.rd (one_ld (by kernel_rfl) q36) ?_
    refine KR.run 2 [(2, .pointer (some ⟨t2b, t2o, none⟩)), (4, .pointer (some ⟨t4b, t4o, none⟩)), (5, .pointer (some ⟨t5b, t5o, none⟩)), (7, .pointer (some ⟨t7b, t7o, none⟩)), (9, .slice t66a t66n t66k), (62, .int .i64 t62), (63, .int .i64 t63), (71, .bool (!(t70 == 0)))] 115 (s' := (.code (sub B [1, 1, 1, 1, 1, 1, 1, 1, 1, 1, 1, 0, 1, 0, 0, 1, 1, 0, 0, 1, 0, 1]) :: S24)) (by kernel_rfl) fun J => ?_
    by_cases c37 : t70 = 0
    · replace h := iteT c37 h
      refine KR.br false (by kernel_rfl) (vB (nB (eT c37))) ?_
      refine KR.run 2 [(2, .pointer (some ⟨t2b, t2o, none⟩)), (4, .pointer (some ⟨t4b, t4o, none⟩)), (5, .pointer (some ⟨t5b, t5o, none⟩)), (7, .pointer (some ⟨t7b, t7o, none⟩)), (9, .slice t66a t66n t66k), (62, .int .i64 t62), (63, .int .i64 t63)] 115 (s' := (.code (sub B [1, 1, 1, 1, 1, 1, 1, 1, 1, 1, 1, 0, 1, 0, 0, 1, 1, 0, 0, 1, 1, 0]) :: S26)) (by kernel_rfl) fun J => ?_
      refine KE.start H_1 (by kernel_rfl) (by kernel_rfl) ?_
      obtain ⟨t66ab, t66ao, rfl, h⟩ := h
      refine KE.run 1 [(2, .pointer (some ⟨t2b, t2o, none⟩)), (4, .pointer (some ⟨t4b, t4o, none⟩)), (5, .pointer (some ⟨t5b, t5o, none⟩)), (7, .pointer (some ⟨t7b, t7o, none⟩)), (9, .slice (some ⟨t66ab, t66ao, none⟩) t66n t66k), (62, .int .i64 t62), (63, .int .i64 t63), (72, .slice (some ⟨t66ab, t66ao, none⟩) t66n t66k)] 115 1 (by kernel_rfl) fun J => ?_
      obtain ⟨q38, q38x, h⟩ := h
      refine KE.p (one_ix 1 t66ab t66ao (by kernel_rfl) q38 q38x) ?_
      obtain ⟨t74, q39, h⟩ := h
      refine KE.rdF (one_ld (by kernel_rfl) q39) (by kernel_rfl) ?_
      refine KE.run 2 [(2, .pointer (some ⟨t2b, t2o, none⟩)), (4, .pointer (some ⟨t4b, t4o, none⟩)), (5, .pointer (some ⟨t5b, t5o, none⟩)), (7, .pointer (some ⟨t7b, t7o, none⟩)), (9, .slice (some ⟨t66ab, t66ao, none⟩) t66n t66k), (62, .int .i64 t62), (63, .int .i64 t63), (75, .int .i64 (IntKind.wrap .i64 t74)), (76, .slice (some ⟨t66ab, t66ao, none⟩) t66n t66k)] 115 5 (by kernel_rfl) fun J => ?_
      obtain ⟨q40, q40x, h⟩ := h
      refine KE.p (one_ix 1 t66ab t66ao (by kernel_rfl) q40 q40x) ?_
      obtain ⟨t78, q41, h⟩ := h
      refine KE.rdF (one_ld (by kernel_rfl) q41) (by kernel_rfl) ?_
      refine KE.run 2 [(2, .pointer (some ⟨t2b, t2o, none⟩)), (4, .pointer (some ⟨t4b, t4o, none⟩)), (5, .pointer (some ⟨t5b, t5o, none⟩)), (7, .pointer (some ⟨t7b, t7o, none⟩)), (9, .slice (some ⟨t66ab, t66ao, none⟩) t66n t66k), (62, .int .i64 t62), (63, .int .i64 t63), (75, .int .i64 (IntKind.wrap .i64 t74)), (79, .int .i64 (IntKind.wrap .i64 t78)), (80, .slice (some ⟨t66ab, t66ao, none⟩) t66n t66k)] 115 9 (by kernel_rfl) fun J => ?_
      obtain ⟨q42, q42x, h⟩ := h
      refine KE.p (one_ix 1 t66ab t66ao (by kernel_rfl) q42 q42x) ?_
      obtain ⟨t82, q43, h⟩ := h
      refine KE.rdF (one_ld (by kernel_rfl) q43) (by kernel_rfl) ?_
      refine KE.run 2 [(2, .pointer (some ⟨t2b, t2o, none⟩)), (4, .pointer (some ⟨t4b, t4o, none⟩)), (5, .pointer (some ⟨t5b, t5o, none⟩)), (7, .pointer (some ⟨t7b, t7o, none⟩)), (9, .slice (some ⟨t66ab, t66ao, none⟩) t66n t66k), (62, .int .i64 t62), (63, .int .i64 t63), (75, .int .i64 (IntKind.wrap .i64 t74)), (79, .int .i64 (IntKind.wrap .i64 t78)), (83, .int .i64 (IntKind.wrap .i64 t82)), (84, .slice (some ⟨t66ab, t66ao, none⟩) t66n t66k)] 115 13 (by kernel_rfl) fun J => ?_
      obtain ⟨q44, q44x, h⟩ := h
      refine KE.p (one_ix 1 t66ab t66ao (by kernel_rfl) q44 q44x) ?_
      obtain ⟨t86, q45, h⟩ := h
      refine KE.rdF (one_ld (by kernel_rfl) q45) (by kernel_rfl) ?_
      refine KE.run 2 [(2, .pointer (some ⟨t2b, t2o, none⟩)), (4, .pointer (some ⟨t4b, t4o, none⟩)), (5, .pointer (some ⟨t5b, t5o, none⟩)), (7, .pointer (some ⟨t7b, t7o, none⟩)), (62, .int .i64 t62), (63, .int .i64 t63), (75, .int .i64 (IntKind.wrap .i64 t74)), (79, .int .i64 (IntKind.wrap .i64 t78)), (83, .int .i64 (IntKind.wrap .i64 t82)), (87, .int .i64 (IntKind.wrap .i64 t86)), (88, .slice (some ⟨t66ab, t66ao, none⟩) t66n t66k)] 115 17 (by kernel_rfl) fun J => ?_
      obtain ⟨q46, q46x, h⟩ := h
      refine KE.p (one_ix 1 t66ab t66ao (by kernel_rfl) q46 q46x) ?_
      obtain ⟨t90, q47, h⟩ := h
      refine KE.rdF (one_ld (by kernel_rfl) q47) (by kernel_rfl) ?_
      refine KE.run 2 [(2, .pointer (some ⟨t2b, t2o, none⟩)), (4, .pointer (some ⟨t4b, t4o, none⟩)), (5, .pointer (some ⟨t5b, t5o, none⟩)), (7, .pointer (some ⟨t7b, t7o, none⟩)), (62, .int .i64 t62), (63, .int .i64 t63), (92, .agg #[.int .i64 (IntKind.wrap .i64 t74), .int .i64 (IntKind.wrap .i64 t78), .int .i64 (IntKind.wrap .i64 t82), .int .i64 (IntKind.wrap .i64 t86), .int .i64 (IntKind.wrap .i64 t90)])] 115 21 (by kernel_rfl) fun J => ?_
      obtain ⟨H_2, q48, h⟩ := h
      refine KE.mk (w := pRow [.int .i64 0, .int .i64 0, .int .i64 0, .int .i64 0, .int .i64 0]) (one_al (by kernel_rfl)) (by kernel_rfl) (by kernel_rfl) q48 ?_
      obtain ⟨H_3, q49, h⟩ := h
      refine KE.se (one_st (by kernel_rfl) q49) (by kernel_rfl) ?_
      obtain ⟨q50, q51, q52, q53, q54, h⟩ := h
      refine KE.fin (H' := H_3) (by kernel_rfl) (rdsS (rdsS (rdsS (rdsS (rdsS (rfl) (rd_ok (Hs := [H_2]) (by kernel_rfl) (by kernel_rfl) ⟨one_ld (by kernel_rfl) q50, trivial⟩)) (rd_ok (Hs := [H_2]) (by kernel_rfl) (by kernel_rfl) ⟨one_ld (by kernel_rfl) q51, trivial⟩)) (rd_ok (Hs := [H_2]) (by kernel_rfl) (by kernel_rfl) ⟨one_ld (by kernel_rfl) q52, trivial⟩)) (rd_ok (Hs := [H_2]) (by kernel_rfl) (by kernel_rfl) ⟨one_ld (by kernel_rfl) q53, trivial⟩)) (rd_ok (Hs := [H_2]) (by kernel_rfl) (by kernel_rfl) ⟨one_ld (by kernel_rfl) q54, trivial⟩)) (by kernel_rfl) ?_
      refine KR.run 3 [(2, .pointer (some ⟨t2b, t2o, none⟩)), (4, .pointer (some ⟨t4b, t4o, none⟩)), (5, .pointer (some ⟨t5b, t5o, none⟩)), (7, .pointer (some ⟨t7b, t7o, none⟩)), (10, .pointer (some ⟨H_1.next, 0, none⟩)), (62, .int .i64 t62), (63, .int .i64 t63)] 115 (s' := (.reg (opsAt (sub B [1, 1, 1, 1, 1, 1, 1, 1, 1, 1, 1, 0, 1, 0, 0, 1, 1, 0, 0, 1, 1, 1, 0, 0])) [0, 1, 2] :: S28)) (by kernel_rfl) fun J => ?_
      obtain ⟨t93c0, t93c1, t93c2, t93c3, t93c4, q55, h⟩ := h
      refine KR.rd (one_ldA (by kernel_rfl) q55) ?_
      obtain ⟨t94, H_4, q56, h⟩ := h
      refine KR.se (one_ca (by kernel_rfl) q56) ?_
      refine KR.run 2 [(2, .pointer (some ⟨t2b, t2o, none⟩)), (4, .pointer (some ⟨t4b, t4o, none⟩)), (5, .pointer (some ⟨t5b, t5o, none⟩)), (7, .pointer (some ⟨t7b, t7o, none⟩)), (10, .pointer (some ⟨H_1.next, 0, none⟩)), (62, .int .i64 t62), (63, .int .i64 t63), (95, .bool (!t94))] 115 (s' := (.code (sub B [1, 1, 1, 1, 1, 1, 1, 1, 1, 1, 1, 0, 1, 0, 0, 1, 1, 0, 0, 1, 1, 1, 0, 1]) :: S27)) (by kernel_rfl) fun J => ?_
      by_cases c57 : t94 = true
      · replace h := iteT c57 h
        refine KR.br false (by kernel_rfl) (vB (nB (bT c57))) ?_
        refine KR.run 3 [(2, .pointer (some ⟨t2b, t2o, none⟩)), (4, .pointer (some ⟨t4b, t4o, none⟩)), (5, .pointer (some ⟨t5b, t5o, none⟩)), (7, .pointer (some ⟨t7b, t7o, none⟩)), (10, .pointer (some ⟨H_1.next, 0, none⟩)), (62, .int .i64 t62), (63, .int .i64 t63), (97, .pointer (some ⟨t7b, (t7o + 3), none⟩))] 115 (s' := (.reg (opsAt (sub B [1, 1, 1, 1, 1, 1, 1, 1, 1, 1, 1, 0, 1, 0, 0, 1, 1, 0, 0, 1, 1, 1, 1])) [1, 2, 3, 4, 5, 6] :: S22)) (by kernel_rfl) fun J => ?_
        obtain ⟨t98a, t98n, t98k, q58, h⟩ := h
        refine KR.rd (one_ld (by kernel_rfl) q58) ?_
        obtain ⟨t99c0, t99c1, t99c2, t99c3, t99c4, q59, h⟩ := h
        refine KR.rd (one_ldA (by kernel_rfl) q59) ?_
        obtain ⟨H_5, q60, h⟩ := h
        refine KR.mk (w := sRow 1 5 [.int .i64 t99c0, .int .i64 t99c1, .int .i64 t99c2, .int .i64 t99c3, .int .i64 t99c4]) (one_al (by kernel_rfl)) q60 ?_
        obtain ⟨t101a, t101n, t101k, H_6, q61, h⟩ := h
        refine KR.se (one_ap 5 40 (by kernel_rfl) q61) ?_
        refine KR.run 1 [(2, .pointer (some ⟨t2b, t2o, none⟩)), (4, .pointer (some ⟨t4b, t4o, none⟩)), (5, .pointer (some ⟨t5b, t5o, none⟩)), (7, .pointer (some ⟨t7b, t7o, none⟩)), (62, .int .i64 t62), (63, .int .i64 t63), (101, .slice t101a t101n t101k), (102, .pointer (some ⟨t7b, (t7o + 3), none⟩))] 115 (s' := (.reg (opsAt (sub B [1, 1, 1, 1, 1, 1, 1, 1, 1, 1, 1, 0, 1, 0, 0, 1, 1, 0, 0, 1, 1, 1, 1])) [6] :: S22)) (by kernel_rfl) fun J => ?_
        obtain ⟨H_7, q62, h⟩ := h
        refine KR.se (one_st (by kernel_rfl) q62) ?_
        exact KR.run 6 [(2, .pointer (some ⟨t2b, t2o, none⟩)), (4, .pointer (some ⟨t4b, t4o, none⟩)), (5, .pointer (some ⟨t5b, t5o, none⟩)), (7, .pointer (some ⟨t7b, t7o, none⟩)), (62, .int .i64 t62), (63, .int .i64 (IntKind.wrap .i64 (t63 + 1)))] 115 (s' := (.lp (sub B [1, 1, 1, 1, 1, 1, 1, 1, 1, 1, 1, 0, 1, 0, 0]) :: S18)) (by kernel_rfl) h
      · replace h := iteF c57 h
        refine KR.br true (by kernel_rfl) (vB (nB (bF c57))) ?_
        refine KR.run 2 [(2, .pointer (some ⟨t2b, t2o, none⟩)), (4, .pointer (some ⟨t4b, t4o, none⟩))] 115 (s' := (.reg (opsAt (sub B [1, 1, 1, 1, 1, 1, 1, 1, 1, 1, 1, 0, 1, 0, 0, 1, 1, 0, 0, 1, 1, 1, 0, 1, 0, 0])) [0, 1, 2] :: S29)) (by kernel_rfl) fun J => ?_
        obtain ⟨t96c0, t96c1, t96c2, t96c3a, t96c3n, t96c3k, t96c4, q63, h⟩ := h
        refine KR.rd (one_ldA (by kernel_rfl) q63) ?_
        obtain ⟨H_8, q64, h⟩ := h
        refine KR.se (one_st (by kernel_rfl) q64) ?_
        refine KR.run 2 [(2, .pointer (some ⟨t2b, t2o, none⟩)), (3, .int .i64 3)] 115 (s' := (.code (sub B [1, 1, 1, 1, 1, 1, 1, 1, 1, 1, 1, 0, 1, 0, 0, 1, 1, 0, 0, 1, 1, 1, 0, 1, 0, 1]) :: S27)) (by kernel_rfl) fun J => ?_
        obtain ⟨r2c0, r2c1, r2c2, r2c3a, r2c3n, r2c3k, r2c4, q65, h⟩ := h
        exact KR.finR (l := [.cell 2 28, .tmp 3]) (vs := [.agg #[.int .i64 r2c0, .int .i64 r2c1, .int .u32 r2c2, .slice r2c3a r2c3n r2c3k, .int .u32 r2c4], .int .i64 3]) (by kernel_rfl) (Res.cellA (by kernel_rfl) q65 (Res.tmp (by kernel_rfl) Res.nil)) (by kernel_rfl) h
    · replace h := iteF c37 h
      refine KR.br true (by kernel_rfl) (vB (nB (eF c37))) ?_
      exact KR.run 3 [(2, .pointer (some ⟨t2b, t2o, none⟩)), (4, .pointer (some ⟨t4b, t4o, none⟩)), (5, .pointer (some ⟨t5b, t5o, none⟩)), (7, .pointer (some ⟨t7b, t7o, none⟩))] 115 (s' := (.reg (opsAt (sub B [1, 1, 1, 1, 1, 1, 1, 1, 1, 1, 1, 1, 0])) [0, 1, 2, 3, 4] :: S30)) (by kernel_rfl) h
  · replace h := iteF c34 h
    refine KR.br false (by kernel_rfl) (vB (dF c34)) ?_
    exact KR.run 3 [(2, .pointer (some ⟨t2b, t2o, none⟩)), (4, .pointer (some ⟨t4b, t4o, none⟩)), (5, .pointer (some ⟨t5b, t5o, none⟩)), (7, .pointer (some ⟨t7b, t7o, none⟩))] 115 (s' := (.reg (opsAt (sub B [1, 1, 1, 1, 1, 1, 1, 1, 1, 1, 1, 1, 0])) [0, 1, 2, 3, 4] :: S30)) (by kernel_rfl) h
theorem L4_step {t2b : Nat} {t2o : Nat} {t4b : Nat} {t4o : Nat} {t5b : Nat} {t5o : Nat} {t7b : Nat} {t7o : Nat} {H : Heap} {r : Value × Heap} (h :
    ∃ (t105 : Int) (H_1 : Heap), xC Try.prog good 36 [.pointer (some ⟨t5b, t5o, none⟩), .int .i64 4] H = some (.int .u64 t105, H_1) ∧
    (∃ (H_2 : Heap), stc H_1 t7b (t7o + 4) [.int .u32 (IntKind.wrap .u32 t105)] = some H_2 ∧
    (∃ (t109 : Int) (H_3 : Heap), xC Try.prog good 40 [.pointer (some ⟨t5b, t5o, none⟩)] H_2 = some (.int .i64 t109, H_3) ∧
    (if t109 = 0 then
    (∃ (t114c0 : Int) (t114c1 : Int) (t114c2 : Int) (t114c3a : Option Addr) (t114c3n : Nat) (t114c3k : Nat) (t114c4 : Int), ldAll H_3 t7b t7o [.int .i64 t114c0, .int .i64 t114c1, .int .u32 t114c2, .slice t114c3a t114c3n t114c3k, .int .u32 t114c4] ∧
    (∃ (H_4 : Heap), stc H_3 t2b t2o [.int .i64 t114c0, .int .i64 t114c1, .int .u32 t114c2, .slice t114c3a t114c3n t114c3k, .int .u32 t114c4] = some H_4 ∧
    (∃ (r2c0 : Int) (r2c1 : Int) (r2c2 : Int) (r2c3a : Option Addr) (r2c3n : Nat) (r2c3k : Nat) (r2c4 : Int), ldAll H_4 t2b t2o [.int .i64 r2c0, .int .i64 r2c1, .int .u32 r2c2, .slice r2c3a r2c3n r2c3k, .int .u32 r2c4] ∧
    (r = (.tuple #[.agg #[.int .i64 r2c0, .int .i64 r2c1, .int .u32 r2c2, .slice r2c3a r2c3n r2c3k, .int .u32 r2c4], .int .i64 0], H_4)))))
    else
    (∃ (t112c0 : Int) (t112c1 : Int) (t112c2 : Int) (t112c3a : Option Addr) (t112c3n : Nat) (t112c3k : Nat) (t112c4 : Int), ldAll H_3 t4b t4o [.int .i64 t112c0, .int .i64 t112c1, .int .u32 t112c2, .slice t112c3a t112c3n t112c3k, .int .u32 t112c4] ∧
    (∃ (H_5 : Heap), stc H_3 t2b t2o [.int .i64 t112c0, .int .i64 t112c1, .int .u32 t112c2, .slice t112c3a t112c3n t112c3k, .int .u32 t112c4] = some H_5 ∧
    (∃ (r2c0_1 : Int) (r2c1_1 : Int) (r2c2_1 : Int) (r2c3a_1 : Option Addr) (r2c3n_1 : Nat) (r2c3k_1 : Nat) (r2c4_1 : Int), ldAll H_5 t2b t2o [.int .i64 r2c0_1, .int .i64 r2c1_1, .int .u32 r2c2_1, .slice r2c3a_1 r2c3n_1 r2c3k_1, .int .u32 r2c4_1] ∧
    (r = (.tuple #[.agg #[.int .i64 r2c0_1, .int .i64 r2c1_1, .int .u32 r2c2_1, .slice r2c3a_1 r2c3n_1 r2c3k_1, .int .u32 r2c4_1], .int .i64 t109], H_5))))))))) :
    L4 t2b t2o t4b t4o t5b t5o t7b t7o H r := by
  intro J
  show KR _ _ _ (.reg (opsAt (sub B [1, 1, 1, 1, 1, 1, 1, 1, 1, 1, 1, 1, 0])) [0, 1, 2, 3, 4] :: S30) _ _ _
  refine KR.run 1 [(2, .pointer (some ⟨t2b, t2o, none⟩)), (4, .pointer (some ⟨t4b, t4o, none⟩)), (5, .pointer (some ⟨t5b, t5o, none⟩)), (7, .pointer (some ⟨t7b, t7o, none⟩)), (104, .pointer (some ⟨t5b, t5o, none⟩))] 115 (s' := (.reg (opsAt (sub B [1, 1, 1, 1, 1, 1, 1, 1, 1, 1, 1, 1, 0])) [1, 2, 3, 4] :: S30)) (by kernel_rfl) fun J => ?_
  obtain ⟨t105, H_1, q66, h⟩ := h
  refine KR.se (one_ca (by kernel_rfl) q66) ?_
  refine KR.run 2 [(2, .pointer (some ⟨t2b, t2o, none⟩)), (4, .pointer (some ⟨t4b, t4o, none⟩)), (5, .pointer (some ⟨t5b, t5o, none⟩)), (7, .pointer (some ⟨t7b, t7o, none⟩)), (106, .int .u32 (IntKind.wrap .u32 t105)), (107, .pointer (some ⟨t7b, (t7o + 4), none⟩))] 115 (s' := (.reg (opsAt (sub B [1, 1, 1, 1, 1, 1, 1, 1, 1, 1, 1, 1, 0])) [4] :: S30)) (by kernel_rfl) fun J => ?_
  obtain ⟨H_2, q67, h⟩ := h
  refine KR.se (one_st (by kernel_rfl) q67) ?_
  refine KR.run 5 [(2, .pointer (some ⟨t2b, t2o, none⟩)), (4, .pointer (some ⟨t4b, t4o, none⟩)), (7, .pointer (some ⟨t7b, t7o, none⟩)), (108, .pointer (some ⟨t5b, t5o, none⟩))] 115 (s' := (.reg (opsAt (sub B [1, 1, 1, 1, 1, 1, 1, 1, 1, 1, 1, 1, 1, 0, 0])) [1, 2] :: S32)) (by kernel_rfl) fun J => ?_
  obtain ⟨t109, H_3, q68, h⟩ := h
  refine KR.se (one_ca (by kernel_rfl) q68) ?_
  refine KR.run 7 [(2, .pointer (some ⟨t2b, t2o, none⟩)), (4, .pointer (some ⟨t4b, t4o, none⟩)), (7, .pointer (some ⟨t7b, t7o, none⟩)), (11, .int .i64 t109), (111, .bool (!(t109 == 0)))] 115 (s' := (.code (sub B [1, 1, 1, 1, 1, 1, 1, 1, 1, 1, 1, 1, 1, 0, 1, 1]) :: S31)) (by kernel_rfl) fun J => ?_
  by_cases c69 : t109 = 0
  · replace h := iteT c69 h
    refine KR.br false (by kernel_rfl) (vB (nB (eT c69))) ?_
    refine KR.run 3 [(2, .pointer (some ⟨t2b, t2o, none⟩)), (7, .pointer (some ⟨t7b, t7o, none⟩))] 115 (s' := (.reg (opsAt (sub B [1, 1, 1, 1, 1, 1, 1, 1, 1, 1, 1, 1, 1, 1, 0])) [0, 1, 2] :: S33)) (by kernel_rfl) fun J => ?_
    obtain ⟨t114c0, t114c1, t114c2, t114c3a, t114c3n, t114c3k, t114c4, q70, h⟩ := h
    refine KR.rd (one_ldA (by kernel_rfl) q70) ?_
    obtain ⟨H_4, q71, h⟩ := h
    refine KR.se (one_st (by kernel_rfl) q71) ?_
    refine KR.run 2 [(2, .pointer (some ⟨t2b, t2o, none⟩)), (3, .int .i64 0)] 115 (s' := (.code (sub B [1, 1, 1, 1, 1, 1, 1, 1, 1, 1, 1, 1, 1, 1, 1]) :: [])) (by kernel_rfl) fun J => ?_
    obtain ⟨r2c0, r2c1, r2c2, r2c3a, r2c3n, r2c3k, r2c4, q72, h⟩ := h
    exact KR.finR (l := [.cell 2 28, .tmp 3]) (vs := [.agg #[.int .i64 r2c0, .int .i64 r2c1, .int .u32 r2c2, .slice r2c3a r2c3n r2c3k, .int .u32 r2c4], .int .i64 0]) (by kernel_rfl) (Res.cellA (by kernel_rfl) q72 (Res.tmp (by kernel_rfl) Res.nil)) (by kernel_rfl) h
  · replace h := iteF c69 h
    refine KR.br true (by kernel_rfl) (vB (nB (eF c69))) ?_
    refine KR.run 2 [(2, .pointer (some ⟨t2b, t2o, none⟩)), (4, .pointer (some ⟨t4b, t4o, none⟩)), (11, .int .i64 t109)] 115 (s' := (.reg (opsAt (sub B [1, 1, 1, 1, 1, 1, 1, 1, 1, 1, 1, 1, 1, 0, 1, 1, 0, 0])) [0, 1, 2, 3] :: S34)) (by kernel_rfl) fun J => ?_
    obtain ⟨t112c0, t112c1, t112c2, t112c3a, t112c3n, t112c3k, t112c4, q73, h⟩ := h
    refine KR.rd (one_ldA (by kernel_rfl) q73) ?_
    refine KR.run 1 [(2, .pointer (some ⟨t2b, t2o, none⟩)), (112, .agg #[.int .i64 t112c0, .int .i64 t112c1, .int .u32 t112c2, .slice t112c3a t112c3n t112c3k, .int .u32 t112c4]), (113, .int .i64 t109)] 115 (s' := (.reg (opsAt (sub B [1, 1, 1, 1, 1, 1, 1, 1, 1, 1, 1, 1, 1, 0, 1, 1, 0, 0])) [2, 3] :: S34)) (by kernel_rfl) fun J => ?_
    obtain ⟨H_5, q74, h⟩ := h
    refine KR.se (one_st (by kernel_rfl) q74) ?_
    refine KR.run 2 [(2, .pointer (some ⟨t2b, t2o, none⟩)), (3, .int .i64 t109)] 115 (s' := (.code (sub B [1, 1, 1, 1, 1, 1, 1, 1, 1, 1, 1, 1, 1, 0, 1, 1, 0, 1]) :: S31)) (by kernel_rfl) fun J => ?_
    obtain ⟨r2c0_1, r2c1_1, r2c2_1, r2c3a_1, r2c3n_1, r2c3k_1, r2c4_1, q75, h⟩ := h
    exact KR.finR (l := [.cell 2 28, .tmp 3]) (vs := [.agg #[.int .i64 r2c0_1, .int .i64 r2c1_1, .int .u32 r2c2_1, .slice r2c3a_1 r2c3n_1 r2c3k_1, .int .u32 r2c4_1], .int .i64 t109]) (by kernel_rfl) (Res.cellA (by kernel_rfl) q75 (Res.tmp (by kernel_rfl) Res.nil)) (by kernel_rfl) h
theorem call {a0a : Option Addr} {a0n : Nat} {a0k : Nat} {H : Heap} {r : Value × Heap} (h :
    ∃ (H_1 : Heap), H_1 = H.push (.row [.int .i64 0, .int .i64 0, .int .u32 0, .slice none 0 0, .int .u32 0] true) ∧
    (∃ (H_2 : Heap), H_2 = H_1.push (.row [.int .i64 0, .int .i64 0, .int .u32 0, .slice none 0 0, .int .u32 0] true) ∧
    (∃ (H_3 : Heap), stc H_2 H_1.next 0 [.int .i64 0, .int .i64 0, .int .u32 0, .slice none 0 0, .int .u32 0] = some H_3 ∧
    (∃ (H_4 : Heap), H_4 = H_3.push (.row [.slice a0a a0n a0k, .int .i64 0] true) ∧
    (∃ (t17 : Int) (H_5 : Heap), xC Try.prog good 37 [.pointer (some ⟨H_3.next, 0, none⟩)] H_4 = some (.int .i64 t17, H_5) ∧
    (∃ (t21 : Int), ldc H_5 H_3.next 1 = some (.int .i64 t21) ∧
    (if t21 = 0 then
    (L0 (H.next) (0) (H_1.next) (0) (H_3.next) (0) ((!(t17 == 71))) H_5 r)
    else
    (L0 (H.next) (0) (H_1.next) (0) (H_3.next) (0) (false) H_5 r)))))))) :
    xC Try.prog good 17 [.slice a0a a0n a0k] H = some r := by
  refine KR.enter (fn := Try.f17) (c := B) (by kernel_rfl) (by kernel_rfl) ?_
  refine KR.run 2 [(0, .slice a0a a0n a0k)] 115 (s' := (.reg (opsAt (sub B [0])) [0, 1] :: S0)) (by kernel_rfl) fun J => ?_
  obtain ⟨H_1, q1, h⟩ := h
  refine KR.mk (w := pRow [.int .i64 0, .int .i64 0, .int .u32 0, .slice none 0 0, .int .u32 0]) (one_al (by kernel_rfl)) q1 ?_
  refine KR.run 5 [(0, .slice a0a a0n a0k), (2, .pointer (some ⟨H.next, 0, none⟩)), (12, .agg #[.int .i64 0, .int .i64 0, .int .u32 0, .slice none 0 0, .int .u32 0])] 115 (s' := (.reg (opsAt (sub B [1, 0])) [1, 2] :: S1)) (by kernel_rfl) fun J => ?_
  obtain ⟨H_2, q2, h⟩ := h
  refine KR.mk (w := pRow [.int .i64 0, .int .i64 0, .int .u32 0, .slice none 0 0, .int .u32 0]) (one_al (by kernel_rfl)) q2 ?_
  obtain ⟨H_3, q3, h⟩ := h
  refine KR.se (one_st (by kernel_rfl) q3) ?_
  refine KR.run 5 [(2, .pointer (some ⟨H.next, 0, none⟩)), (4, .pointer (some ⟨H_1.next, 0, none⟩)), (14, .agg #[.slice a0a a0n a0k, .int .i64 0])] 115 (s' := (.reg (opsAt (sub B [1, 1, 0])) [2, 3] :: S2)) (by kernel_rfl) fun J => ?_
  obtain ⟨H_4, q4, h⟩ := h
  refine KR.mk (w := pRow [.slice a0a a0n a0k, .int .i64 0]) (one_al (by kernel_rfl)) q4 ?_
  refine KR.run 5 [(2, .pointer (some ⟨H.next, 0, none⟩)), (4, .pointer (some ⟨H_1.next, 0, none⟩)), (5, .pointer (some ⟨H_3.next, 0, none⟩)), (16, .pointer (some ⟨H_3.next, 0, none⟩))] 115 (s' := (.reg (opsAt (sub B [1, 1, 1, 0])) [1, 2] :: S3)) (by kernel_rfl) fun J => ?_
  obtain ⟨t17, H_5, q5, h⟩ := h
  refine KR.se (one_ca (by kernel_rfl) q5) ?_
  refine KR.run 8 [(2, .pointer (some ⟨H.next, 0, none⟩)), (4, .pointer (some ⟨H_1.next, 0, none⟩)), (5, .pointer (some ⟨H_3.next, 0, none⟩)), (6, .int .i64 t17), (20, .pointer (some ⟨H_3.next, 1, none⟩))] 115 (s' := (.reg (opsAt (sub B [1, 1, 1, 1, 0, 0])) [3, 4, 5, 6, 7, 8] :: S5)) (by kernel_rfl) fun J => ?_
  obtain ⟨t21, q6, h⟩ := h
  refine KR.rd (one_ld (by kernel_rfl) q6) ?_
  refine KR.run 2 [(2, .pointer (some ⟨H.next, 0, none⟩)), (4, .pointer (some ⟨H_1.next, 0, none⟩)), (5, .pointer (some ⟨H_3.next, 0, none⟩)), (6, .int .i64 t17), (23, .bool (t21 == 0))] 115 (s' := (.reg (opsAt (sub B [1, 1, 1, 1, 0, 0])) [6, 7, 8] :: S5)) (by kernel_rfl) fun J => ?_
  by_cases c7 : t21 = 0
  · replace h := iteT c7 h
    refine KR.setV 23 (by kernel_rfl) (eT c7) ?_
    exact KR.run 4 [(2, .pointer (some ⟨H.next, 0, none⟩)), (4, .pointer (some ⟨H_1.next, 0, none⟩)), (5, .pointer (some ⟨H_3.next, 0, none⟩)), (26, .bool (!(t17 == 71)))] 115 (s' := (.code (sub B [1, 1, 1, 1, 0, 1]) :: S4)) (by kernel_rfl) h
  · replace h := iteF c7 h
    refine KR.setV 23 (by kernel_rfl) (eF c7) ?_
    exact KR.run 4 [(2, .pointer (some ⟨H.next, 0, none⟩)), (4, .pointer (some ⟨H_1.next, 0, none⟩)), (5, .pointer (some ⟨H_3.next, 0, none⟩)), (26, .bool false)] 115 (s' := (.code (sub B [1, 1, 1, 1, 0, 1]) :: S4)) (by kernel_rfl) h
end F17
/-! #### 18 campanile/campanileref18.SameGrant -/
namespace F18
noncomputable def B : Code := bodyOf Try.f18
noncomputable def S0 : List It := (.code (sub B [1]) :: [])
noncomputable def S1 : List It := (.code (sub B [1, 1]) :: [])
theorem call {a0c0 : Int} {a0c1 : Int} {a0c2 : Int} {a0c3a : Option Addr} {a0c3n : Nat} {a0c3k : Nat} {a0c4 : Int} {a1c0 : Int} {a1c1 : Int} {a1c2 : Int} {a1c3a : Option Addr} {a1c3n : Nat} {a1c3k : Nat} {a1c4 : Int} {H : Heap} {r : Value × Heap} (h :
    ∃ (H_1 : Heap), H_1 = H.push (.row [.int .i64 a0c0, .int .i64 a0c1, .int .u32 a0c2, .slice a0c3a a0c3n a0c3k, .int .u32 a0c4] true) ∧
    (∃ (H_2 : Heap), H_2 = H_1.push (.row [.int .i64 a1c0, .int .i64 a1c1, .int .u32 a1c2, .slice a1c3a a1c3n a1c3k, .int .u32 a1c4] true) ∧
    (∃ (t6 : Int), ldc H_2 H.next 0 = some (.int .i64 t6) ∧
    (∃ (t8 : Int), ldc H_2 H_1.next 0 = some (.int .i64 t8) ∧
    (if t6 = t8 then
    (∃ (t12 : Int), ldc H_2 H.next 1 = some (.int .i64 t12) ∧
    (∃ (t14 : Int), ldc H_2 H_1.next 1 = some (.int .i64 t14) ∧
    (if t12 = t14 then
    (∃ (t19 : Int), ldc H_2 H.next 2 = some (.int .u32 t19) ∧
    (∃ (t21 : Int), ldc H_2 H_1.next 2 = some (.int .u32 t21) ∧
    (if t19 = t21 then
    (∃ (t26a : Option Addr) (t26n : Nat) (t26k : Nat), ldc H_2 H.next 3 = some (.slice t26a t26n t26k) ∧
    (∃ (t28a : Option Addr) (t28n : Nat) (t28k : Nat), ldc H_2 H_1.next 3 = some (.slice t28a t28n t28k) ∧
    (∃ (t29 : Bool) (H_3 : Heap), xC Try.prog good 24 [.slice t26a t26n t26k, .slice t28a t28n t28k] H_2 = some (.bool t29, H_3) ∧
    (if t29 = true then
    (∃ (t33 : Int), ldc H_3 H.next 4 = some (.int .u32 t33) ∧
    (∃ (t35 : Int), ldc H_3 H_1.next 4 = some (.int .u32 t35) ∧
    (r = (.bool (t33 == t35), H_3))))
    else
    (r = (.bool false, H_3))))))
    else
    (r = (.bool false, H_2)))))
    else
    (r = (.bool false, H_2)))))
    else
    (r = (.bool false, H_2))))))) :
    xC Try.prog good 18 [.agg #[.int .i64 a0c0, .int .i64 a0c1, .int .u32 a0c2, .slice a0c3a a0c3n a0c3k, .int .u32 a0c4], .agg #[.int .i64 a1c0, .int .i64 a1c1, .int .u32 a1c2, .slice a1c3a a1c3n a1c3k, .int .u32 a1c4]] H = some r := by
  refine KR.enter (fn := Try.f18) (c := B) (by kernel_rfl) (by kernel_rfl) ?_
  refine KR.run 2 [(0, .agg #[.int .i64 a0c0, .int .i64 a0c1, .int .u32 a0c2, .slice a0c3a a0c3n a0c3k, .int .u32 a0c4]), (1, .agg #[.int .i64 a1c0, .int .i64 a1c1, .int .u32 a1c2, .slice a1c3a a1c3n a1c3k, .int .u32 a1c4])] 38 (s' := (.reg (opsAt (sub B [0])) [0, 1, 2] :: S0)) (by kernel_rfl) fun J => ?_
  obtain ⟨H_1, q1, h⟩ := h
  refine KR.mk (w := pRow [.int .i64 a0c0, .int .i64 a0c1, .int .u32 a0c2, .slice a0c3a a0c3n a0c3k, .int .u32 a0c4]) (one_al (by kernel_rfl)) q1 ?_
  obtain ⟨H_2, q2, h⟩ := h
  refine KR.mk (w := pRow [.int .i64 a1c0, .int .i64 a1c1, .int .u32 a1c2, .slice a1c3a a1c3n a1c3k, .int .u32 a1c4]) (one_al (by kernel_rfl)) q2 ?_
  refine KR.run 5 [(2, .pointer (some ⟨H.next, 0, none⟩)), (3, .pointer (some ⟨H_1.next, 0, none⟩)), (5, .pointer (some ⟨H.next, 0, none⟩))] 38 (s' := (.reg (opsAt (sub B [1, 0])) [1, 2, 3, 4, 5, 6, 7, 8, 9, 10, 11, 12, 13, 14, 15, 16, 17, 18, 19, 20, 21, 22, 23, 24, 25, 26, 27, 28, 29, 30, 31, 32, 33] :: S1)) (by kernel_rfl) fun J => ?_
  obtain ⟨t6, q3, h⟩ := h
  refine KR.rd (one_ld (by kernel_rfl) q3) ?_
  refine KR.run 1 [(2, .pointer (some ⟨H.next, 0, none⟩)), (3, .pointer (some ⟨H_1.next, 0, none⟩)), (6, .int .i64 t6), (7, .pointer (some ⟨H_1.next, 0, none⟩))] 38 (s' := (.reg (opsAt (sub B [1, 0])) [3, 4, 5, 6, 7, 8, 9, 10, 11, 12, 13, 14, 15, 16, 17, 18, 19, 20, 21, 22, 23, 24, 25, 26, 27, 28, 29, 30, 31, 32, 33] :: S1)) (by kernel_rfl) fun J => ?_
  obtain ⟨t8, q4, h⟩ := h
  refine KR.rd (one_ld (by kernel_rfl) q4) ?_
  refine KR.run 2 [(2, .pointer (some ⟨H.next, 0, none⟩)), (3, .pointer (some ⟨H_1.next, 0, none⟩)), (10, .bool (t6 == t8))] 38 (s' := (.reg (opsAt (sub B [1, 0])) [6, 7, 8, 9, 10, 11, 12, 13, 14, 15, 16, 17, 18, 19, 20, 21, 22, 23, 24, 25, 26, 27, 28, 29, 30, 31, 32, 33] :: S1)) (by kernel_rfl) fun J => ?_
  by_cases c5 : t6 = t8
  · replace h := iteT c5 h
    refine KR.setV 10 (by kernel_rfl) (eT c5) ?_
    refine KR.run 1 [(2, .pointer (some ⟨H.next, 0, none⟩)), (3, .pointer (some ⟨H_1.next, 0, none⟩)), (10, .bool true), (11, .pointer (some ⟨H.next, 1, none⟩))] 38 (s' := (.reg (opsAt (sub B [1, 0])) [7, 8, 9, 10, 11, 12, 13, 14, 15, 16, 17, 18, 19, 20, 21, 22, 23, 24, 25, 26, 27, 28, 29, 30, 31, 32, 33] :: S1)) (by kernel_rfl) fun J => ?_
    obtain ⟨t12, q6, h⟩ := h
    refine KR.rd (one_ld (by kernel_rfl) q6) ?_
    refine KR.run 1 [(2, .pointer (some ⟨H.next, 0, none⟩)), (3, .pointer (some ⟨H_1.next, 0, none⟩)), (10, .bool true), (12, .int .i64 t12), (13, .pointer (some ⟨H_1.next, 1, none⟩))] 38 (s' := (.reg (opsAt (sub B [1, 0])) [9, 10, 11, 12, 13, 14, 15, 16, 17, 18, 19, 20, 21, 22, 23, 24, 25, 26, 27, 28, 29, 30, 31, 32, 33] :: S1)) (by kernel_rfl) fun J => ?_
    obtain ⟨t14, q7, h⟩ := h
    refine KR.rd (one_ld (by kernel_rfl) q7) ?_
    refine KR.run 3 [(2, .pointer (some ⟨H.next, 0, none⟩)), (3, .pointer (some ⟨H_1.next, 0, none⟩)), (17, .bool (t12 == t14))] 38 (s' := (.reg (opsAt (sub B [1, 0])) [13, 14, 15, 16, 17, 18, 19, 20, 21, 22, 23, 24, 25, 26, 27, 28, 29, 30, 31, 32, 33] :: S1)) (by kernel_rfl) fun J => ?_
    by_cases c8 : t12 = t14
    · replace h := iteT c8 h
      refine KR.setV 17 (by kernel_rfl) (eT c8) ?_
      refine KR.run 1 [(2, .pointer (some ⟨H.next, 0, none⟩)), (3, .pointer (some ⟨H_1.next, 0, none⟩)), (17, .bool true), (18, .pointer (some ⟨H.next, 2, none⟩))] 38 (s' := (.reg (opsAt (sub B [1, 0])) [14, 15, 16, 17, 18, 19, 20, 21, 22, 23, 24, 25, 26, 27, 28, 29, 30, 31, 32, 33] :: S1)) (by kernel_rfl) fun J => ?_
      obtain ⟨t19, q9, h⟩ := h
      refine KR.rd (one_ld (by kernel_rfl) q9) ?_
      refine KR.run 1 [(2, .pointer (some ⟨H.next, 0, none⟩)), (3, .pointer (some ⟨H_1.next, 0, none⟩)), (17, .bool true), (19, .int .u32 t19), (20, .pointer (some ⟨H_1.next, 2, none⟩))] 38 (s' := (.reg (opsAt (sub B [1, 0])) [16, 17, 18, 19, 20, 21, 22, 23, 24, 25, 26, 27, 28, 29, 30, 31, 32, 33] :: S1)) (by kernel_rfl) fun J => ?_
      obtain ⟨t21, q10, h⟩ := h
      refine KR.rd (one_ld (by kernel_rfl) q10) ?_
      refine KR.run 3 [(2, .pointer (some ⟨H.next, 0, none⟩)), (3, .pointer (some ⟨H_1.next, 0, none⟩)), (24, .bool (t19 == t21))] 38 (s' := (.reg (opsAt (sub B [1, 0])) [20, 21, 22, 23, 24, 25, 26, 27, 28, 29, 30, 31, 32, 33] :: S1)) (by kernel_rfl) fun J => ?_
      by_cases c11 : t19 = t21
      · replace h := iteT c11 h
        refine KR.setV 24 (by kernel_rfl) (eT c11) ?_
        refine KR.run 1 [(2, .pointer (some ⟨H.next, 0, none⟩)), (3, .pointer (some ⟨H_1.next, 0, none⟩)), (24, .bool true), (25, .pointer (some ⟨H.next, 3, none⟩))] 38 (s' := (.reg (opsAt (sub B [1, 0])) [21, 22, 23, 24, 25, 26, 27, 28, 29, 30, 31, 32, 33] :: S1)) (by kernel_rfl) fun J => ?_
        obtain ⟨t26a, t26n, t26k, q12, h⟩ := h
        refine KR.rd (one_ld (by kernel_rfl) q12) ?_
        refine KR.run 1 [(2, .pointer (some ⟨H.next, 0, none⟩)), (3, .pointer (some ⟨H_1.next, 0, none⟩)), (24, .bool true), (26, .slice t26a t26n t26k), (27, .pointer (some ⟨H_1.next, 3, none⟩))] 38 (s' := (.reg (opsAt (sub B [1, 0])) [23, 24, 25, 26, 27, 28, 29, 30, 31, 32, 33] :: S1)) (by kernel_rfl) fun J => ?_
        obtain ⟨t28a, t28n, t28k, q13, h⟩ := h
        refine KR.rd (one_ld (by kernel_rfl) q13) ?_
        obtain ⟨t29, H_3, q14, h⟩ := h
        refine KR.se (one_ca (by kernel_rfl) q14) ?_
        refine KR.run 2 [(2, .pointer (some ⟨H.next, 0, none⟩)), (3, .pointer (some ⟨H_1.next, 0, none⟩)), (31, .bool t29)] 38 (s' := (.reg (opsAt (sub B [1, 0])) [27, 28, 29, 30, 31, 32, 33] :: S1)) (by kernel_rfl) fun J => ?_
        by_cases c15 : t29 = true
        · replace h := iteT c15 h
          refine KR.setV 31 (by kernel_rfl) (bT c15) ?_
          refine KR.run 1 [(3, .pointer (some ⟨H_1.next, 0, none⟩)), (31, .bool true), (32, .pointer (some ⟨H.next, 4, none⟩))] 38 (s' := (.reg (opsAt (sub B [1, 0])) [28, 29, 30, 31, 32, 33] :: S1)) (by kernel_rfl) fun J => ?_
          obtain ⟨t33, q16, h⟩ := h
          refine KR.rd (one_ld (by kernel_rfl) q16) ?_
          refine KR.run 1 [(31, .bool true), (33, .int .u32 t33), (34, .pointer (some ⟨H_1.next, 4, none⟩))] 38 (s' := (.reg (opsAt (sub B [1, 0])) [30, 31, 32, 33] :: S1)) (by kernel_rfl) fun J => ?_
          obtain ⟨t35, q17, h⟩ := h
          refine KR.rd (one_ld (by kernel_rfl) q17) ?_
          refine KR.run 4 [(4, .bool (t33 == t35))] 38 (s' := (.code (sub B [1, 1]) :: [])) (by kernel_rfl) fun J => ?_
          exact KR.fin (by kernel_rfl) h
        · replace h := iteF c15 h
          refine KR.setV 31 (by kernel_rfl) (bF c15) ?_
          refine KR.run 8 [(4, .bool false)] 38 (s' := (.code (sub B [1, 1]) :: [])) (by kernel_rfl) fun J => ?_
          exact KR.fin (by kernel_rfl) h
      · replace h := iteF c11 h
        refine KR.setV 24 (by kernel_rfl) (eF c11) ?_
        refine KR.run 15 [(4, .bool false)] 38 (s' := (.code (sub B [1, 1]) :: [])) (by kernel_rfl) fun J => ?_
        exact KR.fin (by kernel_rfl) h
    · replace h := iteF c8 h
      refine KR.setV 17 (by kernel_rfl) (eF c8) ?_
      refine KR.run 22 [(4, .bool false)] 38 (s' := (.code (sub B [1, 1]) :: [])) (by kernel_rfl) fun J => ?_
      exact KR.fin (by kernel_rfl) h
  · replace h := iteF c5 h
    refine KR.setV 10 (by kernel_rfl) (eF c5) ?_
    refine KR.run 29 [(4, .bool false)] 38 (s' := (.code (sub B [1, 1]) :: [])) (by kernel_rfl) fun J => ?_
    exact KR.fin (by kernel_rfl) h
end F18
/-! #### 19 campanile/join.NewDesk -/
namespace F19
noncomputable def B : Code := bodyOf Try.f19
noncomputable def S0 : List It := (.code (sub B [1, 1]) :: [])
noncomputable def S1 : List It := (.code (sub B [1, 1, 1]) :: [])
theorem call {a0a : Option Addr} {a0n : Nat} {a0k : Nat} {H : Heap} {r : Value × Heap} (h :
    ∃ (t7a : Option Addr) (t7n : Nat) (t7k : Nat), psl 1 a0a a0n a0k none (some (imin ((a0n : Nat) : Int) 16)) none = some (t7a, t7n, t7k) ∧
    (∃ (t9a : Option Addr) (t9n : Nat) (t9k : Nat) (H_1 : Heap), xC Try.prog good 41 [.slice t7a t7n t7k] (reserve H 8) = some (.slice t9a t9n t9k, H_1) ∧
    (∃ (t12n : Nat), pmk 4 ((t7n : Nat) : Int) ((t7n : Nat) : Int) = some t12n ∧
    (∃ (H_2 : Heap), H_2 = (H_1.set (H.next + 4) (.row (zerosL [.int .u32 0] t12n) true)).push (.row [.slice t9a t9n t9k, .slice (some ⟨(H.next + 4), 0, none⟩) t12n (UNK 1)] true) ∧
    ((r = (.pointer (some ⟨(H_1.set (H.next + 4) (.row (zerosL [.int .u32 0] t12n) true)).next, 0, none⟩), H_2))))))) :
    xC Try.prog good 19 [.slice a0a a0n a0k] H = some r := by
  refine KR.enter (fn := Try.f19) (c := B) (by kernel_rfl) (by kernel_rfl) ?_
  refine KR.run 10 [(3, .slice a0a a0n a0k), (6, .int .i64 (imin ((a0n : Nat) : Int) 16))] 15 (s' := (.reg (opsAt (sub B [1, 0])) [4, 5] :: S0)) (by kernel_rfl) fun J => ?_
  obtain ⟨t7a, t7n, t7k, q1, h⟩ := h
  refine KR.p (one_sl (by kernel_rfl) q1) ?_
  refine KR.run 3 [(0, .slice t7a t7n t7k)] 15 (s' := (.code (sub B [1, 1, 0]) :: S1)) (by kernel_rfl) fun J => ?_
  refine KE.start (reserve H 8) (by kernel_rfl) (by kernel_rfl) ?_
  refine KE.run 1 [(0, .slice t7a t7n t7k), (8, .slice t7a t7n t7k)] 15 1 (by kernel_rfl) fun J => ?_
  obtain ⟨t9a, t9n, t9k, H_1, q2, h⟩ := h
  refine KE.se (one_ca (by kernel_rfl) q2) (by kernel_rfl) ?_
  refine KE.run 2 [(9, .slice t9a t9n t9k), (11, .int .i64 ((t7n : Nat) : Int))] 15 4 (by kernel_rfl) fun J => ?_
  obtain ⟨t12n, q3, h⟩ := h
  refine KE.al (w := sRow t12n 1 (zerosL [.int .u32 0] t12n)) (one_mk 1 4 (by kernel_rfl) q3) (by kernel_rfl) ?_
  refine KE.run 1 [(13, .agg #[.slice t9a t9n t9k, .slice (some ⟨(H.next + 4), 0, none⟩) t12n (UNK 1)])] 15 6 (by kernel_rfl) fun J => ?_
  obtain ⟨H_2, q4, h⟩ := h
  refine KE.mk (w := pRow [.slice t9a t9n t9k, .slice (some ⟨(H.next + 4), 0, none⟩) t12n (UNK 1)]) (one_al (by kernel_rfl)) (by kernel_rfl) (by kernel_rfl) q4 ?_
  refine KE.run 1 [(2, .pointer (some ⟨(H_1.set (H.next + 4) (.row (zerosL [.int .u32 0] t12n) true)).next, 0, none⟩))] 15 8 (by kernel_rfl) fun J => ?_
  refine KE.fin (H' := H_2) (by kernel_rfl) (rfl) (by kernel_rfl) ?_
  refine KR.run 0 [(2, .pointer (some ⟨(H_1.set (H.next + 4) (.row (zerosL [.int .u32 0] t12n) true)).next, 0, none⟩))] 15 (s' := (.code (sub B [1, 1, 1]) :: [])) (by kernel_rfl) fun J => ?_
  exact KR.fin (by kernel_rfl) h
end F19
/-! #### 20 campanile/join.NewSeeker -/
namespace F20
noncomputable def B : Code := bodyOf Try.f20
noncomputable def S0 : List It := (.code (sub B [1, 1]) :: [])
noncomputable def S2 : List It := (.code (sub B [1, 1, 1]) :: [])
noncomputable def S1 : List It := (.code (sub B [1, 0, 1]) :: S0)
theorem call {a0 : Int} {a1 : Int} {H : Heap} {r : Value × Heap} (h :
    ∃ (t6 : Bool) (H_1 : Heap), xC Try.prog good 42 [.int .i64 a0] H = some (.bool t6, H_1) ∧
    (if t6 = true then
    (∃ (H_2 : Heap), H_2 = H_1.push (.row [.int .i64 a0, .int .u64 a1, .int .u32 0, .int .u32 0, .bool false] true) ∧
    (r = (.pointer (some ⟨H_1.next, 0, none⟩), H_2)))
    else
    (r = (.pointer none, H_1)))) :
    xC Try.prog good 20 [.int .i64 a0, .int .u64 a1] H = some r := by
  refine KR.enter (fn := Try.f20) (c := B) (by kernel_rfl) (by kernel_rfl) ?_
  refine KR.run 8 [(0, .int .i64 a0), (1, .int .u64 a1), (5, .int .i64 a0)] 12 (s' := (.reg (opsAt (sub B [1, 0, 0])) [1, 2] :: S1)) (by kernel_rfl) fun J => ?_
  obtain ⟨t6, H_1, q1, h⟩ := h
  refine KR.se (one_ca (by kernel_rfl) q1) ?_
  refine KR.run 2 [(0, .int .i64 a0), (1, .int .u64 a1), (7, .bool (!t6))] 12 (s' := (.code (sub B [1, 0, 1]) :: S0)) (by kernel_rfl) fun J => ?_
  by_cases c2 : t6 = true
  · replace h := iteT c2 h
    refine KR.br false (by kernel_rfl) (vB (nB (bT c2))) ?_
    refine KR.run 6 [(10, .agg #[.int .i64 a0, .int .u64 a1, .int .u32 0, .int .u32 0, .bool false])] 12 (s' := (.reg (opsAt (sub B [1, 1, 0])) [3, 4] :: S2)) (by kernel_rfl) fun J => ?_
    obtain ⟨H_2, q3, h⟩ := h
    refine KR.mk (w := pRow [.int .i64 a0, .int .u64 a1, .int .u32 0, .int .u32 0, .bool false]) (one_al (by kernel_rfl)) q3 ?_
    refine KR.run 2 [(4, .pointer (some ⟨H_1.next, 0, none⟩))] 12 (s' := (.code (sub B [1, 1, 1]) :: [])) (by kernel_rfl) fun J => ?_
    exact KR.fin (by kernel_rfl) h
  · replace h := iteF c2 h
    refine KR.br true (by kernel_rfl) (vB (nB (bF c2))) ?_
    refine KR.run 4 [(4, .pointer none)] 12 (s' := (.code (sub B [1, 0, 1, 0, 1]) :: S0)) (by kernel_rfl) fun J => ?_
    exact KR.fin (by kernel_rfl) h
end F20
/-! #### 21 (*campanile/join.Seeker).Ask -/
namespace F21
noncomputable def B : Code := bodyOf Try.f21
noncomputable def S0 : List It := (.code (sub B [1, 1]) :: [])
noncomputable def S4 : List It := (.code (sub B [1, 1, 1]) :: [])
noncomputable def S5 : List It := (.code (sub B [1, 1, 1, 1]) :: [])
noncomputable def S6 : List It := (.code (sub B [1, 1, 1, 1, 1]) :: [])
noncomputable def S1 : List It := (.blk 0 :: S0)
noncomputable def S2 : List It := (.code (sub B [1, 0, 0, 1]) :: S1)
noncomputable def S3 : List It := (.code (sub B [1, 0, 0, 1, 1, 1]) :: S1)
def L0 (t0 : Option Addr) (t1 : Int) (t2 : Int) (t8 : Bool) (H : Heap) (r : Value × Heap) : Prop := ∀ J, KR Try.prog good Try.f21 S2 (mat J 62 [(0, .pointer t0), (1, .int .i64 t1), (2, .int .u32 t2), (8, .bool t8)]) H r
theorem L0_step {t0 : Option Addr} {t1 : Int} {t2 : Int} {t8 : Bool} {H : Heap} {r : Value × Heap} (h :
    if t8 = true then
    (r = (.tuple #[.slice none 0 0, .int .i64 1], H))
    else
    (∃ (t0b t0o : Nat), t0 = some ⟨t0b, t0o, none⟩ ∧
    (∃ (t28 : Int), ldc H t0b (t0o + 2) = some (.int .u32 t28) ∧
    (if t28 = 4294967295 then
    (r = (.tuple #[.slice none 0 0, .int .i64 5], H))
    else
    (∃ (t33 : Int), ldc H t0b (t0o + 2) = some (.int .u32 t33) ∧
    (∃ (H_1 : Heap), stc H t0b (t0o + 2) [.int .u32 (IntKind.wrap .u32 (t33 + 1))] = some H_1 ∧
    (∃ (H_2 : Heap), stc H_1 t0b (t0o + 3) [.int .u32 t2] = some H_2 ∧
    (∃ (H_3 : Heap), stc H_2 t0b (t0o + 4) [.bool true] = some H_3 ∧
    (∃ (t47 : Int), ldc H_3 t0b (t0o + 1) = some (.int .u64 t47) ∧
    (∃ (t51 : Int), ldc H_3 t0b t0o = some (.int .i64 t51) ∧
    (∃ (t57 : Int), ldc H_3 t0b (t0o + 2) = some (.int .u32 t57) ∧
    (∃ (t59r0a : Option Addr) (t59r0n : Nat) (t59r0k : Nat) (t59r1 : Int) (H_4 : Heap), xC Try.prog good 9 [.int .u64 t47, .agg #[.int .i64 t51, .int .i64 t1, .int .u32 t2, .int .u32 t57, .int .u32 0]] H_3 = some (.tuple #[.slice t59r0a t59r0n t59r0k, .int .i64 t59r1], H_4) ∧
    (r = (.tuple #[.slice t59r0a t59r0n t59r0k, .int .i64 t59r1], H_4)))))))))))))) :
    L0 t0 t1 t2 t8 H r := by
  intro J
  show KR _ _ _ (.code (sub B [1, 0, 0, 1]) :: S1) _ _ _
  by_cases c6 : t8 = true
  · replace h := iteT c6 h
    refine KR.br true (by kernel_rfl) (vB (bT c6)) ?_
    refine KR.run 5 [(6, .slice none 0 0), (7, .int .i64 1)] 62 (s' := (.code (sub B [1, 0, 0, 1, 0, 1]) :: S1)) (by kernel_rfl) fun J => ?_
    exact KR.fin (by kernel_rfl) h
  · replace h := iteF c6 h
    refine KR.br false (by kernel_rfl) (vB (bF c6)) ?_
    obtain ⟨t0b, t0o, rfl, h⟩ := h
    refine KR.run 5 [(0, .pointer (some ⟨t0b, t0o, none⟩)), (1, .int .i64 t1), (2, .int .u32 t2), (27, .pointer (some ⟨t0b, (t0o + 2), none⟩))] 62 (s' := (.reg (opsAt (sub B [1, 0, 0, 1, 1, 0])) [3, 4, 5] :: S3)) (by kernel_rfl) fun J => ?_
    obtain ⟨t28, q7, h⟩ := h
    refine KR.rd (one_ld (by kernel_rfl) q7) ?_
    refine KR.run 3 [(0, .pointer (some ⟨t0b, t0o, none⟩)), (1, .int .i64 t1), (2, .int .u32 t2), (24, .bool (t28 == 4294967295))] 62 (s' := (.code (sub B [1, 0, 0, 1, 1, 1]) :: S1)) (by kernel_rfl) fun J => ?_
    by_cases c8 : t28 = 4294967295
    · replace h := iteT c8 h
      refine KR.br true (by kernel_rfl) (vB (eT c8)) ?_
      refine KR.run 5 [(6, .slice none 0 0), (7, .int .i64 5)] 62 (s' := (.code (sub B [1, 0, 0, 1, 1, 1, 0, 1]) :: S1)) (by kernel_rfl) fun J => ?_
      exact KR.fin (by kernel_rfl) h
    · replace h := iteF c8 h
      refine KR.br false (by kernel_rfl) (vB (eF c8)) ?_
      refine KR.run 7 [(0, .pointer (some ⟨t0b, t0o, none⟩)), (1, .int .i64 t1), (2, .int .u32 t2), (30, .pointer (some ⟨t0b, t0o, none⟩)), (32, .pointer (some ⟨t0b, (t0o + 2), none⟩))] 62 (s' := (.reg (opsAt (sub B [1, 1, 0])) [3, 4, 5, 6, 7] :: S4)) (by kernel_rfl) fun J => ?_
      obtain ⟨t33, q9, h⟩ := h
      refine KR.rd (one_ld (by kernel_rfl) q9) ?_
      refine KR.run 3 [(0, .pointer (some ⟨t0b, t0o, none⟩)), (1, .int .i64 t1), (2, .int .u32 t2), (34, .int .u32 (IntKind.wrap .u32 (t33 + 1))), (36, .pointer (some ⟨t0b, (t0o + 2), none⟩))] 62 (s' := (.reg (opsAt (sub B [1, 1, 0])) [7] :: S4)) (by kernel_rfl) fun J => ?_
      obtain ⟨H_1, q10, h⟩ := h
      refine KR.se (one_st (by kernel_rfl) q10) ?_
      refine KR.run 8 [(0, .pointer (some ⟨t0b, t0o, none⟩)), (1, .int .i64 t1), (2, .int .u32 t2), (38, .pointer (some ⟨t0b, t0o, none⟩)), (39, .int .u32 t2), (41, .pointer (some ⟨t0b, (t0o + 3), none⟩))] 62 (s' := (.reg (opsAt (sub B [1, 1, 1, 0])) [5, 6, 7, 8] :: S5)) (by kernel_rfl) fun J => ?_
      obtain ⟨H_2, q11, h⟩ := h
      refine KR.se (one_st (by kernel_rfl) q11) ?_
      refine KR.run 2 [(0, .pointer (some ⟨t0b, t0o, none⟩)), (1, .int .i64 t1), (2, .int .u32 t2), (43, .pointer (some ⟨t0b, (t0o + 4), none⟩))] 62 (s' := (.reg (opsAt (sub B [1, 1, 1, 0])) [8] :: S5)) (by kernel_rfl) fun J => ?_
      obtain ⟨H_3, q12, h⟩ := h
      refine KR.se (one_st (by kernel_rfl) q12) ?_
      refine KR.run 2 [(0, .pointer (some ⟨t0b, t0o, none⟩)), (1, .int .i64 t1), (2, .int .u32 t2)] 62 (s' := (.code (sub B [1, 1, 1, 1, 0]) :: S6)) (by kernel_rfl) fun J => ?_
      refine KR.sd (by kernel_rfl) ?_
      refine KR.run 3 [(0, .pointer (some ⟨t0b, t0o, none⟩)), (1, .int .i64 t1), (2, .int .u32 t2), (46, .pointer (some ⟨t0b, (t0o + 1), none⟩))] 62 (s' := (.reg (opsAt (sub B [1, 1, 1, 1, 0])) [3, 4, 5, 6, 7, 8, 9, 10, 11, 12, 13, 14, 15, 16, 17, 18, 19] :: S6)) (by kernel_rfl) fun J => ?_
      obtain ⟨t47, q13, h⟩ := h
      refine KR.rd (one_ld (by kernel_rfl) q13) ?_
      refine KR.run 3 [(0, .pointer (some ⟨t0b, t0o, none⟩)), (1, .int .i64 t1), (2, .int .u32 t2), (47, .int .u64 t47), (50, .pointer (some ⟨t0b, t0o, none⟩))] 62 (s' := (.reg (opsAt (sub B [1, 1, 1, 1, 0])) [7, 8, 9, 10, 11, 12, 13, 14, 15, 16, 17, 18, 19] :: S6)) (by kernel_rfl) fun J => ?_
      obtain ⟨t51, q14, h⟩ := h
      refine KR.rd (one_ld (by kernel_rfl) q14) ?_
      refine KR.run 5 [(47, .int .u64 t47), (51, .int .i64 t51), (52, .int .i64 t1), (53, .int .u32 t2), (56, .pointer (some ⟨t0b, (t0o + 2), none⟩))] 62 (s' := (.reg (opsAt (sub B [1, 1, 1, 1, 0])) [13, 14, 15, 16, 17, 18, 19] :: S6)) (by kernel_rfl) fun J => ?_
      obtain ⟨t57, q15, h⟩ := h
      refine KR.rd (one_ld (by kernel_rfl) q15) ?_
      refine KR.run 1 [(47, .int .u64 t47), (58, .agg #[.int .i64 t51, .int .i64 t1, .int .u32 t2, .int .u32 t57, .int .u32 0])] 62 (s' := (.reg (opsAt (sub B [1, 1, 1, 1, 0])) [15, 16, 17, 18, 19] :: S6)) (by kernel_rfl) fun J => ?_
      obtain ⟨t59r0a, t59r0n, t59r0k, t59r1, H_4, q16, h⟩ := h
      refine KR.se (one_ca (by kernel_rfl) q16) ?_
      refine KR.run 5 [(6, .slice t59r0a t59r0n t59r0k), (7, .int .i64 t59r1)] 62 (s' := (.code (sub B [1, 1, 1, 1, 1]) :: [])) (by kernel_rfl) fun J => ?_
      exact KR.fin (by kernel_rfl) h
theorem call {a0 : Option Addr} {a1 : Int} {a2 : Int} {H : Heap} {r : Value × Heap} (h :
    if (Option.isNone a0) = true then
    (L0 (a0) (a1) (a2) (true) H r)
    else
    (∃ (t13 : Bool) (H_1 : Heap), xC Try.prog good 42 [.int .i64 a1] H = some (.bool t13, H_1) ∧
    (if t13 = true then
    (∃ (a0b a0o : Nat), a0 = some ⟨a0b, a0o, none⟩ ∧
    (∃ (t21 : Int), ldc H_1 a0b a0o = some (.int .i64 t21) ∧
    (L0 ((some ⟨a0b, a0o, none⟩)) (a1) (a2) ((a1 == t21)) H_1 r)))
    else
    (L0 (a0) (a1) (a2) (true) H_1 r)))) :
    xC Try.prog good 21 [.pointer a0, .int .i64 a1, .int .u32 a2] H = some r := by
  refine KR.enter (fn := Try.f21) (c := B) (by kernel_rfl) (by kernel_rfl) ?_
  refine KR.run 10 [(0, .pointer a0), (1, .int .i64 a1), (2, .int .u32 a2), (9, .pointer a0)] 62 (s' := (.reg (opsAt (sub B [1, 0, 0, 0])) [1, 2, 3, 4, 5, 6, 7, 8, 9, 10, 11, 12, 13, 14, 15] :: S2)) (by kernel_rfl) fun J => ?_
  refine KR.p (one_nl false a0 (by kernel_rfl)) ?_
  refine KR.run 1 [(0, .pointer a0), (1, .int .i64 a1), (2, .int .u32 a2), (11, .bool (Option.isNone a0))] 62 (s' := (.reg (opsAt (sub B [1, 0, 0, 0])) [3, 4, 5, 6, 7, 8, 9, 10, 11, 12, 13, 14, 15] :: S2)) (by kernel_rfl) fun J => ?_
  by_cases c2 : (Option.isNone a0) = true
  · replace h := iteT c2 h
    refine KR.setV 11 (by kernel_rfl) (bT c2) ?_
    exact KR.run 14 [(0, .pointer a0), (1, .int .i64 a1), (2, .int .u32 a2), (8, .bool true)] 62 (s' := (.code (sub B [1, 0, 0, 1]) :: S1)) (by kernel_rfl) h
  · replace h := iteF c2 h
    refine KR.setV 11 (by kernel_rfl) (bF c2) ?_
    refine KR.run 1 [(0, .pointer a0), (1, .int .i64 a1), (2, .int .u32 a2), (11, .bool false), (12, .int .i64 a1)] 62 (s' := (.reg (opsAt (sub B [1, 0, 0, 0])) [4, 5, 6, 7, 8, 9, 10, 11, 12, 13, 14, 15] :: S2)) (by kernel_rfl) fun J => ?_
    obtain ⟨t13, H_1, q3, h⟩ := h
    refine KR.se (one_ca (by kernel_rfl) q3) ?_
    refine KR.run 3 [(0, .pointer a0), (1, .int .i64 a1), (2, .int .u32 a2), (16, .bool (!t13))] 62 (s' := (.reg (opsAt (sub B [1, 0, 0, 0])) [8, 9, 10, 11, 12, 13, 14, 15] :: S2)) (by kernel_rfl) fun J => ?_
    by_cases c4 : t13 = true
    · replace h := iteT c4 h
      refine KR.setV 16 (by kernel_rfl) (nB (bT c4)) ?_
      obtain ⟨a0b, a0o, rfl, h⟩ := h
      refine KR.run 4 [(0, .pointer (some ⟨a0b, a0o, none⟩)), (1, .int .i64 a1), (2, .int .u32 a2), (16, .bool false), (17, .int .i64 a1), (20, .pointer (some ⟨a0b, a0o, none⟩))] 62 (s' := (.reg (opsAt (sub B [1, 0, 0, 0])) [12, 13, 14, 15] :: S2)) (by kernel_rfl) fun J => ?_
      obtain ⟨t21, q5, h⟩ := h
      refine KR.rd (one_ld (by kernel_rfl) q5) ?_
      exact KR.run 4 [(0, .pointer (some ⟨a0b, a0o, none⟩)), (1, .int .i64 a1), (2, .int .u32 a2), (8, .bool (a1 == t21))] 62 (s' := (.code (sub B [1, 0, 0, 1]) :: S1)) (by kernel_rfl) h
    · replace h := iteF c4 h
      refine KR.setV 16 (by kernel_rfl) (nB (bF c4)) ?_
      exact KR.run 9 [(0, .pointer a0), (1, .int .i64 a1), (2, .int .u32 a2), (8, .bool true)] 62 (s' := (.code (sub B [1, 0, 0, 1]) :: S1)) (by kernel_rfl) h
end F21
/-! #### 22 (*campanile/join.Desk).Take -/
namespace F22
noncomputable def B : Code := bodyOf Try.f22
noncomputable def S0 : List It := (.code (sub B [1]) :: [])
noncomputable def S1 : List It := (.code (sub B [1, 1]) :: [])
noncomputable def S4 : List It := (.code (sub B [1, 1, 1]) :: [])
noncomputable def S5 : List It := (.code (sub B [1, 1, 1, 1]) :: [])
noncomputable def S12 : List It := (.code (sub B [1, 1, 1, 1, 1]) :: [])
noncomputable def S13 : List It := (.code (sub B [1, 1, 1, 1, 1, 1]) :: [])
noncomputable def S14 : List It := (.code (sub B [1, 1, 1, 1, 1, 1, 1]) :: [])
noncomputable def S16 : List It := (.code (sub B [1, 1, 1, 1, 1, 1, 1, 1]) :: [])
noncomputable def S19 : List It := (.code (sub B [1, 1, 1, 1, 1, 1, 1, 1, 1]) :: [])
noncomputable def S2 : List It := (.code (sub B [1, 0, 1]) :: S1)
noncomputable def S3 : List It := (.code (sub B [1, 0, 1, 0, 1]) :: S1)
noncomputable def S6 : List It := (.blk 0 :: S5)
noncomputable def S15 : List It := (.code (sub B [1, 1, 1, 1, 1, 1, 0, 1]) :: S14)
noncomputable def S20 : List It := (.code (sub B [1, 1, 1, 1, 1, 1, 1, 0]) :: S16)
noncomputable def S7 : List It := (.code (sub B [1, 1, 1, 0, 0, 1, 1, 1]) :: S6)
noncomputable def S8 : List It := (.code (sub B [1, 1, 1, 0, 0, 1, 1, 1, 0, 1]) :: S6)
noncomputable def S9 : List It := (.code (sub B [1, 1, 1, 0, 0, 1, 1, 1, 1, 1]) :: S6)
noncomputable def S10 : List It := (.code (sub B [1, 1, 1, 0, 0, 1, 1, 1, 1, 1, 1, 1]) :: S6)
noncomputable def S11 : List It := (.code (sub B [1, 1, 1, 0, 0, 1, 1, 1, 1, 1, 1, 1, 0, 1]) :: S6)
noncomputable def S17 : List It := (.code (sub B [1, 1, 1, 0, 0, 1, 1, 1, 1, 1, 0, 1]) :: S6)
noncomputable def S18 : List It := (.code (sub B [1, 1, 1, 0, 0, 1, 0, 1]) :: S6)
def L0 (t0b : Nat) (t0o : Nat) (t6b : Nat) (t6o : Nat) (t8b : Nat) (t8o : Nat) (t10b : Nat) (t10o : Nat) (H : Heap) (r : Value × Heap) : Prop := ∀ J, KR Try.prog good Try.f22 S20 (mat J 101 [(0, .pointer (some ⟨t0b, t0o, none⟩)), (6, .pointer (some ⟨t6b, t6o, none⟩)), (8, .pointer (some ⟨t8b, t8o, none⟩)), (10, .pointer (some ⟨t10b, t10o, none⟩))]) H r
theorem L0_step {t0b : Nat} {t0o : Nat} {t6b : Nat} {t6o : Nat} {t8b : Nat} {t8o : Nat} {t10b : Nat} {t10o : Nat} {H : Heap} {r : Value × Heap} (h :
    ∃ (t88a : Option Addr) (t88n : Nat) (t88k : Nat), ldc H t0b t0o = some (.slice t88a t88n t88k) ∧
    (∃ (t90 : Int), ldc H t8b t8o = some (.int .i64 t90) ∧
    (∃ (t88ab t88ao : Nat), t88a = some ⟨t88ab, t88ao, none⟩ ∧
    ((0 : Int) ≤ t90 ∧ t90 < ((t88n : Nat) : Int) ∧
    (∃ (t92 : Int), ldc H t88ab (t88ao + Int.toNat t90 * 1) = some (.int .u64 t92) ∧
    (∃ (t93c0 : Int) (t93c1 : Int) (t93c2 : Int) (t93c3a : Option Addr) (t93c3n : Nat) (t93c3k : Nat) (t93c4 : Int), ldAll H t10b t10o [.int .i64 t93c0, .int .i64 t93c1, .int .u32 t93c2, .slice t93c3a t93c3n t93c3k, .int .u32 t93c4] ∧
    (∃ (t94r0a : Option Addr) (t94r0n : Nat) (t94r0k : Nat) (t94r1 : Int) (H_1 : Heap), xC Try.prog good 11 [.int .u64 t92, .agg #[.int .i64 t93c0, .int .i64 t93c1, .int .u32 t93c2, .slice t93c3a t93c3n t93c3k, .int .u32 t93c4]] H = some (.tuple #[.slice t94r0a t94r0n t94r0k, .int .i64 t94r1], H_1) ∧
    (∃ (t98r0c0 : Int) (t98r0c1 : Int) (t98r0c2 : Int) (t98r0c3a : Option Addr) (t98r0c3n : Nat) (t98r0c3k : Nat) (t98r0c4 : Int) (t98r1 : Int) (H_2 : Heap), xC Try.prog good 16 [.slice t94r0a t94r0n t94r0k] H_1 = some (.tuple #[.agg #[.int .i64 t98r0c0, .int .i64 t98r0c1, .int .u32 t98r0c2, .slice t98r0c3a t98r0c3n t98r0c3k, .int .u32 t98r0c4], .int .i64 t98r1], H_2) ∧
    (∃ (H_3 : Heap), stc H_2 t6b t6o [.int .i64 t98r0c0, .int .i64 t98r0c1, .int .u32 t98r0c2, .slice t98r0c3a t98r0c3n t98r0c3k, .int .u32 t98r0c4] = some H_3 ∧
    (∃ (r6c0 : Int) (r6c1 : Int) (r6c2 : Int) (r6c3a : Option Addr) (r6c3n : Nat) (r6c3k : Nat) (r6c4 : Int), ldAll H_3 t6b t6o [.int .i64 r6c0, .int .i64 r6c1, .int .u32 r6c2, .slice r6c3a r6c3n r6c3k, .int .u32 r6c4] ∧
    (r = (.tuple #[.agg #[.int .i64 r6c0, .int .i64 r6c1, .int .u32 r6c2, .slice r6c3a r6c3n r6c3k, .int .u32 r6c4], .int .i64 t98r1], H_3)))))))))))) :
    L0 t0b t0o t6b t6o t8b t8o t10b t10o H r := by
  intro J
  show KR _ _ _ (.code (sub B [1, 1, 1, 1, 1, 1, 1, 0]) :: S16) _ _ _
  refine KR.sd (by kernel_rfl) ?_
  refine KR.run 3 [(6, .pointer (some ⟨t6b, t6o, none⟩)), (8, .pointer (some ⟨t8b, t8o, none⟩)), (10, .pointer (some ⟨t10b, t10o, none⟩)), (87, .pointer (some ⟨t0b, t0o, none⟩))] 101 (s' := (.reg (opsAt (sub B [1, 1, 1, 1, 1, 1, 1, 0])) [3, 4, 5, 6, 7, 8, 9, 10, 11, 12, 13, 14] :: S16)) (by kernel_rfl) fun J => ?_
  obtain ⟨t88a, t88n, t88k, q48, h⟩ := h
  refine KR.rd (one_ld (by kernel_rfl) q48) ?_
  refine KR.run 1 [(6, .pointer (some ⟨t6b, t6o, none⟩)), (10, .pointer (some ⟨t10b, t10o, none⟩)), (88, .slice t88a t88n t88k), (89, .pointer (some ⟨t8b, t8o, none⟩))] 101 (s' := (.reg (opsAt (sub B [1, 1, 1, 1, 1, 1, 1, 0])) [5, 6, 7, 8, 9, 10, 11, 12, 13, 14] :: S16)) (by kernel_rfl) fun J => ?_
  obtain ⟨t90, q49, h⟩ := h
  refine KR.rd (one_ld (by kernel_rfl) q49) ?_
  obtain ⟨t88ab, t88ao, rfl, h⟩ := h
  obtain ⟨q50, q50x, h⟩ := h
  refine KR.p (one_ix 1 t88ab t88ao (by kernel_rfl) q50 q50x) ?_
  obtain ⟨t92, q51, h⟩ := h
  refine KR.rd (one_ld (by kernel_rfl) q51) ?_
  obtain ⟨t93c0, t93c1, t93c2, t93c3a, t93c3n, t93c3k, t93c4, q52, h⟩ := h
  refine KR.rd (one_ldA (by kernel_rfl) q52) ?_
  obtain ⟨t94r0a, t94r0n, t94r0k, t94r1, H_1, q53, h⟩ := h
  refine KR.se (one_ca (by kernel_rfl) q53) ?_
  refine KR.run 9 [(6, .pointer (some ⟨t6b, t6o, none⟩)), (97, .slice t94r0a t94r0n t94r0k)] 101 (s' := (.reg (opsAt (sub B [1, 1, 1, 1, 1, 1, 1, 1, 0])) [1, 2, 3, 4, 5] :: S19)) (by kernel_rfl) fun J => ?_
  obtain ⟨t98r0c0, t98r0c1, t98r0c2, t98r0c3a, t98r0c3n, t98r0c3k, t98r0c4, t98r1, H_2, q54, h⟩ := h
  refine KR.se (one_ca (by kernel_rfl) q54) ?_
  refine KR.run 2 [(6, .pointer (some ⟨t6b, t6o, none⟩)), (99, .agg #[.int .i64 t98r0c0, .int .i64 t98r0c1, .int .u32 t98r0c2, .slice t98r0c3a t98r0c3n t98r0c3k, .int .u32 t98r0c4]), (100, .int .i64 t98r1)] 101 (s' := (.reg (opsAt (sub B [1, 1, 1, 1, 1, 1, 1, 1, 0])) [4, 5] :: S19)) (by kernel_rfl) fun J => ?_
  obtain ⟨H_3, q55, h⟩ := h
  refine KR.se (one_st (by kernel_rfl) q55) ?_
  refine KR.run 2 [(6, .pointer (some ⟨t6b, t6o, none⟩)), (7, .int .i64 t98r1)] 101 (s' := (.code (sub B [1, 1, 1, 1, 1, 1, 1, 1, 1]) :: [])) (by kernel_rfl) fun J => ?_
  obtain ⟨r6c0, r6c1, r6c2, r6c3a, r6c3n, r6c3k, r6c4, q56, h⟩ := h
  exact KR.finR (l := [.cell 6 28, .tmp 7]) (vs := [.agg #[.int .i64 r6c0, .int .i64 r6c1, .int .u32 r6c2, .slice r6c3a r6c3n r6c3k, .int .u32 r6c4], .int .i64 t98r1]) (by kernel_rfl) (Res.cellA (by kernel_rfl) q56 (Res.tmp (by kernel_rfl) Res.nil)) (by kernel_rfl) h
theorem call {a0 : Option Addr} {a1a : Option Addr} {a1n : Nat} {a1k : Nat} {a2a : Option Addr} {a2n : Nat} {a2k : Nat} {H : Heap} {r : Value × Heap} (h :
    ∃ (H_1 : Heap), H_1 = H.push (.row [.int .i64 0, .int .i64 0, .int .u32 0, .slice none 0 0, .int .u32 0] true) ∧
    (if (Option.isNone a0) = true then
    (∃ (H_2 : Heap), stc H_1 H.next 0 [.int .i64 0, .int .i64 0, .int .u32 0, .slice none 0 0, .int .u32 0] = some H_2 ∧
    (∃ (r6c0 : Int) (r6c1 : Int) (r6c2 : Int) (r6c3a : Option Addr) (r6c3n : Nat) (r6c3k : Nat) (r6c4 : Int), ldAll H_2 H.next 0 [.int .i64 r6c0, .int .i64 r6c1, .int .u32 r6c2, .slice r6c3a r6c3n r6c3k, .int .u32 r6c4] ∧
    (r = (.tuple #[.agg #[.int .i64 r6c0, .int .i64 r6c1, .int .u32 r6c2, .slice r6c3a r6c3n r6c3k, .int .u32 r6c4], .int .i64 1], H_2))))
    else
    (∃ (t18r0c0 : Int) (t18r0c1 : Int) (t18r0c2 : Int) (t18r0c3 : Int) (t18r0c4 : Int) (t18r1 : Int) (H_3 : Heap), xC Try.prog good 14 [.slice a1a a1n a1k] H_1 = some (.tuple #[.agg #[.int .i64 t18r0c0, .int .i64 t18r0c1, .int .u32 t18r0c2, .int .u32 t18r0c3, .int .u32 t18r0c4], .int .i64 t18r1], H_3) ∧
    (∃ (H_4 : Heap), H_4 = H_3.push (.row [.int .i64 0, .int .i64 0, .int .u32 0, .int .u32 0, .int .u32 0] true) ∧
    (∃ (H_5 : Heap), stc H_4 H_3.next 0 [.int .i64 t18r0c0, .int .i64 t18r0c1, .int .u32 t18r0c2, .int .u32 t18r0c3, .int .u32 t18r0c4] = some H_5 ∧
    (if t18r1 = 0 then
    (∃ (t28 : Int), ldc H_5 H_3.next 0 = some (.int .i64 t28) ∧
    (∃ (a0b a0o : Nat), a0 = some ⟨a0b, a0o, none⟩ ∧
    (∃ (t32a : Option Addr) (t32n : Nat) (t32k : Nat), ldc H_5 a0b a0o = some (.slice t32a t32n t32k) ∧
    (if t28 ≥ ((t32n : Nat) : Int) then
    (∃ (H_6 : Heap), stc H_5 H.next 0 [.int .i64 0, .int .i64 0, .int .u32 0, .slice none 0 0, .int .u32 0] = some H_6 ∧
    (∃ (r6c0_1 : Int) (r6c1_1 : Int) (r6c2_1 : Int) (r6c3a_1 : Option Addr) (r6c3n_1 : Nat) (r6c3k_1 : Nat) (r6c4_1 : Int), ldAll H_6 H.next 0 [.int .i64 r6c0_1, .int .i64 r6c1_1, .int .u32 r6c2_1, .slice r6c3a_1 r6c3n_1 r6c3k_1, .int .u32 r6c4_1] ∧
    (r = (.tuple #[.agg #[.int .i64 r6c0_1, .int .i64 r6c1_1, .int .u32 r6c2_1, .slice r6c3a_1 r6c3n_1 r6c3k_1, .int .u32 r6c4_1], .int .i64 6], H_6))))
    else
    (∃ (t40a : Option Addr) (t40n : Nat) (t40k : Nat), ldc H_5 a0b a0o = some (.slice t40a t40n t40k) ∧
    (∃ (t42 : Int), ldc H_5 H_3.next 0 = some (.int .i64 t42) ∧
    (∃ (t40ab t40ao : Nat), t40a = some ⟨t40ab, t40ao, none⟩ ∧
    ((0 : Int) ≤ t42 ∧ t42 < ((t40n : Nat) : Int) ∧
    (∃ (t44 : Int), ldc H_5 t40ab (t40ao + Int.toNat t42 * 1) = some (.int .u64 t44) ∧
    (∃ (t47 : Int), ldc H_5 H_3.next 4 = some (.int .u32 t47) ∧
    (∃ (t48 : Bool) (H_7 : Heap), xC Try.prog good 43 [.int .u64 t44, .slice a1a a1n a1k, .int .u32 t47] H_5 = some (.bool t48, H_7) ∧
    (if t48 = true then
    (∃ (t53 : Int), ldc H_7 H_3.next 3 = some (.int .u32 t53) ∧
    (∃ (t57a : Option Addr) (t57n : Nat) (t57k : Nat), ldc H_7 a0b (a0o + 1) = some (.slice t57a t57n t57k) ∧
    (∃ (t59 : Int), ldc H_7 H_3.next 0 = some (.int .i64 t59) ∧
    (∃ (t57ab t57ao : Nat), t57a = some ⟨t57ab, t57ao, none⟩ ∧
    ((0 : Int) ≤ t59 ∧ t59 < ((t57n : Nat) : Int) ∧
    (∃ (t61 : Int), ldc H_7 t57ab (t57ao + Int.toNat t59 * 1) = some (.int .u32 t61) ∧
    (if t53 ≤ t61 then
    (∃ (H_8 : Heap), stc H_7 H.next 0 [.int .i64 0, .int .i64 0, .int .u32 0, .slice none 0 0, .int .u32 0] = some H_8 ∧
    (∃ (r6c0_2 : Int) (r6c1_2 : Int) (r6c2_2 : Int) (r6c3a_2 : Option Addr) (r6c3n_2 : Nat) (r6c3k_2 : Nat) (r6c4_2 : Int), ldAll H_8 H.next 0 [.int .i64 r6c0_2, .int .i64 r6c1_2, .int .u32 r6c2_2, .slice r6c3a_2 r6c3n_2 r6c3k_2, .int .u32 r6c4_2] ∧
    (r = (.tuple #[.agg #[.int .i64 r6c0_2, .int .i64 r6c1_2, .int .u32 r6c2_2, .slice r6c3a_2 r6c3n_2 r6c3k_2, .int .u32 r6c4_2], .int .i64 8], H_8))))
    else
    (∃ (t67a : Option Addr) (t67n : Nat) (t67k : Nat), ldc H_7 a0b (a0o + 1) = some (.slice t67a t67n t67k) ∧
    (∃ (t69 : Int), ldc H_7 H_3.next 0 = some (.int .i64 t69) ∧
    (∃ (t71 : Int), ldc H_7 H_3.next 3 = some (.int .u32 t71) ∧
    (∃ (t67ab t67ao : Nat), t67a = some ⟨t67ab, t67ao, none⟩ ∧
    ((0 : Int) ≤ t69 ∧ t69 < ((t67n : Nat) : Int) ∧
    (∃ (H_9 : Heap), stc H_7 t67ab (t67ao + Int.toNat t69 * 1) [.int .u32 t71] = some H_9 ∧
    (∃ (t74 : Int), ldc H_9 H_3.next 0 = some (.int .i64 t74) ∧
    (∃ (t76 : Int), ldc H_9 H_3.next 2 = some (.int .u32 t76) ∧
    (∃ (H_10 : Heap), H_10 = H_9.push (.row [.int .i64 0, .int .i64 0, .int .u32 0, .slice none 0 0, .int .u32 0] true) ∧
    (∃ (H_11 : Heap), stc H_10 H_9.next 0 [.int .i64 t74, .int .i64 1, .int .u32 t76, .slice none 0 0, .int .u32 0] = some H_11 ∧
    (∃ (t79 : Bool) (H_12 : Heap), xC Try.prog good 44 [.slice a2a a2n a2k] H_11 = some (.bool t79, H_12) ∧
    (if t79 = true then
    (∃ (t81a : Option Addr) (t81n : Nat) (t81k : Nat) (H_13 : Heap), xC Try.prog good 45 [.slice a2a a2n a2k] H_12 = some (.slice t81a t81n t81k, H_13) ∧
    (∃ (H_14 : Heap), stc H_13 H_9.next 1 [.int .i64 0] = some H_14 ∧
    (∃ (H_15 : Heap), stc H_14 H_9.next 3 [.slice t81a t81n t81k] = some H_15 ∧
    (L0 (a0b) (a0o) (H.next) (0) (H_3.next) (0) (H_9.next) (0) H_15 r))))
    else
    (L0 (a0b) (a0o) (H.next) (0) (H_3.next) (0) (H_9.next) (0) H_12 r))))))))))))))))))))
    else
    (∃ (H_16 : Heap), stc H_7 H.next 0 [.int .i64 0, .int .i64 0, .int .u32 0, .slice none 0 0, .int .u32 0] = some H_16 ∧
    (∃ (r6c0_3 : Int) (r6c1_3 : Int) (r6c2_3 : Int) (r6c3a_3 : Option Addr) (r6c3n_3 : Nat) (r6c3k_3 : Nat) (r6c4_3 : Int), ldAll H_16 H.next 0 [.int .i64 r6c0_3, .int .i64 r6c1_3, .int .u32 r6c2_3, .slice r6c3a_3 r6c3n_3 r6c3k_3, .int .u32 r6c4_3] ∧
    (r = (.tuple #[.agg #[.int .i64 r6c0_3, .int .i64 r6c1_3, .int .u32 r6c2_3, .slice r6c3a_3 r6c3n_3 r6c3k_3, .int .u32 r6c4_3], .int .i64 10], H_16))))))))))))))))
    else
    (∃ (H_17 : Heap), stc H_5 H.next 0 [.int .i64 0, .int .i64 0, .int .u32 0, .slice none 0 0, .int .u32 0] = some H_17 ∧
    (∃ (r6c0_4 : Int) (r6c1_4 : Int) (r6c2_4 : Int) (r6c3a_4 : Option Addr) (r6c3n_4 : Nat) (r6c3k_4 : Nat) (r6c4_4 : Int), ldAll H_17 H.next 0 [.int .i64 r6c0_4, .int .i64 r6c1_4, .int .u32 r6c2_4, .slice r6c3a_4 r6c3n_4 r6c3k_4, .int .u32 r6c4_4] ∧
    (r = (.tuple #[.agg #[.int .i64 r6c0_4, .int .i64 r6c1_4, .int .u32 r6c2_4, .slice r6c3a_4 r6c3n_4 r6c3k_4, .int .u32 r6c4_4], .int .i64 t18r1], H_17)))))))))) :
    xC Try.prog good 22 [.pointer a0, .slice a1a a1n a1k, .slice a2a a2n a2k] H = some r := by
  refine KR.enter (fn := Try.f22) (c := B) (by kernel_rfl) (by kernel_rfl) ?_
  refine KR.run 2 [(0, .pointer a0), (1, .slice a1a a1n a1k), (2, .slice a2a a2n a2k)] 101 (s' := (.reg (opsAt (sub B [0])) [0, 1] :: S0)) (by kernel_rfl) fun J => ?_
  obtain ⟨H_1, q1, h⟩ := h
  refine KR.mk (w := pRow [.int .i64 0, .int .i64 0, .int .u32 0, .slice none 0 0, .int .u32 0]) (one_al (by kernel_rfl)) q1 ?_
  refine KR.run 6 [(0, .pointer a0), (1, .slice a1a a1n a1k), (2, .slice a2a a2n a2k), (6, .pointer (some ⟨H.next, 0, none⟩)), (13, .pointer a0)] 101 (s' := (.reg (opsAt (sub B [1, 0, 0])) [1] :: S2)) (by kernel_rfl) fun J => ?_
  refine KR.p (one_nl false a0 (by kernel_rfl)) ?_
  refine KR.run 1 [(0, .pointer a0), (1, .slice a1a a1n a1k), (2, .slice a2a a2n a2k), (6, .pointer (some ⟨H.next, 0, none⟩)), (14, .bool (Option.isNone a0))] 101 (s' := (.code (sub B [1, 0, 1]) :: S1)) (by kernel_rfl) fun J => ?_
  by_cases c3 : (Option.isNone a0) = true
  · replace h := iteT c3 h
    refine KR.br true (by kernel_rfl) (vB (bT c3)) ?_
    refine KR.run 3 [(6, .pointer (some ⟨H.next, 0, none⟩)), (15, .agg #[.int .i64 0, .int .i64 0, .int .u32 0, .slice none 0 0, .int .u32 0])] 101 (s' := (.reg (opsAt (sub B [1, 0, 1, 0, 0])) [1, 2] :: S3)) (by kernel_rfl) fun J => ?_
    obtain ⟨H_2, q4, h⟩ := h
    refine KR.se (one_st (by kernel_rfl) q4) ?_
    refine KR.run 2 [(6, .pointer (some ⟨H.next, 0, none⟩)), (7, .int .i64 1)] 101 (s' := (.code (sub B [1, 0, 1, 0, 1]) :: S1)) (by kernel_rfl) fun J => ?_
    obtain ⟨r6c0, r6c1, r6c2, r6c3a, r6c3n, r6c3k, r6c4, q5, h⟩ := h
    exact KR.finR (l := [.cell 6 28, .tmp 7]) (vs := [.agg #[.int .i64 r6c0, .int .i64 r6c1, .int .u32 r6c2, .slice r6c3a r6c3n r6c3k, .int .u32 r6c4], .int .i64 1]) (by kernel_rfl) (Res.cellA (by kernel_rfl) q5 (Res.tmp (by kernel_rfl) Res.nil)) (by kernel_rfl) h
  · replace h := iteF c3 h
    refine KR.br false (by kernel_rfl) (vB (bF c3)) ?_
    refine KR.run 4 [(0, .pointer a0), (1, .slice a1a a1n a1k), (2, .slice a2a a2n a2k), (6, .pointer (some ⟨H.next, 0, none⟩)), (17, .slice a1a a1n a1k)] 101 (s' := (.reg (opsAt (sub B [1, 1, 0])) [1, 2, 3, 4, 5, 6, 7] :: S4)) (by kernel_rfl) fun J => ?_
    obtain ⟨t18r0c0, t18r0c1, t18r0c2, t18r0c3, t18r0c4, t18r1, H_3, q6, h⟩ := h
    refine KR.se (one_ca (by kernel_rfl) q6) ?_
    refine KR.run 3 [(0, .pointer a0), (1, .slice a1a a1n a1k), (2, .slice a2a a2n a2k), (6, .pointer (some ⟨H.next, 0, none⟩)), (19, .agg #[.int .i64 t18r0c0, .int .i64 t18r0c1, .int .u32 t18r0c2, .int .u32 t18r0c3, .int .u32 t18r0c4]), (20, .int .i64 t18r1)] 101 (s' := (.reg (opsAt (sub B [1, 1, 0])) [5, 6, 7] :: S4)) (by kernel_rfl) fun J => ?_
    obtain ⟨H_4, q7, h⟩ := h
    refine KR.mk (w := pRow [.int .i64 0, .int .i64 0, .int .u32 0, .int .u32 0, .int .u32 0]) (one_al (by kernel_rfl)) q7 ?_
    obtain ⟨H_5, q8, h⟩ := h
    refine KR.se (one_st (by kernel_rfl) q8) ?_
    refine KR.run 10 [(0, .pointer a0), (1, .slice a1a a1n a1k), (2, .slice a2a a2n a2k), (6, .pointer (some ⟨H.next, 0, none⟩)), (8, .pointer (some ⟨H_3.next, 0, none⟩)), (9, .int .i64 t18r1), (21, .bool (!(t18r1 == 0)))] 101 (s' := (.code (sub B [1, 1, 1, 0, 0, 1]) :: S6)) (by kernel_rfl) fun J => ?_
    by_cases c9 : t18r1 = 0
    · replace h := iteT c9 h
      refine KR.br false (by kernel_rfl) (vB (nB (eT c9))) ?_
      refine KR.run 1 [(0, .pointer a0), (1, .slice a1a a1n a1k), (2, .slice a2a a2n a2k), (6, .pointer (some ⟨H.next, 0, none⟩)), (8, .pointer (some ⟨H_3.next, 0, none⟩))] 101 (s' := (.code (sub B [1, 1, 1, 0, 0, 1, 1, 0]) :: S7)) (by kernel_rfl) fun J => ?_
      refine KR.sd (by kernel_rfl) ?_
      refine KR.run 1 [(0, .pointer a0), (1, .slice a1a a1n a1k), (2, .slice a2a a2n a2k), (6, .pointer (some ⟨H.next, 0, none⟩)), (8, .pointer (some ⟨H_3.next, 0, none⟩)), (27, .pointer (some ⟨H_3.next, 0, none⟩))] 101 (s' := (.reg (opsAt (sub B [1, 1, 1, 0, 0, 1, 1, 0])) [1, 2, 3, 4, 5, 6, 7, 8] :: S7)) (by kernel_rfl) fun J => ?_
      obtain ⟨t28, q10, h⟩ := h
      refine KR.rd (one_ld (by kernel_rfl) q10) ?_
      obtain ⟨a0b, a0o, rfl, h⟩ := h
      refine KR.run 3 [(0, .pointer (some ⟨a0b, a0o, none⟩)), (1, .slice a1a a1n a1k), (2, .slice a2a a2n a2k), (6, .pointer (some ⟨H.next, 0, none⟩)), (8, .pointer (some ⟨H_3.next, 0, none⟩)), (28, .int .i64 t28), (31, .pointer (some ⟨a0b, a0o, none⟩))] 101 (s' := (.reg (opsAt (sub B [1, 1, 1, 0, 0, 1, 1, 0])) [5, 6, 7, 8] :: S7)) (by kernel_rfl) fun J => ?_
      obtain ⟨t32a, t32n, t32k, q11, h⟩ := h
      refine KR.rd (one_ld (by kernel_rfl) q11) ?_
      refine KR.run 4 [(0, .pointer (some ⟨a0b, a0o, none⟩)), (1, .slice a1a a1n a1k), (2, .slice a2a a2n a2k), (6, .pointer (some ⟨H.next, 0, none⟩)), (8, .pointer (some ⟨H_3.next, 0, none⟩)), (26, .bool (decide (t28 ≥ ((t32n : Nat) : Int))))] 101 (s' := (.code (sub B [1, 1, 1, 0, 0, 1, 1, 1]) :: S6)) (by kernel_rfl) fun J => ?_
      by_cases c12 : t28 ≥ ((t32n : Nat) : Int)
      · replace h := iteT c12 h
        refine KR.br true (by kernel_rfl) (vB (dT c12)) ?_
        refine KR.run 3 [(6, .pointer (some ⟨H.next, 0, none⟩)), (35, .agg #[.int .i64 0, .int .i64 0, .int .u32 0, .slice none 0 0, .int .u32 0])] 101 (s' := (.reg (opsAt (sub B [1, 1, 1, 0, 0, 1, 1, 1, 0, 0])) [1, 2] :: S8)) (by kernel_rfl) fun J => ?_
        obtain ⟨H_6, q13, h⟩ := h
        refine KR.se (one_st (by kernel_rfl) q13) ?_
        refine KR.run 2 [(6, .pointer (some ⟨H.next, 0, none⟩)), (7, .int .i64 6)] 101 (s' := (.code (sub B [1, 1, 1, 0, 0, 1, 1, 1, 0, 1]) :: S6)) (by kernel_rfl) fun J => ?_
        obtain ⟨r6c0_1, r6c1_1, r6c2_1, r6c3a_1, r6c3n_1, r6c3k_1, r6c4_1, q14, h⟩ := h
        exact KR.finR (l := [.cell 6 28, .tmp 7]) (vs := [.agg #[.int .i64 r6c0_1, .int .i64 r6c1_1, .int .u32 r6c2_1, .slice r6c3a_1 r6c3n_1 r6c3k_1, .int .u32 r6c4_1], .int .i64 6]) (by kernel_rfl) (Res.cellA (by kernel_rfl) q14 (Res.tmp (by kernel_rfl) Res.nil)) (by kernel_rfl) h
      · replace h := iteF c12 h
        refine KR.br false (by kernel_rfl) (vB (dF c12)) ?_
        refine KR.run 1 [(0, .pointer (some ⟨a0b, a0o, none⟩)), (1, .slice a1a a1n a1k), (2, .slice a2a a2n a2k), (6, .pointer (some ⟨H.next, 0, none⟩)), (8, .pointer (some ⟨H_3.next, 0, none⟩))] 101 (s' := (.code (sub B [1, 1, 1, 0, 0, 1, 1, 1, 1, 0]) :: S9)) (by kernel_rfl) fun J => ?_
        refine KR.sd (by kernel_rfl) ?_
        refine KR.run 3 [(0, .pointer (some ⟨a0b, a0o, none⟩)), (1, .slice a1a a1n a1k), (2, .slice a2a a2n a2k), (6, .pointer (some ⟨H.next, 0, none⟩)), (8, .pointer (some ⟨H_3.next, 0, none⟩)), (39, .pointer (some ⟨a0b, a0o, none⟩))] 101 (s' := (.reg (opsAt (sub B [1, 1, 1, 0, 0, 1, 1, 1, 1, 0])) [3, 4, 5, 6, 7, 8, 9, 10, 11, 12, 13] :: S9)) (by kernel_rfl) fun J => ?_
        obtain ⟨t40a, t40n, t40k, q15, h⟩ := h
        refine KR.rd (one_ld (by kernel_rfl) q15) ?_
        refine KR.run 1 [(0, .pointer (some ⟨a0b, a0o, none⟩)), (1, .slice a1a a1n a1k), (2, .slice a2a a2n a2k), (6, .pointer (some ⟨H.next, 0, none⟩)), (8, .pointer (some ⟨H_3.next, 0, none⟩)), (40, .slice t40a t40n t40k), (41, .pointer (some ⟨H_3.next, 0, none⟩))] 101 (s' := (.reg (opsAt (sub B [1, 1, 1, 0, 0, 1, 1, 1, 1, 0])) [5, 6, 7, 8, 9, 10, 11, 12, 13] :: S9)) (by kernel_rfl) fun J => ?_
        obtain ⟨t42, q16, h⟩ := h
        refine KR.rd (one_ld (by kernel_rfl) q16) ?_
        obtain ⟨t40ab, t40ao, rfl, h⟩ := h
        obtain ⟨q17, q17x, h⟩ := h
        refine KR.p (one_ix 1 t40ab t40ao (by kernel_rfl) q17 q17x) ?_
        obtain ⟨t44, q18, h⟩ := h
        refine KR.rd (one_ld (by kernel_rfl) q18) ?_
        refine KR.run 2 [(0, .pointer (some ⟨a0b, a0o, none⟩)), (2, .slice a2a a2n a2k), (6, .pointer (some ⟨H.next, 0, none⟩)), (8, .pointer (some ⟨H_3.next, 0, none⟩)), (44, .int .u64 t44), (45, .slice a1a a1n a1k), (46, .pointer (some ⟨H_3.next, 4, none⟩))] 101 (s' := (.reg (opsAt (sub B [1, 1, 1, 0, 0, 1, 1, 1, 1, 0])) [10, 11, 12, 13] :: S9)) (by kernel_rfl) fun J => ?_
        obtain ⟨t47, q19, h⟩ := h
        refine KR.rd (one_ld (by kernel_rfl) q19) ?_
        obtain ⟨t48, H_7, q20, h⟩ := h
        refine KR.se (one_ca (by kernel_rfl) q20) ?_
        refine KR.run 3 [(0, .pointer (some ⟨a0b, a0o, none⟩)), (2, .slice a2a a2n a2k), (6, .pointer (some ⟨H.next, 0, none⟩)), (8, .pointer (some ⟨H_3.next, 0, none⟩)), (36, .bool (!t48))] 101 (s' := (.code (sub B [1, 1, 1, 0, 0, 1, 1, 1, 1, 1]) :: S6)) (by kernel_rfl) fun J => ?_
        by_cases c21 : t48 = true
        · replace h := iteT c21 h
          refine KR.br false (by kernel_rfl) (vB (nB (bT c21))) ?_
          refine KR.run 1 [(0, .pointer (some ⟨a0b, a0o, none⟩)), (2, .slice a2a a2n a2k), (6, .pointer (some ⟨H.next, 0, none⟩)), (8, .pointer (some ⟨H_3.next, 0, none⟩))] 101 (s' := (.code (sub B [1, 1, 1, 0, 0, 1, 1, 1, 1, 1, 1, 0]) :: S10)) (by kernel_rfl) fun J => ?_
          refine KR.sd (by kernel_rfl) ?_
          refine KR.run 1 [(0, .pointer (some ⟨a0b, a0o, none⟩)), (2, .slice a2a a2n a2k), (6, .pointer (some ⟨H.next, 0, none⟩)), (8, .pointer (some ⟨H_3.next, 0, none⟩)), (52, .pointer (some ⟨H_3.next, 3, none⟩))] 101 (s' := (.reg (opsAt (sub B [1, 1, 1, 0, 0, 1, 1, 1, 1, 1, 1, 0])) [1, 2, 3, 4, 5, 6, 7, 8, 9, 10, 11] :: S10)) (by kernel_rfl) fun J => ?_
          obtain ⟨t53, q22, h⟩ := h
          refine KR.rd (one_ld (by kernel_rfl) q22) ?_
          refine KR.run 3 [(0, .pointer (some ⟨a0b, a0o, none⟩)), (2, .slice a2a a2n a2k), (6, .pointer (some ⟨H.next, 0, none⟩)), (8, .pointer (some ⟨H_3.next, 0, none⟩)), (53, .int .u32 t53), (56, .pointer (some ⟨a0b, (a0o + 1), none⟩))] 101 (s' := (.reg (opsAt (sub B [1, 1, 1, 0, 0, 1, 1, 1, 1, 1, 1, 0])) [5, 6, 7, 8, 9, 10, 11] :: S10)) (by kernel_rfl) fun J => ?_
          obtain ⟨t57a, t57n, t57k, q23, h⟩ := h
          refine KR.rd (one_ld (by kernel_rfl) q23) ?_
          refine KR.run 1 [(0, .pointer (some ⟨a0b, a0o, none⟩)), (2, .slice a2a a2n a2k), (6, .pointer (some ⟨H.next, 0, none⟩)), (8, .pointer (some ⟨H_3.next, 0, none⟩)), (53, .int .u32 t53), (57, .slice t57a t57n t57k), (58, .pointer (some ⟨H_3.next, 0, none⟩))] 101 (s' := (.reg (opsAt (sub B [1, 1, 1, 0, 0, 1, 1, 1, 1, 1, 1, 0])) [7, 8, 9, 10, 11] :: S10)) (by kernel_rfl) fun J => ?_
          obtain ⟨t59, q24, h⟩ := h
          refine KR.rd (one_ld (by kernel_rfl) q24) ?_
          obtain ⟨t57ab, t57ao, rfl, h⟩ := h
          obtain ⟨q25, q25x, h⟩ := h
          refine KR.p (one_ix 1 t57ab t57ao (by kernel_rfl) q25 q25x) ?_
          obtain ⟨t61, q26, h⟩ := h
          refine KR.rd (one_ld (by kernel_rfl) q26) ?_
          refine KR.run 3 [(0, .pointer (some ⟨a0b, a0o, none⟩)), (2, .slice a2a a2n a2k), (6, .pointer (some ⟨H.next, 0, none⟩)), (8, .pointer (some ⟨H_3.next, 0, none⟩)), (51, .bool (decide (t53 ≤ t61)))] 101 (s' := (.code (sub B [1, 1, 1, 0, 0, 1, 1, 1, 1, 1, 1, 1]) :: S6)) (by kernel_rfl) fun J => ?_
          by_cases c27 : t53 ≤ t61
          · replace h := iteT c27 h
            refine KR.br true (by kernel_rfl) (vB (dT c27)) ?_
            refine KR.run 3 [(6, .pointer (some ⟨H.next, 0, none⟩)), (63, .agg #[.int .i64 0, .int .i64 0, .int .u32 0, .slice none 0 0, .int .u32 0])] 101 (s' := (.reg (opsAt (sub B [1, 1, 1, 0, 0, 1, 1, 1, 1, 1, 1, 1, 0, 0])) [1, 2] :: S11)) (by kernel_rfl) fun J => ?_
            obtain ⟨H_8, q28, h⟩ := h
            refine KR.se (one_st (by kernel_rfl) q28) ?_
            refine KR.run 2 [(6, .pointer (some ⟨H.next, 0, none⟩)), (7, .int .i64 8)] 101 (s' := (.code (sub B [1, 1, 1, 0, 0, 1, 1, 1, 1, 1, 1, 1, 0, 1]) :: S6)) (by kernel_rfl) fun J => ?_
            obtain ⟨r6c0_2, r6c1_2, r6c2_2, r6c3a_2, r6c3n_2, r6c3k_2, r6c4_2, q29, h⟩ := h
            exact KR.finR (l := [.cell 6 28, .tmp 7]) (vs := [.agg #[.int .i64 r6c0_2, .int .i64 r6c1_2, .int .u32 r6c2_2, .slice r6c3a_2 r6c3n_2 r6c3k_2, .int .u32 r6c4_2], .int .i64 8]) (by kernel_rfl) (Res.cellA (by kernel_rfl) q29 (Res.tmp (by kernel_rfl) Res.nil)) (by kernel_rfl) h
          · replace h := iteF c27 h
            refine KR.br false (by kernel_rfl) (vB (dF c27)) ?_
            refine KR.run 3 [(0, .pointer (some ⟨a0b, a0o, none⟩)), (2, .slice a2a a2n a2k), (6, .pointer (some ⟨H.next, 0, none⟩)), (8, .pointer (some ⟨H_3.next, 0, none⟩))] 101 (s' := (.code (sub B [1, 1, 1, 1, 0]) :: S12)) (by kernel_rfl) fun J => ?_
            refine KR.sd (by kernel_rfl) ?_
            refine KR.run 3 [(0, .pointer (some ⟨a0b, a0o, none⟩)), (2, .slice a2a a2n a2k), (6, .pointer (some ⟨H.next, 0, none⟩)), (8, .pointer (some ⟨H_3.next, 0, none⟩)), (66, .pointer (some ⟨a0b, (a0o + 1), none⟩))] 101 (s' := (.reg (opsAt (sub B [1, 1, 1, 1, 0])) [3, 4, 5, 6, 7, 8, 9] :: S12)) (by kernel_rfl) fun J => ?_
            obtain ⟨t67a, t67n, t67k, q30, h⟩ := h
            refine KR.rd (one_ld (by kernel_rfl) q30) ?_
            refine KR.run 1 [(0, .pointer (some ⟨a0b, a0o, none⟩)), (2, .slice a2a a2n a2k), (6, .pointer (some ⟨H.next, 0, none⟩)), (8, .pointer (some ⟨H_3.next, 0, none⟩)), (67, .slice t67a t67n t67k), (68, .pointer (some ⟨H_3.next, 0, none⟩))] 101 (s' := (.reg (opsAt (sub B [1, 1, 1, 1, 0])) [5, 6, 7, 8, 9] :: S12)) (by kernel_rfl) fun J => ?_
            obtain ⟨t69, q31, h⟩ := h
            refine KR.rd (one_ld (by kernel_rfl) q31) ?_
            refine KR.run 1 [(0, .pointer (some ⟨a0b, a0o, none⟩)), (2, .slice a2a a2n a2k), (6, .pointer (some ⟨H.next, 0, none⟩)), (8, .pointer (some ⟨H_3.next, 0, none⟩)), (67, .slice t67a t67n t67k), (69, .int .i64 t69), (70, .pointer (some ⟨H_3.next, 3, none⟩))] 101 (s' := (.reg (opsAt (sub B [1, 1, 1, 1, 0])) [7, 8, 9] :: S12)) (by kernel_rfl) fun J => ?_
            obtain ⟨t71, q32, h⟩ := h
            refine KR.rd (one_ld (by kernel_rfl) q32) ?_
            obtain ⟨t67ab, t67ao, rfl, h⟩ := h
            obtain ⟨q33, q33x, h⟩ := h
            refine KR.p (one_ix 1 t67ab t67ao (by kernel_rfl) q33 q33x) ?_
            obtain ⟨H_9, q34, h⟩ := h
            refine KR.se (one_st (by kernel_rfl) q34) ?_
            refine KR.run 4 [(0, .pointer (some ⟨a0b, a0o, none⟩)), (2, .slice a2a a2n a2k), (6, .pointer (some ⟨H.next, 0, none⟩)), (8, .pointer (some ⟨H_3.next, 0, none⟩)), (73, .pointer (some ⟨H_3.next, 0, none⟩))] 101 (s' := (.reg (opsAt (sub B [1, 1, 1, 1, 1, 0])) [1, 2, 3, 4, 5, 6] :: S13)) (by kernel_rfl) fun J => ?_
            obtain ⟨t74, q35, h⟩ := h
            refine KR.rd (one_ld (by kernel_rfl) q35) ?_
            refine KR.run 1 [(0, .pointer (some ⟨a0b, a0o, none⟩)), (2, .slice a2a a2n a2k), (6, .pointer (some ⟨H.next, 0, none⟩)), (8, .pointer (some ⟨H_3.next, 0, none⟩)), (74, .int .i64 t74), (75, .pointer (some ⟨H_3.next, 2, none⟩))] 101 (s' := (.reg (opsAt (sub B [1, 1, 1, 1, 1, 0])) [3, 4, 5, 6] :: S13)) (by kernel_rfl) fun J => ?_
            obtain ⟨t76, q36, h⟩ := h
            refine KR.rd (one_ld (by kernel_rfl) q36) ?_
            refine KR.run 1 [(0, .pointer (some ⟨a0b, a0o, none⟩)), (2, .slice a2a a2n a2k), (6, .pointer (some ⟨H.next, 0, none⟩)), (8, .pointer (some ⟨H_3.next, 0, none⟩)), (77, .agg #[.int .i64 t74, .int .i64 1, .int .u32 t76, .slice none 0 0, .int .u32 0])] 101 (s' := (.reg (opsAt (sub B [1, 1, 1, 1, 1, 0])) [5, 6] :: S13)) (by kernel_rfl) fun J => ?_
            obtain ⟨H_10, q37, h⟩ := h
            refine KR.mk (w := pRow [.int .i64 0, .int .i64 0, .int .u32 0, .slice none 0 0, .int .u32 0]) (one_al (by kernel_rfl)) q37 ?_
            obtain ⟨H_11, q38, h⟩ := h
            refine KR.se (one_st (by kernel_rfl) q38) ?_
            refine KR.run 5 [(0, .pointer (some ⟨a0b, a0o, none⟩)), (2, .slice a2a a2n a2k), (6, .pointer (some ⟨H.next, 0, none⟩)), (8, .pointer (some ⟨H_3.next, 0, none⟩)), (10, .pointer (some ⟨H_9.next, 0, none⟩)), (78, .slice a2a a2n a2k)] 101 (s' := (.reg (opsAt (sub B [1, 1, 1, 1, 1, 1, 0, 0])) [1] :: S15)) (by kernel_rfl) fun J => ?_
            obtain ⟨t79, H_12, q39, h⟩ := h
            refine KR.se (one_ca (by kernel_rfl) q39) ?_
            refine KR.run 1 [(0, .pointer (some ⟨a0b, a0o, none⟩)), (2, .slice a2a a2n a2k), (6, .pointer (some ⟨H.next, 0, none⟩)), (8, .pointer (some ⟨H_3.next, 0, none⟩)), (10, .pointer (some ⟨H_9.next, 0, none⟩)), (79, .bool t79)] 101 (s' := (.code (sub B [1, 1, 1, 1, 1, 1, 0, 1]) :: S14)) (by kernel_rfl) fun J => ?_
            by_cases c40 : t79 = true
            · replace h := iteT c40 h
              refine KR.br true (by kernel_rfl) (vB (bT c40)) ?_
              refine KR.run 2 [(0, .pointer (some ⟨a0b, a0o, none⟩)), (6, .pointer (some ⟨H.next, 0, none⟩)), (8, .pointer (some ⟨H_3.next, 0, none⟩)), (10, .pointer (some ⟨H_9.next, 0, none⟩)), (80, .slice a2a a2n a2k)] 101 (s' := (.reg (opsAt (sub B [1, 1, 1, 1, 1, 1, 0, 1, 0])) [1, 2, 3, 4, 5] :: S14)) (by kernel_rfl) fun J => ?_
              obtain ⟨t81a, t81n, t81k, H_13, q41, h⟩ := h
              refine KR.se (one_ca (by kernel_rfl) q41) ?_
              refine KR.run 1 [(0, .pointer (some ⟨a0b, a0o, none⟩)), (6, .pointer (some ⟨H.next, 0, none⟩)), (8, .pointer (some ⟨H_3.next, 0, none⟩)), (10, .pointer (some ⟨H_9.next, 0, none⟩)), (81, .slice t81a t81n t81k), (82, .pointer (some ⟨H_9.next, 1, none⟩))] 101 (s' := (.reg (opsAt (sub B [1, 1, 1, 1, 1, 1, 0, 1, 0])) [3, 4, 5] :: S14)) (by kernel_rfl) fun J => ?_
              obtain ⟨H_14, q42, h⟩ := h
              refine KR.se (one_st (by kernel_rfl) q42) ?_
              refine KR.run 1 [(0, .pointer (some ⟨a0b, a0o, none⟩)), (6, .pointer (some ⟨H.next, 0, none⟩)), (8, .pointer (some ⟨H_3.next, 0, none⟩)), (10, .pointer (some ⟨H_9.next, 0, none⟩)), (81, .slice t81a t81n t81k), (83, .pointer (some ⟨H_9.next, 3, none⟩))] 101 (s' := (.reg (opsAt (sub B [1, 1, 1, 1, 1, 1, 0, 1, 0])) [5] :: S14)) (by kernel_rfl) fun J => ?_
              obtain ⟨H_15, q43, h⟩ := h
              refine KR.se (one_st (by kernel_rfl) q43) ?_
              exact KR.run 2 [(0, .pointer (some ⟨a0b, a0o, none⟩)), (6, .pointer (some ⟨H.next, 0, none⟩)), (8, .pointer (some ⟨H_3.next, 0, none⟩)), (10, .pointer (some ⟨H_9.next, 0, none⟩))] 101 (s' := (.code (sub B [1, 1, 1, 1, 1, 1, 1, 0]) :: S16)) (by kernel_rfl) h
            · replace h := iteF c40 h
              refine KR.br false (by kernel_rfl) (vB (bF c40)) ?_
              exact KR.run 2 [(0, .pointer (some ⟨a0b, a0o, none⟩)), (6, .pointer (some ⟨H.next, 0, none⟩)), (8, .pointer (some ⟨H_3.next, 0, none⟩)), (10, .pointer (some ⟨H_9.next, 0, none⟩))] 101 (s' := (.code (sub B [1, 1, 1, 1, 1, 1, 1, 0]) :: S16)) (by kernel_rfl) h
        · replace h := iteF c21 h
          refine KR.br true (by kernel_rfl) (vB (nB (bF c21))) ?_
          refine KR.run 3 [(6, .pointer (some ⟨H.next, 0, none⟩)), (50, .agg #[.int .i64 0, .int .i64 0, .int .u32 0, .slice none 0 0, .int .u32 0])] 101 (s' := (.reg (opsAt (sub B [1, 1, 1, 0, 0, 1, 1, 1, 1, 1, 0, 0])) [1, 2] :: S17)) (by kernel_rfl) fun J => ?_
          obtain ⟨H_16, q44, h⟩ := h
          refine KR.se (one_st (by kernel_rfl) q44) ?_
          refine KR.run 2 [(6, .pointer (some ⟨H.next, 0, none⟩)), (7, .int .i64 10)] 101 (s' := (.code (sub B [1, 1, 1, 0, 0, 1, 1, 1, 1, 1, 0, 1]) :: S6)) (by kernel_rfl) fun J => ?_
          obtain ⟨r6c0_3, r6c1_3, r6c2_3, r6c3a_3, r6c3n_3, r6c3k_3, r6c4_3, q45, h⟩ := h
          exact KR.finR (l := [.cell 6 28, .tmp 7]) (vs := [.agg #[.int .i64 r6c0_3, .int .i64 r6c1_3, .int .u32 r6c2_3, .slice r6c3a_3 r6c3n_3 r6c3k_3, .int .u32 r6c4_3], .int .i64 10]) (by kernel_rfl) (Res.cellA (by kernel_rfl) q45 (Res.tmp (by kernel_rfl) Res.nil)) (by kernel_rfl) h
    · replace h := iteF c9 h
      refine KR.br true (by kernel_rfl) (vB (nB (eF c9))) ?_
      refine KR.run 4 [(6, .pointer (some ⟨H.next, 0, none⟩)), (24, .agg #[.int .i64 0, .int .i64 0, .int .u32 0, .slice none 0 0, .int .u32 0]), (25, .int .i64 t18r1)] 101 (s' := (.reg (opsAt (sub B [1, 1, 1, 0, 0, 1, 0, 0])) [2, 3] :: S18)) (by kernel_rfl) fun J => ?_
      obtain ⟨H_17, q46, h⟩ := h
      refine KR.se (one_st (by kernel_rfl) q46) ?_
      refine KR.run 2 [(6, .pointer (some ⟨H.next, 0, none⟩)), (7, .int .i64 t18r1)] 101 (s' := (.code (sub B [1, 1, 1, 0, 0, 1, 0, 1]) :: S6)) (by kernel_rfl) fun J => ?_
      obtain ⟨r6c0_4, r6c1_4, r6c2_4, r6c3a_4, r6c3n_4, r6c3k_4, r6c4_4, q47, h⟩ := h
      exact KR.finR (l := [.cell 6 28, .tmp 7]) (vs := [.agg #[.int .i64 r6c0_4, .int .i64 r6c1_4, .int .u32 r6c2_4, .slice r6c3a_4 r6c3n_4 r6c3k_4, .int .u32 r6c4_4], .int .i64 t18r1]) (by kernel_rfl) (Res.cellA (by kernel_rfl) q47 (Res.tmp (by kernel_rfl) Res.nil)) (by kernel_rfl) h
end F22
/-! #### 23 campanile/campanileref18.MayCells -/
namespace F23
noncomputable def B : Code := bodyOf Try.f23
noncomputable def S0 : List It := (.code (sub B [1, 1]) :: [])
noncomputable def S1 : List It := (.blk 0 :: S0)
noncomputable def S2 : List It := (.lp (sub B [1, 0, 1, 0, 0]) :: S1)
noncomputable def S3 : List It := (.code (sub B [1, 0, 1, 0, 0, 1, 1]) :: S2)
noncomputable def S4 : List It := (.code (sub B [1, 0, 1, 0, 0, 1, 1, 1]) :: S2)
noncomputable def S5 : List It := (.blk 1 :: S4)
noncomputable def S6 : List It := (.code (sub B [1, 0, 1, 0, 0, 1, 1, 0, 0, 1]) :: S5)
noncomputable def S7 : List It := (.code (sub B [1, 0, 1, 0, 0, 1, 1, 0, 0, 1, 1]) :: S5)
def L0 (t0a : Option Addr) (t0n : Nat) (t0k : Nat) (t5a : Option Addr) (t5n : Nat) (t5k : Nat) (t6 : Int) (t7 : Int) (H : Heap) (r : Value × Heap) : Prop := ∀ J, KR Try.prog good Try.f23 S2 (mat J 18 [(0, .slice t0a t0n t0k), (5, .slice t5a t5n t5k), (6, .int .i64 t6), (7, .int .i64 t7)]) H r
theorem L0_step {t0a : Option Addr} {t0n : Nat} {t0k : Nat} {t5a : Option Addr} {t5n : Nat} {t5k : Nat} {t6 : Int} {t7 : Int} {H : Heap} {r : Value × Heap} (h :
    if t7 < t6 then
    (∃ (t5ab t5ao : Nat), t5a = some ⟨t5ab, t5ao, none⟩ ∧
    ((0 : Int) ≤ t7 ∧ t7 < ((t5n : Nat) : Int) ∧
    (∃ (t10c0 : Int) (t10c1 : Int) (t10c2 : Int) (t10c3 : Int) (t10c4 : Int), ldAll H t5ab (t5ao + Int.toNat t7 * 5) [.int .i64 t10c0, .int .i64 t10c1, .int .i64 t10c2, .int .i64 t10c3, .int .i64 t10c4] ∧
    (∃ (H_1 : Heap), H_1 = H.push (.row [.int .i64 0, .int .i64 0, .int .i64 0, .int .i64 0, .int .i64 0] true) ∧
    (∃ (H_2 : Heap), stc H_1 H.next 0 [.int .i64 t10c0, .int .i64 t10c1, .int .i64 t10c2, .int .i64 t10c3, .int .i64 t10c4] = some H_2 ∧
    (∃ (t11c0 : Int) (t11c1 : Int) (t11c2 : Int) (t11c3 : Int) (t11c4 : Int), ldAll H_2 H.next 0 [.int .i64 t11c0, .int .i64 t11c1, .int .i64 t11c2, .int .i64 t11c3, .int .i64 t11c4] ∧
    (∃ (t12 : Bool) (H_3 : Heap), xC Try.prog good 39 [.agg #[.int .i64 t11c0, .int .i64 t11c1, .int .i64 t11c2, .int .i64 t11c3, .int .i64 t11c4]] H_2 = some (.bool t12, H_3) ∧
    (if t12 = true then
    (L0 (t0a) (t0n) (t0k) ((some ⟨t5ab, t5ao, none⟩)) (t5n) (t5k) (t6) ((IntKind.wrap .i64 (t7 + 1))) H_3 r)
    else
    (r = (.bool false, H_3))))))))))
    else
    (r = (.bool (decide (((t0n : Nat) : Int) ≤ 8)), H))) :
    L0 t0a t0n t0k t5a t5n t5k t6 t7 H r := by
  intro J
  show KR _ _ _ (.lp (sub B [1, 0, 1, 0, 0]) :: S1) _ _ _
  refine KR.run 6 [(0, .slice t0a t0n t0k), (5, .slice t5a t5n t5k), (6, .int .i64 t6), (7, .int .i64 t7), (8, .bool (decide (t7 < t6)))] 18 (s' := (.code (sub B [1, 0, 1, 0, 0, 1, 0]) :: S3)) (by kernel_rfl) fun J => ?_
  by_cases c1 : t7 < t6
  · replace h := iteT c1 h
    refine KR.br true (by kernel_rfl) (vB (dT c1)) ?_
    obtain ⟨t5ab, t5ao, rfl, h⟩ := h
    refine KR.run 5 [(0, .slice t0a t0n t0k), (5, .slice (some ⟨t5ab, t5ao, none⟩) t5n t5k), (6, .int .i64 t6), (7, .int .i64 t7)] 18 (s' := (.reg (opsAt (sub B [1, 0, 1, 0, 0, 1, 1, 0, 0, 0])) [0, 1, 2, 3] :: S6)) (by kernel_rfl) fun J => ?_
    obtain ⟨q2, q2x, h⟩ := h
    refine KR.p (one_ix 5 t5ab t5ao (by kernel_rfl) q2 q2x) ?_
    obtain ⟨t10c0, t10c1, t10c2, t10c3, t10c4, q3, h⟩ := h
    refine KR.rd (one_ldA (by kernel_rfl) q3) ?_
    obtain ⟨H_1, q4, h⟩ := h
    refine KR.mk (w := pRow [.int .i64 0, .int .i64 0, .int .i64 0, .int .i64 0, .int .i64 0]) (one_al (by kernel_rfl)) q4 ?_
    obtain ⟨H_2, q5, h⟩ := h
    refine KR.se (one_st (by kernel_rfl) q5) ?_
    refine KR.run 3 [(0, .slice t0a t0n t0k), (4, .pointer (some ⟨H.next, 0, none⟩)), (5, .slice (some ⟨t5ab, t5ao, none⟩) t5n t5k), (6, .int .i64 t6), (7, .int .i64 t7)] 18 (s' := (.reg (opsAt (sub B [1, 0, 1, 0, 0, 1, 1, 0, 0, 1, 0])) [0, 1, 2] :: S7)) (by kernel_rfl) fun J => ?_
    obtain ⟨t11c0, t11c1, t11c2, t11c3, t11c4, q6, h⟩ := h
    refine KR.rd (one_ldA (by kernel_rfl) q6) ?_
    obtain ⟨t12, H_3, q7, h⟩ := h
    refine KR.se (one_ca (by kernel_rfl) q7) ?_
    refine KR.run 2 [(0, .slice t0a t0n t0k), (5, .slice (some ⟨t5ab, t5ao, none⟩) t5n t5k), (6, .int .i64 t6), (7, .int .i64 t7), (13, .bool (!t12))] 18 (s' := (.code (sub B [1, 0, 1, 0, 0, 1, 1, 0, 0, 1, 1]) :: S5)) (by kernel_rfl) fun J => ?_
    by_cases c8 : t12 = true
    · replace h := iteT c8 h
      refine KR.br false (by kernel_rfl) (vB (nB (bT c8))) ?_
      exact KR.run 6 [(0, .slice t0a t0n t0k), (5, .slice (some ⟨t5ab, t5ao, none⟩) t5n t5k), (6, .int .i64 t6), (7, .int .i64 (IntKind.wrap .i64 (t7 + 1)))] 18 (s' := (.lp (sub B [1, 0, 1, 0, 0]) :: S1)) (by kernel_rfl) h
    · replace h := iteF c8 h
      refine KR.br true (by kernel_rfl) (vB (nB (bF c8))) ?_
      refine KR.run 4 [(2, .bool false)] 18 (s' := (.code (sub B [1, 0, 1, 0, 0, 1, 1, 0, 0, 1, 1, 0, 1]) :: S5)) (by kernel_rfl) fun J => ?_
      exact KR.fin (by kernel_rfl) h
  · replace h := iteF c1 h
    refine KR.br false (by kernel_rfl) (vB (dF c1)) ?_
    refine KR.run 8 [(2, .bool (decide (((t0n : Nat) : Int) ≤ 8)))] 18 (s' := (.code (sub B [1, 1, 1]) :: [])) (by kernel_rfl) fun J => ?_
    exact KR.fin (by kernel_rfl) h
theorem call {a0a : Option Addr} {a0n : Nat} {a0k : Nat} {H : Heap} {r : Value × Heap} (h :
    L0 (a0a) (a0n) (a0k) (a0a) (a0n) (a0k) (((a0n : Nat) : Int)) 0 H r) :
    xC Try.prog good 23 [.slice a0a a0n a0k] H = some r := by
  refine KR.enter (fn := Try.f23) (c := B) (by kernel_rfl) (by kernel_rfl) ?_
  exact KR.run 13 [(0, .slice a0a a0n a0k), (5, .slice a0a a0n a0k), (6, .int .i64 ((a0n : Nat) : Int)), (7, .int .i64 0)] 18 (s' := (.lp (sub B [1, 0, 1, 0, 0]) :: S1)) (by kernel_rfl) h
end F23
/-! #### 24 campanile/campanileref8.SameCells -/
namespace F24
noncomputable def B : Code := bodyOf Try.f24
noncomputable def S0 : List It := (.code (sub B [1, 1]) :: [])
noncomputable def S1 : List It := (.code (sub B [1, 1, 1]) :: [])
noncomputable def S2 : List It := (.blk 0 :: S1)
noncomputable def S3 : List It := (.lp (sub B [1, 1, 0, 1, 0, 0]) :: S2)
noncomputable def S4 : List It := (.code (sub B [1, 1, 0, 1, 0, 0, 1, 1]) :: S3)
noncomputable def S5 : List It := (.code (sub B [1, 1, 0, 1, 0, 0, 1, 1, 1]) :: S3)
noncomputable def S6 : List It := (.blk 1 :: S5)
noncomputable def S7 : List It := (.code (sub B [1, 1, 0, 1, 0, 0, 1, 1, 0, 0, 1, 1]) :: S6)
def L0 (t0a : Option Addr) (t0n : Nat) (t0k : Nat) (t1a : Option Addr) (t1n : Nat) (t1k : Nat) (t12 : Int) (t13 : Int) (H : Heap) (r : Value × Heap) : Prop := ∀ J, KR Try.prog good Try.f24 S3 (mat J 26 [(0, .slice t0a t0n t0k), (1, .slice t1a t1n t1k), (12, .int .i64 t12), (13, .int .i64 t13)]) H r
theorem L0_step {t0a : Option Addr} {t0n : Nat} {t0k : Nat} {t1a : Option Addr} {t1n : Nat} {t1k : Nat} {t12 : Int} {t13 : Int} {H : Heap} {r : Value × Heap} (h :
    if t13 < t12 then
    (∃ (t0ab t0ao : Nat), t0a = some ⟨t0ab, t0ao, none⟩ ∧
    ((0 : Int) ≤ t13 ∧ t13 < ((t0n : Nat) : Int) ∧
    (∃ (t19c0 : Int) (t19c1 : Int) (t19c2 : Int) (t19c3 : Int) (t19c4 : Int), ldAll H t0ab (t0ao + Int.toNat t13 * 5) [.int .i64 t19c0, .int .i64 t19c1, .int .i64 t19c2, .int .i64 t19c3, .int .i64 t19c4] ∧
    (∃ (t1ab t1ao : Nat), t1a = some ⟨t1ab, t1ao, none⟩ ∧
    ((0 : Int) ≤ t13 ∧ t13 < ((t1n : Nat) : Int) ∧
    (∃ (t23c0 : Int) (t23c1 : Int) (t23c2 : Int) (t23c3 : Int) (t23c4 : Int), ldAll H t1ab (t1ao + Int.toNat t13 * 5) [.int .i64 t23c0, .int .i64 t23c1, .int .i64 t23c2, .int .i64 t23c3, .int .i64 t23c4] ∧
    (if ((t19c0 == t23c0) && ((t19c1 == t23c1) && ((t19c2 == t23c2) && ((t19c3 == t23c3) && ((t19c4 == t23c4) && true))))) = true then
    (L0 ((some ⟨t0ab, t0ao, none⟩)) (t0n) (t0k) ((some ⟨t1ab, t1ao, none⟩)) (t1n) (t1k) (t12) ((IntKind.wrap .i64 (t13 + 1))) H r)
    else
    (r = (.bool false, H)))))))))
    else
    (r = (.bool true, H))) :
    L0 t0a t0n t0k t1a t1n t1k t12 t13 H r := by
  intro J
  show KR _ _ _ (.lp (sub B [1, 1, 0, 1, 0, 0]) :: S2) _ _ _
  refine KR.run 6 [(0, .slice t0a t0n t0k), (1, .slice t1a t1n t1k), (12, .int .i64 t12), (13, .int .i64 t13), (14, .bool (decide (t13 < t12)))] 26 (s' := (.code (sub B [1, 1, 0, 1, 0, 0, 1, 0]) :: S4)) (by kernel_rfl) fun J => ?_
  by_cases c2 : t13 < t12
  · replace h := iteT c2 h
    refine KR.br true (by kernel_rfl) (vB (dT c2)) ?_
    refine KR.run 9 [(0, .slice t0a t0n t0k), (1, .slice t1a t1n t1k), (5, .int .i64 t13), (12, .int .i64 t12), (13, .int .i64 t13)] 26 (s' := (.code (sub B [1, 1, 0, 1, 0, 0, 1, 1, 0, 0, 1, 0]) :: S7)) (by kernel_rfl) fun J => ?_
    refine KR.sd (by kernel_rfl) ?_
    obtain ⟨t0ab, t0ao, rfl, h⟩ := h
    refine KR.run 2 [(0, .slice (some ⟨t0ab, t0ao, none⟩) t0n t0k), (1, .slice t1a t1n t1k), (5, .int .i64 t13), (12, .int .i64 t12), (13, .int .i64 t13), (16, .slice (some ⟨t0ab, t0ao, none⟩) t0n t0k), (17, .int .i64 t13)] 26 (s' := (.reg (opsAt (sub B [1, 1, 0, 1, 0, 0, 1, 1, 0, 0, 1, 0])) [2, 3, 4, 5, 6, 7, 8] :: S7)) (by kernel_rfl) fun J => ?_
    obtain ⟨q3, q3x, h⟩ := h
    refine KR.p (one_ix 5 t0ab t0ao (by kernel_rfl) q3 q3x) ?_
    obtain ⟨t19c0, t19c1, t19c2, t19c3, t19c4, q4, h⟩ := h
    refine KR.rd (one_ldA (by kernel_rfl) q4) ?_
    obtain ⟨t1ab, t1ao, rfl, h⟩ := h
    refine KR.run 2 [(0, .slice (some ⟨t0ab, t0ao, none⟩) t0n t0k), (1, .slice (some ⟨t1ab, t1ao, none⟩) t1n t1k), (12, .int .i64 t12), (13, .int .i64 t13), (19, .agg #[.int .i64 t19c0, .int .i64 t19c1, .int .i64 t19c2, .int .i64 t19c3, .int .i64 t19c4]), (20, .slice (some ⟨t1ab, t1ao, none⟩) t1n t1k), (21, .int .i64 t13)] 26 (s' := (.reg (opsAt (sub B [1, 1, 0, 1, 0, 0, 1, 1, 0, 0, 1, 0])) [6, 7, 8] :: S7)) (by kernel_rfl) fun J => ?_
    obtain ⟨q5, q5x, h⟩ := h
    refine KR.p (one_ix 5 t1ab t1ao (by kernel_rfl) q5 q5x) ?_
    obtain ⟨t23c0, t23c1, t23c2, t23c3, t23c4, q6, h⟩ := h
    refine KR.rd (one_ldA (by kernel_rfl) q6) ?_
    refine KR.run 2 [(0, .slice (some ⟨t0ab, t0ao, none⟩) t0n t0k), (1, .slice (some ⟨t1ab, t1ao, none⟩) t1n t1k), (12, .int .i64 t12), (13, .int .i64 t13), (24, .bool (!((t19c0 == t23c0) && ((t19c1 == t23c1) && ((t19c2 == t23c2) && ((t19c3 == t23c3) && ((t19c4 == t23c4) && true)))))))] 26 (s' := (.code (sub B [1, 1, 0, 1, 0, 0, 1, 1, 0, 0, 1, 1]) :: S6)) (by kernel_rfl) fun J => ?_
    by_cases c7 : ((t19c0 == t23c0) && ((t19c1 == t23c1) && ((t19c2 == t23c2) && ((t19c3 == t23c3) && ((t19c4 == t23c4) && true))))) = true
    · replace h := iteT c7 h
      refine KR.br false (by kernel_rfl) (vB (nB (bT c7))) ?_
      exact KR.run 6 [(0, .slice (some ⟨t0ab, t0ao, none⟩) t0n t0k), (1, .slice (some ⟨t1ab, t1ao, none⟩) t1n t1k), (12, .int .i64 t12), (13, .int .i64 (IntKind.wrap .i64 (t13 + 1)))] 26 (s' := (.lp (sub B [1, 1, 0, 1, 0, 0]) :: S2)) (by kernel_rfl) h
    · replace h := iteF c7 h
      refine KR.br true (by kernel_rfl) (vB (nB (bF c7))) ?_
      refine KR.run 4 [(4, .bool false)] 26 (s' := (.code (sub B [1, 1, 0, 1, 0, 0, 1, 1, 0, 0, 1, 1, 0, 1]) :: S6)) (by kernel_rfl) fun J => ?_
      exact KR.fin (by kernel_rfl) h
  · replace h := iteF c2 h
    refine KR.br false (by kernel_rfl) (vB (dF c2)) ?_
    refine KR.run 5 [(4, .bool true)] 26 (s' := (.code (sub B [1, 1, 1, 1]) :: [])) (by kernel_rfl) fun J => ?_
    exact KR.fin (by kernel_rfl) h
theorem call {a0a : Option Addr} {a0n : Nat} {a0k : Nat} {a1a : Option Addr} {a1n : Nat} {a1k : Nat} {H : Heap} {r : Value × Heap} (h :
    if ((a0n : Nat) : Int) = ((a1n : Nat) : Int) then
    (L0 (a0a) (a0n) (a0k) (a1a) (a1n) (a1k) (((a0n : Nat) : Int)) 0 H r)
    else
    (r = (.bool false, H))) :
    xC Try.prog good 24 [.slice a0a a0n a0k, .slice a1a a1n a1k] H = some r := by
  refine KR.enter (fn := Try.f24) (c := B) (by kernel_rfl) (by kernel_rfl) ?_
  refine KR.run 13 [(0, .slice a0a a0n a0k), (1, .slice a1a a1n a1k), (10, .bool (!(((a0n : Nat) : Int) == ((a1n : Nat) : Int))))] 26 (s' := (.code (sub B [1, 0, 1]) :: S0)) (by kernel_rfl) fun J => ?_
  by_cases c1 : ((a0n : Nat) : Int) = ((a1n : Nat) : Int)
  · replace h := iteT c1 h
    refine KR.br false (by kernel_rfl) (vB (nB (eT c1))) ?_
    exact KR.run 10 [(0, .slice a0a a0n a0k), (1, .slice a1a a1n a1k), (12, .int .i64 ((a0n : Nat) : Int)), (13, .int .i64 0)] 26 (s' := (.lp (sub B [1, 1, 0, 1, 0, 0]) :: S2)) (by kernel_rfl) h
  · replace h := iteF c1 h
    refine KR.br true (by kernel_rfl) (vB (nB (eF c1))) ?_
    refine KR.run 4 [(4, .bool false)] 26 (s' := (.code (sub B [1, 0, 1, 0, 1]) :: S0)) (by kernel_rfl) fun J => ?_
    exact KR.fin (by kernel_rfl) h
end F24
/-! #### 25 campanile/campanilelaw18.want -/
namespace F25
noncomputable def B : Code := bodyOf Try.f25
noncomputable def S0 : List It := (.code (sub B [1, 1]) :: [])
noncomputable def S1 : List It := (.code (sub B [1, 0, 1]) :: S0)
theorem call {a0a : Option Addr} {a0n : Nat} {a0k : Nat} {H : Heap} {r : Value × Heap} (h :
    ∃ (t4 : Bool) (H_1 : Heap), xC Try.prog good 23 [.slice a0a a0n a0k] H = some (.bool t4, H_1) ∧
    (if t4 = true then
    (r = (.slice a0a a0n a0k, H_1))
    else
    (r = (.slice none 0 0, H_1)))) :
    xC Try.prog good 25 [.slice a0a a0n a0k] H = some r := by
  refine KR.enter (fn := Try.f25) (c := B) (by kernel_rfl) (by kernel_rfl) ?_
  refine KR.run 8 [(0, .slice a0a a0n a0k), (3, .slice a0a a0n a0k)] 6 (s' := (.reg (opsAt (sub B [1, 0, 0])) [1] :: S1)) (by kernel_rfl) fun J => ?_
  obtain ⟨t4, H_1, q1, h⟩ := h
  refine KR.se (one_ca (by kernel_rfl) q1) ?_
  refine KR.run 1 [(0, .slice a0a a0n a0k), (4, .bool t4)] 6 (s' := (.code (sub B [1, 0, 1]) :: S0)) (by kernel_rfl) fun J => ?_
  by_cases c2 : t4 = true
  · replace h := iteT c2 h
    refine KR.br true (by kernel_rfl) (vB (bT c2)) ?_
    refine KR.run 5 [(2, .slice a0a a0n a0k)] 6 (s' := (.code (sub B [1, 0, 1, 0, 1]) :: S0)) (by kernel_rfl) fun J => ?_
    exact KR.fin (by kernel_rfl) h
  · replace h := iteF c2 h
    refine KR.br false (by kernel_rfl) (vB (bF c2)) ?_
    refine KR.run 5 [(2, .slice none 0 0)] 6 (s' := (.code (sub B [1, 1, 1]) :: [])) (by kernel_rfl) fun J => ?_
    exact KR.fin (by kernel_rfl) h
end F25
/-! #### 26 (*campanile/join.Seeker).Done -/
namespace F26
noncomputable def B : Code := bodyOf Try.f26
noncomputable def S0 : List It := (.code (sub B [1]) :: [])
noncomputable def S1 : List It := (.code (sub B [1, 1]) :: [])
noncomputable def S6 : List It := (.code (sub B [1, 1, 1]) :: [])
noncomputable def S7 : List It := (.code (sub B [1, 1, 1, 1]) :: [])
noncomputable def S12 : List It := (.code (sub B [1, 1, 1, 1, 1]) :: [])
noncomputable def S13 : List It := (.code (sub B [1, 1, 1, 1, 1, 1]) :: [])
noncomputable def S2 : List It := (.blk 0 :: S1)
noncomputable def S8 : List It := (.blk 1 :: S7)
noncomputable def S3 : List It := (.code (sub B [1, 0, 0, 1]) :: S2)
noncomputable def S4 : List It := (.code (sub B [1, 0, 0, 1, 0, 1]) :: S2)
noncomputable def S5 : List It := (.code (sub B [1, 0, 0, 1, 1, 1]) :: S2)
noncomputable def S9 : List It := (.code (sub B [1, 1, 1, 0, 0, 1, 1, 1]) :: S8)
noncomputable def S10 : List It := (.code (sub B [1, 1, 1, 0, 0, 1, 1, 1, 1, 1]) :: S8)
noncomputable def S11 : List It := (.code (sub B [1, 1, 1, 0, 0, 1, 1, 1, 1, 1, 1, 1]) :: S8)
noncomputable def S14 : List It := (.code (sub B [1, 1, 1, 0, 0, 1, 1, 1, 1, 1, 1, 1, 0, 1]) :: S8)
noncomputable def S15 : List It := (.code (sub B [1, 1, 1, 0, 0, 1, 1, 1, 1, 1, 0, 1]) :: S8)
noncomputable def S16 : List It := (.code (sub B [1, 1, 1, 0, 0, 1, 1, 1, 0, 1]) :: S8)
noncomputable def S17 : List It := (.code (sub B [1, 1, 1, 0, 0, 1, 0, 1]) :: S8)
noncomputable def S18 : List It := (.code (sub B [1, 0, 0, 1, 1, 1, 0, 1]) :: S2)
theorem call {a0 : Option Addr} {a1a : Option Addr} {a1n : Nat} {a1k : Nat} {H : Heap} {r : Value × Heap} (h :
    ∃ (H_1 : Heap), H_1 = H.push (.row [.int .i64 0, .int .i64 0, .int .u32 0, .slice none 0 0, .int .u32 0] true) ∧
    (if (Option.isNone a0) = true then
    (∃ (H_2 : Heap), stc H_1 H.next 0 [.int .i64 0, .int .i64 0, .int .u32 0, .slice none 0 0, .int .u32 0] = some H_2 ∧
    (∃ (r4c0 : Int) (r4c1 : Int) (r4c2 : Int) (r4c3a : Option Addr) (r4c3n : Nat) (r4c3k : Nat) (r4c4 : Int), ldAll H_2 H.next 0 [.int .i64 r4c0, .int .i64 r4c1, .int .u32 r4c2, .slice r4c3a r4c3n r4c3k, .int .u32 r4c4] ∧
    (r = (.tuple #[.agg #[.int .i64 r4c0, .int .i64 r4c1, .int .u32 r4c2, .slice r4c3a r4c3n r4c3k, .int .u32 r4c4], .int .i64 1], H_2))))
    else
    (∃ (a0b a0o : Nat), a0 = some ⟨a0b, a0o, none⟩ ∧
    (∃ (t16 : Bool), ldc H_1 a0b (a0o + 4) = some (.bool t16) ∧
    (if t16 = true then
    (∃ (t21r0c0 : Int) (t21r0c1 : Int) (t21r0c2 : Int) (t21r0c3a : Option Addr) (t21r0c3n : Nat) (t21r0c3k : Nat) (t21r0c4 : Int) (t21r1 : Int) (H_3 : Heap), xC Try.prog good 16 [.slice a1a a1n a1k] H_1 = some (.tuple #[.agg #[.int .i64 t21r0c0, .int .i64 t21r0c1, .int .u32 t21r0c2, .slice t21r0c3a t21r0c3n t21r0c3k, .int .u32 t21r0c4], .int .i64 t21r1], H_3) ∧
    (∃ (H_4 : Heap), H_4 = H_3.push (.row [.int .i64 0, .int .i64 0, .int .u32 0, .slice none 0 0, .int .u32 0] true) ∧
    (∃ (H_5 : Heap), stc H_4 H_3.next 0 [.int .i64 t21r0c0, .int .i64 t21r0c1, .int .u32 t21r0c2, .slice t21r0c3a t21r0c3n t21r0c3k, .int .u32 t21r0c4] = some H_5 ∧
    (if t21r1 = 0 then
    (∃ (t31 : Int), ldc H_5 H_3.next 0 = some (.int .i64 t31) ∧
    (∃ (t35 : Int), ldc H_5 a0b a0o = some (.int .i64 t35) ∧
    (if t31 = t35 then
    (∃ (t42 : Int), ldc H_5 a0b (a0o + 1) = some (.int .u64 t42) ∧
    (∃ (t45 : Int), ldc H_5 H_3.next 4 = some (.int .u32 t45) ∧
    (∃ (t46 : Bool) (H_6 : Heap), xC Try.prog good 43 [.int .u64 t42, .slice a1a a1n a1k, .int .u32 t45] H_5 = some (.bool t46, H_6) ∧
    (if t46 = true then
    (∃ (t51 : Int), ldc H_6 H_3.next 2 = some (.int .u32 t51) ∧
    (∃ (t55 : Int), ldc H_6 a0b (a0o + 3) = some (.int .u32 t55) ∧
    (if t51 = t55 then
    (∃ (H_7 : Heap), stc H_6 a0b (a0o + 4) [.bool false] = some H_7 ∧
    (∃ (t61c0 : Int) (t61c1 : Int) (t61c2 : Int) (t61c3a : Option Addr) (t61c3n : Nat) (t61c3k : Nat) (t61c4 : Int), ldAll H_7 H_3.next 0 [.int .i64 t61c0, .int .i64 t61c1, .int .u32 t61c2, .slice t61c3a t61c3n t61c3k, .int .u32 t61c4] ∧
    (∃ (H_8 : Heap), stc H_7 H.next 0 [.int .i64 t61c0, .int .i64 t61c1, .int .u32 t61c2, .slice t61c3a t61c3n t61c3k, .int .u32 t61c4] = some H_8 ∧
    (∃ (r4c0_1 : Int) (r4c1_1 : Int) (r4c2_1 : Int) (r4c3a_1 : Option Addr) (r4c3n_1 : Nat) (r4c3k_1 : Nat) (r4c4_1 : Int), ldAll H_8 H.next 0 [.int .i64 r4c0_1, .int .i64 r4c1_1, .int .u32 r4c2_1, .slice r4c3a_1 r4c3n_1 r4c3k_1, .int .u32 r4c4_1] ∧
    (r = (.tuple #[.agg #[.int .i64 r4c0_1, .int .i64 r4c1_1, .int .u32 r4c2_1, .slice r4c3a_1 r4c3n_1 r4c3k_1, .int .u32 r4c4_1], .int .i64 0], H_8))))))
    else
    (∃ (H_9 : Heap), stc H_6 H.next 0 [.int .i64 0, .int .i64 0, .int .u32 0, .slice none 0 0, .int .u32 0] = some H_9 ∧
    (∃ (r4c0_2 : Int) (r4c1_2 : Int) (r4c2_2 : Int) (r4c3a_2 : Option Addr) (r4c3n_2 : Nat) (r4c3k_2 : Nat) (r4c4_2 : Int), ldAll H_9 H.next 0 [.int .i64 r4c0_2, .int .i64 r4c1_2, .int .u32 r4c2_2, .slice r4c3a_2 r4c3n_2 r4c3k_2, .int .u32 r4c4_2] ∧
    (r = (.tuple #[.agg #[.int .i64 r4c0_2, .int .i64 r4c1_2, .int .u32 r4c2_2, .slice r4c3a_2 r4c3n_2 r4c3k_2, .int .u32 r4c4_2], .int .i64 8], H_9)))))))
    else
    (∃ (H_10 : Heap), stc H_6 H.next 0 [.int .i64 0, .int .i64 0, .int .u32 0, .slice none 0 0, .int .u32 0] = some H_10 ∧
    (∃ (r4c0_3 : Int) (r4c1_3 : Int) (r4c2_3 : Int) (r4c3a_3 : Option Addr) (r4c3n_3 : Nat) (r4c3k_3 : Nat) (r4c4_3 : Int), ldAll H_10 H.next 0 [.int .i64 r4c0_3, .int .i64 r4c1_3, .int .u32 r4c2_3, .slice r4c3a_3 r4c3n_3 r4c3k_3, .int .u32 r4c4_3] ∧
    (r = (.tuple #[.agg #[.int .i64 r4c0_3, .int .i64 r4c1_3, .int .u32 r4c2_3, .slice r4c3a_3 r4c3n_3 r4c3k_3, .int .u32 r4c4_3], .int .i64 10], H_10))))))))
    else
    (∃ (H_11 : Heap), stc H_5 H.next 0 [.int .i64 0, .int .i64 0, .int .u32 0, .slice none 0 0, .int .u32 0] = some H_11 ∧
    (∃ (r4c0_4 : Int) (r4c1_4 : Int) (r4c2_4 : Int) (r4c3a_4 : Option Addr) (r4c3n_4 : Nat) (r4c3k_4 : Nat) (r4c4_4 : Int), ldAll H_11 H.next 0 [.int .i64 r4c0_4, .int .i64 r4c1_4, .int .u32 r4c2_4, .slice r4c3a_4 r4c3n_4 r4c3k_4, .int .u32 r4c4_4] ∧
    (r = (.tuple #[.agg #[.int .i64 r4c0_4, .int .i64 r4c1_4, .int .u32 r4c2_4, .slice r4c3a_4 r4c3n_4 r4c3k_4, .int .u32 r4c4_4], .int .i64 6], H_11)))))))
    else
    (∃ (H_12 : Heap), stc H_5 H.next 0 [.int .i64 0, .int .i64 0, .int .u32 0, .slice none 0 0, .int .u32 0] = some H_12 ∧
    (∃ (r4c0_5 : Int) (r4c1_5 : Int) (r4c2_5 : Int) (r4c3a_5 : Option Addr) (r4c3n_5 : Nat) (r4c3k_5 : Nat) (r4c4_5 : Int), ldAll H_12 H.next 0 [.int .i64 r4c0_5, .int .i64 r4c1_5, .int .u32 r4c2_5, .slice r4c3a_5 r4c3n_5 r4c3k_5, .int .u32 r4c4_5] ∧
    (r = (.tuple #[.agg #[.int .i64 r4c0_5, .int .i64 r4c1_5, .int .u32 r4c2_5, .slice r4c3a_5 r4c3n_5 r4c3k_5, .int .u32 r4c4_5], .int .i64 t21r1], H_12))))))))
    else
    (∃ (H_13 : Heap), stc H_1 H.next 0 [.int .i64 0, .int .i64 0, .int .u32 0, .slice none 0 0, .int .u32 0] = some H_13 ∧
    (∃ (r4c0_6 : Int) (r4c1_6 : Int) (r4c2_6 : Int) (r4c3a_6 : Option Addr) (r4c3n_6 : Nat) (r4c3k_6 : Nat) (r4c4_6 : Int), ldAll H_13 H.next 0 [.int .i64 r4c0_6, .int .i64 r4c1_6, .int .u32 r4c2_6, .slice r4c3a_6 r4c3n_6 r4c3k_6, .int .u32 r4c4_6] ∧
    (r = (.tuple #[.agg #[.int .i64 r4c0_6, .int .i64 r4c1_6, .int .u32 r4c2_6, .slice r4c3a_6 r4c3n_6 r4c3k_6, .int .u32 r4c4_6], .int .i64 7], H_13))))))))) :
    xC Try.prog good 26 [.pointer a0, .slice a1a a1n a1k] H = some r := by
  refine KR.enter (fn := Try.f26) (c := B) (by kernel_rfl) (by kernel_rfl) ?_
  refine KR.run 2 [(0, .pointer a0), (1, .slice a1a a1n a1k)] 62 (s' := (.reg (opsAt (sub B [0])) [0, 1] :: S0)) (by kernel_rfl) fun J => ?_
  obtain ⟨H_1, q1, h⟩ := h
  refine KR.mk (w := pRow [.int .i64 0, .int .i64 0, .int .u32 0, .slice none 0 0, .int .u32 0]) (one_al (by kernel_rfl)) q1 ?_
  refine KR.run 7 [(0, .pointer a0), (1, .slice a1a a1n a1k), (4, .pointer (some ⟨H.next, 0, none⟩)), (9, .pointer a0)] 62 (s' := (.reg (opsAt (sub B [1, 0, 0, 0])) [1, 2] :: S3)) (by kernel_rfl) fun J => ?_
  refine KR.p (one_nl false a0 (by kernel_rfl)) ?_
  refine KR.run 2 [(0, .pointer a0), (1, .slice a1a a1n a1k), (4, .pointer (some ⟨H.next, 0, none⟩)), (8, .bool (Option.isNone a0))] 62 (s' := (.code (sub B [1, 0, 0, 1]) :: S2)) (by kernel_rfl) fun J => ?_
  by_cases c3 : (Option.isNone a0) = true
  · replace h := iteT c3 h
    refine KR.br true (by kernel_rfl) (vB (bT c3)) ?_
    refine KR.run 3 [(4, .pointer (some ⟨H.next, 0, none⟩)), (11, .agg #[.int .i64 0, .int .i64 0, .int .u32 0, .slice none 0 0, .int .u32 0])] 62 (s' := (.reg (opsAt (sub B [1, 0, 0, 1, 0, 0])) [1, 2] :: S4)) (by kernel_rfl) fun J => ?_
    obtain ⟨H_2, q4, h⟩ := h
    refine KR.se (one_st (by kernel_rfl) q4) ?_
    refine KR.run 2 [(4, .pointer (some ⟨H.next, 0, none⟩)), (5, .int .i64 1)] 62 (s' := (.code (sub B [1, 0, 0, 1, 0, 1]) :: S2)) (by kernel_rfl) fun J => ?_
    obtain ⟨r4c0, r4c1, r4c2, r4c3a, r4c3n, r4c3k, r4c4, q5, h⟩ := h
    exact KR.finR (l := [.cell 4 28, .tmp 5]) (vs := [.agg #[.int .i64 r4c0, .int .i64 r4c1, .int .u32 r4c2, .slice r4c3a r4c3n r4c3k, .int .u32 r4c4], .int .i64 1]) (by kernel_rfl) (Res.cellA (by kernel_rfl) q5 (Res.tmp (by kernel_rfl) Res.nil)) (by kernel_rfl) h
  · replace h := iteF c3 h
    refine KR.br false (by kernel_rfl) (vB (bF c3)) ?_
    obtain ⟨a0b, a0o, rfl, h⟩ := h
    refine KR.run 5 [(0, .pointer (some ⟨a0b, a0o, none⟩)), (1, .slice a1a a1n a1k), (4, .pointer (some ⟨H.next, 0, none⟩)), (15, .pointer (some ⟨a0b, (a0o + 4), none⟩))] 62 (s' := (.reg (opsAt (sub B [1, 0, 0, 1, 1, 0])) [3, 4, 5] :: S5)) (by kernel_rfl) fun J => ?_
    obtain ⟨t16, q6, h⟩ := h
    refine KR.rd (one_ld (by kernel_rfl) q6) ?_
    refine KR.run 3 [(0, .pointer (some ⟨a0b, a0o, none⟩)), (1, .slice a1a a1n a1k), (4, .pointer (some ⟨H.next, 0, none⟩)), (12, .bool (!t16))] 62 (s' := (.code (sub B [1, 0, 0, 1, 1, 1]) :: S2)) (by kernel_rfl) fun J => ?_
    by_cases c7 : t16 = true
    · replace h := iteT c7 h
      refine KR.br false (by kernel_rfl) (vB (nB (bT c7))) ?_
      refine KR.run 5 [(0, .pointer (some ⟨a0b, a0o, none⟩)), (1, .slice a1a a1n a1k), (4, .pointer (some ⟨H.next, 0, none⟩)), (20, .slice a1a a1n a1k)] 62 (s' := (.reg (opsAt (sub B [1, 1, 0])) [1, 2, 3, 4, 5, 6, 7] :: S6)) (by kernel_rfl) fun J => ?_
      obtain ⟨t21r0c0, t21r0c1, t21r0c2, t21r0c3a, t21r0c3n, t21r0c3k, t21r0c4, t21r1, H_3, q8, h⟩ := h
      refine KR.se (one_ca (by kernel_rfl) q8) ?_
      refine KR.run 3 [(0, .pointer (some ⟨a0b, a0o, none⟩)), (1, .slice a1a a1n a1k), (4, .pointer (some ⟨H.next, 0, none⟩)), (22, .agg #[.int .i64 t21r0c0, .int .i64 t21r0c1, .int .u32 t21r0c2, .slice t21r0c3a t21r0c3n t21r0c3k, .int .u32 t21r0c4]), (23, .int .i64 t21r1)] 62 (s' := (.reg (opsAt (sub B [1, 1, 0])) [5, 6, 7] :: S6)) (by kernel_rfl) fun J => ?_
      obtain ⟨H_4, q9, h⟩ := h
      refine KR.mk (w := pRow [.int .i64 0, .int .i64 0, .int .u32 0, .slice none 0 0, .int .u32 0]) (one_al (by kernel_rfl)) q9 ?_
      obtain ⟨H_5, q10, h⟩ := h
      refine KR.se (one_st (by kernel_rfl) q10) ?_
      refine KR.run 10 [(0, .pointer (some ⟨a0b, a0o, none⟩)), (1, .slice a1a a1n a1k), (4, .pointer (some ⟨H.next, 0, none⟩)), (6, .pointer (some ⟨H_3.next, 0, none⟩)), (7, .int .i64 t21r1), (24, .bool (!(t21r1 == 0)))] 62 (s' := (.code (sub B [1, 1, 1, 0, 0, 1]) :: S8)) (by kernel_rfl) fun J => ?_
      by_cases c11 : t21r1 = 0
      · replace h := iteT c11 h
        refine KR.br false (by kernel_rfl) (vB (nB (eT c11))) ?_
        refine KR.run 1 [(0, .pointer (some ⟨a0b, a0o, none⟩)), (1, .slice a1a a1n a1k), (4, .pointer (some ⟨H.next, 0, none⟩)), (6, .pointer (some ⟨H_3.next, 0, none⟩))] 62 (s' := (.code (sub B [1, 1, 1, 0, 0, 1, 1, 0]) :: S9)) (by kernel_rfl) fun J => ?_
        refine KR.sd (by kernel_rfl) ?_
        refine KR.run 1 [(0, .pointer (some ⟨a0b, a0o, none⟩)), (1, .slice a1a a1n a1k), (4, .pointer (some ⟨H.next, 0, none⟩)), (6, .pointer (some ⟨H_3.next, 0, none⟩)), (30, .pointer (some ⟨H_3.next, 0, none⟩))] 62 (s' := (.reg (opsAt (sub B [1, 1, 1, 0, 0, 1, 1, 0])) [1, 2, 3, 4, 5, 6, 7] :: S9)) (by kernel_rfl) fun J => ?_
        obtain ⟨t31, q12, h⟩ := h
        refine KR.rd (one_ld (by kernel_rfl) q12) ?_
        refine KR.run 3 [(0, .pointer (some ⟨a0b, a0o, none⟩)), (1, .slice a1a a1n a1k), (4, .pointer (some ⟨H.next, 0, none⟩)), (6, .pointer (some ⟨H_3.next, 0, none⟩)), (31, .int .i64 t31), (34, .pointer (some ⟨a0b, a0o, none⟩))] 62 (s' := (.reg (opsAt (sub B [1, 1, 1, 0, 0, 1, 1, 0])) [5, 6, 7] :: S9)) (by kernel_rfl) fun J => ?_
        obtain ⟨t35, q13, h⟩ := h
        refine KR.rd (one_ld (by kernel_rfl) q13) ?_
        refine KR.run 3 [(0, .pointer (some ⟨a0b, a0o, none⟩)), (1, .slice a1a a1n a1k), (4, .pointer (some ⟨H.next, 0, none⟩)), (6, .pointer (some ⟨H_3.next, 0, none⟩)), (29, .bool (!(t31 == t35)))] 62 (s' := (.code (sub B [1, 1, 1, 0, 0, 1, 1, 1]) :: S8)) (by kernel_rfl) fun J => ?_
        by_cases c14 : t31 = t35
        · replace h := iteT c14 h
          refine KR.br false (by kernel_rfl) (vB (nB (eT c14))) ?_
          refine KR.run 1 [(0, .pointer (some ⟨a0b, a0o, none⟩)), (1, .slice a1a a1n a1k), (4, .pointer (some ⟨H.next, 0, none⟩)), (6, .pointer (some ⟨H_3.next, 0, none⟩))] 62 (s' := (.code (sub B [1, 1, 1, 0, 0, 1, 1, 1, 1, 0]) :: S10)) (by kernel_rfl) fun J => ?_
          refine KR.sd (by kernel_rfl) ?_
          refine KR.run 3 [(0, .pointer (some ⟨a0b, a0o, none⟩)), (1, .slice a1a a1n a1k), (4, .pointer (some ⟨H.next, 0, none⟩)), (6, .pointer (some ⟨H_3.next, 0, none⟩)), (41, .pointer (some ⟨a0b, (a0o + 1), none⟩))] 62 (s' := (.reg (opsAt (sub B [1, 1, 1, 0, 0, 1, 1, 1, 1, 0])) [3, 4, 5, 6, 7, 8, 9] :: S10)) (by kernel_rfl) fun J => ?_
          obtain ⟨t42, q15, h⟩ := h
          refine KR.rd (one_ld (by kernel_rfl) q15) ?_
          refine KR.run 2 [(0, .pointer (some ⟨a0b, a0o, none⟩)), (4, .pointer (some ⟨H.next, 0, none⟩)), (6, .pointer (some ⟨H_3.next, 0, none⟩)), (42, .int .u64 t42), (43, .slice a1a a1n a1k), (44, .pointer (some ⟨H_3.next, 4, none⟩))] 62 (s' := (.reg (opsAt (sub B [1, 1, 1, 0, 0, 1, 1, 1, 1, 0])) [6, 7, 8, 9] :: S10)) (by kernel_rfl) fun J => ?_
          obtain ⟨t45, q16, h⟩ := h
          refine KR.rd (one_ld (by kernel_rfl) q16) ?_
          obtain ⟨t46, H_6, q17, h⟩ := h
          refine KR.se (one_ca (by kernel_rfl) q17) ?_
          refine KR.run 3 [(0, .pointer (some ⟨a0b, a0o, none⟩)), (4, .pointer (some ⟨H.next, 0, none⟩)), (6, .pointer (some ⟨H_3.next, 0, none⟩)), (38, .bool (!t46))] 62 (s' := (.code (sub B [1, 1, 1, 0, 0, 1, 1, 1, 1, 1]) :: S8)) (by kernel_rfl) fun J => ?_
          by_cases c18 : t46 = true
          · replace h := iteT c18 h
            refine KR.br false (by kernel_rfl) (vB (nB (bT c18))) ?_
            refine KR.run 1 [(0, .pointer (some ⟨a0b, a0o, none⟩)), (4, .pointer (some ⟨H.next, 0, none⟩)), (6, .pointer (some ⟨H_3.next, 0, none⟩))] 62 (s' := (.code (sub B [1, 1, 1, 0, 0, 1, 1, 1, 1, 1, 1, 0]) :: S11)) (by kernel_rfl) fun J => ?_
            refine KR.sd (by kernel_rfl) ?_
            refine KR.run 1 [(0, .pointer (some ⟨a0b, a0o, none⟩)), (4, .pointer (some ⟨H.next, 0, none⟩)), (6, .pointer (some ⟨H_3.next, 0, none⟩)), (50, .pointer (some ⟨H_3.next, 2, none⟩))] 62 (s' := (.reg (opsAt (sub B [1, 1, 1, 0, 0, 1, 1, 1, 1, 1, 1, 0])) [1, 2, 3, 4, 5, 6, 7] :: S11)) (by kernel_rfl) fun J => ?_
            obtain ⟨t51, q19, h⟩ := h
            refine KR.rd (one_ld (by kernel_rfl) q19) ?_
            refine KR.run 3 [(0, .pointer (some ⟨a0b, a0o, none⟩)), (4, .pointer (some ⟨H.next, 0, none⟩)), (6, .pointer (some ⟨H_3.next, 0, none⟩)), (51, .int .u32 t51), (54, .pointer (some ⟨a0b, (a0o + 3), none⟩))] 62 (s' := (.reg (opsAt (sub B [1, 1, 1, 0, 0, 1, 1, 1, 1, 1, 1, 0])) [5, 6, 7] :: S11)) (by kernel_rfl) fun J => ?_
            obtain ⟨t55, q20, h⟩ := h
            refine KR.rd (one_ld (by kernel_rfl) q20) ?_
            refine KR.run 3 [(0, .pointer (some ⟨a0b, a0o, none⟩)), (4, .pointer (some ⟨H.next, 0, none⟩)), (6, .pointer (some ⟨H_3.next, 0, none⟩)), (49, .bool (!(t51 == t55)))] 62 (s' := (.code (sub B [1, 1, 1, 0, 0, 1, 1, 1, 1, 1, 1, 1]) :: S8)) (by kernel_rfl) fun J => ?_
            by_cases c21 : t51 = t55
            · replace h := iteT c21 h
              refine KR.br false (by kernel_rfl) (vB (nB (eT c21))) ?_
              refine KR.run 7 [(4, .pointer (some ⟨H.next, 0, none⟩)), (6, .pointer (some ⟨H_3.next, 0, none⟩)), (60, .pointer (some ⟨a0b, (a0o + 4), none⟩))] 62 (s' := (.reg (opsAt (sub B [1, 1, 1, 1, 0])) [3] :: S12)) (by kernel_rfl) fun J => ?_
              obtain ⟨H_7, q22, h⟩ := h
              refine KR.se (one_st (by kernel_rfl) q22) ?_
              refine KR.run 3 [(4, .pointer (some ⟨H.next, 0, none⟩)), (6, .pointer (some ⟨H_3.next, 0, none⟩))] 62 (s' := (.reg (opsAt (sub B [1, 1, 1, 1, 1, 0])) [0, 1, 2] :: S13)) (by kernel_rfl) fun J => ?_
              obtain ⟨t61c0, t61c1, t61c2, t61c3a, t61c3n, t61c3k, t61c4, q23, h⟩ := h
              refine KR.rd (one_ldA (by kernel_rfl) q23) ?_
              obtain ⟨H_8, q24, h⟩ := h
              refine KR.se (one_st (by kernel_rfl) q24) ?_
              refine KR.run 2 [(4, .pointer (some ⟨H.next, 0, none⟩)), (5, .int .i64 0)] 62 (s' := (.code (sub B [1, 1, 1, 1, 1, 1]) :: [])) (by kernel_rfl) fun J => ?_
              obtain ⟨r4c0_1, r4c1_1, r4c2_1, r4c3a_1, r4c3n_1, r4c3k_1, r4c4_1, q25, h⟩ := h
              exact KR.finR (l := [.cell 4 28, .tmp 5]) (vs := [.agg #[.int .i64 r4c0_1, .int .i64 r4c1_1, .int .u32 r4c2_1, .slice r4c3a_1 r4c3n_1 r4c3k_1, .int .u32 r4c4_1], .int .i64 0]) (by kernel_rfl) (Res.cellA (by kernel_rfl) q25 (Res.tmp (by kernel_rfl) Res.nil)) (by kernel_rfl) h
            · replace h := iteF c21 h
              refine KR.br true (by kernel_rfl) (vB (nB (eF c21))) ?_
              refine KR.run 3 [(4, .pointer (some ⟨H.next, 0, none⟩)), (57, .agg #[.int .i64 0, .int .i64 0, .int .u32 0, .slice none 0 0, .int .u32 0])] 62 (s' := (.reg (opsAt (sub B [1, 1, 1, 0, 0, 1, 1, 1, 1, 1, 1, 1, 0, 0])) [1, 2] :: S14)) (by kernel_rfl) fun J => ?_
              obtain ⟨H_9, q26, h⟩ := h
              refine KR.se (one_st (by kernel_rfl) q26) ?_
              refine KR.run 2 [(4, .pointer (some ⟨H.next, 0, none⟩)), (5, .int .i64 8)] 62 (s' := (.code (sub B [1, 1, 1, 0, 0, 1, 1, 1, 1, 1, 1, 1, 0, 1]) :: S8)) (by kernel_rfl) fun J => ?_
              obtain ⟨r4c0_2, r4c1_2, r4c2_2, r4c3a_2, r4c3n_2, r4c3k_2, r4c4_2, q27, h⟩ := h
              exact KR.finR (l := [.cell 4 28, .tmp 5]) (vs := [.agg #[.int .i64 r4c0_2, .int .i64 r4c1_2, .int .u32 r4c2_2, .slice r4c3a_2 r4c3n_2 r4c3k_2, .int .u32 r4c4_2], .int .i64 8]) (by kernel_rfl) (Res.cellA (by kernel_rfl) q27 (Res.tmp (by kernel_rfl) Res.nil)) (by kernel_rfl) h
          · replace h := iteF c18 h
            refine KR.br true (by kernel_rfl) (vB (nB (bF c18))) ?_
            refine KR.run 3 [(4, .pointer (some ⟨H.next, 0, none⟩)), (48, .agg #[.int .i64 0, .int .i64 0, .int .u32 0, .slice none 0 0, .int .u32 0])] 62 (s' := (.reg (opsAt (sub B [1, 1, 1, 0, 0, 1, 1, 1, 1, 1, 0, 0])) [1, 2] :: S15)) (by kernel_rfl) fun J => ?_
            obtain ⟨H_10, q28, h⟩ := h
            refine KR.se (one_st (by kernel_rfl) q28) ?_
            refine KR.run 2 [(4, .pointer (some ⟨H.next, 0, none⟩)), (5, .int .i64 10)] 62 (s' := (.code (sub B [1, 1, 1, 0, 0, 1, 1, 1, 1, 1, 0, 1]) :: S8)) (by kernel_rfl) fun J => ?_
            obtain ⟨r4c0_3, r4c1_3, r4c2_3, r4c3a_3, r4c3n_3, r4c3k_3, r4c4_3, q29, h⟩ := h
            exact KR.finR (l := [.cell 4 28, .tmp 5]) (vs := [.agg #[.int .i64 r4c0_3, .int .i64 r4c1_3, .int .u32 r4c2_3, .slice r4c3a_3 r4c3n_3 r4c3k_3, .int .u32 r4c4_3], .int .i64 10]) (by kernel_rfl) (Res.cellA (by kernel_rfl) q29 (Res.tmp (by kernel_rfl) Res.nil)) (by kernel_rfl) h
        · replace h := iteF c14 h
          refine KR.br true (by kernel_rfl) (vB (nB (eF c14))) ?_
          refine KR.run 3 [(4, .pointer (some ⟨H.next, 0, none⟩)), (37, .agg #[.int .i64 0, .int .i64 0, .int .u32 0, .slice none 0 0, .int .u32 0])] 62 (s' := (.reg (opsAt (sub B [1, 1, 1, 0, 0, 1, 1, 1, 0, 0])) [1, 2] :: S16)) (by kernel_rfl) fun J => ?_
          obtain ⟨H_11, q30, h⟩ := h
          refine KR.se (one_st (by kernel_rfl) q30) ?_
          refine KR.run 2 [(4, .pointer (some ⟨H.next, 0, none⟩)), (5, .int .i64 6)] 62 (s' := (.code (sub B [1, 1, 1, 0, 0, 1, 1, 1, 0, 1]) :: S8)) (by kernel_rfl) fun J => ?_
          obtain ⟨r4c0_4, r4c1_4, r4c2_4, r4c3a_4, r4c3n_4, r4c3k_4, r4c4_4, q31, h⟩ := h
          exact KR.finR (l := [.cell 4 28, .tmp 5]) (vs := [.agg #[.int .i64 r4c0_4, .int .i64 r4c1_4, .int .u32 r4c2_4, .slice r4c3a_4 r4c3n_4 r4c3k_4, .int .u32 r4c4_4], .int .i64 6]) (by kernel_rfl) (Res.cellA (by kernel_rfl) q31 (Res.tmp (by kernel_rfl) Res.nil)) (by kernel_rfl) h
      · replace h := iteF c11 h
        refine KR.br true (by kernel_rfl) (vB (nB (eF c11))) ?_
        refine KR.run 4 [(4, .pointer (some ⟨H.next, 0, none⟩)), (27, .agg #[.int .i64 0, .int .i64 0, .int .u32 0, .slice none 0 0, .int .u32 0]), (28, .int .i64 t21r1)] 62 (s' := (.reg (opsAt (sub B [1, 1, 1, 0, 0, 1, 0, 0])) [2, 3] :: S17)) (by kernel_rfl) fun J => ?_
        obtain ⟨H_12, q32, h⟩ := h
        refine KR.se (one_st (by kernel_rfl) q32) ?_
        refine KR.run 2 [(4, .pointer (some ⟨H.next, 0, none⟩)), (5, .int .i64 t21r1)] 62 (s' := (.code (sub B [1, 1, 1, 0, 0, 1, 0, 1]) :: S8)) (by kernel_rfl) fun J => ?_
        obtain ⟨r4c0_5, r4c1_5, r4c2_5, r4c3a_5, r4c3n_5, r4c3k_5, r4c4_5, q33, h⟩ := h
        exact KR.finR (l := [.cell 4 28, .tmp 5]) (vs := [.agg #[.int .i64 r4c0_5, .int .i64 r4c1_5, .int .u32 r4c2_5, .slice r4c3a_5 r4c3n_5 r4c3k_5, .int .u32 r4c4_5], .int .i64 t21r1]) (by kernel_rfl) (Res.cellA (by kernel_rfl) q33 (Res.tmp (by kernel_rfl) Res.nil)) (by kernel_rfl) h
    · replace h := iteF c7 h
      refine KR.br true (by kernel_rfl) (vB (nB (bF c7))) ?_
      refine KR.run 3 [(4, .pointer (some ⟨H.next, 0, none⟩)), (18, .agg #[.int .i64 0, .int .i64 0, .int .u32 0, .slice none 0 0, .int .u32 0])] 62 (s' := (.reg (opsAt (sub B [1, 0, 0, 1, 1, 1, 0, 0])) [1, 2] :: S18)) (by kernel_rfl) fun J => ?_
      obtain ⟨H_13, q34, h⟩ := h
      refine KR.se (one_st (by kernel_rfl) q34) ?_
      refine KR.run 2 [(4, .pointer (some ⟨H.next, 0, none⟩)), (5, .int .i64 7)] 62 (s' := (.code (sub B [1, 0, 0, 1, 1, 1, 0, 1]) :: S2)) (by kernel_rfl) fun J => ?_
      obtain ⟨r4c0_6, r4c1_6, r4c2_6, r4c3a_6, r4c3n_6, r4c3k_6, r4c4_6, q35, h⟩ := h
      exact KR.finR (l := [.cell 4 28, .tmp 5]) (vs := [.agg #[.int .i64 r4c0_6, .int .i64 r4c1_6, .int .u32 r4c2_6, .slice r4c3a_6 r4c3n_6 r4c3k_6, .int .u32 r4c4_6], .int .i64 7]) (by kernel_rfl) (Res.cellA (by kernel_rfl) q35 (Res.tmp (by kernel_rfl) Res.nil)) (by kernel_rfl) h
end F26
/-! #### 27 (*campanile/join.Desk).Count -/
namespace F27
noncomputable def B : Code := bodyOf Try.f27
noncomputable def S0 : List It := (.code (sub B [1, 1]) :: [])
noncomputable def S2 : List It := (.code (sub B [1, 1, 1]) :: [])
noncomputable def S1 : List It := (.code (sub B [1, 0, 1]) :: S0)
def L0 (t0 : Option Addr) (t1 : Int) (t20 : Bool) (H : Heap) (r : Value × Heap) : Prop := ∀ J, KR Try.prog good Try.f27 S1 (mat J 28 [(0, .pointer t0), (1, .int .i64 t1), (20, .bool t20)]) H r
theorem L0_step {t0 : Option Addr} {t1 : Int} {t20 : Bool} {H : Heap} {r : Value × Heap} (h :
    if t20 = true then
    (r = (.tuple #[.int .u32 0, .bool false], H))
    else
    (∃ (t0b t0o : Nat), t0 = some ⟨t0b, t0o, none⟩ ∧
    (∃ (t24a : Option Addr) (t24n : Nat) (t24k : Nat), ldc H t0b (t0o + 1) = some (.slice t24a t24n t24k) ∧
    (∃ (t24ab t24ao : Nat), t24a = some ⟨t24ab, t24ao, none⟩ ∧
    ((0 : Int) ≤ t1 ∧ t1 < ((t24n : Nat) : Int) ∧
    (∃ (t27 : Int), ldc H t24ab (t24ao + Int.toNat t1 * 1) = some (.int .u32 t27) ∧
    (r = (.tuple #[.int .u32 t27, .bool true], H)))))))) :
    L0 t0 t1 t20 H r := by
  intro J
  show KR _ _ _ (.code (sub B [1, 0, 1]) :: S0) _ _ _
  by_cases c5 : t20 = true
  · replace h := iteT c5 h
    refine KR.br true (by kernel_rfl) (vB (bT c5)) ?_
    refine KR.run 5 [(4, .int .u32 0), (5, .bool false)] 28 (s' := (.code (sub B [1, 0, 1, 0, 1]) :: S0)) (by kernel_rfl) fun J => ?_
    exact KR.fin (by kernel_rfl) h
  · replace h := iteF c5 h
    refine KR.br false (by kernel_rfl) (vB (bF c5)) ?_
    obtain ⟨t0b, t0o, rfl, h⟩ := h
    refine KR.run 6 [(1, .int .i64 t1), (23, .pointer (some ⟨t0b, (t0o + 1), none⟩))] 28 (s' := (.reg (opsAt (sub B [1, 1, 0])) [3, 4, 5, 6, 7, 8] :: S2)) (by kernel_rfl) fun J => ?_
    obtain ⟨t24a, t24n, t24k, q6, h⟩ := h
    refine KR.rd (one_ld (by kernel_rfl) q6) ?_
    obtain ⟨t24ab, t24ao, rfl, h⟩ := h
    refine KR.run 1 [(24, .slice (some ⟨t24ab, t24ao, none⟩) t24n t24k), (25, .int .i64 t1)] 28 (s' := (.reg (opsAt (sub B [1, 1, 0])) [5, 6, 7, 8] :: S2)) (by kernel_rfl) fun J => ?_
    obtain ⟨q7, q7x, h⟩ := h
    refine KR.p (one_ix 1 t24ab t24ao (by kernel_rfl) q7 q7x) ?_
    obtain ⟨t27, q8, h⟩ := h
    refine KR.rd (one_ld (by kernel_rfl) q8) ?_
    refine KR.run 3 [(4, .int .u32 t27), (5, .bool true)] 28 (s' := (.code (sub B [1, 1, 1]) :: [])) (by kernel_rfl) fun J => ?_
    exact KR.fin (by kernel_rfl) h
theorem call {a0 : Option Addr} {a1 : Int} {H : Heap} {r : Value × Heap} (h :
    if (Option.isNone a0) = true then
    (L0 (a0) (a1) (true) H r)
    else
    (if a1 < 0 then
    (L0 (a0) (a1) (true) H r)
    else
    (∃ (a0b a0o : Nat), a0 = some ⟨a0b, a0o, none⟩ ∧
    (∃ (t17a : Option Addr) (t17n : Nat) (t17k : Nat), ldc H a0b a0o = some (.slice t17a t17n t17k) ∧
    (L0 ((some ⟨a0b, a0o, none⟩)) (a1) ((decide (a1 ≥ ((t17n : Nat) : Int)))) H r))))) :
    xC Try.prog good 27 [.pointer a0, .int .i64 a1] H = some r := by
  refine KR.enter (fn := Try.f27) (c := B) (by kernel_rfl) (by kernel_rfl) ?_
  refine KR.run 9 [(0, .pointer a0), (1, .int .i64 a1), (6, .pointer a0)] 28 (s' := (.reg (opsAt (sub B [1, 0, 0])) [1, 2, 3, 4, 5, 6, 7, 8, 9, 10, 11, 12, 13, 14] :: S1)) (by kernel_rfl) fun J => ?_
  refine KR.p (one_nl false a0 (by kernel_rfl)) ?_
  refine KR.run 1 [(0, .pointer a0), (1, .int .i64 a1), (8, .bool (Option.isNone a0))] 28 (s' := (.reg (opsAt (sub B [1, 0, 0])) [3, 4, 5, 6, 7, 8, 9, 10, 11, 12, 13, 14] :: S1)) (by kernel_rfl) fun J => ?_
  by_cases c2 : (Option.isNone a0) = true
  · replace h := iteT c2 h
    refine KR.setV 8 (by kernel_rfl) (bT c2) ?_
    exact KR.run 13 [(0, .pointer a0), (1, .int .i64 a1), (20, .bool true)] 28 (s' := (.code (sub B [1, 0, 1]) :: S0)) (by kernel_rfl) h
  · replace h := iteF c2 h
    refine KR.setV 8 (by kernel_rfl) (bF c2) ?_
    refine KR.run 4 [(0, .pointer a0), (1, .int .i64 a1), (12, .bool (decide (a1 < 0)))] 28 (s' := (.reg (opsAt (sub B [1, 0, 0])) [7, 8, 9, 10, 11, 12, 13, 14] :: S1)) (by kernel_rfl) fun J => ?_
    by_cases c3 : a1 < 0
    · replace h := iteT c3 h
      refine KR.setV 12 (by kernel_rfl) (dT c3) ?_
      exact KR.run 9 [(0, .pointer a0), (1, .int .i64 a1), (20, .bool true)] 28 (s' := (.code (sub B [1, 0, 1]) :: S0)) (by kernel_rfl) h
    · replace h := iteF c3 h
      refine KR.setV 12 (by kernel_rfl) (dF c3) ?_
      obtain ⟨a0b, a0o, rfl, h⟩ := h
      refine KR.run 4 [(0, .pointer (some ⟨a0b, a0o, none⟩)), (1, .int .i64 a1), (12, .bool false), (13, .int .i64 a1), (16, .pointer (some ⟨a0b, a0o, none⟩))] 28 (s' := (.reg (opsAt (sub B [1, 0, 0])) [11, 12, 13, 14] :: S1)) (by kernel_rfl) fun J => ?_
      obtain ⟨t17a, t17n, t17k, q4, h⟩ := h
      refine KR.rd (one_ld (by kernel_rfl) q4) ?_
      exact KR.run 4 [(0, .pointer (some ⟨a0b, a0o, none⟩)), (1, .int .i64 a1), (20, .bool (decide (a1 ≥ ((t17n : Nat) : Int))))] 28 (s' := (.code (sub B [1, 0, 1]) :: S0)) (by kernel_rfl) h
end F27
/-! #### 28 campanile/join.encode -/
namespace F28
noncomputable def B : Code := bodyOf Try.f28
noncomputable def S0 : List It := (.code (sub B [1, 1]) :: [])
noncomputable def S2 : List It := (.code (sub B [1, 1, 1]) :: [])
noncomputable def S3 : List It := (.code (sub B [1, 1, 1, 1]) :: [])
noncomputable def S4 : List It := (.code (sub B [1, 1, 1, 1, 1]) :: [])
noncomputable def S5 : List It := (.code (sub B [1, 1, 1, 1, 1, 1]) :: [])
noncomputable def S1 : List It := (.code (sub B [1, 0, 1]) :: S0)
theorem call {a0 : Int} {a1 : Value} {H : Heap} {r : Value × Heap} (h :
    (a1 = .nilIface ∧
    (False)) ∨
    (∃ (a1t : Nat) (a1v : Value), a1 = .iface a1t a1v ∧
    (∃ (t8g : Nat), xmethod Try.prog a1t "campanile/join.may" = some t8g ∧ fnGoes Try.prog t8g = true ∧ ∃ (t8 : Bool) (H_1 : Heap), xC Try.prog good t8g [a1v] H = some (.bool t8, H_1) ∧
    (if t8 = true then
    (∃ (H_2 : Heap), H_2 = H_1.push (.row [.slice none 0 0, .int .i64 0] true) ∧
    (∃ (t14g : Nat), xmethod Try.prog a1t "campanile/join.put" = some t14g ∧ fnGoes Try.prog t14g = true ∧ ∃ (H_3 : Heap), xC Try.prog good t14g [a1v, .pointer (some ⟨H_1.next, 0, none⟩)] H_2 = some (.tuple #[], H_3) ∧
    (∃ (t18a : Option Addr) (t18n : Nat) (t18k : Nat) (H_4 : Heap), xC Try.prog good 48 [.pointer (some ⟨H_1.next, 0, none⟩)] H_3 = some (.slice t18a t18n t18k, H_4) ∧
    (∃ (t19 : Int) (H_5 : Heap), xC Try.prog good 47 [.int .u64 a0, .slice t18a t18n t18k] H_4 = some (.int .u32 t19, H_5) ∧
    (∃ (H_6 : Heap), xC Try.prog good 46 [.pointer (some ⟨H_1.next, 0, none⟩), .int .u64 (IntKind.wrap .u64 t19), .int .i64 32] H_5 = some (.tuple #[], H_6) ∧
    (∃ (t23a : Option Addr) (t23n : Nat) (t23k : Nat) (H_7 : Heap), xC Try.prog good 48 [.pointer (some ⟨H_1.next, 0, none⟩)] H_6 = some (.slice t23a t23n t23k, H_7) ∧
    (r = (.tuple #[.slice t23a t23n t23k, .int .i64 0], H_7))))))))
    else
    (r = (.tuple #[.slice none 0 0, .int .i64 1], H_1)))))) :
    xC Try.prog good 28 [.int .u64 a0, a1] H = some r := by
  refine KR.enter (fn := Try.f28) (c := B) (by kernel_rfl) (by kernel_rfl) ?_
  refine KR.run 9 [(0, .int .u64 a0), (1, a1), (7, a1)] 24 (s' := (.reg (opsAt (sub B [1, 0, 0])) [1, 2] :: S1)) (by kernel_rfl) fun J => ?_
  rcases h with ⟨rfl, h⟩ | ⟨a1t, a1v, rfl, h⟩
  · exact h.elim
  · obtain ⟨t8g, q3m, q3g, t8, H_1, q3, h⟩ := h
    refine KR.se (one_iv (t := a1t) (name := "campanile/join.may") (by kernel_rfl) q3m q3g q3) ?_
    refine KR.run 2 [(0, .int .u64 a0), (1, .iface a1t (a1v)), (9, .bool (!t8))] 24 (s' := (.code (sub B [1, 0, 1]) :: S0)) (by kernel_rfl) fun J => ?_
    by_cases c4 : t8 = true
    · replace h := iteT c4 h
      refine KR.br false (by kernel_rfl) (vB (nB (bT c4))) ?_
      refine KR.run 4 [(0, .int .u64 a0), (1, .iface a1t (a1v)), (10, .agg #[.slice none 0 0, .int .i64 0])] 24 (s' := (.reg (opsAt (sub B [1, 1, 0])) [1, 2] :: S2)) (by kernel_rfl) fun J => ?_
      obtain ⟨H_2, q5, h⟩ := h
      refine KR.mk (w := pRow [.slice none 0 0, .int .i64 0]) (one_al (by kernel_rfl)) q5 ?_
      refine KR.run 6 [(0, .int .u64 a0), (6, .pointer (some ⟨H_1.next, 0, none⟩)), (12, .iface a1t (a1v)), (13, .pointer (some ⟨H_1.next, 0, none⟩))] 24 (s' := (.reg (opsAt (sub B [1, 1, 1, 0])) [2] :: S3)) (by kernel_rfl) fun J => ?_
      obtain ⟨t14g, q6m, q6g, H_3, q6, h⟩ := h
      refine KR.se (one_iv (t := a1t) (name := "campanile/join.put") (by kernel_rfl) q6m q6g q6) ?_
      refine KR.run 6 [(6, .pointer (some ⟨H_1.next, 0, none⟩)), (15, .pointer (some ⟨H_1.next, 0, none⟩)), (16, .int .u64 a0), (17, .pointer (some ⟨H_1.next, 0, none⟩))] 24 (s' := (.reg (opsAt (sub B [1, 1, 1, 1, 0])) [3, 4, 5, 6] :: S4)) (by kernel_rfl) fun J => ?_
      obtain ⟨t18a, t18n, t18k, H_4, q7, h⟩ := h
      refine KR.se (one_ca (by kernel_rfl) q7) ?_
      obtain ⟨t19, H_5, q8, h⟩ := h
      refine KR.se (one_ca (by kernel_rfl) q8) ?_
      refine KR.run 1 [(6, .pointer (some ⟨H_1.next, 0, none⟩)), (15, .pointer (some ⟨H_1.next, 0, none⟩)), (20, .int .u64 (IntKind.wrap .u64 t19))] 24 (s' := (.reg (opsAt (sub B [1, 1, 1, 1, 0])) [6] :: S4)) (by kernel_rfl) fun J => ?_
      obtain ⟨H_6, q9, h⟩ := h
      refine KR.se (one_ca (by kernel_rfl) q9) ?_
      refine KR.run 4 [(22, .pointer (some ⟨H_1.next, 0, none⟩))] 24 (s' := (.reg (opsAt (sub B [1, 1, 1, 1, 1, 0])) [1, 2, 3] :: S5)) (by kernel_rfl) fun J => ?_
      obtain ⟨t23a, t23n, t23k, H_7, q10, h⟩ := h
      refine KR.se (one_ca (by kernel_rfl) q10) ?_
      refine KR.run 3 [(4, .slice t23a t23n t23k), (5, .int .i64 0)] 24 (s' := (.code (sub B [1, 1, 1, 1, 1, 1]) :: [])) (by kernel_rfl) fun J => ?_
      exact KR.fin (by kernel_rfl) h
    · replace h := iteF c4 h
      refine KR.br true (by kernel_rfl) (vB (nB (bF c4))) ?_
      refine KR.run 5 [(4, .slice none 0 0), (5, .int .i64 1)] 24 (s' := (.code (sub B [1, 0, 1, 0, 1]) :: S0)) (by kernel_rfl) fun J => ?_
      exact KR.fin (by kernel_rfl) h
end F28
/-! #### 29 campanile/campanileref18.mayRequest -/
namespace F29
noncomputable def B : Code := bodyOf Try.f29
noncomputable def S0 : List It := (.code (sub B [1]) :: [])
noncomputable def S1 : List It := (.code (sub B [1, 1]) :: [])
theorem call {a0c0 : Int} {a0c1 : Int} {a0c2 : Int} {a0c3 : Int} {a0c4 : Int} {H : Heap} {r : Value × Heap} (h :
    ∃ (H_1 : Heap), H_1 = H.push (.row [.int .i64 a0c0, .int .i64 a0c1, .int .u32 a0c2, .int .u32 a0c3, .int .u32 a0c4] true) ∧
    (∃ (t4 : Int), ldc H_1 H.next 0 = some (.int .i64 t4) ∧
    (∃ (t5 : Bool) (H_2 : Heap), xC Try.prog good 33 [.int .i64 t4] H_1 = some (.bool t5, H_2) ∧
    (if t5 = true then
    (∃ (t8 : Int), ldc H_2 H.next 1 = some (.int .i64 t8) ∧
    (∃ (t9 : Bool) (H_3 : Heap), xC Try.prog good 33 [.int .i64 t8] H_2 = some (.bool t9, H_3) ∧
    (if t9 = true then
    (∃ (t13 : Int), ldc H_3 H.next 1 = some (.int .i64 t13) ∧
    (∃ (t15 : Int), ldc H_3 H.next 0 = some (.int .i64 t15) ∧
    (r = (.bool (!(t13 == t15)), H_3))))
    else
    (r = (.bool false, H_3)))))
    else
    (r = (.bool false, H_2)))))) :
    xC Try.prog good 29 [.agg #[.int .i64 a0c0, .int .i64 a0c1, .int .u32 a0c2, .int .u32 a0c3, .int .u32 a0c4]] H = some r := by
  refine KR.enter (fn := Try.f29) (c := B) (by kernel_rfl) (by kernel_rfl) ?_
  refine KR.run 2 [(0, .agg #[.int .i64 a0c0, .int .i64 a0c1, .int .u32 a0c2, .int .u32 a0c3, .int .u32 a0c4])] 18 (s' := (.reg (opsAt (sub B [0])) [0, 1] :: S0)) (by kernel_rfl) fun J => ?_
  obtain ⟨H_1, q1, h⟩ := h
  refine KR.mk (w := pRow [.int .i64 a0c0, .int .i64 a0c1, .int .u32 a0c2, .int .u32 a0c3, .int .u32 a0c4]) (one_al (by kernel_rfl)) q1 ?_
  refine KR.run 5 [(1, .pointer (some ⟨H.next, 0, none⟩)), (3, .pointer (some ⟨H.next, 0, none⟩))] 18 (s' := (.reg (opsAt (sub B [1, 0])) [1, 2, 3, 4, 5, 6, 7, 8, 9, 10, 11, 12, 13, 14, 15] :: S1)) (by kernel_rfl) fun J => ?_
  obtain ⟨t4, q2, h⟩ := h
  refine KR.rd (one_ld (by kernel_rfl) q2) ?_
  obtain ⟨t5, H_2, q3, h⟩ := h
  refine KR.se (one_ca (by kernel_rfl) q3) ?_
  refine KR.run 1 [(1, .pointer (some ⟨H.next, 0, none⟩)), (6, .bool t5)] 18 (s' := (.reg (opsAt (sub B [1, 0])) [4, 5, 6, 7, 8, 9, 10, 11, 12, 13, 14, 15] :: S1)) (by kernel_rfl) fun J => ?_
  by_cases c4 : t5 = true
  · replace h := iteT c4 h
    refine KR.setV 6 (by kernel_rfl) (bT c4) ?_
    refine KR.run 1 [(1, .pointer (some ⟨H.next, 0, none⟩)), (6, .bool true), (7, .pointer (some ⟨H.next, 1, none⟩))] 18 (s' := (.reg (opsAt (sub B [1, 0])) [5, 6, 7, 8, 9, 10, 11, 12, 13, 14, 15] :: S1)) (by kernel_rfl) fun J => ?_
    obtain ⟨t8, q5, h⟩ := h
    refine KR.rd (one_ld (by kernel_rfl) q5) ?_
    obtain ⟨t9, H_3, q6, h⟩ := h
    refine KR.se (one_ca (by kernel_rfl) q6) ?_
    refine KR.run 2 [(1, .pointer (some ⟨H.next, 0, none⟩)), (11, .bool t9)] 18 (s' := (.reg (opsAt (sub B [1, 0])) [9, 10, 11, 12, 13, 14, 15] :: S1)) (by kernel_rfl) fun J => ?_
    by_cases c7 : t9 = true
    · replace h := iteT c7 h
      refine KR.setV 11 (by kernel_rfl) (bT c7) ?_
      refine KR.run 1 [(1, .pointer (some ⟨H.next, 0, none⟩)), (11, .bool true), (12, .pointer (some ⟨H.next, 1, none⟩))] 18 (s' := (.reg (opsAt (sub B [1, 0])) [10, 11, 12, 13, 14, 15] :: S1)) (by kernel_rfl) fun J => ?_
      obtain ⟨t13, q8, h⟩ := h
      refine KR.rd (one_ld (by kernel_rfl) q8) ?_
      refine KR.run 1 [(11, .bool true), (13, .int .i64 t13), (14, .pointer (some ⟨H.next, 0, none⟩))] 18 (s' := (.reg (opsAt (sub B [1, 0])) [12, 13, 14, 15] :: S1)) (by kernel_rfl) fun J => ?_
      obtain ⟨t15, q9, h⟩ := h
      refine KR.rd (one_ld (by kernel_rfl) q9) ?_
      refine KR.run 4 [(2, .bool (!(t13 == t15)))] 18 (s' := (.code (sub B [1, 1]) :: [])) (by kernel_rfl) fun J => ?_
      exact KR.fin (by kernel_rfl) h
    · replace h := iteF c7 h
      refine KR.setV 11 (by kernel_rfl) (bF c7) ?_
      refine KR.run 8 [(2, .bool false)] 18 (s' := (.code (sub B [1, 1]) :: [])) (by kernel_rfl) fun J => ?_
      exact KR.fin (by kernel_rfl) h
  · replace h := iteF c4 h
    refine KR.setV 6 (by kernel_rfl) (bF c4) ?_
    refine KR.run 13 [(2, .bool false)] 18 (s' := (.code (sub B [1, 1]) :: [])) (by kernel_rfl) fun J => ?_
    exact KR.fin (by kernel_rfl) h
end F29
/-! #### 30 campanile/campanileref18.tagged -/
namespace F30
noncomputable def B : Code := bodyOf Try.f30
noncomputable def S0 : List It := (.code (sub B [1, 1]) :: [])
theorem call {a0 : Int} {a1a : Option Addr} {a1n : Nat} {a1k : Nat} {H : Heap} {r : Value × Heap} (h :
    ∃ (t8 : Int) (H_1 : Heap), xC Try.prog good 49 [.int .u64 a0, .slice a1a a1n a1k] H = some (.int .u32 t8, H_1) ∧
    (∃ (t10a : Option Addr) (t10n : Nat) (t10k : Nat) (H_2 : Heap), xC Try.prog good 32 [.int .u64 (IntKind.wrap .u64 t8), .int .i64 4] H_1 = some (.slice t10a t10n t10k, H_2) ∧
    (∃ (H_3 : Heap), H_3 = H_2.push (.row [.slice a1a a1n a1k, .slice t10a t10n t10k] true) ∧
    (∃ (t12a : Option Addr) (t12n : Nat) (t12k : Nat) (H_4 : Heap), xC Try.prog good 31 [.slice (some ⟨H_2.next, 0, none⟩) 2 (UNK 1)] H_3 = some (.slice t12a t12n t12k, H_4) ∧
    (r = (.slice t12a t12n t12k, H_4)))))) :
    xC Try.prog good 30 [.int .u64 a0, .slice a1a a1n a1k] H = some r := by
  refine KR.enter (fn := Try.f30) (c := B) (by kernel_rfl) (by kernel_rfl) ?_
  refine KR.run 9 [(5, .slice a1a a1n a1k), (6, .int .u64 a0), (7, .slice a1a a1n a1k)] 13 (s' := (.reg (opsAt (sub B [1, 0])) [3, 4, 5, 6, 7, 8] :: S0)) (by kernel_rfl) fun J => ?_
  obtain ⟨t8, H_1, q1, h⟩ := h
  refine KR.se (one_ca (by kernel_rfl) q1) ?_
  refine KR.run 1 [(5, .slice a1a a1n a1k), (9, .int .u64 (IntKind.wrap .u64 t8))] 13 (s' := (.reg (opsAt (sub B [1, 0])) [5, 6, 7, 8] :: S0)) (by kernel_rfl) fun J => ?_
  obtain ⟨t10a, t10n, t10k, H_2, q2, h⟩ := h
  refine KR.se (one_ca (by kernel_rfl) q2) ?_
  obtain ⟨H_3, q3, h⟩ := h
  refine KR.mk (w := sRow 2 1 [.slice a1a a1n a1k, .slice t10a t10n t10k]) (one_al (by kernel_rfl)) q3 ?_
  obtain ⟨t12a, t12n, t12k, H_4, q4, h⟩ := h
  refine KR.se (one_ca (by kernel_rfl) q4) ?_
  refine KR.run 2 [(4, .slice t12a t12n t12k)] 13 (s' := (.code (sub B [1, 1]) :: [])) (by kernel_rfl) fun J => ?_
  exact KR.fin (by kernel_rfl) h
end F30
/-! #### 31 campanile/campanileref18.join -/
namespace F31
noncomputable def B : Code := bodyOf Try.f31
noncomputable def S0 : List It := (.code (sub B [1, 1, 1]) :: [])
noncomputable def S1 : List It := (.blk 0 :: S0)
noncomputable def S2 : List It := (.lp (sub B [1, 1, 0, 1, 0, 0]) :: S1)
noncomputable def S3 : List It := (.code (sub B [1, 1, 0, 1, 0, 0, 1, 1]) :: S2)
noncomputable def S4 : List It := (.code (sub B [1, 1, 0, 1, 0, 0, 1, 1, 1]) :: S2)
noncomputable def S5 : List It := (.blk 1 :: S4)
noncomputable def S6 : List It := (.code (sub B [1, 1, 0, 1, 0, 0, 1, 1, 0, 0, 1]) :: S5)
def L0 (t3a : Option Addr) (t3n : Nat) (t3k : Nat) (t6a : Option Addr) (t6n : Nat) (t6k : Nat) (t7 : Int) (t8 : Int) (H : Heap) (r : Value × Heap) : Prop := ∀ J, KR Try.prog good Try.f31 S2 (mat J 17 [(3, .slice t3a t3n t3k), (6, .slice t6a t6n t6k), (7, .int .i64 t7), (8, .int .i64 t8)]) H r
theorem L0_step {t3a : Option Addr} {t3n : Nat} {t3k : Nat} {t6a : Option Addr} {t6n : Nat} {t6k : Nat} {t7 : Int} {t8 : Int} {H : Heap} {r : Value × Heap} (h :
    if t8 < t7 then
    (∃ (t6ab t6ao : Nat), t6a = some ⟨t6ab, t6ao, none⟩ ∧
    ((0 : Int) ≤ t8 ∧ t8 < ((t6n : Nat) : Int) ∧
    (∃ (t11a : Option Addr) (t11n : Nat) (t11k : Nat), ldc H t6ab (t6ao + Int.toNat t8 * 1) = some (.slice t11a t11n t11k) ∧
    (∃ (t14a : Option Addr) (t14n : Nat) (t14k : Nat) (H_1 : Heap), papp H 1 1 t3a t3n t3k t11a t11n t11k = some ((t14a, t14n, t14k), H_1) ∧
    (L0 (t14a) (t14n) (t14k) ((some ⟨t6ab, t6ao, none⟩)) (t6n) (t6k) (t7) ((IntKind.wrap .i64 (t8 + 1))) H_1 r)))))
    else
    (r = (.slice t3a t3n t3k, H))) :
    L0 t3a t3n t3k t6a t6n t6k t7 t8 H r := by
  intro J
  show KR _ _ _ (.lp (sub B [1, 1, 0, 1, 0, 0]) :: S1) _ _ _
  refine KR.run 6 [(3, .slice t3a t3n t3k), (6, .slice t6a t6n t6k), (7, .int .i64 t7), (8, .int .i64 t8), (9, .bool (decide (t8 < t7)))] 17 (s' := (.code (sub B [1, 1, 0, 1, 0, 0, 1, 0]) :: S3)) (by kernel_rfl) fun J => ?_
  by_cases c1 : t8 < t7
  · replace h := iteT c1 h
    refine KR.br true (by kernel_rfl) (vB (dT c1)) ?_
    obtain ⟨t6ab, t6ao, rfl, h⟩ := h
    refine KR.run 5 [(3, .slice t3a t3n t3k), (6, .slice (some ⟨t6ab, t6ao, none⟩) t6n t6k), (7, .int .i64 t7), (8, .int .i64 t8)] 17 (s' := (.reg (opsAt (sub B [1, 1, 0, 1, 0, 0, 1, 1, 0, 0, 0])) [0, 1, 2] :: S6)) (by kernel_rfl) fun J => ?_
    obtain ⟨q2, q2x, h⟩ := h
    refine KR.p (one_ix 1 t6ab t6ao (by kernel_rfl) q2 q2x) ?_
    obtain ⟨t11a, t11n, t11k, q3, h⟩ := h
    refine KR.rd (one_ld (by kernel_rfl) q3) ?_
    refine KR.run 5 [(6, .slice (some ⟨t6ab, t6ao, none⟩) t6n t6k), (7, .int .i64 t7), (8, .int .i64 t8), (12, .slice t3a t3n t3k), (13, .slice t11a t11n t11k)] 17 (s' := (.reg (opsAt (sub B [1, 1, 0, 1, 0, 0, 1, 1, 0, 0, 1])) [2, 3] :: S5)) (by kernel_rfl) fun J => ?_
    obtain ⟨t14a, t14n, t14k, H_1, q4, h⟩ := h
    refine KR.se (one_ap 1 1 (by kernel_rfl) q4) ?_
    exact KR.run 7 [(3, .slice t14a t14n t14k), (6, .slice (some ⟨t6ab, t6ao, none⟩) t6n t6k), (7, .int .i64 t7), (8, .int .i64 (IntKind.wrap .i64 (t8 + 1)))] 17 (s' := (.lp (sub B [1, 1, 0, 1, 0, 0]) :: S1)) (by kernel_rfl) h
  · replace h := iteF c1 h
    refine KR.br false (by kernel_rfl) (vB (dF c1)) ?_
    refine KR.run 6 [(2, .slice t3a t3n t3k)] 17 (s' := (.code (sub B [1, 1, 1, 1]) :: [])) (by kernel_rfl) fun J => ?_
    exact KR.fin (by kernel_rfl) h
theorem call {a0a : Option Addr} {a0n : Nat} {a0k : Nat} {H : Heap} {r : Value × Heap} (h :
    L0 (none) (0) (0) (a0a) (a0n) (a0k) (((a0n : Nat) : Int)) 0 H r) :
    xC Try.prog good 31 [.slice a0a a0n a0k] H = some r := by
  refine KR.enter (fn := Try.f31) (c := B) (by kernel_rfl) (by kernel_rfl) ?_
  exact KR.run 17 [(3, .slice none 0 0), (6, .slice a0a a0n a0k), (7, .int .i64 ((a0n : Nat) : Int)), (8, .int .i64 0)] 17 (s' := (.lp (sub B [1, 1, 0, 1, 0, 0]) :: S1)) (by kernel_rfl) h
end F31
/-! #### 32 campanile/campanileref1.Bytes -/
namespace F32
noncomputable def B : Code := bodyOf Try.f32
noncomputable def S0 : List It := (.code (sub B [1, 1, 1]) :: [])
noncomputable def S1 : List It := (.blk 0 :: S0)
noncomputable def S2 : List It := (.lp (sub B [1, 1, 0, 1, 0, 0]) :: S1)
noncomputable def S3 : List It := (.code (sub B [1, 1, 0, 1, 0, 0, 1]) :: S2)
noncomputable def S4 : List It := (.code (sub B [1, 1, 0, 1, 0, 0, 1, 1]) :: S2)
noncomputable def S5 : List It := (.blk 1 :: S4)
def L0 (t0 : Int) (t5a : Option Addr) (t5n : Nat) (t5k : Nat) (t6 : Int) (H : Heap) (r : Value × Heap) : Prop := ∀ J, KR Try.prog good Try.f32 S2 (mat J 23 [(0, .int .u64 t0), (5, .slice t5a t5n t5k), (6, .int .i64 t6)]) H r
theorem L0_step {t0 : Int} {t5a : Option Addr} {t5n : Nat} {t5k : Nat} {t6 : Int} {H : Heap} {r : Value × Heap} (h :
    if t6 ≥ 0 then
    ((0 : Int) ≤ (IntKind.wrap .u64 (IntKind.wrap .i64 (8 * t6))) ∧
    (∃ (H_1 : Heap), H_1 = H.push (.row [.int .u8 (IntKind.wrap .u8 (ishr .u64 t0 (IntKind.wrap .u64 (IntKind.wrap .i64 (8 * t6)))))] true) ∧
    (∃ (t21a : Option Addr) (t21n : Nat) (t21k : Nat) (H_2 : Heap), papp H_1 1 1 t5a t5n t5k (some ⟨H.next, 0, none⟩) 1 (UNK 1) = some ((t21a, t21n, t21k), H_2) ∧
    (L0 (t0) (t21a) (t21n) (t21k) ((IntKind.wrap .i64 (t6 - 1))) H_2 r))))
    else
    (r = (.slice t5a t5n t5k, H))) :
    L0 t0 t5a t5n t5k t6 H r := by
  intro J
  show KR _ _ _ (.lp (sub B [1, 1, 0, 1, 0, 0]) :: S1) _ _ _
  refine KR.run 7 [(0, .int .u64 t0), (5, .slice t5a t5n t5k), (6, .int .i64 t6), (10, .bool (decide (t6 ≥ 0)))] 23 (s' := (.code (sub B [1, 1, 0, 1, 0, 0, 0, 1]) :: S3)) (by kernel_rfl) fun J => ?_
  by_cases c1 : t6 ≥ 0
  · replace h := iteT c1 h
    refine KR.br true (by kernel_rfl) (vB (dT c1)) ?_
    refine KR.run 9 [(0, .int .u64 t0), (6, .int .i64 t6), (13, .slice t5a t5n t5k), (14, .int .u64 t0), (17, .int .u64 (IntKind.wrap .u64 (IntKind.wrap .i64 (8 * t6))))] 23 (s' := (.reg (opsAt (sub B [1, 1, 0, 1, 0, 0, 1, 0, 0])) [5, 6, 7, 8, 9] :: S5)) (by kernel_rfl) fun J => ?_
    obtain ⟨q2, h⟩ := h
    refine KR.p (one_shr .u64 .u64 t0 (by kernel_rfl) q2) ?_
    refine KR.run 1 [(0, .int .u64 t0), (6, .int .i64 t6), (13, .slice t5a t5n t5k), (19, .int .u8 (IntKind.wrap .u8 (ishr .u64 t0 (IntKind.wrap .u64 (IntKind.wrap .i64 (8 * t6))))))] 23 (s' := (.reg (opsAt (sub B [1, 1, 0, 1, 0, 0, 1, 0, 0])) [7, 8, 9] :: S5)) (by kernel_rfl) fun J => ?_
    obtain ⟨H_1, q3, h⟩ := h
    refine KR.mk (w := sRow 1 1 [.int .u8 (IntKind.wrap .u8 (ishr .u64 t0 (IntKind.wrap .u64 (IntKind.wrap .i64 (8 * t6)))))]) (one_al (by kernel_rfl)) q3 ?_
    obtain ⟨t21a, t21n, t21k, H_2, q4, h⟩ := h
    refine KR.se (one_ap 1 1 (by kernel_rfl) q4) ?_
    exact KR.run 8 [(0, .int .u64 t0), (5, .slice t21a t21n t21k), (6, .int .i64 (IntKind.wrap .i64 (t6 - 1)))] 23 (s' := (.lp (sub B [1, 1, 0, 1, 0, 0]) :: S1)) (by kernel_rfl) h
  · replace h := iteF c1 h
    refine KR.br false (by kernel_rfl) (vB (dF c1)) ?_
    refine KR.run 6 [(4, .slice t5a t5n t5k)] 23 (s' := (.code (sub B [1, 1, 1, 1]) :: [])) (by kernel_rfl) fun J => ?_
    exact KR.fin (by kernel_rfl) h
theorem call {a0 : Int} {a1 : Int} {H : Heap} {r : Value × Heap} (h :
    L0 (a0) (none) (0) (0) ((IntKind.wrap .i64 (a1 - 1))) H r) :
    xC Try.prog good 32 [.int .u64 a0, .int .i64 a1] H = some r := by
  refine KR.enter (fn := Try.f32) (c := B) (by kernel_rfl) (by kernel_rfl) ?_
  exact KR.run 17 [(0, .int .u64 a0), (5, .slice none 0 0), (6, .int .i64 (IntKind.wrap .i64 (a1 - 1)))] 23 (s' := (.lp (sub B [1, 1, 0, 1, 0, 0]) :: S1)) (by kernel_rfl) h
end F32
/-! #### 33 campanile/campanileref1.Node -/
namespace F33
noncomputable def B : Code := bodyOf Try.f33
noncomputable def S0 : List It := (.code (sub B [1, 1]) :: [])
theorem call {a0 : Int} {H : Heap} {r : Value × Heap} (h :
    if a0 ≥ 0 then
    (r = (.bool (decide (a0 < 16)), H))
    else
    (r = (.bool false, H))) :
    xC Try.prog good 33 [.int .i64 a0] H = some r := by
  refine KR.enter (fn := Try.f33) (c := B) (by kernel_rfl) (by kernel_rfl) ?_
  refine KR.run 9 [(0, .int .i64 a0), (5, .bool (decide (a0 ≥ 0)))] 9 (s' := (.reg (opsAt (sub B [1, 0])) [3, 4, 5, 6] :: S0)) (by kernel_rfl) fun J => ?_
  by_cases c1 : a0 ≥ 0
  · replace h := iteT c1 h
    refine KR.setV 5 (by kernel_rfl) (dT c1) ?_
    refine KR.run 5 [(2, .bool (decide (a0 < 16)))] 9 (s' := (.code (sub B [1, 1]) :: [])) (by kernel_rfl) fun J => ?_
    exact KR.fin (by kernel_rfl) h
  · replace h := iteF c1 h
    refine KR.setV 5 (by kernel_rfl) (dF c1) ?_
    refine KR.run 5 [(2, .bool false)] 9 (s' := (.code (sub B [1, 1]) :: [])) (by kernel_rfl) fun J => ?_
    exact KR.fin (by kernel_rfl) h
end F33
/-! #### 34 campanile/campanileref18.grant -/
namespace F34
noncomputable def B : Code := bodyOf Try.f34
noncomputable def S0 : List It := (.code (sub B [1]) :: [])
noncomputable def S1 : List It := (.code (sub B [1, 1]) :: [])
noncomputable def S2 : List It := (.code (sub B [1, 1, 1]) :: [])
noncomputable def S3 : List It := (.code (sub B [1, 1, 0, 1]) :: S2)
noncomputable def S4 : List It := (.blk 0 :: S2)
noncomputable def S5 : List It := (.lp (sub B [1, 1, 0, 1, 0, 0]) :: S4)
noncomputable def S6 : List It := (.code (sub B [1, 1, 0, 1, 0, 0, 1, 1]) :: S5)
noncomputable def S7 : List It := (.code (sub B [1, 1, 0, 1, 0, 0, 1, 1, 1]) :: S5)
noncomputable def S8 : List It := (.blk 1 :: S7)
noncomputable def S9 : List It := (.code (sub B [1, 1, 0, 1, 0, 0, 1, 1, 0, 0, 1]) :: S8)
def L0 (t3a : Option Addr) (t3n : Nat) (t3k : Nat) (t25a : Option Addr) (t25n : Nat) (t25k : Nat) (t26 : Int) (t27 : Int) (H : Heap) (r : Value × Heap) : Prop := ∀ J, KR Try.prog good Try.f34 S5 (mat J 51 [(3, .slice t3a t3n t3k), (25, .slice t25a t25n t25k), (26, .int .i64 t26), (27, .int .i64 t27)]) H r
theorem L0_step {t3a : Option Addr} {t3n : Nat} {t3k : Nat} {t25a : Option Addr} {t25n : Nat} {t25k : Nat} {t26 : Int} {t27 : Int} {H : Heap} {r : Value × Heap} (h :
    if t27 < t26 then
    (∃ (t25ab t25ao : Nat), t25a = some ⟨t25ab, t25ao, none⟩ ∧
    ((0 : Int) ≤ t27 ∧ t27 < ((t25n : Nat) : Int) ∧
    (∃ (t30c0 : Int) (t30c1 : Int) (t30c2 : Int) (t30c3 : Int) (t30c4 : Int), ldAll H t25ab (t25ao + Int.toNat t27 * 5) [.int .i64 t30c0, .int .i64 t30c1, .int .i64 t30c2, .int .i64 t30c3, .int .i64 t30c4] ∧
    (∃ (H_1 : Heap), H_1 = H.push (.row [.int .i64 0, .int .i64 0, .int .i64 0, .int .i64 0, .int .i64 0] true) ∧
    (∃ (H_2 : Heap), stc H_1 H.next 0 [.int .i64 t30c0, .int .i64 t30c1, .int .i64 t30c2, .int .i64 t30c3, .int .i64 t30c4] = some H_2 ∧
    (∃ (t33 : Int), ldc H_2 H.next 0 = some (.int .i64 t33) ∧
    (∃ (t36 : Int), ldc H_2 H.next 1 = some (.int .i64 t36) ∧
    (∃ (t39 : Int), ldc H_2 H.next 2 = some (.int .i64 t39) ∧
    (∃ (t42 : Int), ldc H_2 H.next 3 = some (.int .i64 t42) ∧
    (∃ (t45 : Int), ldc H_2 H.next 4 = some (.int .i64 t45) ∧
    (∃ (H_3 : Heap), H_3 = H_2.push (.row [.int .u8 (IntKind.wrap .u8 t33), .int .u8 (IntKind.wrap .u8 t36), .int .u8 (IntKind.wrap .u8 t39), .int .u8 (IntKind.wrap .u8 t42), .int .u8 (IntKind.wrap .u8 t45)] true) ∧
    (∃ (t48a : Option Addr) (t48n : Nat) (t48k : Nat) (H_4 : Heap), papp H_3 1 1 t3a t3n t3k (some ⟨H_2.next, 0, none⟩) 5 (UNK 1) = some ((t48a, t48n, t48k), H_4) ∧
    (L0 (t48a) (t48n) (t48k) ((some ⟨t25ab, t25ao, none⟩)) (t25n) (t25k) (t26) ((IntKind.wrap .i64 (t27 + 1))) H_4 r)))))))))))))
    else
    (r = (.slice t3a t3n t3k, H))) :
    L0 t3a t3n t3k t25a t25n t25k t26 t27 H r := by
  intro J
  show KR _ _ _ (.lp (sub B [1, 1, 0, 1, 0, 0]) :: S4) _ _ _
  refine KR.run 6 [(3, .slice t3a t3n t3k), (25, .slice t25a t25n t25k), (26, .int .i64 t26), (27, .int .i64 t27), (28, .bool (decide (t27 < t26)))] 51 (s' := (.code (sub B [1, 1, 0, 1, 0, 0, 1, 0]) :: S6)) (by kernel_rfl) fun J => ?_
  by_cases c15 : t27 < t26
  · replace h := iteT c15 h
    refine KR.br true (by kernel_rfl) (vB (dT c15)) ?_
    obtain ⟨t25ab, t25ao, rfl, h⟩ := h
    refine KR.run 5 [(3, .slice t3a t3n t3k), (25, .slice (some ⟨t25ab, t25ao, none⟩) t25n t25k), (26, .int .i64 t26), (27, .int .i64 t27)] 51 (s' := (.reg (opsAt (sub B [1, 1, 0, 1, 0, 0, 1, 1, 0, 0, 0])) [0, 1, 2, 3] :: S9)) (by kernel_rfl) fun J => ?_
    obtain ⟨q16, q16x, h⟩ := h
    refine KR.p (one_ix 5 t25ab t25ao (by kernel_rfl) q16 q16x) ?_
    obtain ⟨t30c0, t30c1, t30c2, t30c3, t30c4, q17, h⟩ := h
    refine KR.rd (one_ldA (by kernel_rfl) q17) ?_
    obtain ⟨H_1, q18, h⟩ := h
    refine KR.mk (w := pRow [.int .i64 0, .int .i64 0, .int .i64 0, .int .i64 0, .int .i64 0]) (one_al (by kernel_rfl)) q18 ?_
    obtain ⟨H_2, q19, h⟩ := h
    refine KR.se (one_st (by kernel_rfl) q19) ?_
    refine KR.run 4 [(5, .pointer (some ⟨H.next, 0, none⟩)), (25, .slice (some ⟨t25ab, t25ao, none⟩) t25n t25k), (26, .int .i64 t26), (27, .int .i64 t27), (31, .slice t3a t3n t3k), (32, .pointer (some ⟨H.next, 0, none⟩))] 51 (s' := (.reg (opsAt (sub B [1, 1, 0, 1, 0, 0, 1, 1, 0, 0, 1])) [2, 3, 4, 5, 6, 7, 8, 9, 10, 11, 12, 13, 14, 15, 16, 17, 18] :: S8)) (by kernel_rfl) fun J => ?_
    obtain ⟨t33, q20, h⟩ := h
    refine KR.rd (one_ld (by kernel_rfl) q20) ?_
    refine KR.run 2 [(5, .pointer (some ⟨H.next, 0, none⟩)), (25, .slice (some ⟨t25ab, t25ao, none⟩) t25n t25k), (26, .int .i64 t26), (27, .int .i64 t27), (31, .slice t3a t3n t3k), (34, .int .u8 (IntKind.wrap .u8 t33)), (35, .pointer (some ⟨H.next, 1, none⟩))] 51 (s' := (.reg (opsAt (sub B [1, 1, 0, 1, 0, 0, 1, 1, 0, 0, 1])) [5, 6, 7, 8, 9, 10, 11, 12, 13, 14, 15, 16, 17, 18] :: S8)) (by kernel_rfl) fun J => ?_
    obtain ⟨t36, q21, h⟩ := h
    refine KR.rd (one_ld (by kernel_rfl) q21) ?_
    refine KR.run 2 [(5, .pointer (some ⟨H.next, 0, none⟩)), (25, .slice (some ⟨t25ab, t25ao, none⟩) t25n t25k), (26, .int .i64 t26), (27, .int .i64 t27), (31, .slice t3a t3n t3k), (34, .int .u8 (IntKind.wrap .u8 t33)), (37, .int .u8 (IntKind.wrap .u8 t36)), (38, .pointer (some ⟨H.next, 2, none⟩))] 51 (s' := (.reg (opsAt (sub B [1, 1, 0, 1, 0, 0, 1, 1, 0, 0, 1])) [8, 9, 10, 11, 12, 13, 14, 15, 16, 17, 18] :: S8)) (by kernel_rfl) fun J => ?_
    obtain ⟨t39, q22, h⟩ := h
    refine KR.rd (one_ld (by kernel_rfl) q22) ?_
    refine KR.run 2 [(5, .pointer (some ⟨H.next, 0, none⟩)), (25, .slice (some ⟨t25ab, t25ao, none⟩) t25n t25k), (26, .int .i64 t26), (27, .int .i64 t27), (31, .slice t3a t3n t3k), (34, .int .u8 (IntKind.wrap .u8 t33)), (37, .int .u8 (IntKind.wrap .u8 t36)), (40, .int .u8 (IntKind.wrap .u8 t39)), (41, .pointer (some ⟨H.next, 3, none⟩))] 51 (s' := (.reg (opsAt (sub B [1, 1, 0, 1, 0, 0, 1, 1, 0, 0, 1])) [11, 12, 13, 14, 15, 16, 17, 18] :: S8)) (by kernel_rfl) fun J => ?_
    obtain ⟨t42, q23, h⟩ := h
    refine KR.rd (one_ld (by kernel_rfl) q23) ?_
    refine KR.run 2 [(25, .slice (some ⟨t25ab, t25ao, none⟩) t25n t25k), (26, .int .i64 t26), (27, .int .i64 t27), (31, .slice t3a t3n t3k), (34, .int .u8 (IntKind.wrap .u8 t33)), (37, .int .u8 (IntKind.wrap .u8 t36)), (40, .int .u8 (IntKind.wrap .u8 t39)), (43, .int .u8 (IntKind.wrap .u8 t42)), (44, .pointer (some ⟨H.next, 4, none⟩))] 51 (s' := (.reg (opsAt (sub B [1, 1, 0, 1, 0, 0, 1, 1, 0, 0, 1])) [14, 15, 16, 17, 18] :: S8)) (by kernel_rfl) fun J => ?_
    obtain ⟨t45, q24, h⟩ := h
    refine KR.rd (one_ld (by kernel_rfl) q24) ?_
    refine KR.run 1 [(25, .slice (some ⟨t25ab, t25ao, none⟩) t25n t25k), (26, .int .i64 t26), (27, .int .i64 t27), (31, .slice t3a t3n t3k), (34, .int .u8 (IntKind.wrap .u8 t33)), (37, .int .u8 (IntKind.wrap .u8 t36)), (40, .int .u8 (IntKind.wrap .u8 t39)), (43, .int .u8 (IntKind.wrap .u8 t42)), (46, .int .u8 (IntKind.wrap .u8 t45))] 51 (s' := (.reg (opsAt (sub B [1, 1, 0, 1, 0, 0, 1, 1, 0, 0, 1])) [16, 17, 18] :: S8)) (by kernel_rfl) fun J => ?_
    obtain ⟨H_3, q25, h⟩ := h
    refine KR.mk (w := sRow 5 1 [.int .u8 (IntKind.wrap .u8 t33), .int .u8 (IntKind.wrap .u8 t36), .int .u8 (IntKind.wrap .u8 t39), .int .u8 (IntKind.wrap .u8 t42), .int .u8 (IntKind.wrap .u8 t45)]) (one_al (by kernel_rfl)) q25 ?_
    obtain ⟨t48a, t48n, t48k, H_4, q26, h⟩ := h
    refine KR.se (one_ap 1 1 (by kernel_rfl) q26) ?_
    exact KR.run 7 [(3, .slice t48a t48n t48k), (25, .slice (some ⟨t25ab, t25ao, none⟩) t25n t25k), (26, .int .i64 t26), (27, .int .i64 (IntKind.wrap .i64 (t27 + 1)))] 51 (s' := (.lp (sub B [1, 1, 0, 1, 0, 0]) :: S4)) (by kernel_rfl) h
  · replace h := iteF c15 h
    refine KR.br false (by kernel_rfl) (vB (dF c15)) ?_
    refine KR.run 6 [(2, .slice t3a t3n t3k)] 51 (s' := (.code (sub B [1, 1, 1, 1]) :: [])) (by kernel_rfl) fun J => ?_
    exact KR.fin (by kernel_rfl) h
theorem call {a0c0 : Int} {a0c1 : Int} {a0c2 : Int} {a0c3a : Option Addr} {a0c3n : Nat} {a0c3k : Nat} {a0c4 : Int} {H : Heap} {r : Value × Heap} (h :
    ∃ (H_1 : Heap), H_1 = H.push (.row [.int .i64 a0c0, .int .i64 a0c1, .int .u32 a0c2, .slice a0c3a a0c3n a0c3k, .int .u32 a0c4] true) ∧
    (∃ (t7 : Int), ldc (reserve H_1 19) H.next 0 = some (.int .i64 t7) ∧
    (∃ (t10 : Int), ldc (reserve H_1 19) H.next 1 = some (.int .i64 t10) ∧
    (∃ (t14 : Int), ldc (reserve H_1 19) H.next 2 = some (.int .u32 t14) ∧
    (∃ (t16a : Option Addr) (t16n : Nat) (t16k : Nat) (H_3 : Heap), xC Try.prog good 32 [.int .u64 (IntKind.wrap .u64 t14), .int .i64 4] (reserve H_1 19) = some (.slice t16a t16n t16k, H_3) ∧
    (∃ (t18a : Option Addr) (t18n : Nat) (t18k : Nat), ldc (reserve H_1 19) H.next 3 = some (.slice t18a t18n t18k) ∧
    (∃ (H_5 : Heap), H_5 = ((H_3.set (H_1.next + 6) (.row [.int .u8 71, .int .u8 (IntKind.wrap .u8 t7), .int .u8 (IntKind.wrap .u8 t10)] true)).set (H_1.next + 15) (.row [.int .u8 (IntKind.wrap .u8 ((t18n : Nat) : Int))] true)).push (.row [.slice (some ⟨(H_1.next + 6), 0, none⟩) 3 (UNK 1), .slice t16a t16n t16k, .slice (some ⟨(H_1.next + 15), 0, none⟩) 1 (UNK 1)] true) ∧
    (∃ (t23a : Option Addr) (t23n : Nat) (t23k : Nat) (H_6 : Heap), xC Try.prog good 31 [.slice (some ⟨((H_3.set (H_1.next + 6) (.row [.int .u8 71, .int .u8 (IntKind.wrap .u8 t7), .int .u8 (IntKind.wrap .u8 t10)] true)).set (H_1.next + 15) (.row [.int .u8 (IntKind.wrap .u8 ((t18n : Nat) : Int))] true)).next, 0, none⟩) 3 (UNK 1)] H_5 = some (.slice t23a t23n t23k, H_6) ∧
    (ldc H_3 H.next 0 = some (.int .i64 t7) ∧
    ldc H_3 H.next 1 = some (.int .i64 t10) ∧
    ldc H_3 H.next 3 = some (.slice t18a t18n t18k) ∧
    (∃ (t25a : Option Addr) (t25n : Nat) (t25k : Nat), ldc H_6 H.next 3 = some (.slice t25a t25n t25k) ∧
    (L0 (t23a) (t23n) (t23k) (t25a) (t25n) (t25k) (((t25n : Nat) : Int)) 0 H_6 r))))))))))) :
    xC Try.prog good 34 [.agg #[.int .i64 a0c0, .int .i64 a0c1, .int .u32 a0c2, .slice a0c3a a0c3n a0c3k, .int .u32 a0c4]] H = some r := by
  refine KR.enter (fn := Try.f34) (c := B) (by kernel_rfl) (by kernel_rfl) ?_
  refine KR.run 2 [(0, .agg #[.int .i64 a0c0, .int .i64 a0c1, .int .u32 a0c2, .slice a0c3a a0c3n a0c3k, .int .u32 a0c4])] 51 (s' := (.reg (opsAt (sub B [0])) [0, 1] :: S0)) (by kernel_rfl) fun J => ?_
  obtain ⟨H_1, q1, h⟩ := h
  refine KR.mk (w := pRow [.int .i64 a0c0, .int .i64 a0c1, .int .u32 a0c2, .slice a0c3a a0c3n a0c3k, .int .u32 a0c4]) (one_al (by kernel_rfl)) q1 ?_
  refine KR.run 3 [(1, .pointer (some ⟨H.next, 0, none⟩))] 51 (s' := (.code (sub B [1, 0]) :: S1)) (by kernel_rfl) fun J => ?_
  refine KE.start (reserve H_1 19) (by kernel_rfl) (by kernel_rfl) ?_
  refine KE.run 1 [(1, .pointer (some ⟨H.next, 0, none⟩)), (6, .pointer (some ⟨H.next, 0, none⟩))] 51 1 (by kernel_rfl) fun J => ?_
  obtain ⟨t7, q2, h⟩ := h
  refine KE.rdF (one_ld (by kernel_rfl) q2) (by kernel_rfl) ?_
  refine KE.run 2 [(1, .pointer (some ⟨H.next, 0, none⟩)), (8, .int .u8 (IntKind.wrap .u8 t7)), (9, .pointer (some ⟨H.next, 1, none⟩))] 51 4 (by kernel_rfl) fun J => ?_
  obtain ⟨t10, q3, h⟩ := h
  refine KE.rdF (one_ld (by kernel_rfl) q3) (by kernel_rfl) ?_
  refine KE.run 1 [(1, .pointer (some ⟨H.next, 0, none⟩)), (8, .int .u8 (IntKind.wrap .u8 t7)), (11, .int .u8 (IntKind.wrap .u8 t10))] 51 6 (by kernel_rfl) fun J => ?_
  refine KE.al (w := sRow 3 1 [.int .u8 71, .int .u8 (IntKind.wrap .u8 t7), .int .u8 (IntKind.wrap .u8 t10)]) (one_al (by kernel_rfl)) (by kernel_rfl) ?_
  refine KE.run 1 [(1, .pointer (some ⟨H.next, 0, none⟩)), (12, .slice (some ⟨(H_1.next + 6), 0, none⟩) 3 (UNK 1)), (13, .pointer (some ⟨H.next, 2, none⟩))] 51 8 (by kernel_rfl) fun J => ?_
  obtain ⟨t14, q5, h⟩ := h
  refine KE.rdN (one_ld (by kernel_rfl) q5) (by kernel_rfl) ?_
  refine KE.run 1 [(1, .pointer (some ⟨H.next, 0, none⟩)), (12, .slice (some ⟨(H_1.next + 6), 0, none⟩) 3 (UNK 1)), (15, .int .u64 (IntKind.wrap .u64 t14))] 51 10 (by kernel_rfl) fun J => ?_
  obtain ⟨t16a, t16n, t16k, H_3, q6, h⟩ := h
  refine KE.se (one_ca (by kernel_rfl) q6) (by kernel_rfl) ?_
  refine KE.run 1 [(1, .pointer (some ⟨H.next, 0, none⟩)), (12, .slice (some ⟨(H_1.next + 6), 0, none⟩) 3 (UNK 1)), (16, .slice t16a t16n t16k), (17, .pointer (some ⟨H.next, 3, none⟩))] 51 12 (by kernel_rfl) fun J => ?_
  obtain ⟨t18a, t18n, t18k, q7, h⟩ := h
  refine KE.rdF (one_ld (by kernel_rfl) q7) (by kernel_rfl) ?_
  refine KE.run 2 [(1, .pointer (some ⟨H.next, 0, none⟩)), (12, .slice (some ⟨(H_1.next + 6), 0, none⟩) 3 (UNK 1)), (16, .slice t16a t16n t16k), (20, .int .u8 (IntKind.wrap .u8 ((t18n : Nat) : Int)))] 51 15 (by kernel_rfl) fun J => ?_
  refine KE.al (w := sRow 1 1 [.int .u8 (IntKind.wrap .u8 ((t18n : Nat) : Int))]) (one_al (by kernel_rfl)) (by kernel_rfl) ?_
  obtain ⟨H_5, q9, h⟩ := h
  refine KE.mk (w := sRow 3 1 [.slice (some ⟨(H_1.next + 6), 0, none⟩) 3 (UNK 1), .slice t16a t16n t16k, .slice (some ⟨(H_1.next + 15), 0, none⟩) 1 (UNK 1)]) (one_al (by kernel_rfl)) (by kernel_rfl) (by kernel_rfl) q9 ?_
  obtain ⟨t23a, t23n, t23k, H_6, q10, h⟩ := h
  refine KE.se (one_ca (by kernel_rfl) q10) (by kernel_rfl) ?_
  refine KE.run 1 [(1, .pointer (some ⟨H.next, 0, none⟩)), (3, .slice t23a t23n t23k)] 51 19 (by kernel_rfl) fun J => ?_
  obtain ⟨q11, q12, q13, h⟩ := h
  refine KE.fin (H' := H_6) (by kernel_rfl) (rdsS (rdsS (rdsS (rfl) (rd_ok (Hs := [H_3]) (by kernel_rfl) (by kernel_rfl) ⟨one_ld (by kernel_rfl) q11, trivial⟩)) (rd_ok (Hs := [H_3]) (by kernel_rfl) (by kernel_rfl) ⟨one_ld (by kernel_rfl) q12, trivial⟩)) (rd_ok (Hs := [H_3]) (by kernel_rfl) (by kernel_rfl) ⟨one_ld (by kernel_rfl) q13, trivial⟩)) (by kernel_rfl) ?_
  refine KR.run 4 [(3, .slice t23a t23n t23k), (24, .pointer (some ⟨H.next, 3, none⟩))] 51 (s' := (.reg (opsAt (sub B [1, 1, 0, 0])) [1, 2, 3] :: S3)) (by kernel_rfl) fun J => ?_
  obtain ⟨t25a, t25n, t25k, q14, h⟩ := h
  refine KR.rd (one_ld (by kernel_rfl) q14) ?_
  exact KR.run 5 [(3, .slice t23a t23n t23k), (25, .slice t25a t25n t25k), (26, .int .i64 ((t25n : Nat) : Int)), (27, .int .i64 0)] 51 (s' := (.lp (sub B [1, 1, 0, 1, 0, 0]) :: S4)) (by kernel_rfl) h
end F34
/-! #### 35 campanile/join.decode -/
namespace F35
noncomputable def B : Code := bodyOf Try.f35
noncomputable def S0 : List It := (.code (sub B [1]) :: [])
noncomputable def S1 : List It := (.code (sub B [1, 1]) :: [])
noncomputable def S2 : List It := (.code (sub B [1, 1, 1]) :: [])
noncomputable def S3 : List It := (.code (sub B [1, 1, 1, 1, 1]) :: [])
noncomputable def S5 : List It := (.code (sub B [1, 1, 1, 1, 1, 1]) :: [])
noncomputable def S7 : List It := (.code (sub B [1, 1, 1, 1, 1, 1, 1]) :: [])
noncomputable def S4 : List It := (.code (sub B [1, 1, 1, 1, 0, 1]) :: S3)
noncomputable def S6 : List It := (.code (sub B [1, 1, 1, 1, 1, 0, 1]) :: S5)
noncomputable def S9 : List It := (.code (sub B [1, 1, 1, 1, 1, 1, 0]) :: S7)
noncomputable def S8 : List It := (.reg (opsAt (sub B [1, 1, 1, 1, 1, 0, 0])) [0, 1, 2, 3, 4] :: S6)
def L0 (t6b : Nat) (t6o : Nat) (t7 : Value) (H : Heap) (r : Value × Heap) : Prop := ∀ J, KR Try.prog good Try.f35 S8 (mat J 39 [(6, .pointer (some ⟨t6b, t6o, none⟩)), (7, t7)]) H r
def L1 (t6b : Nat) (t6o : Nat) (t7 : Value) (H : Heap) (r : Value × Heap) : Prop := ∀ J, KR Try.prog good Try.f35 S9 (mat J 39 [(6, .pointer (some ⟨t6b, t6o, none⟩)), (7, t7)]) H r
theorem L0_step {t6b : Nat} {t6o : Nat} {t7 : Value} {H : Heap} {r : Value × Heap} (h :
    ∃ (t24 : Int), ldc H t6b (t6o + 1) = some (.int .i64 t24) ∧
    (if t24 = 0 then
    (∃ (t30 : Option Addr), ldc H t6b t6o = some (.pointer t30) ∧
    (∃ (t31 : Int) (H_1 : Heap), xC Try.prog good 55 [.pointer t30] H = some (.int .i64 t31, H_1) ∧
    (∃ (H_2 : Heap), stc H_1 t6b (t6o + 1) [.int .i64 t31] = some H_2 ∧
    (L1 (t6b) (t6o) (t7) H_2 r))))
    else
    (L1 (t6b) (t6o) (t7) H r))) :
    L0 t6b t6o t7 H r := by
  intro J
  show KR _ _ _ (.reg (opsAt (sub B [1, 1, 1, 1, 1, 0, 0])) [0, 1, 2, 3, 4] :: S6) _ _ _
  refine KR.run 3 [(6, .pointer (some ⟨t6b, t6o, none⟩)), (7, t7), (23, .pointer (some ⟨t6b, (t6o + 1), none⟩))] 39 (s' := (.reg (opsAt (sub B [1, 1, 1, 1, 1, 0, 0])) [3, 4] :: S6)) (by kernel_rfl) fun J => ?_
  obtain ⟨t24, q9, h⟩ := h
  refine KR.rd (one_ld (by kernel_rfl) q9) ?_
  refine KR.run 2 [(6, .pointer (some ⟨t6b, t6o, none⟩)), (7, t7), (25, .bool (t24 == 0))] 39 (s' := (.code (sub B [1, 1, 1, 1, 1, 0, 1]) :: S5)) (by kernel_rfl) fun J => ?_
  by_cases c10 : t24 = 0
  · replace h := iteT c10 h
    refine KR.br true (by kernel_rfl) (vB (eT c10)) ?_
    refine KR.run 5 [(6, .pointer (some ⟨t6b, t6o, none⟩)), (7, t7), (26, .pointer (some ⟨t6b, t6o, none⟩)), (29, .pointer (some ⟨t6b, t6o, none⟩))] 39 (s' := (.reg (opsAt (sub B [1, 1, 1, 1, 1, 0, 1, 0])) [4, 5, 6, 7, 8] :: S5)) (by kernel_rfl) fun J => ?_
    obtain ⟨t30, q11, h⟩ := h
    refine KR.rd (one_ld (by kernel_rfl) q11) ?_
    obtain ⟨t31, H_1, q12, h⟩ := h
    refine KR.se (one_ca (by kernel_rfl) q12) ?_
    refine KR.run 2 [(6, .pointer (some ⟨t6b, t6o, none⟩)), (7, t7), (31, .int .i64 t31), (33, .pointer (some ⟨t6b, (t6o + 1), none⟩))] 39 (s' := (.reg (opsAt (sub B [1, 1, 1, 1, 1, 0, 1, 0])) [8] :: S5)) (by kernel_rfl) fun J => ?_
    obtain ⟨H_2, q13, h⟩ := h
    refine KR.se (one_st (by kernel_rfl) q13) ?_
    exact KR.run 2 [(6, .pointer (some ⟨t6b, t6o, none⟩)), (7, t7)] 39 (s' := (.code (sub B [1, 1, 1, 1, 1, 1, 0]) :: S7)) (by kernel_rfl) h
  · replace h := iteF c10 h
    refine KR.br false (by kernel_rfl) (vB (eF c10)) ?_
    exact KR.run 2 [(6, .pointer (some ⟨t6b, t6o, none⟩)), (7, t7)] 39 (s' := (.code (sub B [1, 1, 1, 1, 1, 1, 0]) :: S7)) (by kernel_rfl) h
theorem L1_step {t6b : Nat} {t6o : Nat} {t7 : Value} {H : Heap} {r : Value × Heap} (h :
    ∃ (t38 : Int), ldc H t6b (t6o + 1) = some (.int .i64 t38) ∧
    (r = (.tuple #[t7, .int .i64 t38], H))) :
    L1 t6b t6o t7 H r := by
  intro J
  show KR _ _ _ (.code (sub B [1, 1, 1, 1, 1, 1, 0]) :: S7) _ _ _
  refine KR.sd (by kernel_rfl) ?_
  refine KR.run 4 [(34, t7), (37, .pointer (some ⟨t6b, (t6o + 1), none⟩))] 39 (s' := (.reg (opsAt (sub B [1, 1, 1, 1, 1, 1, 0])) [4, 5, 6] :: S7)) (by kernel_rfl) fun J => ?_
  obtain ⟨t38, q14, h⟩ := h
  refine KR.rd (one_ld (by kernel_rfl) q14) ?_
  refine KR.run 3 [(4, t7), (5, .int .i64 t38)] 39 (s' := (.code (sub B [1, 1, 1, 1, 1, 1, 1]) :: [])) (by kernel_rfl) fun J => ?_
  exact KR.fin (by kernel_rfl) h
theorem call {a0a : Option Addr} {a0n : Nat} {a0k : Nat} {a1 : Int} {H : Heap} {r : Value × Heap} (h :
    ∃ (H_1 : Heap), H_1 = H.push (.row [.int .u8 a1] true) ∧
    (∃ (t9 : Option Addr) (H_2 : Heap), xC Try.prog good 50 [.slice a0a a0n a0k] H_1 = some (.pointer t9, H_2) ∧
    (∃ (H_3 : Heap), H_3 = H_2.push (.row [.pointer t9, .int .i64 0] true) ∧
    (∃ (t14 : Int) (H_4 : Heap), xC Try.prog good 51 [.pointer (some ⟨H_2.next, 0, none⟩), .func (.func 52) #[] #[.pointer (some ⟨H.next, 0, none⟩)]] H_3 = some (.int .i64 t14, H_4) ∧
    (∃ (t15 : Int), ldc H_4 H.next 0 = some (.int .u8 t15) ∧
    (if t15 = 74 then
    (∃ (t18 : Value) (H_5 : Heap), xC Try.prog good 53 [.pointer (some ⟨H_2.next, 0, none⟩)] H_4 = some (t18, H_5) ∧
    (L0 (H_2.next) (0) (t18) H_5 r))
    else
    (∃ (t20 : Value) (H_6 : Heap), xC Try.prog good 54 [.pointer (some ⟨H_2.next, 0, none⟩)] H_4 = some (t20, H_6) ∧
    (L0 (H_2.next) (0) (t20) H_6 r)))))))) :
    xC Try.prog good 35 [.slice a0a a0n a0k, .int .u8 a1] H = some r := by
  refine KR.enter (fn := Try.f35) (c := B) (by kernel_rfl) (by kernel_rfl) ?_
  refine KR.run 2 [(0, .slice a0a a0n a0k), (1, .int .u8 a1)] 39 (s' := (.reg (opsAt (sub B [0])) [0, 1, 2] :: S0)) (by kernel_rfl) fun J => ?_
  obtain ⟨H_1, q1, h⟩ := h
  refine KR.mk (w := pRow [.int .u8 a1]) (one_al (by kernel_rfl)) q1 ?_
  refine KR.run 6 [(3, .pointer (some ⟨H.next, 0, none⟩)), (8, .slice a0a a0n a0k)] 39 (s' := (.reg (opsAt (sub B [1, 0])) [1, 2, 3, 4] :: S1)) (by kernel_rfl) fun J => ?_
  obtain ⟨t9, H_2, q2, h⟩ := h
  refine KR.se (one_ca (by kernel_rfl) q2) ?_
  refine KR.run 1 [(3, .pointer (some ⟨H.next, 0, none⟩)), (10, .agg #[.pointer t9, .int .i64 0])] 39 (s' := (.reg (opsAt (sub B [1, 0])) [3, 4] :: S1)) (by kernel_rfl) fun J => ?_
  obtain ⟨H_3, q3, h⟩ := h
  refine KR.mk (w := pRow [.pointer t9, .int .i64 0]) (one_al (by kernel_rfl)) q3 ?_
  refine KR.run 6 [(3, .pointer (some ⟨H.next, 0, none⟩)), (6, .pointer (some ⟨H_2.next, 0, none⟩)), (12, .pointer (some ⟨H_2.next, 0, none⟩)), (13, .func (.func 52) #[] #[.pointer (some ⟨H.next, 0, none⟩)])] 39 (s' := (.reg (opsAt (sub B [1, 1, 0])) [2] :: S2)) (by kernel_rfl) fun J => ?_
  obtain ⟨t14, H_4, q4, h⟩ := h
  refine KR.se (one_ca (by kernel_rfl) q4) ?_
  refine KR.run 8 [(3, .pointer (some ⟨H.next, 0, none⟩)), (6, .pointer (some ⟨H_2.next, 0, none⟩))] 39 (s' := (.reg (opsAt (sub B [1, 1, 1, 1, 0, 0])) [0, 1] :: S4)) (by kernel_rfl) fun J => ?_
  obtain ⟨t15, q5, h⟩ := h
  refine KR.rd (one_ld (by kernel_rfl) q5) ?_
  refine KR.run 2 [(6, .pointer (some ⟨H_2.next, 0, none⟩)), (16, .bool (t15 == 74))] 39 (s' := (.code (sub B [1, 1, 1, 1, 0, 1]) :: S3)) (by kernel_rfl) fun J => ?_
  by_cases c6 : t15 = 74
  · replace h := iteT c6 h
    refine KR.br true (by kernel_rfl) (vB (eT c6)) ?_
    refine KR.run 2 [(6, .pointer (some ⟨H_2.next, 0, none⟩)), (17, .pointer (some ⟨H_2.next, 0, none⟩))] 39 (s' := (.reg (opsAt (sub B [1, 1, 1, 1, 0, 1, 0])) [1, 2] :: S3)) (by kernel_rfl) fun J => ?_
    obtain ⟨t18, H_5, q7, h⟩ := h
    refine KR.se (one_ca (by kernel_rfl) q7) ?_
    exact KR.run 5 [(6, .pointer (some ⟨H_2.next, 0, none⟩)), (7, t18)] 39 (s' := (.reg (opsAt (sub B [1, 1, 1, 1, 1, 0, 0])) [0, 1, 2, 3, 4] :: S6)) (by kernel_rfl) h
  · replace h := iteF c6 h
    refine KR.br false (by kernel_rfl) (vB (eF c6)) ?_
    refine KR.run 2 [(6, .pointer (some ⟨H_2.next, 0, none⟩)), (19, .pointer (some ⟨H_2.next, 0, none⟩))] 39 (s' := (.reg (opsAt (sub B [1, 1, 1, 1, 0, 1, 1])) [1, 2] :: S3)) (by kernel_rfl) fun J => ?_
    obtain ⟨t20, H_6, q8, h⟩ := h
    refine KR.se (one_ca (by kernel_rfl) q8) ?_
    exact KR.run 5 [(6, .pointer (some ⟨H_2.next, 0, none⟩)), (7, t20)] 39 (s' := (.reg (opsAt (sub B [1, 1, 1, 1, 1, 0, 0])) [0, 1, 2, 3, 4] :: S6)) (by kernel_rfl) h
end F35
/-! #### 36 (*campanile/campanileref1.Reader).Num -/
namespace F36
noncomputable def B : Code := bodyOf Try.f36
noncomputable def S0 : List It := (.code (sub B [1, 1, 1]) :: [])
noncomputable def S1 : List It := (.code (sub B [1, 1, 0, 1]) :: S0)
noncomputable def S2 : List It := (.blk 0 :: S0)
noncomputable def S3 : List It := (.lp (sub B [1, 1, 0, 1, 0, 0]) :: S2)
noncomputable def S4 : List It := (.code (sub B [1, 1, 0, 1, 0, 0, 1, 1]) :: S3)
noncomputable def S5 : List It := (.code (sub B [1, 1, 0, 1, 0, 0, 1, 1, 1]) :: S3)
noncomputable def S6 : List It := (.blk 1 :: S5)
noncomputable def S7 : List It := (.code (sub B [1, 1, 0, 1, 0, 0, 1, 1, 0, 0, 1]) :: S6)
def L0 (t5 : Int) (t10a : Option Addr) (t10n : Nat) (t10k : Nat) (t11 : Int) (t12 : Int) (H : Heap) (r : Value × Heap) : Prop := ∀ J, KR Try.prog good Try.f36 S3 (mat J 23 [(5, .int .u64 t5), (10, .slice t10a t10n t10k), (11, .int .i64 t11), (12, .int .i64 t12)]) H r
theorem L0_step {t5 : Int} {t10a : Option Addr} {t10n : Nat} {t10k : Nat} {t11 : Int} {t12 : Int} {H : Heap} {r : Value × Heap} (h :
    if t12 < t11 then
    (∃ (t10ab t10ao : Nat), t10a = some ⟨t10ab, t10ao, none⟩ ∧
    ((0 : Int) ≤ t12 ∧ t12 < ((t10n : Nat) : Int) ∧
    (∃ (t15 : Int), ldc H t10ab (t10ao + Int.toNat t12 * 1) = some (.int .u8 t15) ∧
    (L0 ((ior .u64 (ishl .u64 t5 8) (IntKind.wrap .u64 t15))) ((some ⟨t10ab, t10ao, none⟩)) (t10n) (t10k) (t11) ((IntKind.wrap .i64 (t12 + 1))) H r))))
    else
    (r = (.int .u64 t5, H))) :
    L0 t5 t10a t10n t10k t11 t12 H r := by
  intro J
  show KR _ _ _ (.lp (sub B [1, 1, 0, 1, 0, 0]) :: S2) _ _ _
  refine KR.run 6 [(5, .int .u64 t5), (10, .slice t10a t10n t10k), (11, .int .i64 t11), (12, .int .i64 t12), (13, .bool (decide (t12 < t11)))] 23 (s' := (.code (sub B [1, 1, 0, 1, 0, 0, 1, 0]) :: S4)) (by kernel_rfl) fun J => ?_
  by_cases c2 : t12 < t11
  · replace h := iteT c2 h
    refine KR.br true (by kernel_rfl) (vB (dT c2)) ?_
    obtain ⟨t10ab, t10ao, rfl, h⟩ := h
    refine KR.run 5 [(5, .int .u64 t5), (10, .slice (some ⟨t10ab, t10ao, none⟩) t10n t10k), (11, .int .i64 t11), (12, .int .i64 t12)] 23 (s' := (.reg (opsAt (sub B [1, 1, 0, 1, 0, 0, 1, 1, 0, 0, 0])) [0, 1, 2] :: S7)) (by kernel_rfl) fun J => ?_
    obtain ⟨q3, q3x, h⟩ := h
    refine KR.p (one_ix 1 t10ab t10ao (by kernel_rfl) q3 q3x) ?_
    obtain ⟨t15, q4, h⟩ := h
    refine KR.rd (one_ld (by kernel_rfl) q4) ?_
    exact KR.run 15 [(5, .int .u64 (ior .u64 (ishl .u64 t5 8) (IntKind.wrap .u64 t15))), (10, .slice (some ⟨t10ab, t10ao, none⟩) t10n t10k), (11, .int .i64 t11), (12, .int .i64 (IntKind.wrap .i64 (t12 + 1)))] 23 (s' := (.lp (sub B [1, 1, 0, 1, 0, 0]) :: S2)) (by kernel_rfl) h
  · replace h := iteF c2 h
    refine KR.br false (by kernel_rfl) (vB (dF c2)) ?_
    refine KR.run 6 [(4, .int .u64 t5)] 23 (s' := (.code (sub B [1, 1, 1, 1]) :: [])) (by kernel_rfl) fun J => ?_
    exact KR.fin (by kernel_rfl) h
theorem call {a0 : Option Addr} {a1 : Int} {H : Heap} {r : Value × Heap} (h :
    ∃ (t10a : Option Addr) (t10n : Nat) (t10k : Nat) (H_1 : Heap), xC Try.prog good 38 [.pointer a0, .int .i64 a1] H = some (.slice t10a t10n t10k, H_1) ∧
    (L0 0 (t10a) (t10n) (t10k) (((t10n : Nat) : Int)) 0 H_1 r)) :
    xC Try.prog good 36 [.pointer a0, .int .i64 a1] H = some r := by
  refine KR.enter (fn := Try.f36) (c := B) (by kernel_rfl) (by kernel_rfl) ?_
  refine KR.run 13 [(5, .int .u64 0), (8, .pointer a0), (9, .int .i64 a1)] 23 (s' := (.reg (opsAt (sub B [1, 1, 0, 0])) [2, 3, 4] :: S1)) (by kernel_rfl) fun J => ?_
  obtain ⟨t10a, t10n, t10k, H_1, q1, h⟩ := h
  refine KR.se (one_ca (by kernel_rfl) q1) ?_
  exact KR.run 5 [(5, .int .u64 0), (10, .slice t10a t10n t10k), (11, .int .i64 ((t10n : Nat) : Int)), (12, .int .i64 0)] 23 (s' := (.lp (sub B [1, 1, 0, 1, 0, 0]) :: S2)) (by kernel_rfl) h
end F36
/-! #### 37 (*campanile/campanileref1.Reader).U8 -/
namespace F37
noncomputable def B : Code := bodyOf Try.f37
noncomputable def S0 : List It := (.code (sub B [1, 1]) :: [])
theorem call {a0 : Option Addr} {H : Heap} {r : Value × Heap} (h :
    ∃ (t4 : Int) (H_1 : Heap), xC Try.prog good 36 [.pointer a0, .int .i64 1] H = some (.int .u64 t4, H_1) ∧
    (r = (.int .i64 (IntKind.wrap .i64 t4), H_1))) :
    xC Try.prog good 37 [.pointer a0] H = some r := by
  refine KR.enter (fn := Try.f37) (c := B) (by kernel_rfl) (by kernel_rfl) ?_
  refine KR.run 7 [(3, .pointer a0)] 6 (s' := (.reg (opsAt (sub B [1, 0])) [1, 2, 3] :: S0)) (by kernel_rfl) fun J => ?_
  obtain ⟨t4, H_1, q1, h⟩ := h
  refine KR.se (one_ca (by kernel_rfl) q1) ?_
  refine KR.run 3 [(2, .int .i64 (IntKind.wrap .i64 t4))] 6 (s' := (.code (sub B [1, 1]) :: [])) (by kernel_rfl) fun J => ?_
  exact KR.fin (by kernel_rfl) h
end F37
/-! #### 38 (*campanile/campanileref1.Reader).Raw -/
namespace F38
noncomputable def B : Code := bodyOf Try.f38
noncomputable def S0 : List It := (.code (sub B [1, 1, 1]) :: [])
noncomputable def S3 : List It := (.code (sub B [1, 1, 1, 1]) :: [])
noncomputable def S4 : List It := (.code (sub B [1, 1, 1, 1, 1]) :: [])
noncomputable def S1 : List It := (.code (sub B [1, 1, 0, 1]) :: S0)
noncomputable def S2 : List It := (.code (sub B [1, 1, 0, 1, 0, 1]) :: S0)
def L0 (t0b : Nat) (t0o : Nat) (t1 : Int) (t21 : Bool) (H : Heap) (r : Value × Heap) : Prop := ∀ J, KR Try.prog good Try.f38 S1 (mat J 45 [(0, .pointer (some ⟨t0b, t0o, none⟩)), (1, .int .i64 t1), (21, .bool t21)]) H r
theorem L0_step {t0b : Nat} {t0o : Nat} {t1 : Int} {t21 : Bool} {H : Heap} {r : Value × Heap} (h :
    if t21 = true then
    (∃ (H_1 : Heap), stc H t0b (t0o + 1) [.int .i64 2] = some H_1 ∧
    (∃ (H_2 : Heap), stc H_1 t0b t0o [.slice none 0 0] = some H_2 ∧
    (r = (.slice none 0 0, H_2))))
    else
    (∃ (t31a : Option Addr) (t31n : Nat) (t31k : Nat), ldc H t0b t0o = some (.slice t31a t31n t31k) ∧
    (∃ (t33a : Option Addr) (t33n : Nat) (t33k : Nat), psl 1 t31a t31n t31k none (some t1) none = some (t33a, t33n, t33k) ∧
    (∃ (t34a : Option Addr) (t34n : Nat) (t34k : Nat) (H_3 : Heap), papp H 1 1 none 0 0 t33a t33n t33k = some ((t34a, t34n, t34k), H_3) ∧
    (∃ (t39a : Option Addr) (t39n : Nat) (t39k : Nat), ldc H_3 t0b t0o = some (.slice t39a t39n t39k) ∧
    (∃ (t41a : Option Addr) (t41n : Nat) (t41k : Nat), psl 1 t39a t39n t39k (some t1) none none = some (t41a, t41n, t41k) ∧
    (∃ (H_4 : Heap), stc H_3 t0b t0o [.slice t41a t41n t41k] = some H_4 ∧
    (r = (.slice t34a t34n t34k, H_4))))))))) :
    L0 t0b t0o t1 t21 H r := by
  intro J
  show KR _ _ _ (.code (sub B [1, 1, 0, 1]) :: S0) _ _ _
  by_cases c4 : t21 = true
  · replace h := iteT c4 h
    refine KR.br true (by kernel_rfl) (vB (bT c4)) ?_
    refine KR.run 6 [(23, .pointer (some ⟨t0b, t0o, none⟩)), (25, .pointer (some ⟨t0b, (t0o + 1), none⟩))] 45 (s' := (.reg (opsAt (sub B [1, 1, 0, 1, 0, 0])) [4, 5, 6, 7] :: S2)) (by kernel_rfl) fun J => ?_
    obtain ⟨H_1, q5, h⟩ := h
    refine KR.se (one_st (by kernel_rfl) q5) ?_
    refine KR.run 2 [(27, .pointer (some ⟨t0b, t0o, none⟩))] 45 (s' := (.reg (opsAt (sub B [1, 1, 0, 1, 0, 0])) [7] :: S2)) (by kernel_rfl) fun J => ?_
    obtain ⟨H_2, q6, h⟩ := h
    refine KR.se (one_st (by kernel_rfl) q6) ?_
    refine KR.run 5 [(4, .slice none 0 0)] 45 (s' := (.code (sub B [1, 1, 0, 1, 0, 1, 1]) :: S0)) (by kernel_rfl) fun J => ?_
    exact KR.fin (by kernel_rfl) h
  · replace h := iteF c4 h
    refine KR.br false (by kernel_rfl) (vB (bF c4)) ?_
    refine KR.run 6 [(0, .pointer (some ⟨t0b, t0o, none⟩)), (1, .int .i64 t1), (30, .pointer (some ⟨t0b, t0o, none⟩))] 45 (s' := (.reg (opsAt (sub B [1, 1, 1, 0])) [3, 4, 5, 6, 7] :: S3)) (by kernel_rfl) fun J => ?_
    obtain ⟨t31a, t31n, t31k, q7, h⟩ := h
    refine KR.rd (one_ld (by kernel_rfl) q7) ?_
    refine KR.run 1 [(0, .pointer (some ⟨t0b, t0o, none⟩)), (1, .int .i64 t1), (31, .slice t31a t31n t31k), (32, .int .i64 t1)] 45 (s' := (.reg (opsAt (sub B [1, 1, 1, 0])) [5, 6, 7] :: S3)) (by kernel_rfl) fun J => ?_
    obtain ⟨t33a, t33n, t33k, q8, h⟩ := h
    refine KR.p (one_sl (by kernel_rfl) q8) ?_
    obtain ⟨t34a, t34n, t34k, H_3, q9, h⟩ := h
    refine KR.se (one_ap 1 1 (by kernel_rfl) q9) ?_
    refine KR.run 8 [(1, .int .i64 t1), (5, .slice t34a t34n t34k), (35, .pointer (some ⟨t0b, t0o, none⟩)), (38, .pointer (some ⟨t0b, t0o, none⟩))] 45 (s' := (.reg (opsAt (sub B [1, 1, 1, 1, 0])) [4, 5, 6, 7, 8, 9] :: S4)) (by kernel_rfl) fun J => ?_
    obtain ⟨t39a, t39n, t39k, q10, h⟩ := h
    refine KR.rd (one_ld (by kernel_rfl) q10) ?_
    refine KR.run 1 [(5, .slice t34a t34n t34k), (35, .pointer (some ⟨t0b, t0o, none⟩)), (39, .slice t39a t39n t39k), (40, .int .i64 t1)] 45 (s' := (.reg (opsAt (sub B [1, 1, 1, 1, 0])) [6, 7, 8, 9] :: S4)) (by kernel_rfl) fun J => ?_
    obtain ⟨t41a, t41n, t41k, q11, h⟩ := h
    refine KR.p (one_sl (by kernel_rfl) q11) ?_
    refine KR.run 2 [(5, .slice t34a t34n t34k), (41, .slice t41a t41n t41k), (43, .pointer (some ⟨t0b, t0o, none⟩))] 45 (s' := (.reg (opsAt (sub B [1, 1, 1, 1, 0])) [9] :: S4)) (by kernel_rfl) fun J => ?_
    obtain ⟨H_4, q12, h⟩ := h
    refine KR.se (one_st (by kernel_rfl) q12) ?_
    refine KR.run 6 [(4, .slice t34a t34n t34k)] 45 (s' := (.code (sub B [1, 1, 1, 1, 1, 1]) :: [])) (by kernel_rfl) fun J => ?_
    exact KR.fin (by kernel_rfl) h
theorem call {a0 : Option Addr} {a1 : Int} {H : Heap} {r : Value × Heap} (h :
    ∃ (a0b a0o : Nat), a0 = some ⟨a0b, a0o, none⟩ ∧
    (∃ (t11 : Int), ldc H a0b (a0o + 1) = some (.int .i64 t11) ∧
    (if t11 = 0 then
    (∃ (t18a : Option Addr) (t18n : Nat) (t18k : Nat), ldc H a0b a0o = some (.slice t18a t18n t18k) ∧
    (L0 (a0b) (a0o) ((imax 0 a1)) ((decide ((imax 0 a1) > ((t18n : Nat) : Int)))) H r))
    else
    (L0 (a0b) (a0o) ((imax 0 a1)) (true) H r)))) :
    xC Try.prog good 38 [.pointer a0, .int .i64 a1] H = some r := by
  refine KR.enter (fn := Try.f38) (c := B) (by kernel_rfl) (by kernel_rfl) ?_
  obtain ⟨a0b, a0o, rfl, h⟩ := h
  refine KR.run 16 [(0, .pointer (some ⟨a0b, a0o, none⟩)), (1, .int .i64 (imax 0 a1)), (10, .pointer (some ⟨a0b, (a0o + 1), none⟩))] 45 (s' := (.reg (opsAt (sub B [1, 1, 0, 0])) [3, 4, 5, 6, 7, 8, 9, 10, 11, 12, 13] :: S1)) (by kernel_rfl) fun J => ?_
  obtain ⟨t11, q1, h⟩ := h
  refine KR.rd (one_ld (by kernel_rfl) q1) ?_
  refine KR.run 2 [(0, .pointer (some ⟨a0b, a0o, none⟩)), (1, .int .i64 (imax 0 a1)), (13, .bool (!(t11 == 0)))] 45 (s' := (.reg (opsAt (sub B [1, 1, 0, 0])) [6, 7, 8, 9, 10, 11, 12, 13] :: S1)) (by kernel_rfl) fun J => ?_
  by_cases c2 : t11 = 0
  · replace h := iteT c2 h
    refine KR.setV 13 (by kernel_rfl) (nB (eT c2)) ?_
    refine KR.run 4 [(0, .pointer (some ⟨a0b, a0o, none⟩)), (1, .int .i64 (imax 0 a1)), (13, .bool false), (14, .int .i64 (imax 0 a1)), (17, .pointer (some ⟨a0b, a0o, none⟩))] 45 (s' := (.reg (opsAt (sub B [1, 1, 0, 0])) [10, 11, 12, 13] :: S1)) (by kernel_rfl) fun J => ?_
    obtain ⟨t18a, t18n, t18k, q3, h⟩ := h
    refine KR.rd (one_ld (by kernel_rfl) q3) ?_
    exact KR.run 4 [(0, .pointer (some ⟨a0b, a0o, none⟩)), (1, .int .i64 (imax 0 a1)), (21, .bool (decide ((imax 0 a1) > ((t18n : Nat) : Int))))] 45 (s' := (.code (sub B [1, 1, 0, 1]) :: S0)) (by kernel_rfl) h
  · replace h := iteF c2 h
    refine KR.setV 13 (by kernel_rfl) (nB (eF c2)) ?_
    exact KR.run 9 [(0, .pointer (some ⟨a0b, a0o, none⟩)), (1, .int .i64 (imax 0 a1)), (21, .bool true)] 45 (s' := (.code (sub B [1, 1, 0, 1]) :: S0)) (by kernel_rfl) h
end F38
end Go.X
