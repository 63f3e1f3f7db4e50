/- The walks of the functions: printed. -/
import Derived.Test.YtdnokmjobpbhhaaXzGc
set_option linter.unusedVariables false
set_option maxRecDepth 100000
namespace Go.X
open Go Go.RowKit Go.Proofs
/-! #### 11 campanile/campanilelaw19.RouteOne -/
namespace F11
noncomputable def B : Code := bodyOf Try.f11
noncomputable def S0 : List It := (.code (sub B [1]) :: [])
noncomputable def S1 : List It := (.code (sub B [1, 1]) :: [])
noncomputable def S4 : List It := (.code (sub B [1, 1, 1]) :: [])
noncomputable def S5 : List It := (.code (sub B [1, 1, 1, 1]) :: [])
noncomputable def S6 : List It := (.code (sub B [1, 1, 1, 1, 1]) :: [])
noncomputable def S2 : List It := (.code (sub B [1, 0, 1]) :: S1)
noncomputable def S3 : List It := (.code (sub B [1, 0, 1, 0, 1]) :: S1)
def L0 (t2b : Nat) (t2o : Nat) (t3b : Nat) (t3o : Nat) (t26 : Bool) (H : Heap) (r : Value × Heap) : Prop := ∀ J, KR Try.prog good Try.f11 S2 (mat J 76 [(2, .pointer (some ⟨t2b, t2o, none⟩)), (3, .pointer (some ⟨t3b, t3o, none⟩)), (26, .bool t26)]) H r
theorem L0_step {t2b : Nat} {t2o : Nat} {t3b : Nat} {t3o : Nat} {t26 : Bool} {H : Heap} {r : Value × Heap} (h :
    if t26 = true then
    (∃ (t27 : Bool) (H_1 : Heap), xC Try.prog good 20 [] H = some (.bool t27, H_1) ∧
    (r = (.bool t27, H_1)))
    else
    (∃ (t29c0 : Int) (t29c1 : Int) (t29c2 : Int) (t29c3 : Int) (t29c4a : Option Addr) (t29c4n : Nat) (t29c4k : Nat) (t29c5a : Option Addr) (t29c5n : Nat) (t29c5k : Nat), ldAll H t2b t2o [.int .i64 t29c0, .int .i64 t29c1, .int .i64 t29c2, .int .i64 t29c3, .slice t29c4a t29c4n t29c4k, .slice t29c5a t29c5n t29c5k] ∧
    (∃ (t30r0a : Option Addr) (t30r0n : Nat) (t30r0k : Nat) (t30r1 : Int) (H_2 : Heap), xC Try.prog good 41 [.agg #[.int .i64 t29c0, .int .i64 t29c1, .int .i64 t29c2, .int .i64 t29c3, .slice t29c4a t29c4n t29c4k, .slice t29c5a t29c5n t29c5k]] H = some (.tuple #[.slice t30r0a t30r0n t30r0k, .int .i64 t30r1], H_2) ∧
    (∃ (t34c0 : Int) (t34c1 : Int) (t34c2 : Int) (t34c3 : Int) (t34c4a : Option Addr) (t34c4n : Nat) (t34c4k : Nat) (t34c5a : Option Addr) (t34c5n : Nat) (t34c5k : Nat), ldAll H_2 t3b t3o [.int .i64 t34c0, .int .i64 t34c1, .int .i64 t34c2, .int .i64 t34c3, .slice t34c4a t34c4n t34c4k, .slice t34c5a t34c5n t34c5k] ∧
    (∃ (t35r0a : Option Addr) (t35r0n : Nat) (t35r0k : Nat) (t35r1 : Int) (H_3 : Heap), xC Try.prog good 41 [.agg #[.int .i64 t34c0, .int .i64 t34c1, .int .i64 t34c2, .int .i64 t34c3, .slice t34c4a t34c4n t34c4k, .slice t34c5a t34c5n t34c5k]] H_2 = some (.tuple #[.slice t35r0a t35r0n t35r0k, .int .i64 t35r1], H_3) ∧
    (if t30r1 = 0 then
    (if t35r1 = 0 then
    (∃ (t46 : ByteArray), pstrb H_3 t30r0a t30r0n = some t46 ∧
    (∃ (t48 : ByteArray), pstrb H_3 t35r0a t35r0n = some t48 ∧
    (∃ (t50c0 : Int) (t50c1 : Int) (t50c2 : Int) (t50c3 : Int) (t50c4a : Option Addr) (t50c4n : Nat) (t50c4k : Nat) (t50c5a : Option Addr) (t50c5n : Nat) (t50c5k : Nat), ldAll H_3 t2b t2o [.int .i64 t50c0, .int .i64 t50c1, .int .i64 t50c2, .int .i64 t50c3, .slice t50c4a t50c4n t50c4k, .slice t50c5a t50c5n t50c5k] ∧
    (∃ (t51c0 : Int) (t51c1 : Int) (t51c2 : Int) (t51c3 : Int) (t51c4a : Option Addr) (t51c4n : Nat) (t51c4k : Nat) (t51c5a : Option Addr) (t51c5n : Nat) (t51c5k : Nat), ldAll H_3 t3b t3o [.int .i64 t51c0, .int .i64 t51c1, .int .i64 t51c2, .int .i64 t51c3, .slice t51c4a t51c4n t51c4k, .slice t51c5a t51c5n t51c5k] ∧
    (∃ (t52 : Bool) (H_4 : Heap), xC Try.prog good 42 [.agg #[.int .i64 t50c0, .int .i64 t50c1, .int .i64 t50c2, .int .i64 t50c3, .slice t50c4a t50c4n t50c4k, .slice t50c5a t50c5n t50c5k], .agg #[.int .i64 t51c0, .int .i64 t51c1, .int .i64 t51c2, .int .i64 t51c3, .slice t51c4a t51c4n t51c4k, .slice t51c5a t51c5n t51c5k]] H_3 = some (.bool t52, H_4) ∧
    (if ((t46.toList == t48.toList) == t52) = true then
    (∃ (t56c0 : Int) (t56c1 : Int) (t56c2 : Int) (t56c3 : Int) (t56c4a : Option Addr) (t56c4n : Nat) (t56c4k : Nat) (t56c5a : Option Addr) (t56c5n : Nat) (t56c5k : Nat), ldAll H_4 t2b t2o [.int .i64 t56c0, .int .i64 t56c1, .int .i64 t56c2, .int .i64 t56c3, .slice t56c4a t56c4n t56c4k, .slice t56c5a t56c5n t56c5k] ∧
    (∃ (t57c0 : Int) (t57c1 : Int) (t57c2 : Int) (t57c3 : Int) (t57c4a : Option Addr) (t57c4n : Nat) (t57c4k : Nat) (t57c5a : Option Addr) (t57c5n : Nat) (t57c5k : Nat), ldAll H_4 t2b t2o [.int .i64 t57c0, .int .i64 t57c1, .int .i64 t57c2, .int .i64 t57c3, .slice t57c4a t57c4n t57c4k, .slice t57c5a t57c5n t57c5k] ∧
    (∃ (t58 : Bool) (H_5 : Heap), xC Try.prog good 42 [.agg #[.int .i64 t56c0, .int .i64 t56c1, .int .i64 t56c2, .int .i64 t56c3, .slice t56c4a t56c4n t56c4k, .slice t56c5a t56c5n t56c5k], .agg #[.int .i64 t57c0, .int .i64 t57c1, .int .i64 t57c2, .int .i64 t57c3, .slice t57c4a t57c4n t57c4k, .slice t57c5a t57c5n t57c5k]] H_4 = some (.bool t58, H_5) ∧
    (if t58 = true then
    (∃ (t64a : Option Addr) (t64n : Nat) (t64k : Nat), ldc H_5 t2b (t2o + 4) = some (.slice t64a t64n t64k) ∧
    (∃ (t68a : Option Addr) (t68n : Nat) (t68k : Nat), ldc H_5 t2b (t2o + 5) = some (.slice t68a t68n t68k) ∧
    (if ((t30r0n : Nat) : Int) = (IntKind.wrap .i64 ((IntKind.wrap .i64 (11 + ((t64n : Nat) : Int))) + ((t68n : Nat) : Int))) then
    (∃ (t74 : Bool) (H_6 : Heap), xC Try.prog good 20 [] H_5 = some (.bool t74, H_6) ∧
    (pstrb H_4 t30r0a t30r0n = some t46 ∧
    pstrb H_4 t35r0a t35r0n = some t48 ∧
    (r = (.bool t74, H_6))))
    else
    (pstrb H_4 t30r0a t30r0n = some t46 ∧
    pstrb H_4 t35r0a t35r0n = some t48 ∧
    (r = (.bool false, H_5))))))
    else
    (pstrb H_4 t30r0a t30r0n = some t46 ∧
    pstrb H_4 t35r0a t35r0n = some t48 ∧
    (r = (.bool false, H_5)))))))
    else
    (pstrb H_4 t30r0a t30r0n = some t46 ∧
    pstrb H_4 t35r0a t35r0n = some t48 ∧
    (r = (.bool false, H_4)))))))))
    else
    ((r = (.bool false, H_3))))
    else
    ((r = (.bool false, H_3))))))))) :
    L0 t2b t2o t3b t3o t26 H r := by
  intro J
  show KR _ _ _ (.code (sub B [1, 0, 1]) :: S1) _ _ _
  by_cases c14 : t26 = true
  · replace h := iteT c14 h
    refine KR.br true (by kernel_rfl) (vB (bT c14)) ?_
    refine KR.run 2 [] 76 (s' := (.reg (opsAt (sub B [1, 0, 1, 0, 0])) [0, 1] :: S3)) (by kernel_rfl) fun J => ?_
    obtain ⟨t27, H_1, q15, h⟩ := h
    refine KR.se (one_ca (by kernel_rfl) q15) ?_
    refine KR.run 2 [(4, .bool t27)] 76 (s' := (.code (sub B [1, 0, 1, 0, 1]) :: S1)) (by kernel_rfl) fun J => ?_
    exact KR.fin (by kernel_rfl) h
  · replace h := iteF c14 h
    refine KR.br false (by kernel_rfl) (vB (bF c14)) ?_
    refine KR.run 3 [(2, .pointer (some ⟨t2b, t2o, none⟩)), (3, .pointer (some ⟨t3b, t3o, none⟩))] 76 (s' := (.reg (opsAt (sub B [1, 1, 0])) [0, 1, 2, 3, 4, 5, 6] :: S4)) (by kernel_rfl) fun J => ?_
    obtain ⟨t29c0, t29c1, t29c2, t29c3, t29c4a, t29c4n, t29c4k, t29c5a, t29c5n, t29c5k, q16, h⟩ := h
    refine KR.rd (one_ldA (by kernel_rfl) q16) ?_
    obtain ⟨t30r0a, t30r0n, t30r0k, t30r1, H_2, q17, h⟩ := h
    refine KR.se (one_ca (by kernel_rfl) q17) ?_
    refine KR.run 8 [(2, .pointer (some ⟨t2b, t2o, none⟩)), (3, .pointer (some ⟨t3b, t3o, none⟩)), (5, .slice t30r0a t30r0n t30r0k), (6, .int .i64 t30r1)] 76 (s' := (.reg (opsAt (sub B [1, 1, 1, 0])) [0, 1, 2, 3, 4, 5, 6] :: S5)) (by kernel_rfl) fun J => ?_
    obtain ⟨t34c0, t34c1, t34c2, t34c3, t34c4a, t34c4n, t34c4k, t34c5a, t34c5n, t34c5k, q18, h⟩ := h
    refine KR.rd (one_ldA (by kernel_rfl) q18) ?_
    obtain ⟨t35r0a, t35r0n, t35r0k, t35r1, H_3, q19, h⟩ := h
    refine KR.se (one_ca (by kernel_rfl) q19) ?_
    refine KR.run 7 [(2, .pointer (some ⟨t2b, t2o, none⟩)), (3, .pointer (some ⟨t3b, t3o, none⟩)), (5, .slice t30r0a t30r0n t30r0k), (6, .int .i64 t30r1), (7, .slice t35r0a t35r0n t35r0k), (8, .int .i64 t35r1)] 76 (s' := (.code (sub B [1, 1, 1, 1, 0]) :: S6)) (by kernel_rfl) fun J => ?_
    refine KE.start H_3 (by kernel_rfl) (by kernel_rfl) ?_
    refine KE.run 3 [(2, .pointer (some ⟨t2b, t2o, none⟩)), (3, .pointer (some ⟨t3b, t3o, none⟩)), (5, .slice t30r0a t30r0n t30r0k), (7, .slice t35r0a t35r0n t35r0k), (8, .int .i64 t35r1), (40, .bool (t30r1 == 0))] 76 3 (by kernel_rfl) fun J => ?_
    by_cases c20 : t30r1 = 0
    · replace h := iteT c20 h
      refine KE.setV 40 (by kernel_rfl) (eT c20) ?_
      refine KE.run 4 [(2, .pointer (some ⟨t2b, t2o, none⟩)), (3, .pointer (some ⟨t3b, t3o, none⟩)), (5, .slice t30r0a t30r0n t30r0k), (7, .slice t35r0a t35r0n t35r0k), (44, .bool (t35r1 == 0))] 76 7 (by kernel_rfl) fun J => ?_
      by_cases c21 : t35r1 = 0
      · replace h := iteT c21 h
        refine KE.setV 44 (by kernel_rfl) (eT c21) ?_
        refine KE.run 1 [(2, .pointer (some ⟨t2b, t2o, none⟩)), (3, .pointer (some ⟨t3b, t3o, none⟩)), (5, .slice t30r0a t30r0n t30r0k), (7, .slice t35r0a t35r0n t35r0k), (44, .bool true), (45, .slice t30r0a t30r0n t30r0k)] 76 8 (by kernel_rfl) fun J => ?_
        obtain ⟨t46, q22, h⟩ := h
        refine KE.rdF (one_str (by kernel_rfl) q22) (by kernel_rfl) ?_
        refine KE.run 1 [(2, .pointer (some ⟨t2b, t2o, none⟩)), (3, .pointer (some ⟨t3b, t3o, none⟩)), (5, .slice t30r0a t30r0n t30r0k), (44, .bool true), (46, .string t46), (47, .slice t35r0a t35r0n t35r0k)] 76 10 (by kernel_rfl) fun J => ?_
        obtain ⟨t48, q23, h⟩ := h
        refine KE.rdF (one_str (by kernel_rfl) q23) (by kernel_rfl) ?_
        refine KE.run 1 [(2, .pointer (some ⟨t2b, t2o, none⟩)), (3, .pointer (some ⟨t3b, t3o, none⟩)), (5, .slice t30r0a t30r0n t30r0k), (44, .bool true), (49, .bool (t46.toList == t48.toList))] 76 12 (by kernel_rfl) fun J => ?_
        obtain ⟨t50c0, t50c1, t50c2, t50c3, t50c4a, t50c4n, t50c4k, t50c5a, t50c5n, t50c5k, q24, h⟩ := h
        refine KE.rdN (one_ldA (by kernel_rfl) q24) (by kernel_rfl) ?_
        obtain ⟨t51c0, t51c1, t51c2, t51c3, t51c4a, t51c4n, t51c4k, t51c5a, t51c5n, t51c5k, q25, h⟩ := h
        refine KE.rdN (one_ldA (by kernel_rfl) q25) (by kernel_rfl) ?_
        obtain ⟨t52, H_4, q26, h⟩ := h
        refine KE.se (one_ca (by kernel_rfl) q26) (by kernel_rfl) ?_
        refine KE.run 3 [(2, .pointer (some ⟨t2b, t2o, none⟩)), (5, .slice t30r0a t30r0n t30r0k), (55, .bool ((t46.toList == t48.toList) == t52))] 76 18 (by kernel_rfl) fun J => ?_
        by_cases c27 : ((t46.toList == t48.toList) == t52) = true
        · replace h := iteT c27 h
          refine KE.setV 55 (by kernel_rfl) (bT c27) ?_
          obtain ⟨t56c0, t56c1, t56c2, t56c3, t56c4a, t56c4n, t56c4k, t56c5a, t56c5n, t56c5k, q28, h⟩ := h
          refine KE.rdN (one_ldA (by kernel_rfl) q28) (by kernel_rfl) ?_
          obtain ⟨t57c0, t57c1, t57c2, t57c3, t57c4a, t57c4n, t57c4k, t57c5a, t57c5n, t57c5k, q29, h⟩ := h
          refine KE.rdN (one_ldA (by kernel_rfl) q29) (by kernel_rfl) ?_
          obtain ⟨t58, H_5, q30, h⟩ := h
          refine KE.se (one_ca (by kernel_rfl) q30) (by kernel_rfl) ?_
          refine KE.run 2 [(2, .pointer (some ⟨t2b, t2o, none⟩)), (5, .slice t30r0a t30r0n t30r0k), (60, .bool t58)] 76 23 (by kernel_rfl) fun J => ?_
          by_cases c31 : t58 = true
          · replace h := iteT c31 h
            refine KE.setV 60 (by kernel_rfl) (bT c31) ?_
            refine KE.run 3 [(2, .pointer (some ⟨t2b, t2o, none⟩)), (60, .bool true), (62, .int .i64 ((t30r0n : Nat) : Int)), (63, .pointer (some ⟨t2b, (t2o + 4), none⟩))] 76 26 (by kernel_rfl) fun J => ?_
            obtain ⟨t64a, t64n, t64k, q32, h⟩ := h
            refine KE.rdN (one_ld (by kernel_rfl) q32) (by kernel_rfl) ?_
            refine KE.run 3 [(60, .bool true), (62, .int .i64 ((t30r0n : Nat) : Int)), (66, .int .i64 (IntKind.wrap .i64 (11 + ((t64n : Nat) : Int)))), (67, .pointer (some ⟨t2b, (t2o + 5), none⟩))] 76 30 (by kernel_rfl) fun J => ?_
            obtain ⟨t68a, t68n, t68k, q33, h⟩ := h
            refine KE.rdN (one_ld (by kernel_rfl) q33) (by kernel_rfl) ?_
            refine KE.run 5 [(73, .bool (((t30r0n : Nat) : Int) == (IntKind.wrap .i64 ((IntKind.wrap .i64 (11 + ((t64n : Nat) : Int))) + ((t68n : Nat) : Int)))))] 76 36 (by kernel_rfl) fun J => ?_
            by_cases c34 : ((t30r0n : Nat) : Int) = (IntKind.wrap .i64 ((IntKind.wrap .i64 (11 + ((t64n : Nat) : Int))) + ((t68n : Nat) : Int)))
            · replace h := iteT c34 h
              refine KE.setV 73 (by kernel_rfl) (eT c34) ?_
              obtain ⟨t74, H_6, q35, h⟩ := h
              refine KE.se (one_ca (by kernel_rfl) q35) (by kernel_rfl) ?_
              refine KE.run 2 [(4, .bool t74)] 76 39 (by kernel_rfl) fun J => ?_
              obtain ⟨q36, q37, h⟩ := h
              refine KE.fin (H' := H_6) (by kernel_rfl) (rdsS (rdsS (rfl) (rd_ok (Hs := [H_4]) (by kernel_rfl) (by kernel_rfl) ⟨one_str (by kernel_rfl) q36, trivial⟩)) (rd_ok (Hs := [H_4]) (by kernel_rfl) (by kernel_rfl) ⟨one_str (by kernel_rfl) q37, trivial⟩)) (by kernel_rfl) ?_
              refine KR.run 0 [(4, .bool t74)] 76 (s' := (.code (sub B [1, 1, 1, 1, 1]) :: [])) (by kernel_rfl) fun J => ?_
              exact KR.fin (by kernel_rfl) h
            · replace h := iteF c34 h
              refine KE.setV 73 (by kernel_rfl) (eF c34) ?_
              refine KE.no (Gc := H_5) (by kernel_rfl) (by kernel_rfl) (by kernel_rfl) ?_
              refine KE.run 2 [(4, .bool false)] 76 39 (by kernel_rfl) fun J => ?_
              obtain ⟨q38, q39, h⟩ := h
              refine KE.fin (H' := H_5) (by kernel_rfl) (rdsS (rdsS (rfl) (rd_ok (Hs := [H_4]) (by kernel_rfl) (by kernel_rfl) ⟨one_str (by kernel_rfl) q38, trivial⟩)) (rd_ok (Hs := [H_4]) (by kernel_rfl) (by kernel_rfl) ⟨one_str (by kernel_rfl) q39, trivial⟩)) (by kernel_rfl) ?_
              refine KR.run 0 [(4, .bool false)] 76 (s' := (.code (sub B [1, 1, 1, 1, 1]) :: [])) (by kernel_rfl) fun J => ?_
              exact KR.fin (by kernel_rfl) h
          · replace h := iteF c31 h
            refine KE.setV 60 (by kernel_rfl) (bF c31) ?_
            refine KE.run 13 [(73, .bool false)] 76 36 (by kernel_rfl) fun J => ?_
            refine KE.no (Gc := H_5) (by kernel_rfl) (by kernel_rfl) (by kernel_rfl) ?_
            refine KE.run 2 [(4, .bool false)] 76 39 (by kernel_rfl) fun J => ?_
            obtain ⟨q40, q41, h⟩ := h
            refine KE.fin (H' := H_5) (by kernel_rfl) (rdsS (rdsS (rfl) (rd_ok (Hs := [H_4]) (by kernel_rfl) (by kernel_rfl) ⟨one_str (by kernel_rfl) q40, trivial⟩)) (rd_ok (Hs := [H_4]) (by kernel_rfl) (by kernel_rfl) ⟨one_str (by kernel_rfl) q41, trivial⟩)) (by kernel_rfl) ?_
            refine KR.run 0 [(4, .bool false)] 76 (s' := (.code (sub B [1, 1, 1, 1, 1]) :: [])) (by kernel_rfl) fun J => ?_
            exact KR.fin (by kernel_rfl) h
        · replace h := iteF c27 h
          refine KE.setV 55 (by kernel_rfl) (bF c27) ?_
          refine KE.run 2 [(2, .pointer (some ⟨t2b, t2o, none⟩)), (5, .slice t30r0a t30r0n t30r0k), (55, .bool false), (56, undef), (57, undef)] 76 20 (by kernel_rfl) fun J => ?_
          refine KE.no (Gc := H_4) (by kernel_rfl) (by kernel_rfl) (by kernel_rfl) ?_
          refine KE.run 15 [(73, .bool false)] 76 36 (by kernel_rfl) fun J => ?_
          refine KE.no (Gc := H_4) (by kernel_rfl) (by kernel_rfl) (by kernel_rfl) ?_
          refine KE.run 2 [(4, .bool false)] 76 39 (by kernel_rfl) fun J => ?_
          obtain ⟨q42, q43, h⟩ := h
          refine KE.fin (H' := H_4) (by kernel_rfl) (rdsS (rdsS (rfl) (rd_ok (Hs := [H_4]) (by kernel_rfl) (by kernel_rfl) ⟨one_str (by kernel_rfl) q42, trivial⟩)) (rd_ok (Hs := [H_4]) (by kernel_rfl) (by kernel_rfl) ⟨one_str (by kernel_rfl) q43, trivial⟩)) (by kernel_rfl) ?_
          refine KR.run 0 [(4, .bool false)] 76 (s' := (.code (sub B [1, 1, 1, 1, 1]) :: [])) (by kernel_rfl) fun J => ?_
          exact KR.fin (by kernel_rfl) h
      · replace h := iteF c21 h
        refine KE.setV 44 (by kernel_rfl) (eF c21) ?_
        refine KE.run 7 [(2, .pointer (some ⟨t2b, t2o, none⟩)), (5, .slice t30r0a t30r0n t30r0k), (44, .bool false), (49, undef), (50, undef), (51, undef)] 76 14 (by kernel_rfl) fun J => ?_
        refine KE.no (Gc := H_3) (by kernel_rfl) (by kernel_rfl) (by kernel_rfl) ?_
        refine KE.run 5 [(2, .pointer (some ⟨t2b, t2o, none⟩)), (5, .slice t30r0a t30r0n t30r0k), (55, .bool false), (56, undef), (57, undef)] 76 20 (by kernel_rfl) fun J => ?_
        refine KE.no (Gc := H_3) (by kernel_rfl) (by kernel_rfl) (by kernel_rfl) ?_
        refine KE.run 15 [(73, .bool false)] 76 36 (by kernel_rfl) fun J => ?_
        refine KE.no (Gc := H_3) (by kernel_rfl) (by kernel_rfl) (by kernel_rfl) ?_
        refine KE.run 2 [(4, .bool false)] 76 39 (by kernel_rfl) fun J => ?_
        refine KE.fin (H' := H_3) (by kernel_rfl) (rfl) (by kernel_rfl) ?_
        refine KR.run 0 [(4, .bool false)] 76 (s' := (.code (sub B [1, 1, 1, 1, 1]) :: [])) (by kernel_rfl) fun J => ?_
        exact KR.fin (by kernel_rfl) h
    · replace h := iteF c20 h
      refine KE.setV 40 (by kernel_rfl) (eF c20) ?_
      refine KE.run 11 [(2, .pointer (some ⟨t2b, t2o, none⟩)), (5, .slice t30r0a t30r0n t30r0k), (44, .bool false), (49, undef), (50, undef), (51, undef)] 76 14 (by kernel_rfl) fun J => ?_
      refine KE.no (Gc := H_3) (by kernel_rfl) (by kernel_rfl) (by kernel_rfl) ?_
      refine KE.run 5 [(2, .pointer (some ⟨t2b, t2o, none⟩)), (5, .slice t30r0a t30r0n t30r0k), (55, .bool false), (56, undef), (57, undef)] 76 20 (by kernel_rfl) fun J => ?_
      refine KE.no (Gc := H_3) (by kernel_rfl) (by kernel_rfl) (by kernel_rfl) ?_
      refine KE.run 15 [(73, .bool false)] 76 36 (by kernel_rfl) fun J => ?_
      refine KE.no (Gc := H_3) (by kernel_rfl) (by kernel_rfl) (by kernel_rfl) ?_
      refine KE.run 2 [(4, .bool false)] 76 39 (by kernel_rfl) fun J => ?_
      refine KE.fin (H' := H_3) (by kernel_rfl) (rfl) (by kernel_rfl) ?_
      refine KR.run 0 [(4, .bool false)] 76 (s' := (.code (sub B [1, 1, 1, 1, 1]) :: [])) (by kernel_rfl) fun J => ?_
      exact KR.fin (by kernel_rfl) h
theorem call {a0c0 : Int} {a0c1 : Int} {a0c2 : Int} {a0c3 : Int} {a0c4a : Option Addr} {a0c4n : Nat} {a0c4k : Nat} {a0c5a : Option Addr} {a0c5n : Nat} {a0c5k : Nat} {a1c0 : Int} {a1c1 : Int} {a1c2 : Int} {a1c3 : Int} {a1c4a : Option Addr} {a1c4n : Nat} {a1c4k : Nat} {a1c5a : Option Addr} {a1c5n : Nat} {a1c5k : Nat} {H : Heap} {r : Value × Heap} (h :
    ∃ (H_1 : Heap), H_1 = H.push (.row [.int .i64 a0c0, .int .i64 a0c1, .int .i64 a0c2, .int .i64 a0c3, .slice a0c4a a0c4n a0c4k, .slice a0c5a a0c5n a0c5k] true) ∧
    (∃ (H_2 : Heap), H_2 = H_1.push (.row [.int .i64 a1c0, .int .i64 a1c1, .int .i64 a1c2, .int .i64 a1c3, .slice a1c4a a1c4n a1c4k, .slice a1c5a a1c5n a1c5k] true) ∧
    (∃ (t9c0 : Int) (t9c1 : Int) (t9c2 : Int) (t9c3 : Int) (t9c4a : Option Addr) (t9c4n : Nat) (t9c4k : Nat) (t9c5a : Option Addr) (t9c5n : Nat) (t9c5k : Nat), ldAll H_2 H.next 0 [.int .i64 t9c0, .int .i64 t9c1, .int .i64 t9c2, .int .i64 t9c3, .slice t9c4a t9c4n t9c4k, .slice t9c5a t9c5n t9c5k] ∧
    (∃ (t10 : Bool) (H_3 : Heap), xC Try.prog good 27 [.agg #[.int .i64 t9c0, .int .i64 t9c1, .int .i64 t9c2, .int .i64 t9c3, .slice t9c4a t9c4n t9c4k, .slice t9c5a t9c5n t9c5k]] H_2 = some (.bool t10, H_3) ∧
    (if t10 = true then
    (∃ (t13c0 : Int) (t13c1 : Int) (t13c2 : Int) (t13c3 : Int) (t13c4a : Option Addr) (t13c4n : Nat) (t13c4k : Nat) (t13c5a : Option Addr) (t13c5n : Nat) (t13c5k : Nat), ldAll H_3 H_1.next 0 [.int .i64 t13c0, .int .i64 t13c1, .int .i64 t13c2, .int .i64 t13c3, .slice t13c4a t13c4n t13c4k, .slice t13c5a t13c5n t13c5k] ∧
    (∃ (t14 : Bool) (H_4 : Heap), xC Try.prog good 27 [.agg #[.int .i64 t13c0, .int .i64 t13c1, .int .i64 t13c2, .int .i64 t13c3, .slice t13c4a t13c4n t13c4k, .slice t13c5a t13c5n t13c5k]] H_3 = some (.bool t14, H_4) ∧
    (if t14 = true then
    (∃ (t18c0 : Int) (t18c1 : Int) (t18c2 : Int) (t18c3 : Int) (t18c4a : Option Addr) (t18c4n : Nat) (t18c4k : Nat) (t18c5a : Option Addr) (t18c5n : Nat) (t18c5k : Nat), ldAll H_4 H.next 0 [.int .i64 t18c0, .int .i64 t18c1, .int .i64 t18c2, .int .i64 t18c3, .slice t18c4a t18c4n t18c4k, .slice t18c5a t18c5n t18c5k] ∧
    (∃ (t19 : Bool) (H_5 : Heap), xC Try.prog good 28 [.agg #[.int .i64 t18c0, .int .i64 t18c1, .int .i64 t18c2, .int .i64 t18c3, .slice t18c4a t18c4n t18c4k, .slice t18c5a t18c5n t18c5k]] H_4 = some (.bool t19, H_5) ∧
    (if t19 = true then
    (∃ (t23c0 : Int) (t23c1 : Int) (t23c2 : Int) (t23c3 : Int) (t23c4a : Option Addr) (t23c4n : Nat) (t23c4k : Nat) (t23c5a : Option Addr) (t23c5n : Nat) (t23c5k : Nat), ldAll H_5 H_1.next 0 [.int .i64 t23c0, .int .i64 t23c1, .int .i64 t23c2, .int .i64 t23c3, .slice t23c4a t23c4n t23c4k, .slice t23c5a t23c5n t23c5k] ∧
    (∃ (t24 : Bool) (H_6 : Heap), xC Try.prog good 28 [.agg #[.int .i64 t23c0, .int .i64 t23c1, .int .i64 t23c2, .int .i64 t23c3, .slice t23c4a t23c4n t23c4k, .slice t23c5a t23c5n t23c5k]] H_5 = some (.bool t24, H_6) ∧
    (L0 (H.next) (0) (H_1.next) (0) ((!t24)) H_6 r)))
    else
    (L0 (H.next) (0) (H_1.next) (0) (true) H_5 r))))
    else
    (L0 (H.next) (0) (H_1.next) (0) (true) H_4 r))))
    else
    (L0 (H.next) (0) (H_1.next) (0) (true) H_3 r)))))) :
    xC Try.prog good 11 [.agg #[.int .i64 a0c0, .int .i64 a0c1, .int .i64 a0c2, .int .i64 a0c3, .slice a0c4a a0c4n a0c4k, .slice a0c5a a0c5n a0c5k], .agg #[.int .i64 a1c0, .int .i64 a1c1, .int .i64 a1c2, .int .i64 a1c3, .slice a1c4a a1c4n a1c4k, .slice a1c5a a1c5n a1c5k]] H = some r := by
  refine KR.enter (fn := Try.f11) (c := B) (by kernel_rfl) (by kernel_rfl) ?_
  refine KR.run 2 [(0, .agg #[.int .i64 a0c0, .int .i64 a0c1, .int .i64 a0c2, .int .i64 a0c3, .slice a0c4a a0c4n a0c4k, .slice a0c5a a0c5n a0c5k]), (1, .agg #[.int .i64 a1c0, .int .i64 a1c1, .int .i64 a1c2, .int .i64 a1c3, .slice a1c4a a1c4n a1c4k, .slice a1c5a a1c5n a1c5k])] 76 (s' := (.reg (opsAt (sub B [0])) [0, 1, 2] :: S0)) (by kernel_rfl) fun J => ?_
  obtain ⟨H_1, q1, h⟩ := h
  refine KR.mk (w := pRow [.int .i64 a0c0, .int .i64 a0c1, .int .i64 a0c2, .int .i64 a0c3, .slice a0c4a a0c4n a0c4k, .slice a0c5a a0c5n a0c5k]) (one_al (by kernel_rfl)) q1 ?_
  obtain ⟨H_2, q2, h⟩ := h
  refine KR.mk (w := pRow [.int .i64 a1c0, .int .i64 a1c1, .int .i64 a1c2, .int .i64 a1c3, .slice a1c4a a1c4n a1c4k, .slice a1c5a a1c5n a1c5k]) (one_al (by kernel_rfl)) q2 ?_
  refine KR.run 5 [(2, .pointer (some ⟨H.next, 0, none⟩)), (3, .pointer (some ⟨H_1.next, 0, none⟩))] 76 (s' := (.reg (opsAt (sub B [1, 0, 0])) [0, 1, 2, 3, 4, 5, 6, 7, 8, 9, 10, 11, 12, 13, 14, 15, 16, 17] :: S2)) (by kernel_rfl) fun J => ?_
  obtain ⟨t9c0, t9c1, t9c2, t9c3, t9c4a, t9c4n, t9c4k, t9c5a, t9c5n, t9c5k, q3, h⟩ := h
  refine KR.rd (one_ldA (by kernel_rfl) q3) ?_
  obtain ⟨t10, H_3, q4, h⟩ := h
  refine KR.se (one_ca (by kernel_rfl) q4) ?_
  refine KR.run 2 [(2, .pointer (some ⟨H.next, 0, none⟩)), (3, .pointer (some ⟨H_1.next, 0, none⟩)), (12, .bool (!t10))] 76 (s' := (.reg (opsAt (sub B [1, 0, 0])) [4, 5, 6, 7, 8, 9, 10, 11, 12, 13, 14, 15, 16, 17] :: S2)) (by kernel_rfl) fun J => ?_
  by_cases c5 : t10 = true
  · replace h := iteT c5 h
    refine KR.setV 12 (by kernel_rfl) (nB (bT c5)) ?_
    obtain ⟨t13c0, t13c1, t13c2, t13c3, t13c4a, t13c4n, t13c4k, t13c5a, t13c5n, t13c5k, q6, h⟩ := h
    refine KR.rd (one_ldA (by kernel_rfl) q6) ?_
    obtain ⟨t14, H_4, q7, h⟩ := h
    refine KR.se (one_ca (by kernel_rfl) q7) ?_
    refine KR.run 3 [(2, .pointer (some ⟨H.next, 0, none⟩)), (3, .pointer (some ⟨H_1.next, 0, none⟩)), (17, .bool (!t14))] 76 (s' := (.reg (opsAt (sub B [1, 0, 0])) [9, 10, 11, 12, 13, 14, 15, 16, 17] :: S2)) (by kernel_rfl) fun J => ?_
    by_cases c8 : t14 = true
    · replace h := iteT c8 h
      refine KR.setV 17 (by kernel_rfl) (nB (bT c8)) ?_
      obtain ⟨t18c0, t18c1, t18c2, t18c3, t18c4a, t18c4n, t18c4k, t18c5a, t18c5n, t18c5k, q9, h⟩ := h
      refine KR.rd (one_ldA (by kernel_rfl) q9) ?_
      obtain ⟨t19, H_5, q10, h⟩ := h
      refine KR.se (one_ca (by kernel_rfl) q10) ?_
      refine KR.run 3 [(2, .pointer (some ⟨H.next, 0, none⟩)), (3, .pointer (some ⟨H_1.next, 0, none⟩)), (22, .bool (!t19))] 76 (s' := (.reg (opsAt (sub B [1, 0, 0])) [14, 15, 16, 17] :: S2)) (by kernel_rfl) fun J => ?_
      by_cases c11 : t19 = true
      · replace h := iteT c11 h
        refine KR.setV 22 (by kernel_rfl) (nB (bT c11)) ?_
        obtain ⟨t23c0, t23c1, t23c2, t23c3, t23c4a, t23c4n, t23c4k, t23c5a, t23c5n, t23c5k, q12, h⟩ := h
        refine KR.rd (one_ldA (by kernel_rfl) q12) ?_
        obtain ⟨t24, H_6, q13, h⟩ := h
        refine KR.se (one_ca (by kernel_rfl) q13) ?_
        exact KR.run 3 [(2, .pointer (some ⟨H.next, 0, none⟩)), (3, .pointer (some ⟨H_1.next, 0, none⟩)), (26, .bool (!t24))] 76 (s' := (.code (sub B [1, 0, 1]) :: S1)) (by kernel_rfl) h
      · replace h := iteF c11 h
        refine KR.setV 22 (by kernel_rfl) (nB (bF c11)) ?_
        exact KR.run 5 [(2, .pointer (some ⟨H.next, 0, none⟩)), (3, .pointer (some ⟨H_1.next, 0, none⟩)), (26, .bool true)] 76 (s' := (.code (sub B [1, 0, 1]) :: S1)) (by kernel_rfl) h
    · replace h := iteF c8 h
      refine KR.setV 17 (by kernel_rfl) (nB (bF c8)) ?_
      exact KR.run 10 [(2, .pointer (some ⟨H.next, 0, none⟩)), (3, .pointer (some ⟨H_1.next, 0, none⟩)), (26, .bool true)] 76 (s' := (.code (sub B [1, 0, 1]) :: S1)) (by kernel_rfl) h
  · replace h := iteF c5 h
    refine KR.setV 12 (by kernel_rfl) (nB (bF c5)) ?_
    exact KR.run 15 [(2, .pointer (some ⟨H.next, 0, none⟩)), (3, .pointer (some ⟨H_1.next, 0, none⟩)), (26, .bool true)] 76 (s' := (.code (sub B [1, 0, 1]) :: S1)) (by kernel_rfl) h
end F11
/-! #### 12 campanile/campanilelaw19.RouteBack -/
namespace F12
noncomputable def B : Code := bodyOf Try.f12
noncomputable def S0 : List It := (.code (sub B [1]) :: [])
noncomputable def S1 : List It := (.code (sub B [1, 1]) :: [])
noncomputable def S4 : List It := (.code (sub B [1, 1, 1]) :: [])
noncomputable def S5 : List It := (.code (sub B [1, 1, 1, 1]) :: [])
noncomputable def S6 : List It := (.code (sub B [1, 1, 1, 1, 1]) :: [])
noncomputable def S8 : List It := (.code (sub B [1, 1, 1, 1, 1, 1]) :: [])
noncomputable def S9 : List It := (.code (sub B [1, 1, 1, 1, 1, 1, 1]) :: [])
noncomputable def S10 : List It := (.code (sub B [1, 1, 1, 1, 1, 1, 1, 1]) :: [])
noncomputable def S11 : List It := (.code (sub B [1, 1, 1, 1, 1, 1, 1, 1, 1]) :: [])
noncomputable def S2 : List It := (.code (sub B [1, 0, 1]) :: S1)
noncomputable def S3 : List It := (.code (sub B [1, 0, 1, 0, 1]) :: S1)
noncomputable def S7 : List It := (.code (sub B [1, 1, 1, 1, 0, 1]) :: S6)
noncomputable def S12 : List It := (.code (sub B [1, 1, 1, 1, 1, 1, 0, 1, 0, 1]) :: S9)
def L0 (t1a : Option Addr) (t1n : Nat) (t1k : Nat) (t2b : Nat) (t2o : Nat) (t20 : Bool) (H : Heap) (r : Value × Heap) : Prop := ∀ J, KR Try.prog good Try.f12 S2 (mat J 96 [(1, .slice t1a t1n t1k), (2, .pointer (some ⟨t2b, t2o, none⟩)), (20, .bool t20)]) H r
def L1 (t1a : Option Addr) (t1n : Nat) (t1k : Nat) (t60 : Bool) (H : Heap) (r : Value × Heap) : Prop := ∀ J, KR Try.prog good Try.f12 S7 (mat J 96 [(1, .slice t1a t1n t1k), (60, .bool t60)]) H r
theorem L0_step {t1a : Option Addr} {t1n : Nat} {t1k : Nat} {t2b : Nat} {t2o : Nat} {t20 : Bool} {H : Heap} {r : Value × Heap} (h :
    if t20 = true then
    (∃ (t21 : Bool) (H_1 : Heap), xC Try.prog good 20 [] H = some (.bool t21, H_1) ∧
    (r = (.bool t21, H_1)))
    else
    (∃ (t23c0 : Int) (t23c1 : Int) (t23c2 : Int) (t23c3 : Int) (t23c4a : Option Addr) (t23c4n : Nat) (t23c4k : Nat) (t23c5a : Option Addr) (t23c5n : Nat) (t23c5k : Nat), ldAll H t2b t2o [.int .i64 t23c0, .int .i64 t23c1, .int .i64 t23c2, .int .i64 t23c3, .slice t23c4a t23c4n t23c4k, .slice t23c5a t23c5n t23c5k] ∧
    (∃ (t24r0a : Option Addr) (t24r0n : Nat) (t24r0k : Nat) (t24r1 : Int) (H_2 : Heap), xC Try.prog good 41 [.agg #[.int .i64 t23c0, .int .i64 t23c1, .int .i64 t23c2, .int .i64 t23c3, .slice t23c4a t23c4n t23c4k, .slice t23c5a t23c5n t23c5k]] H = some (.tuple #[.slice t24r0a t24r0n t24r0k, .int .i64 t24r1], H_2) ∧
    (∃ (t29r0c0 : Int) (t29r0c1 : Int) (t29r0c2 : Int) (t29r0c3 : Int) (t29r0c4a : Option Addr) (t29r0c4n : Nat) (t29r0c4k : Nat) (t29r0c5a : Option Addr) (t29r0c5n : Nat) (t29r0c5k : Nat) (t29r1 : Int) (H_3 : Heap), xC Try.prog good 43 [.slice t24r0a t24r0n t24r0k] H_2 = some (.tuple #[.agg #[.int .i64 t29r0c0, .int .i64 t29r0c1, .int .i64 t29r0c2, .int .i64 t29r0c3, .slice t29r0c4a t29r0c4n t29r0c4k, .slice t29r0c5a t29r0c5n t29r0c5k], .int .i64 t29r1], H_3) ∧
    (∃ (H_4 : Heap), H_4 = H_3.push (.row [.int .i64 0, .int .i64 0, .int .i64 0, .int .i64 0, .slice none 0 0, .slice none 0 0] true) ∧
    (∃ (H_5 : Heap), stc H_4 H_3.next 0 [.int .i64 t29r0c0, .int .i64 t29r0c1, .int .i64 t29r0c2, .int .i64 t29r0c3, .slice t29r0c4a t29r0c4n t29r0c4k, .slice t29r0c5a t29r0c5n t29r0c5k] = some H_5 ∧
    (∃ (t34c0 : Int) (t34c1 : Int) (t34c2 : Int) (t34c3 : Int) (t34c4a : Option Addr) (t34c4n : Nat) (t34c4k : Nat) (t34c5a : Option Addr) (t34c5n : Nat) (t34c5k : Nat), ldAll H_5 t2b t2o [.int .i64 t34c0, .int .i64 t34c1, .int .i64 t34c2, .int .i64 t34c3, .slice t34c4a t34c4n t34c4k, .slice t34c5a t34c5n t34c5k] ∧
    (∃ (t35 : Bool) (H_6 : Heap), xC Try.prog good 28 [.agg #[.int .i64 t34c0, .int .i64 t34c1, .int .i64 t34c2, .int .i64 t34c3, .slice t34c4a t34c4n t34c4k, .slice t34c5a t34c5n t34c5k]] H_5 = some (.bool t35, H_6) ∧
    (if ((t24r1 == 0) == t35) = true then
    (if t24r1 = 0 then
    (if t29r1 = 0 then
    (∃ (t44c0 : Int) (t44c1 : Int) (t44c2 : Int) (t44c3 : Int) (t44c4a : Option Addr) (t44c4n : Nat) (t44c4k : Nat) (t44c5a : Option Addr) (t44c5n : Nat) (t44c5k : Nat), ldAll H_6 t2b t2o [.int .i64 t44c0, .int .i64 t44c1, .int .i64 t44c2, .int .i64 t44c3, .slice t44c4a t44c4n t44c4k, .slice t44c5a t44c5n t44c5k] ∧
    (∃ (t45c0 : Int) (t45c1 : Int) (t45c2 : Int) (t45c3 : Int) (t45c4a : Option Addr) (t45c4n : Nat) (t45c4k : Nat) (t45c5a : Option Addr) (t45c5n : Nat) (t45c5k : Nat), ldAll H_6 H_3.next 0 [.int .i64 t45c0, .int .i64 t45c1, .int .i64 t45c2, .int .i64 t45c3, .slice t45c4a t45c4n t45c4k, .slice t45c5a t45c5n t45c5k] ∧
    (∃ (t46 : Bool) (H_7 : Heap), xC Try.prog good 44 [.agg #[.int .i64 t44c0, .int .i64 t44c1, .int .i64 t44c2, .int .i64 t44c3, .slice t44c4a t44c4n t44c4k, .slice t44c5a t44c5n t44c5k], .agg #[.int .i64 t45c0, .int .i64 t45c1, .int .i64 t45c2, .int .i64 t45c3, .slice t45c4a t45c4n t45c4k, .slice t45c5a t45c5n t45c5k]] H_6 = some (.bool t46, H_7) ∧
    (if t46 = true then
    (∃ (t51a : Option Addr) (t51n : Nat) (t51k : Nat), ldc H_7 t2b (t2o + 4) = some (.slice t51a t51n t51k) ∧
    (∃ (t52a : Option Addr) (t52n : Nat) (t52k : Nat) (H_8 : Heap), xC Try.prog good 21 [.slice t51a t51n t51k] H_7 = some (.slice t52a t52n t52k, H_8) ∧
    (∃ (t53a : Option Addr) (t53n : Nat) (t53k : Nat) (H_9 : Heap), xC Try.prog good 21 [.slice t52a t52n t52k] H_8 = some (.slice t53a t53n t53k, H_9) ∧
    (∃ (t55a : Option Addr) (t55n : Nat) (t55k : Nat), ldc H_7 t2b (t2o + 4) = some (.slice t55a t55n t55k) ∧
    (∃ (t56 : Bool) (H_10 : Heap), xC Try.prog good 25 [.slice t53a t53n t53k, .slice t55a t55n t55k] H_9 = some (.bool t56, H_10) ∧
    (ldc H_8 t2b (t2o + 4) = some (.slice t55a t55n t55k) ∧
    ldc H_9 t2b (t2o + 4) = some (.slice t55a t55n t55k) ∧
    (L1 (t1a) (t1n) (t1k) ((!t56)) H_10 r)))))))
    else
    ((L1 (t1a) (t1n) (t1k) (true) H_7 r))))))
    else
    ((L1 (t1a) (t1n) (t1k) (true) H_6 r)))
    else
    ((L1 (t1a) (t1n) (t1k) (false) H_6 r)))
    else
    ((L1 (t1a) (t1n) (t1k) (true) H_6 r))))))))))) :
    L0 t1a t1n t1k t2b t2o t20 H r := by
  intro J
  show KR _ _ _ (.code (sub B [1, 0, 1]) :: S1) _ _ _
  by_cases c5 : t20 = true
  · replace h := iteT c5 h
    refine KR.br true (by kernel_rfl) (vB (bT c5)) ?_
    refine KR.run 2 [] 96 (s' := (.reg (opsAt (sub B [1, 0, 1, 0, 0])) [0, 1] :: S3)) (by kernel_rfl) fun J => ?_
    obtain ⟨t21, H_1, q6, h⟩ := h
    refine KR.se (one_ca (by kernel_rfl) q6) ?_
    refine KR.run 2 [(4, .bool t21)] 96 (s' := (.code (sub B [1, 0, 1, 0, 1]) :: S1)) (by kernel_rfl) fun J => ?_
    exact KR.fin (by kernel_rfl) h
  · replace h := iteF c5 h
    refine KR.br false (by kernel_rfl) (vB (bF c5)) ?_
    refine KR.run 3 [(1, .slice t1a t1n t1k), (2, .pointer (some ⟨t2b, t2o, none⟩))] 96 (s' := (.reg (opsAt (sub B [1, 1, 0])) [0, 1, 2, 3, 4, 5, 6] :: S4)) (by kernel_rfl) fun J => ?_
    obtain ⟨t23c0, t23c1, t23c2, t23c3, t23c4a, t23c4n, t23c4k, t23c5a, t23c5n, t23c5k, q7, h⟩ := h
    refine KR.rd (one_ldA (by kernel_rfl) q7) ?_
    obtain ⟨t24r0a, t24r0n, t24r0k, t24r1, H_2, q8, h⟩ := h
    refine KR.se (one_ca (by kernel_rfl) q8) ?_
    refine KR.run 9 [(1, .slice t1a t1n t1k), (2, .pointer (some ⟨t2b, t2o, none⟩)), (6, .int .i64 t24r1), (28, .slice t24r0a t24r0n t24r0k)] 96 (s' := (.reg (opsAt (sub B [1, 1, 1, 0])) [1, 2, 3, 4, 5, 6, 7] :: S5)) (by kernel_rfl) fun J => ?_
    obtain ⟨t29r0c0, t29r0c1, t29r0c2, t29r0c3, t29r0c4a, t29r0c4n, t29r0c4k, t29r0c5a, t29r0c5n, t29r0c5k, t29r1, H_3, q9, h⟩ := h
    refine KR.se (one_ca (by kernel_rfl) q9) ?_
    refine KR.run 3 [(1, .slice t1a t1n t1k), (2, .pointer (some ⟨t2b, t2o, none⟩)), (6, .int .i64 t24r1), (30, .agg #[.int .i64 t29r0c0, .int .i64 t29r0c1, .int .i64 t29r0c2, .int .i64 t29r0c3, .slice t29r0c4a t29r0c4n t29r0c4k, .slice t29r0c5a t29r0c5n t29r0c5k]), (31, .int .i64 t29r1)] 96 (s' := (.reg (opsAt (sub B [1, 1, 1, 0])) [5, 6, 7] :: S5)) (by kernel_rfl) fun J => ?_
    obtain ⟨H_4, q10, h⟩ := h
    refine KR.mk (w := pRow [.int .i64 0, .int .i64 0, .int .i64 0, .int .i64 0, .slice none 0 0, .slice none 0 0]) (one_al (by kernel_rfl)) q10 ?_
    obtain ⟨H_5, q11, h⟩ := h
    refine KR.se (one_st (by kernel_rfl) q11) ?_
    refine KR.run 4 [(1, .slice t1a t1n t1k), (2, .pointer (some ⟨t2b, t2o, none⟩)), (6, .int .i64 t24r1), (7, .pointer (some ⟨H_3.next, 0, none⟩)), (8, .int .i64 t29r1)] 96 (s' := (.code (sub B [1, 1, 1, 1, 0, 0]) :: S7)) (by kernel_rfl) fun J => ?_
    refine KE.start H_5 (by kernel_rfl) (by kernel_rfl) ?_
    refine KE.run 2 [(1, .slice t1a t1n t1k), (2, .pointer (some ⟨t2b, t2o, none⟩)), (6, .int .i64 t24r1), (7, .pointer (some ⟨H_3.next, 0, none⟩)), (8, .int .i64 t29r1), (33, .bool (t24r1 == 0))] 96 2 (by kernel_rfl) fun J => ?_
    obtain ⟨t34c0, t34c1, t34c2, t34c3, t34c4a, t34c4n, t34c4k, t34c5a, t34c5n, t34c5k, q12, h⟩ := h
    refine KE.rdN (one_ldA (by kernel_rfl) q12) (by kernel_rfl) ?_
    obtain ⟨t35, H_6, q13, h⟩ := h
    refine KE.se (one_ca (by kernel_rfl) q13) (by kernel_rfl) ?_
    refine KE.run 2 [(1, .slice t1a t1n t1k), (2, .pointer (some ⟨t2b, t2o, none⟩)), (6, .int .i64 t24r1), (7, .pointer (some ⟨H_3.next, 0, none⟩)), (8, .int .i64 t29r1), (37, .bool (!((t24r1 == 0) == t35)))] 96 6 (by kernel_rfl) fun J => ?_
    by_cases c14 : ((t24r1 == 0) == t35) = true
    · replace h := iteT c14 h
      refine KE.setV 37 (by kernel_rfl) (nB (bT c14)) ?_
      refine KE.run 3 [(1, .slice t1a t1n t1k), (2, .pointer (some ⟨t2b, t2o, none⟩)), (7, .pointer (some ⟨H_3.next, 0, none⟩)), (8, .int .i64 t29r1), (37, .bool false), (40, .bool (t24r1 == 0))] 96 9 (by kernel_rfl) fun J => ?_
      by_cases c15 : t24r1 = 0
      · replace h := iteT c15 h
        refine KE.setV 40 (by kernel_rfl) (eT c15) ?_
        refine KE.run 3 [(1, .slice t1a t1n t1k), (2, .pointer (some ⟨t2b, t2o, none⟩)), (7, .pointer (some ⟨H_3.next, 0, none⟩)), (37, .bool false), (40, .bool true), (43, .bool (!(t29r1 == 0)))] 96 12 (by kernel_rfl) fun J => ?_
        by_cases c16 : t29r1 = 0
        · replace h := iteT c16 h
          refine KE.setV 43 (by kernel_rfl) (nB (eT c16)) ?_
          obtain ⟨t44c0, t44c1, t44c2, t44c3, t44c4a, t44c4n, t44c4k, t44c5a, t44c5n, t44c5k, q17, h⟩ := h
          refine KE.rdN (one_ldA (by kernel_rfl) q17) (by kernel_rfl) ?_
          obtain ⟨t45c0, t45c1, t45c2, t45c3, t45c4a, t45c4n, t45c4k, t45c5a, t45c5n, t45c5k, q18, h⟩ := h
          refine KE.rdN (one_ldA (by kernel_rfl) q18) (by kernel_rfl) ?_
          obtain ⟨t46, H_7, q19, h⟩ := h
          refine KE.se (one_ca (by kernel_rfl) q19) (by kernel_rfl) ?_
          refine KE.run 3 [(1, .slice t1a t1n t1k), (2, .pointer (some ⟨t2b, t2o, none⟩)), (37, .bool false), (40, .bool true), (49, .bool (!t46))] 96 18 (by kernel_rfl) fun J => ?_
          by_cases c20 : t46 = true
          · replace h := iteT c20 h
            refine KE.setV 49 (by kernel_rfl) (nB (bT c20)) ?_
            refine KE.run 1 [(1, .slice t1a t1n t1k), (2, .pointer (some ⟨t2b, t2o, none⟩)), (37, .bool false), (40, .bool true), (49, .bool false), (50, .pointer (some ⟨t2b, (t2o + 4), none⟩))] 96 19 (by kernel_rfl) fun J => ?_
            obtain ⟨t51a, t51n, t51k, q21, h⟩ := h
            refine KE.rdN (one_ld (by kernel_rfl) q21) (by kernel_rfl) ?_
            obtain ⟨t52a, t52n, t52k, H_8, q22, h⟩ := h
            refine KE.se (one_ca (by kernel_rfl) q22) (by kernel_rfl) ?_
            obtain ⟨t53a, t53n, t53k, H_9, q23, h⟩ := h
            refine KE.se (one_ca (by kernel_rfl) q23) (by kernel_rfl) ?_
            refine KE.run 1 [(1, .slice t1a t1n t1k), (37, .bool false), (40, .bool true), (49, .bool false), (53, .slice t53a t53n t53k), (54, .pointer (some ⟨t2b, (t2o + 4), none⟩))] 96 23 (by kernel_rfl) fun J => ?_
            obtain ⟨t55a, t55n, t55k, q24, h⟩ := h
            refine KE.rdF (one_ld (by kernel_rfl) q24) (by kernel_rfl) ?_
            obtain ⟨t56, H_10, q25, h⟩ := h
            refine KE.se (one_ca (by kernel_rfl) q25) (by kernel_rfl) ?_
            refine KE.run 4 [(1, .slice t1a t1n t1k), (60, .bool (!t56))] 96 29 (by kernel_rfl) fun J => ?_
            obtain ⟨q26, q27, h⟩ := h
            refine KE.fin (H' := H_10) (by kernel_rfl) (rdsS (rfl) (rd_ok (Hs := [H_8, H_9]) (by kernel_rfl) (by kernel_rfl) ⟨one_ld (by kernel_rfl) q26, ⟨one_ld (by kernel_rfl) q27, trivial⟩⟩)) (by kernel_rfl) ?_
            exact KR.run 0 [(1, .slice t1a t1n t1k), (60, .bool (!t56))] 96 (s' := (.code (sub B [1, 1, 1, 1, 0, 1]) :: S6)) (by kernel_rfl) h
          · replace h := iteF c20 h
            refine KE.setV 49 (by kernel_rfl) (nB (bF c20)) ?_
            refine KE.run 2 [(1, .slice t1a t1n t1k), (2, .pointer (some ⟨t2b, t2o, none⟩)), (37, .bool false), (40, .bool true), (49, .bool true), (51, undef)] 96 20 (by kernel_rfl) fun J => ?_
            refine KE.no (Gc := H_7) (by kernel_rfl) (by kernel_rfl) (by kernel_rfl) ?_
            refine KE.no (Gc := H_7) (by kernel_rfl) (by kernel_rfl) (by kernel_rfl) ?_
            refine KE.run 2 [(1, .slice t1a t1n t1k), (37, .bool false), (40, .bool true), (49, .bool true), (53, undef), (55, undef)] 96 24 (by kernel_rfl) fun J => ?_
            refine KE.no (Gc := H_7) (by kernel_rfl) (by kernel_rfl) (by kernel_rfl) ?_
            refine KE.run 4 [(1, .slice t1a t1n t1k), (60, .bool true)] 96 29 (by kernel_rfl) fun J => ?_
            refine KE.fin (H' := H_7) (by kernel_rfl) (rfl) (by kernel_rfl) ?_
            exact KR.run 0 [(1, .slice t1a t1n t1k), (60, .bool true)] 96 (s' := (.code (sub B [1, 1, 1, 1, 0, 1]) :: S6)) (by kernel_rfl) h
        · replace h := iteF c16 h
          refine KE.setV 43 (by kernel_rfl) (nB (eF c16)) ?_
          refine KE.run 2 [(1, .slice t1a t1n t1k), (2, .pointer (some ⟨t2b, t2o, none⟩)), (37, .bool false), (40, .bool true), (43, .bool true), (44, undef), (45, undef)] 96 14 (by kernel_rfl) fun J => ?_
          refine KE.no (Gc := H_6) (by kernel_rfl) (by kernel_rfl) (by kernel_rfl) ?_
          refine KE.run 5 [(1, .slice t1a t1n t1k), (2, .pointer (some ⟨t2b, t2o, none⟩)), (37, .bool false), (40, .bool true), (49, .bool true), (51, undef)] 96 20 (by kernel_rfl) fun J => ?_
          refine KE.no (Gc := H_6) (by kernel_rfl) (by kernel_rfl) (by kernel_rfl) ?_
          refine KE.no (Gc := H_6) (by kernel_rfl) (by kernel_rfl) (by kernel_rfl) ?_
          refine KE.run 2 [(1, .slice t1a t1n t1k), (37, .bool false), (40, .bool true), (49, .bool true), (53, undef), (55, undef)] 96 24 (by kernel_rfl) fun J => ?_
          refine KE.no (Gc := H_6) (by kernel_rfl) (by kernel_rfl) (by kernel_rfl) ?_
          refine KE.run 4 [(1, .slice t1a t1n t1k), (60, .bool true)] 96 29 (by kernel_rfl) fun J => ?_
          refine KE.fin (H' := H_6) (by kernel_rfl) (rfl) (by kernel_rfl) ?_
          exact KR.run 0 [(1, .slice t1a t1n t1k), (60, .bool true)] 96 (s' := (.code (sub B [1, 1, 1, 1, 0, 1]) :: S6)) (by kernel_rfl) h
      · replace h := iteF c15 h
        refine KE.setV 40 (by kernel_rfl) (eF c15) ?_
        refine KE.run 5 [(1, .slice t1a t1n t1k), (2, .pointer (some ⟨t2b, t2o, none⟩)), (37, .bool false), (40, .bool false), (43, undef), (44, undef), (45, undef)] 96 14 (by kernel_rfl) fun J => ?_
        refine KE.no (Gc := H_6) (by kernel_rfl) (by kernel_rfl) (by kernel_rfl) ?_
        refine KE.run 5 [(1, .slice t1a t1n t1k), (2, .pointer (some ⟨t2b, t2o, none⟩)), (37, .bool false), (40, .bool false), (49, undef), (51, undef)] 96 20 (by kernel_rfl) fun J => ?_
        refine KE.no (Gc := H_6) (by kernel_rfl) (by kernel_rfl) (by kernel_rfl) ?_
        refine KE.no (Gc := H_6) (by kernel_rfl) (by kernel_rfl) (by kernel_rfl) ?_
        refine KE.run 2 [(1, .slice t1a t1n t1k), (37, .bool false), (40, .bool false), (49, undef), (53, undef), (55, undef)] 96 24 (by kernel_rfl) fun J => ?_
        refine KE.no (Gc := H_6) (by kernel_rfl) (by kernel_rfl) (by kernel_rfl) ?_
        refine KE.run 4 [(1, .slice t1a t1n t1k), (60, .bool false)] 96 29 (by kernel_rfl) fun J => ?_
        refine KE.fin (H' := H_6) (by kernel_rfl) (rfl) (by kernel_rfl) ?_
        exact KR.run 0 [(1, .slice t1a t1n t1k), (60, .bool false)] 96 (s' := (.code (sub B [1, 1, 1, 1, 0, 1]) :: S6)) (by kernel_rfl) h
    · replace h := iteF c14 h
      refine KE.setV 37 (by kernel_rfl) (nB (bF c14)) ?_
      refine KE.run 8 [(1, .slice t1a t1n t1k), (2, .pointer (some ⟨t2b, t2o, none⟩)), (37, .bool true), (40, undef), (43, undef), (44, undef), (45, undef)] 96 14 (by kernel_rfl) fun J => ?_
      refine KE.no (Gc := H_6) (by kernel_rfl) (by kernel_rfl) (by kernel_rfl) ?_
      refine KE.run 5 [(1, .slice t1a t1n t1k), (2, .pointer (some ⟨t2b, t2o, none⟩)), (37, .bool true), (40, undef), (49, undef), (51, undef)] 96 20 (by kernel_rfl) fun J => ?_
      refine KE.no (Gc := H_6) (by kernel_rfl) (by kernel_rfl) (by kernel_rfl) ?_
      refine KE.no (Gc := H_6) (by kernel_rfl) (by kernel_rfl) (by kernel_rfl) ?_
      refine KE.run 2 [(1, .slice t1a t1n t1k), (37, .bool true), (40, undef), (49, undef), (53, undef), (55, undef)] 96 24 (by kernel_rfl) fun J => ?_
      refine KE.no (Gc := H_6) (by kernel_rfl) (by kernel_rfl) (by kernel_rfl) ?_
      refine KE.run 4 [(1, .slice t1a t1n t1k), (60, .bool true)] 96 29 (by kernel_rfl) fun J => ?_
      refine KE.fin (H' := H_6) (by kernel_rfl) (rfl) (by kernel_rfl) ?_
      exact KR.run 0 [(1, .slice t1a t1n t1k), (60, .bool true)] 96 (s' := (.code (sub B [1, 1, 1, 1, 0, 1]) :: S6)) (by kernel_rfl) h
theorem L1_step {t1a : Option Addr} {t1n : Nat} {t1k : Nat} {t60 : Bool} {H : Heap} {r : Value × Heap} (h :
    if t60 = true then
    (r = (.bool false, H))
    else
    (∃ (t63r0c0 : Int) (t63r0c1 : Int) (t63r0c2 : Int) (t63r0c3 : Int) (t63r0c4a : Option Addr) (t63r0c4n : Nat) (t63r0c4k : Nat) (t63r0c5a : Option Addr) (t63r0c5n : Nat) (t63r0c5k : Nat) (t63r1 : Int) (H_1 : Heap), xC Try.prog good 43 [.slice t1a t1n t1k] H = some (.tuple #[.agg #[.int .i64 t63r0c0, .int .i64 t63r0c1, .int .i64 t63r0c2, .int .i64 t63r0c3, .slice t63r0c4a t63r0c4n t63r0c4k, .slice t63r0c5a t63r0c5n t63r0c5k], .int .i64 t63r1], H_1) ∧
    (∃ (H_2 : Heap), H_2 = H_1.push (.row [.int .i64 0, .int .i64 0, .int .i64 0, .int .i64 0, .slice none 0 0, .slice none 0 0] true) ∧
    (∃ (H_3 : Heap), stc H_2 H_1.next 0 [.int .i64 t63r0c0, .int .i64 t63r0c1, .int .i64 t63r0c2, .int .i64 t63r0c3, .slice t63r0c4a t63r0c4n t63r0c4k, .slice t63r0c5a t63r0c5n t63r0c5k] = some H_3 ∧
    (if t63r1 = 0 then
    (∃ (t76c0 : Int) (t76c1 : Int) (t76c2 : Int) (t76c3 : Int) (t76c4a : Option Addr) (t76c4n : Nat) (t76c4k : Nat) (t76c5a : Option Addr) (t76c5n : Nat) (t76c5k : Nat), ldAll H_3 H_1.next 0 [.int .i64 t76c0, .int .i64 t76c1, .int .i64 t76c2, .int .i64 t76c3, .slice t76c4a t76c4n t76c4k, .slice t76c5a t76c5n t76c5k] ∧
    (∃ (t77r0a : Option Addr) (t77r0n : Nat) (t77r0k : Nat) (t77r1 : Int) (H_4 : Heap), xC Try.prog good 41 [.agg #[.int .i64 t76c0, .int .i64 t76c1, .int .i64 t76c2, .int .i64 t76c3, .slice t76c4a t76c4n t76c4k, .slice t76c5a t76c5n t76c5k]] H_3 = some (.tuple #[.slice t77r0a t77r0n t77r0k, .int .i64 t77r1], H_4) ∧
    (if t77r1 = 0 then
    (∃ (t84 : ByteArray), pstrb H_4 t77r0a t77r0n = some t84 ∧
    (∃ (t86 : ByteArray), pstrb H_4 t1a t1n = some t86 ∧
    (if t84.toList = t86.toList then
    (∃ (t90c0 : Int) (t90c1 : Int) (t90c2 : Int) (t90c3 : Int) (t90c4a : Option Addr) (t90c4n : Nat) (t90c4k : Nat) (t90c5a : Option Addr) (t90c5n : Nat) (t90c5k : Nat), ldAll H_4 H_1.next 0 [.int .i64 t90c0, .int .i64 t90c1, .int .i64 t90c2, .int .i64 t90c3, .slice t90c4a t90c4n t90c4k, .slice t90c5a t90c5n t90c5k] ∧
    (∃ (t91 : Bool) (H_5 : Heap), xC Try.prog good 28 [.agg #[.int .i64 t90c0, .int .i64 t90c1, .int .i64 t90c2, .int .i64 t90c3, .slice t90c4a t90c4n t90c4k, .slice t90c5a t90c5n t90c5k]] H_4 = some (.bool t91, H_5) ∧
    (if t91 = true then
    (∃ (t94 : Bool) (H_6 : Heap), xC Try.prog good 20 [] H_5 = some (.bool t94, H_6) ∧
    (r = (.bool t94, H_6)))
    else
    (r = (.bool false, H_5)))))
    else
    (r = (.bool false, H_4)))))
    else
    (r = (.bool false, H_4)))))
    else
    (∃ (t69a : Option Addr) (t69n : Nat) (t69k : Nat), ldc H_3 H_1.next 5 = some (.slice t69a t69n t69k) ∧
    (if ((t69n : Nat) : Int) = 0 then
    (∃ (t73 : Bool) (H_7 : Heap), xC Try.prog good 20 [] H_3 = some (.bool t73, H_7) ∧
    (r = (.bool t73, H_7)))
    else
    (r = (.bool false, H_3))))))))) :
    L1 t1a t1n t1k t60 H r := by
  intro J
  show KR _ _ _ (.code (sub B [1, 1, 1, 1, 0, 1]) :: S6) _ _ _
  by_cases c28 : t60 = true
  · replace h := iteT c28 h
    refine KR.br true (by kernel_rfl) (vB (bT c28)) ?_
    refine KR.run 4 [(4, .bool false)] 96 (s' := (.code (sub B [1, 1, 1, 1, 0, 1, 0, 1]) :: S6)) (by kernel_rfl) fun J => ?_
    exact KR.fin (by kernel_rfl) h
  · replace h := iteF c28 h
    refine KR.br false (by kernel_rfl) (vB (bF c28)) ?_
    refine KR.run 4 [(1, .slice t1a t1n t1k), (62, .slice t1a t1n t1k)] 96 (s' := (.reg (opsAt (sub B [1, 1, 1, 1, 1, 0])) [1, 2, 3, 4, 5, 6, 7] :: S8)) (by kernel_rfl) fun J => ?_
    obtain ⟨t63r0c0, t63r0c1, t63r0c2, t63r0c3, t63r0c4a, t63r0c4n, t63r0c4k, t63r0c5a, t63r0c5n, t63r0c5k, t63r1, H_1, q29, h⟩ := h
    refine KR.se (one_ca (by kernel_rfl) q29) ?_
    refine KR.run 3 [(1, .slice t1a t1n t1k), (64, .agg #[.int .i64 t63r0c0, .int .i64 t63r0c1, .int .i64 t63r0c2, .int .i64 t63r0c3, .slice t63r0c4a t63r0c4n t63r0c4k, .slice t63r0c5a t63r0c5n t63r0c5k]), (65, .int .i64 t63r1)] 96 (s' := (.reg (opsAt (sub B [1, 1, 1, 1, 1, 0])) [5, 6, 7] :: S8)) (by kernel_rfl) fun J => ?_
    obtain ⟨H_2, q30, h⟩ := h
    refine KR.mk (w := pRow [.int .i64 0, .int .i64 0, .int .i64 0, .int .i64 0, .slice none 0 0, .slice none 0 0]) (one_al (by kernel_rfl)) q30 ?_
    obtain ⟨H_3, q31, h⟩ := h
    refine KR.se (one_st (by kernel_rfl) q31) ?_
    refine KR.run 8 [(1, .slice t1a t1n t1k), (9, .pointer (some ⟨H_1.next, 0, none⟩)), (67, .bool (!(t63r1 == 0)))] 96 (s' := (.code (sub B [1, 1, 1, 1, 1, 1, 0, 1]) :: S9)) (by kernel_rfl) fun J => ?_
    by_cases c32 : t63r1 = 0
    · replace h := iteT c32 h
      refine KR.br false (by kernel_rfl) (vB (nB (eT c32))) ?_
      refine KR.run 3 [(1, .slice t1a t1n t1k), (9, .pointer (some ⟨H_1.next, 0, none⟩))] 96 (s' := (.reg (opsAt (sub B [1, 1, 1, 1, 1, 1, 1, 0])) [0, 1, 2, 3, 4, 5, 6] :: S10)) (by kernel_rfl) fun J => ?_
      obtain ⟨t76c0, t76c1, t76c2, t76c3, t76c4a, t76c4n, t76c4k, t76c5a, t76c5n, t76c5k, q33, h⟩ := h
      refine KR.rd (one_ldA (by kernel_rfl) q33) ?_
      obtain ⟨t77r0a, t77r0n, t77r0k, t77r1, H_4, q34, h⟩ := h
      refine KR.se (one_ca (by kernel_rfl) q34) ?_
      refine KR.run 11 [(1, .slice t1a t1n t1k), (9, .pointer (some ⟨H_1.next, 0, none⟩)), (11, .slice t77r0a t77r0n t77r0k), (82, .bool (t77r1 == 0))] 96 (s' := (.reg (opsAt (sub B [1, 1, 1, 1, 1, 1, 1, 1, 0])) [3, 4, 5, 6, 7, 8, 9, 10, 11, 12, 13, 14, 15, 16] :: S11)) (by kernel_rfl) fun J => ?_
      by_cases c35 : t77r1 = 0
      · replace h := iteT c35 h
        refine KR.setV 82 (by kernel_rfl) (eT c35) ?_
        refine KR.run 1 [(1, .slice t1a t1n t1k), (9, .pointer (some ⟨H_1.next, 0, none⟩)), (82, .bool true), (83, .slice t77r0a t77r0n t77r0k)] 96 (s' := (.reg (opsAt (sub B [1, 1, 1, 1, 1, 1, 1, 1, 0])) [4, 5, 6, 7, 8, 9, 10, 11, 12, 13, 14, 15, 16] :: S11)) (by kernel_rfl) fun J => ?_
        obtain ⟨t84, q36, h⟩ := h
        refine KR.rd (one_str (by kernel_rfl) q36) ?_
        refine KR.run 1 [(9, .pointer (some ⟨H_1.next, 0, none⟩)), (82, .bool true), (84, .string t84), (85, .slice t1a t1n t1k)] 96 (s' := (.reg (opsAt (sub B [1, 1, 1, 1, 1, 1, 1, 1, 0])) [6, 7, 8, 9, 10, 11, 12, 13, 14, 15, 16] :: S11)) (by kernel_rfl) fun J => ?_
        obtain ⟨t86, q37, h⟩ := h
        refine KR.rd (one_str (by kernel_rfl) q37) ?_
        refine KR.run 3 [(9, .pointer (some ⟨H_1.next, 0, none⟩)), (89, .bool (t84.toList == t86.toList))] 96 (s' := (.reg (opsAt (sub B [1, 1, 1, 1, 1, 1, 1, 1, 0])) [10, 11, 12, 13, 14, 15, 16] :: S11)) (by kernel_rfl) fun J => ?_
        by_cases c38 : t84.toList = t86.toList
        · replace h := iteT c38 h
          refine KR.setV 89 (by kernel_rfl) (eT c38) ?_
          obtain ⟨t90c0, t90c1, t90c2, t90c3, t90c4a, t90c4n, t90c4k, t90c5a, t90c5n, t90c5k, q39, h⟩ := h
          refine KR.rd (one_ldA (by kernel_rfl) q39) ?_
          obtain ⟨t91, H_5, q40, h⟩ := h
          refine KR.se (one_ca (by kernel_rfl) q40) ?_
          refine KR.run 2 [(93, .bool t91)] 96 (s' := (.reg (opsAt (sub B [1, 1, 1, 1, 1, 1, 1, 1, 0])) [14, 15, 16] :: S11)) (by kernel_rfl) fun J => ?_
          by_cases c41 : t91 = true
          · replace h := iteT c41 h
            refine KR.setV 93 (by kernel_rfl) (bT c41) ?_
            obtain ⟨t94, H_6, q42, h⟩ := h
            refine KR.se (one_ca (by kernel_rfl) q42) ?_
            refine KR.run 3 [(4, .bool t94)] 96 (s' := (.code (sub B [1, 1, 1, 1, 1, 1, 1, 1, 1]) :: [])) (by kernel_rfl) fun J => ?_
            exact KR.fin (by kernel_rfl) h
          · replace h := iteF c41 h
            refine KR.setV 93 (by kernel_rfl) (bF c41) ?_
            refine KR.run 4 [(4, .bool false)] 96 (s' := (.code (sub B [1, 1, 1, 1, 1, 1, 1, 1, 1]) :: [])) (by kernel_rfl) fun J => ?_
            exact KR.fin (by kernel_rfl) h
        · replace h := iteF c38 h
          refine KR.setV 89 (by kernel_rfl) (eF c38) ?_
          refine KR.run 8 [(4, .bool false)] 96 (s' := (.code (sub B [1, 1, 1, 1, 1, 1, 1, 1, 1]) :: [])) (by kernel_rfl) fun J => ?_
          exact KR.fin (by kernel_rfl) h
      · replace h := iteF c35 h
        refine KR.setV 82 (by kernel_rfl) (eF c35) ?_
        refine KR.run 15 [(4, .bool false)] 96 (s' := (.code (sub B [1, 1, 1, 1, 1, 1, 1, 1, 1]) :: [])) (by kernel_rfl) fun J => ?_
        exact KR.fin (by kernel_rfl) h
    · replace h := iteF c32 h
      refine KR.br true (by kernel_rfl) (vB (nB (eF c32))) ?_
      refine KR.run 3 [(68, .pointer (some ⟨H_1.next, 5, none⟩))] 96 (s' := (.reg (opsAt (sub B [1, 1, 1, 1, 1, 1, 0, 1, 0, 0])) [1, 2, 3, 4, 5, 6, 7] :: S12)) (by kernel_rfl) fun J => ?_
      obtain ⟨t69a, t69n, t69k, q43, h⟩ := h
      refine KR.rd (one_ld (by kernel_rfl) q43) ?_
      refine KR.run 3 [(72, .bool (((t69n : Nat) : Int) == 0))] 96 (s' := (.reg (opsAt (sub B [1, 1, 1, 1, 1, 1, 0, 1, 0, 0])) [5, 6, 7] :: S12)) (by kernel_rfl) fun J => ?_
      by_cases c44 : ((t69n : Nat) : Int) = 0
      · replace h := iteT c44 h
        refine KR.setV 72 (by kernel_rfl) (eT c44) ?_
        obtain ⟨t73, H_7, q45, h⟩ := h
        refine KR.se (one_ca (by kernel_rfl) q45) ?_
        refine KR.run 3 [(4, .bool t73)] 96 (s' := (.code (sub B [1, 1, 1, 1, 1, 1, 0, 1, 0, 1]) :: S9)) (by kernel_rfl) fun J => ?_
        exact KR.fin (by kernel_rfl) h
      · replace h := iteF c44 h
        refine KR.setV 72 (by kernel_rfl) (eF c44) ?_
        refine KR.run 4 [(4, .bool false)] 96 (s' := (.code (sub B [1, 1, 1, 1, 1, 1, 0, 1, 0, 1]) :: S9)) (by kernel_rfl) fun J => ?_
        exact KR.fin (by kernel_rfl) h
theorem call {a0c0 : Int} {a0c1 : Int} {a0c2 : Int} {a0c3 : Int} {a0c4a : Option Addr} {a0c4n : Nat} {a0c4k : Nat} {a0c5a : Option Addr} {a0c5n : Nat} {a0c5k : Nat} {a1a : Option Addr} {a1n : Nat} {a1k : Nat} {H : Heap} {r : Value × Heap} (h :
    ∃ (H_1 : Heap), H_1 = H.push (.row [.int .i64 a0c0, .int .i64 a0c1, .int .i64 a0c2, .int .i64 a0c3, .slice a0c4a a0c4n a0c4k, .slice a0c5a a0c5n a0c5k] true) ∧
    (∃ (t13c0 : Int) (t13c1 : Int) (t13c2 : Int) (t13c3 : Int) (t13c4a : Option Addr) (t13c4n : Nat) (t13c4k : Nat) (t13c5a : Option Addr) (t13c5n : Nat) (t13c5k : Nat), ldAll H_1 H.next 0 [.int .i64 t13c0, .int .i64 t13c1, .int .i64 t13c2, .int .i64 t13c3, .slice t13c4a t13c4n t13c4k, .slice t13c5a t13c5n t13c5k] ∧
    (∃ (t14 : Bool) (H_2 : Heap), xC Try.prog good 27 [.agg #[.int .i64 t13c0, .int .i64 t13c1, .int .i64 t13c2, .int .i64 t13c3, .slice t13c4a t13c4n t13c4k, .slice t13c5a t13c5n t13c5k]] H_1 = some (.bool t14, H_2) ∧
    (if t14 = true then
    (L0 (a1a) (a1n) (a1k) (H.next) (0) ((decide (((a1n : Nat) : Int) > 200))) H_2 r)
    else
    (L0 (a1a) (a1n) (a1k) (H.next) (0) (true) H_2 r))))) :
    xC Try.prog good 12 [.agg #[.int .i64 a0c0, .int .i64 a0c1, .int .i64 a0c2, .int .i64 a0c3, .slice a0c4a a0c4n a0c4k, .slice a0c5a a0c5n a0c5k], .slice a1a a1n a1k] H = some r := by
  refine KR.enter (fn := Try.f12) (c := B) (by kernel_rfl) (by kernel_rfl) ?_
  refine KR.run 2 [(0, .agg #[.int .i64 a0c0, .int .i64 a0c1, .int .i64 a0c2, .int .i64 a0c3, .slice a0c4a a0c4n a0c4k, .slice a0c5a a0c5n a0c5k]), (1, .slice a1a a1n a1k)] 96 (s' := (.reg (opsAt (sub B [0])) [0, 1] :: S0)) (by kernel_rfl) fun J => ?_
  obtain ⟨H_1, q1, h⟩ := h
  refine KR.mk (w := pRow [.int .i64 a0c0, .int .i64 a0c1, .int .i64 a0c2, .int .i64 a0c3, .slice a0c4a a0c4n a0c4k, .slice a0c5a a0c5n a0c5k]) (one_al (by kernel_rfl)) q1 ?_
  refine KR.run 5 [(1, .slice a1a a1n a1k), (2, .pointer (some ⟨H.next, 0, none⟩))] 96 (s' := (.reg (opsAt (sub B [1, 0, 0])) [0, 1, 2, 3, 4, 5, 6, 7] :: S2)) (by kernel_rfl) fun J => ?_
  obtain ⟨t13c0, t13c1, t13c2, t13c3, t13c4a, t13c4n, t13c4k, t13c5a, t13c5n, t13c5k, q2, h⟩ := h
  refine KR.rd (one_ldA (by kernel_rfl) q2) ?_
  obtain ⟨t14, H_2, q3, h⟩ := h
  refine KR.se (one_ca (by kernel_rfl) q3) ?_
  refine KR.run 2 [(1, .slice a1a a1n a1k), (2, .pointer (some ⟨H.next, 0, none⟩)), (16, .bool (!t14))] 96 (s' := (.reg (opsAt (sub B [1, 0, 0])) [4, 5, 6, 7] :: S2)) (by kernel_rfl) fun J => ?_
  by_cases c4 : t14 = true
  · replace h := iteT c4 h
    refine KR.setV 16 (by kernel_rfl) (nB (bT c4)) ?_
    exact KR.run 5 [(1, .slice a1a a1n a1k), (2, .pointer (some ⟨H.next, 0, none⟩)), (20, .bool (decide (((a1n : Nat) : Int) > 200)))] 96 (s' := (.code (sub B [1, 0, 1]) :: S1)) (by kernel_rfl) h
  · replace h := iteF c4 h
    refine KR.setV 16 (by kernel_rfl) (nB (bF c4)) ?_
    exact KR.run 5 [(1, .slice a1a a1n a1k), (2, .pointer (some ⟨H.next, 0, none⟩)), (20, .bool true)] 96 (s' := (.code (sub B [1, 0, 1]) :: S1)) (by kernel_rfl) h
end F12
end Go.X
