/- The walks of the functions: printed. -/
import Derived.Test.YtbfjajoekcbodaaXzGe
set_option linter.unusedVariables false
set_option maxRecDepth 100000
namespace Go.X
open Go Go.RowKit Go.Proofs
/-! #### 12 campanile/campanilelaw7.FrameOne -/
namespace F12
noncomputable def B : Code := bodyOf Try.f12
noncomputable def S0 : List It := (.code (sub B [1]) :: [])
noncomputable def S1 : List It := (.code (sub B [1, 1]) :: [])
noncomputable def S4 : List It := (.code (sub B [1, 1, 1]) :: [])
noncomputable def S5 : List It := (.code (sub B [1, 1, 1, 1]) :: [])
noncomputable def S6 : List It := (.code (sub B [1, 1, 1, 1, 1]) :: [])
noncomputable def S9 : List It := (.code (sub B [1, 1, 1, 1, 1, 1]) :: [])
noncomputable def S2 : List It := (.code (sub B [1, 0, 1]) :: S1)
noncomputable def S3 : List It := (.code (sub B [1, 0, 1, 0, 1]) :: S1)
noncomputable def S7 : List It := (.code (sub B [1, 1, 1, 1, 0, 1]) :: S6)
noncomputable def S8 : List It := (.code (sub B [1, 1, 1, 1, 0, 1, 0, 1]) :: S6)
def L0 (t2b t2o t3b t3o : Nat) (t16 : Bool) (H : Heap) (r : Value × Heap) : Prop := ∀ J, KR Try.prog good Try.f12 S2 (mat J 52 [(2, .pointer (some ⟨t2b, t2o, none⟩)), (3, .pointer (some ⟨t3b, t3o, none⟩)), (16, .bool t16)]) H r
def L1 (t2b t2o t3b t3o : Nat) (t5a : Option Addr) (t5n t5k : Nat) (t7a : Option Addr) (t7n t7k : Nat) (t33 : Bool) (H : Heap) (r : Value × Heap) : Prop := ∀ J, KR Try.prog good Try.f12 S7 (mat J 52 [(2, .pointer (some ⟨t2b, t2o, none⟩)), (3, .pointer (some ⟨t3b, t3o, none⟩)), (5, .slice t5a t5n t5k), (7, .slice t7a t7n t7k), (33, .bool t33)]) H r
theorem L0_step {t2b t2o t3b t3o : Nat} {t16 : Bool} {H : Heap} {r : Value × Heap} (h :
    if t16 = true then
    (∃ (t17 : Bool) (H_1 : Heap), xC Try.prog good 27 [] H = some (.bool t17, H_1) ∧
    (r = (.bool t17, H_1)))
    else
    (∃ (t19c0 t19c1 t19c2 t19c3 : Int) (t19c4a : Option Addr) (t19c4n t19c4k : Nat) (t19c5a : Option Addr) (t19c5n t19c5k : Nat), ldAll H t2b t2o [.int .i64 t19c0, .int .i64 t19c1, .int .i64 t19c2, .int .i64 t19c3, .slice t19c4a t19c4n t19c4k, .slice t19c5a t19c5n t19c5k] ∧
    (∃ (t20r0a : Option Addr) (t20r0n t20r0k : Nat) (t20r1 : Int) (H_2 : Heap), xC Try.prog good 33 [.agg #[.int .i64 t19c0, .int .i64 t19c1, .int .i64 t19c2, .int .i64 t19c3, .slice t19c4a t19c4n t19c4k, .slice t19c5a t19c5n t19c5k]] H = some (.tuple #[.slice t20r0a t20r0n t20r0k, .int .i64 t20r1], H_2) ∧
    (∃ (t24c0 t24c1 t24c2 t24c3 : Int) (t24c4a : Option Addr) (t24c4n t24c4k : Nat) (t24c5a : Option Addr) (t24c5n t24c5k : Nat), ldAll H_2 t3b t3o [.int .i64 t24c0, .int .i64 t24c1, .int .i64 t24c2, .int .i64 t24c3, .slice t24c4a t24c4n t24c4k, .slice t24c5a t24c5n t24c5k] ∧
    (∃ (t25r0a : Option Addr) (t25r0n t25r0k : Nat) (t25r1 : Int) (H_3 : Heap), xC Try.prog good 33 [.agg #[.int .i64 t24c0, .int .i64 t24c1, .int .i64 t24c2, .int .i64 t24c3, .slice t24c4a t24c4n t24c4k, .slice t24c5a t24c5n t24c5k]] H_2 = some (.tuple #[.slice t25r0a t25r0n t25r0k, .int .i64 t25r1], H_3) ∧
    (if t20r1 = 0 then
    (L1 t2b t2o t3b t3o t20r0a t20r0n t20r0k t25r0a t25r0n t25r0k ((!(t25r1 == 0))) H_3 r)
    else
    (L1 t2b t2o t3b t3o t20r0a t20r0n t20r0k t25r0a t25r0n t25r0k true H_3 r))))))) :
    L0 t2b t2o t3b t3o t16 H r := by
  intro J
  show KR _ _ _ (.code (sub B [1, 0, 1]) :: S1) _ _ _
  by_cases c8 : t16 = true
  · replace h := iteT c8 h
    refine KR.br true (by kernel_rfl) (vB (bT c8)) ?_
    refine KR.go 2 [] 52 (s' := (.reg (opsAt (sub B [1, 0, 1, 0, 0])) [0, 1] :: S3)) fun J => ?_
    obtain ⟨t17, H_1, q9, h⟩ := h
    refine KR.se (one_ca (by kernel_rfl) q9) ?_
    refine KR.go 2 [(4, .bool t17)] 52 (s' := (.code (sub B [1, 0, 1, 0, 1]) :: S1)) fun J => ?_
    exact KR.fin (by kernel_rfl) h
  · replace h := iteF c8 h
    refine KR.br false (by kernel_rfl) (vB (bF c8)) ?_
    refine KR.go 3 [(2, .pointer (some ⟨t2b, t2o, none⟩)), (3, .pointer (some ⟨t3b, t3o, none⟩))] 52 (s' := (.reg (opsAt (sub B [1, 1, 0])) [0, 1, 2, 3, 4, 5, 6] :: S4)) fun J => ?_
    obtain ⟨t19c0, t19c1, t19c2, t19c3, t19c4a, t19c4n, t19c4k, t19c5a, t19c5n, t19c5k, q10, h⟩ := h
    refine KR.rd (one_ldA (by kernel_rfl) q10) ?_
    obtain ⟨t20r0a, t20r0n, t20r0k, t20r1, H_2, q11, h⟩ := h
    refine KR.se (one_ca (by kernel_rfl) q11) ?_
    refine KR.go 8 [(2, .pointer (some ⟨t2b, t2o, none⟩)), (3, .pointer (some ⟨t3b, t3o, none⟩)), (5, .slice t20r0a t20r0n t20r0k), (6, .int .i64 t20r1)] 52 (s' := (.reg (opsAt (sub B [1, 1, 1, 0])) [0, 1, 2, 3, 4, 5, 6] :: S5)) fun J => ?_
    obtain ⟨t24c0, t24c1, t24c2, t24c3, t24c4a, t24c4n, t24c4k, t24c5a, t24c5n, t24c5k, q12, h⟩ := h
    refine KR.rd (one_ldA (by kernel_rfl) q12) ?_
    obtain ⟨t25r0a, t25r0n, t25r0k, t25r1, H_3, q13, h⟩ := h
    refine KR.se (one_ca (by kernel_rfl) q13) ?_
    refine KR.go 12 [(2, .pointer (some ⟨t2b, t2o, none⟩)), (3, .pointer (some ⟨t3b, t3o, none⟩)), (5, .slice t20r0a t20r0n t20r0k), (7, .slice t25r0a t25r0n t25r0k), (8, .int .i64 t25r1), (30, .bool (!(t20r1 == 0)))] 52 (s' := (.reg (opsAt (sub B [1, 1, 1, 1, 0, 0])) [3, 4, 5] :: S7)) fun J => ?_
    by_cases c14 : t20r1 = 0
    · replace h := iteT c14 h
      refine KR.setV 30 (by kernel_rfl) (nB (eT c14)) ?_
      exact KR.go 4 [(2, .pointer (some ⟨t2b, t2o, none⟩)), (3, .pointer (some ⟨t3b, t3o, none⟩)), (5, .slice t20r0a t20r0n t20r0k), (7, .slice t25r0a t25r0n t25r0k), (33, .bool (!(t25r1 == 0)))] 52 (s' := (.code (sub B [1, 1, 1, 1, 0, 1]) :: S6)) h
    · replace h := iteF c14 h
      refine KR.setV 30 (by kernel_rfl) (nB (eF c14)) ?_
      exact KR.go 4 [(2, .pointer (some ⟨t2b, t2o, none⟩)), (3, .pointer (some ⟨t3b, t3o, none⟩)), (5, .slice t20r0a t20r0n t20r0k), (7, .slice t25r0a t25r0n t25r0k), (33, .bool true)] 52 (s' := (.code (sub B [1, 1, 1, 1, 0, 1]) :: S6)) h
theorem L1_step {t2b t2o t3b t3o : Nat} {t5a : Option Addr} {t5n t5k : Nat} {t7a : Option Addr} {t7n t7k : Nat} {t33 : Bool} {H : Heap} {r : Value × Heap} (h :
    if t33 = true then
    (∃ (t34 : Bool) (H_1 : Heap), xC Try.prog good 27 [] H = some (.bool t34, H_1) ∧
    (r = (.bool t34, H_1)))
    else
    (∃ (t36 : ByteArray), pstrb H t5a t5n = some t36 ∧
    (∃ (t38 : ByteArray), pstrb H t7a t7n = some t38 ∧
    (∃ (t40c0 t40c1 t40c2 t40c3 : Int) (t40c4a : Option Addr) (t40c4n t40c4k : Nat) (t40c5a : Option Addr) (t40c5n t40c5k : Nat), ldAll H t2b t2o [.int .i64 t40c0, .int .i64 t40c1, .int .i64 t40c2, .int .i64 t40c3, .slice t40c4a t40c4n t40c4k, .slice t40c5a t40c5n t40c5k] ∧
    (∃ (t41c0 t41c1 t41c2 t41c3 : Int) (t41c4a : Option Addr) (t41c4n t41c4k : Nat) (t41c5a : Option Addr) (t41c5n t41c5k : Nat), ldAll H t3b t3o [.int .i64 t41c0, .int .i64 t41c1, .int .i64 t41c2, .int .i64 t41c3, .slice t41c4a t41c4n t41c4k, .slice t41c5a t41c5n t41c5k] ∧
    (∃ (t42 : Bool) (H_2 : Heap), xC Try.prog good 36 [.agg #[.int .i64 t40c0, .int .i64 t40c1, .int .i64 t40c2, .int .i64 t40c3, .slice t40c4a t40c4n t40c4k, .slice t40c5a t40c5n t40c5k], .agg #[.int .i64 t41c0, .int .i64 t41c1, .int .i64 t41c2, .int .i64 t41c3, .slice t41c4a t41c4n t41c4k, .slice t41c5a t41c5n t41c5k]] H = some (.bool t42, H_2) ∧
    (if ((t36.toList == t38.toList) == t42) = true then
    (∃ (t45c0 t45c1 t45c2 t45c3 : Int) (t45c4a : Option Addr) (t45c4n t45c4k : Nat) (t45c5a : Option Addr) (t45c5n t45c5k : Nat), ldAll H_2 t2b t2o [.int .i64 t45c0, .int .i64 t45c1, .int .i64 t45c2, .int .i64 t45c3, .slice t45c4a t45c4n t45c4k, .slice t45c5a t45c5n t45c5k] ∧
    (∃ (t46c0 t46c1 t46c2 t46c3 : Int) (t46c4a : Option Addr) (t46c4n t46c4k : Nat) (t46c5a : Option Addr) (t46c5n t46c5k : Nat), ldAll H_2 t2b t2o [.int .i64 t46c0, .int .i64 t46c1, .int .i64 t46c2, .int .i64 t46c3, .slice t46c4a t46c4n t46c4k, .slice t46c5a t46c5n t46c5k] ∧
    (∃ (t47 : Bool) (H_3 : Heap), xC Try.prog good 36 [.agg #[.int .i64 t45c0, .int .i64 t45c1, .int .i64 t45c2, .int .i64 t45c3, .slice t45c4a t45c4n t45c4k, .slice t45c5a t45c5n t45c5k], .agg #[.int .i64 t46c0, .int .i64 t46c1, .int .i64 t46c2, .int .i64 t46c3, .slice t46c4a t46c4n t46c4k, .slice t46c5a t46c5n t46c5k]] H_2 = some (.bool t47, H_3) ∧
    (if t47 = true then
    (∃ (t50 : Bool) (H_4 : Heap), xC Try.prog good 27 [] H_3 = some (.bool t50, H_4) ∧
    (pstrb H_2 t5a t5n = some t36 ∧
    pstrb H_2 t7a t7n = some t38 ∧
    (r = (.bool t50, H_4))))
    else
    (pstrb H_2 t5a t5n = some t36 ∧
    pstrb H_2 t7a t7n = some t38 ∧
    (r = (.bool false, H_3)))))))
    else
    (pstrb H_2 t5a t5n = some t36 ∧
    pstrb H_2 t7a t7n = some t38 ∧
    (r = (.bool false, H_2)))))))))) :
    L1 t2b t2o t3b t3o t5a t5n t5k t7a t7n t7k t33 H r := by
  intro J
  show KR _ _ _ (.code (sub B [1, 1, 1, 1, 0, 1]) :: S6) _ _ _
  by_cases c15 : t33 = true
  · replace h := iteT c15 h
    refine KR.br true (by kernel_rfl) (vB (bT c15)) ?_
    refine KR.go 2 [] 52 (s' := (.reg (opsAt (sub B [1, 1, 1, 1, 0, 1, 0, 0])) [0, 1] :: S8)) fun J => ?_
    obtain ⟨t34, H_1, q16, h⟩ := h
    refine KR.se (one_ca (by kernel_rfl) q16) ?_
    refine KR.go 2 [(4, .bool t34)] 52 (s' := (.code (sub B [1, 1, 1, 1, 0, 1, 0, 1]) :: S6)) fun J => ?_
    exact KR.fin (by kernel_rfl) h
  · replace h := iteF c15 h
    refine KR.br false (by kernel_rfl) (vB (bF c15)) ?_
    refine KR.go 2 [(2, .pointer (some ⟨t2b, t2o, none⟩)), (3, .pointer (some ⟨t3b, t3o, none⟩)), (5, .slice t5a t5n t5k), (7, .slice t7a t7n t7k)] 52 (s' := (.code (sub B [1, 1, 1, 1, 1, 0]) :: S9)) fun J => ?_
    refine KE.start H (by kernel_rfl) (by kernel_rfl) ?_
    refine KE.run 1 [(2, .pointer (some ⟨t2b, t2o, none⟩)), (3, .pointer (some ⟨t3b, t3o, none⟩)), (7, .slice t7a t7n t7k), (35, .slice t5a t5n t5k)] 52 1 (by kernel_rfl) fun J => ?_
    obtain ⟨t36, q17, h⟩ := h
    refine KE.rdF (one_str (by kernel_rfl) q17) (by kernel_rfl) ?_
    refine KE.run 1 [(2, .pointer (some ⟨t2b, t2o, none⟩)), (3, .pointer (some ⟨t3b, t3o, none⟩)), (36, .string t36), (37, .slice t7a t7n t7k)] 52 3 (by kernel_rfl) fun J => ?_
    obtain ⟨t38, q18, h⟩ := h
    refine KE.rdF (one_str (by kernel_rfl) q18) (by kernel_rfl) ?_
    refine KE.run 1 [(2, .pointer (some ⟨t2b, t2o, none⟩)), (3, .pointer (some ⟨t3b, t3o, none⟩)), (39, .bool (t36.toList == t38.toList))] 52 5 (by kernel_rfl) fun J => ?_
    obtain ⟨t40c0, t40c1, t40c2, t40c3, t40c4a, t40c4n, t40c4k, t40c5a, t40c5n, t40c5k, q19, h⟩ := h
    refine KE.rdN (one_ldA (by kernel_rfl) q19) (by kernel_rfl) ?_
    obtain ⟨t41c0, t41c1, t41c2, t41c3, t41c4a, t41c4n, t41c4k, t41c5a, t41c5n, t41c5k, q20, h⟩ := h
    refine KE.rdN (one_ldA (by kernel_rfl) q20) (by kernel_rfl) ?_
    obtain ⟨t42, H_2, q21, h⟩ := h
    refine KE.se (one_ca (by kernel_rfl) q21) (by kernel_rfl) ?_
    refine KE.run 2 [(2, .pointer (some ⟨t2b, t2o, none⟩)), (44, .bool ((t36.toList == t38.toList) == t42))] 52 10 (by kernel_rfl) fun J => ?_
    by_cases c22 : ((t36.toList == t38.toList) == t42) = true
    · replace h := iteT c22 h
      refine KE.setV 44 (by kernel_rfl) (bT c22) ?_
      obtain ⟨t45c0, t45c1, t45c2, t45c3, t45c4a, t45c4n, t45c4k, t45c5a, t45c5n, t45c5k, q23, h⟩ := h
      refine KE.rdN (one_ldA (by kernel_rfl) q23) (by kernel_rfl) ?_
      obtain ⟨t46c0, t46c1, t46c2, t46c3, t46c4a, t46c4n, t46c4k, t46c5a, t46c5n, t46c5k, q24, h⟩ := h
      refine KE.rdN (one_ldA (by kernel_rfl) q24) (by kernel_rfl) ?_
      obtain ⟨t47, H_3, q25, h⟩ := h
      refine KE.se (one_ca (by kernel_rfl) q25) (by kernel_rfl) ?_
      refine KE.run 2 [(49, .bool t47)] 52 15 (by kernel_rfl) fun J => ?_
      by_cases c26 : t47 = true
      · replace h := iteT c26 h
        refine KE.setV 49 (by kernel_rfl) (bT c26) ?_
        obtain ⟨t50, H_4, q27, h⟩ := h
        refine KE.se (one_ca (by kernel_rfl) q27) (by kernel_rfl) ?_
        refine KE.run 2 [(4, .bool t50)] 52 18 (by kernel_rfl) fun J => ?_
        obtain ⟨q28, q29, h⟩ := h
        refine KE.fin (H' := H_4) (by kernel_rfl) (rdsS (rdsS rfl (rd_ok (Hs := [H_2]) (by kernel_rfl) (by kernel_rfl) ⟨one_str (by kernel_rfl) q28, trivial⟩)) (rd_ok (Hs := [H_2]) (by kernel_rfl) (by kernel_rfl) ⟨one_str (by kernel_rfl) q29, trivial⟩)) (by kernel_rfl) ?_
        refine KR.go 0 [(4, .bool t50)] 52 (s' := (.code (sub B [1, 1, 1, 1, 1, 1]) :: [])) fun J => ?_
        exact KR.fin (by kernel_rfl) h
      · replace h := iteF c26 h
        refine KE.setV 49 (by kernel_rfl) (bF c26) ?_
        refine KE.no (Gc := H_3) (by kernel_rfl) (by kernel_rfl) (by kernel_rfl) ?_
        refine KE.run 2 [(4, .bool false)] 52 18 (by kernel_rfl) fun J => ?_
        obtain ⟨q30, q31, h⟩ := h
        refine KE.fin (H' := H_3) (by kernel_rfl) (rdsS (rdsS rfl (rd_ok (Hs := [H_2]) (by kernel_rfl) (by kernel_rfl) ⟨one_str (by kernel_rfl) q30, trivial⟩)) (rd_ok (Hs := [H_2]) (by kernel_rfl) (by kernel_rfl) ⟨one_str (by kernel_rfl) q31, trivial⟩)) (by kernel_rfl) ?_
        refine KR.go 0 [(4, .bool false)] 52 (s' := (.code (sub B [1, 1, 1, 1, 1, 1]) :: [])) fun J => ?_
        exact KR.fin (by kernel_rfl) h
    · replace h := iteF c22 h
      refine KE.setV 44 (by kernel_rfl) (bF c22) ?_
      refine KE.run 2 [(44, .bool false), (45, undef), (46, undef)] 52 12 (by kernel_rfl) fun J => ?_
      refine KE.no (Gc := H_2) (by kernel_rfl) (by kernel_rfl) (by kernel_rfl) ?_
      refine KE.run 2 [(49, .bool false)] 52 15 (by kernel_rfl) fun J => ?_
      refine KE.no (Gc := H_2) (by kernel_rfl) (by kernel_rfl) (by kernel_rfl) ?_
      refine KE.run 2 [(4, .bool false)] 52 18 (by kernel_rfl) fun J => ?_
      obtain ⟨q32, q33, h⟩ := h
      refine KE.fin (H' := H_2) (by kernel_rfl) (rdsS (rdsS rfl (rd_ok (Hs := [H_2]) (by kernel_rfl) (by kernel_rfl) ⟨one_str (by kernel_rfl) q32, trivial⟩)) (rd_ok (Hs := [H_2]) (by kernel_rfl) (by kernel_rfl) ⟨one_str (by kernel_rfl) q33, trivial⟩)) (by kernel_rfl) ?_
      refine KR.go 0 [(4, .bool false)] 52 (s' := (.code (sub B [1, 1, 1, 1, 1, 1]) :: [])) fun J => ?_
      exact KR.fin (by kernel_rfl) h
theorem call {a0c0 a0c1 a0c2 a0c3 : Int} {a0c4a : Option Addr} {a0c4n a0c4k : Nat} {a0c5a : Option Addr} {a0c5n a0c5k : Nat} {a1c0 a1c1 a1c2 a1c3 : Int} {a1c4a : Option Addr} {a1c4n a1c4k : Nat} {a1c5a : Option Addr} {a1c5n a1c5k : Nat} {H : Heap} {r : Value × Heap} (h :
    ∃ (H_1 : Heap), H_1 = H.push (.row [.int .i64 a0c0, .int .i64 a0c1, .int .i64 a0c2, .int .i64 a0c3, .slice a0c4a a0c4n a0c4k, .slice a0c5a a0c5n a0c5k] true) ∧
    (∃ (H_2 : Heap), H_2 = H_1.push (.row [.int .i64 a1c0, .int .i64 a1c1, .int .i64 a1c2, .int .i64 a1c3, .slice a1c4a a1c4n a1c4k, .slice a1c5a a1c5n a1c5k] true) ∧
    (∃ (t9c0 t9c1 t9c2 t9c3 : Int) (t9c4a : Option Addr) (t9c4n t9c4k : Nat) (t9c5a : Option Addr) (t9c5n t9c5k : Nat), ldAll H_2 H.next 0 [.int .i64 t9c0, .int .i64 t9c1, .int .i64 t9c2, .int .i64 t9c3, .slice t9c4a t9c4n t9c4k, .slice t9c5a t9c5n t9c5k] ∧
    (∃ (t10 : Bool) (H_3 : Heap), xC Try.prog good 26 [.agg #[.int .i64 t9c0, .int .i64 t9c1, .int .i64 t9c2, .int .i64 t9c3, .slice t9c4a t9c4n t9c4k, .slice t9c5a t9c5n t9c5k]] H_2 = some (.bool t10, H_3) ∧
    (if t10 = true then
    (∃ (t13c0 t13c1 t13c2 t13c3 : Int) (t13c4a : Option Addr) (t13c4n t13c4k : Nat) (t13c5a : Option Addr) (t13c5n t13c5k : Nat), ldAll H_3 H_1.next 0 [.int .i64 t13c0, .int .i64 t13c1, .int .i64 t13c2, .int .i64 t13c3, .slice t13c4a t13c4n t13c4k, .slice t13c5a t13c5n t13c5k] ∧
    (∃ (t14 : Bool) (H_4 : Heap), xC Try.prog good 26 [.agg #[.int .i64 t13c0, .int .i64 t13c1, .int .i64 t13c2, .int .i64 t13c3, .slice t13c4a t13c4n t13c4k, .slice t13c5a t13c5n t13c5k]] H_3 = some (.bool t14, H_4) ∧
    (L0 (H.next) 0 (H_1.next) 0 ((!t14)) H_4 r)))
    else
    (L0 (H.next) 0 (H_1.next) 0 true H_3 r)))))) :
    xC Try.prog good 12 [.agg #[.int .i64 a0c0, .int .i64 a0c1, .int .i64 a0c2, .int .i64 a0c3, .slice a0c4a a0c4n a0c4k, .slice a0c5a a0c5n a0c5k], .agg #[.int .i64 a1c0, .int .i64 a1c1, .int .i64 a1c2, .int .i64 a1c3, .slice a1c4a a1c4n a1c4k, .slice a1c5a a1c5n a1c5k]] H = some r := by
  refine KR.enter (fn := Try.f12) (c := B) (by kernel_rfl) (by kernel_rfl) ?_
  refine KR.go 2 [(0, .agg #[.int .i64 a0c0, .int .i64 a0c1, .int .i64 a0c2, .int .i64 a0c3, .slice a0c4a a0c4n a0c4k, .slice a0c5a a0c5n a0c5k]), (1, .agg #[.int .i64 a1c0, .int .i64 a1c1, .int .i64 a1c2, .int .i64 a1c3, .slice a1c4a a1c4n a1c4k, .slice a1c5a a1c5n a1c5k])] 52 (s' := (.reg (opsAt (sub B [0])) [0, 1, 2] :: S0)) fun J => ?_
  obtain ⟨H_1, q1, h⟩ := h
  refine KR.mk (w := pRow [.int .i64 a0c0, .int .i64 a0c1, .int .i64 a0c2, .int .i64 a0c3, .slice a0c4a a0c4n a0c4k, .slice a0c5a a0c5n a0c5k]) (one_al (by kernel_rfl)) q1 ?_
  obtain ⟨H_2, q2, h⟩ := h
  refine KR.mk (w := pRow [.int .i64 a1c0, .int .i64 a1c1, .int .i64 a1c2, .int .i64 a1c3, .slice a1c4a a1c4n a1c4k, .slice a1c5a a1c5n a1c5k]) (one_al (by kernel_rfl)) q2 ?_
  refine KR.go 5 [(2, .pointer (some ⟨H.next, 0, none⟩)), (3, .pointer (some ⟨H_1.next, 0, none⟩))] 52 (s' := (.reg (opsAt (sub B [1, 0, 0])) [0, 1, 2, 3, 4, 5, 6, 7] :: S2)) fun J => ?_
  obtain ⟨t9c0, t9c1, t9c2, t9c3, t9c4a, t9c4n, t9c4k, t9c5a, t9c5n, t9c5k, q3, h⟩ := h
  refine KR.rd (one_ldA (by kernel_rfl) q3) ?_
  obtain ⟨t10, H_3, q4, h⟩ := h
  refine KR.se (one_ca (by kernel_rfl) q4) ?_
  refine KR.go 2 [(2, .pointer (some ⟨H.next, 0, none⟩)), (3, .pointer (some ⟨H_1.next, 0, none⟩)), (12, .bool (!t10))] 52 (s' := (.reg (opsAt (sub B [1, 0, 0])) [4, 5, 6, 7] :: S2)) fun J => ?_
  by_cases c5 : t10 = true
  · replace h := iteT c5 h
    refine KR.setV 12 (by kernel_rfl) (nB (bT c5)) ?_
    obtain ⟨t13c0, t13c1, t13c2, t13c3, t13c4a, t13c4n, t13c4k, t13c5a, t13c5n, t13c5k, q6, h⟩ := h
    refine KR.rd (one_ldA (by kernel_rfl) q6) ?_
    obtain ⟨t14, H_4, q7, h⟩ := h
    refine KR.se (one_ca (by kernel_rfl) q7) ?_
    exact KR.go 3 [(2, .pointer (some ⟨H.next, 0, none⟩)), (3, .pointer (some ⟨H_1.next, 0, none⟩)), (16, .bool (!t14))] 52 (s' := (.code (sub B [1, 0, 1]) :: S1)) h
  · replace h := iteF c5 h
    refine KR.setV 12 (by kernel_rfl) (nB (bF c5)) ?_
    exact KR.go 5 [(2, .pointer (some ⟨H.next, 0, none⟩)), (3, .pointer (some ⟨H_1.next, 0, none⟩)), (16, .bool true)] 52 (s' := (.code (sub B [1, 0, 1]) :: S1)) h
end F12
end Go.X
