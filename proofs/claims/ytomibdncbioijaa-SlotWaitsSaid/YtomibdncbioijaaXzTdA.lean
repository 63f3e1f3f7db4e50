/- The walks of the functions: printed. -/
import Derived.Test.YtomibdncbioijaaXzGd
set_option linter.unusedVariables false
set_option maxRecDepth 100000
namespace Go.X
open Go Go.RowKit Go.Proofs
/-! #### 3 campanile/campanilelaw9.SlotForms -/
namespace F3
noncomputable def B : Code := bodyOf Try.f3
noncomputable def S0 : List It := (.code (sub B [1, 1]) :: [])
noncomputable def S3 : List It := (.code (sub B [1, 1, 1]) :: [])
noncomputable def S1 : List It := (.code (sub B [1, 0, 1]) :: S0)
noncomputable def S2 : List It := (.code (sub B [1, 0, 1, 0, 1]) :: S0)
def L0 (t0a : Option Addr) (t0n : Nat) (t0k : Nat) (t1a : Option Addr) (t1n : Nat) (t1k : Nat) (t2 : Bool) (t14 : Bool) (H : Heap) (r : Value × Heap) : Prop := ∀ J, KR Try.prog good Try.f3 S1 (mat J 28 [(0, .slice t0a t0n t0k), (1, .slice t1a t1n t1k), (2, .bool t2), (14, .bool t14)]) H r
theorem L0_step {t0a : Option Addr} {t0n : Nat} {t0k : Nat} {t1a : Option Addr} {t1n : Nat} {t1k : Nat} {t2 : Bool} {t14 : Bool} {H : Heap} {r : Value × Heap} (h :
    if t14 = true then
    (∃ (t15 : Bool) (H_1 : Heap), xC Try.prog good 12 [] H = some (.bool t15, H_1) ∧
    (r = (.bool t15, H_1)))
    else
    (∃ (t19c0 : Int) (t19c1 : Int) (t19c2 : Int) (t19c3 : Int) (t19c4 : Int) (t19c5 : Int) (t19c6 : Int) (H_2 : Heap), xC Try.prog good 13 [.slice t0a t0n t0k, .slice t1a t1n t1k, .bool t2] H = some (.agg #[.int .i64 t19c0, .int .i64 t19c1, .int .i64 t19c2, .int .i64 t19c3, .int .i64 t19c4, .int .i64 t19c5, .int .i64 t19c6], H_2) ∧
    (∃ (t23c0 : Int) (t23c1 : Int) (t23c2 : Int) (t23c3 : Int) (t23c4 : Int) (t23c5 : Int) (t23c6 : Int) (H_3 : Heap), xC Try.prog good 14 [.slice t0a t0n t0k, .slice t1a t1n t1k, .bool t2] H_2 = some (.agg #[.int .i64 t23c0, .int .i64 t23c1, .int .i64 t23c2, .int .i64 t23c3, .int .i64 t23c4, .int .i64 t23c5, .int .i64 t23c6], H_3) ∧
    (if ((t19c0 == t23c0) && (((t19c1 == t23c1) && ((t19c2 == t23c2) && ((t19c3 == t23c3) && ((t19c4 == t23c4) && ((t19c5 == t23c5) && true))))) && ((t19c6 == t23c6) && true))) = true then
    (∃ (t26 : Bool) (H_4 : Heap), xC Try.prog good 12 [] H_3 = some (.bool t26, H_4) ∧
    (r = (.bool t26, H_4)))
    else
    (r = (.bool false, H_3)))))) :
    L0 t0a t0n t0k t1a t1n t1k t2 t14 H r := by
  intro J
  show KR _ _ _ (.code (sub B [1, 0, 1]) :: S0) _ _ _
  by_cases c2 : t14 = true
  · replace h := iteT c2 h
    refine KR.br true (by kernel_rfl) (vB (bT c2)) ?_
    refine KR.run 2 [] 28 (s' := (.reg (opsAt (sub B [1, 0, 1, 0, 0])) [0, 1] :: S2)) (by kernel_rfl) fun J => ?_
    obtain ⟨t15, H_1, q3, h⟩ := h
    refine KR.se (one_ca (by kernel_rfl) q3) ?_
    refine KR.run 2 [(6, .bool t15)] 28 (s' := (.code (sub B [1, 0, 1, 0, 1]) :: S0)) (by kernel_rfl) fun J => ?_
    exact KR.fin (by kernel_rfl) h
  · replace h := iteF c2 h
    refine KR.br false (by kernel_rfl) (vB (bF c2)) ?_
    refine KR.run 6 [(0, .slice t0a t0n t0k), (1, .slice t1a t1n t1k), (2, .bool t2), (16, .slice t0a t0n t0k), (17, .slice t1a t1n t1k), (18, .bool t2)] 28 (s' := (.reg (opsAt (sub B [1, 1, 0])) [3, 4, 5, 6, 7, 8, 9, 10, 11, 12] :: S3)) (by kernel_rfl) fun J => ?_
    obtain ⟨t19c0, t19c1, t19c2, t19c3, t19c4, t19c5, t19c6, H_2, q4, h⟩ := h
    refine KR.se (one_ca (by kernel_rfl) q4) ?_
    refine KR.run 3 [(19, .agg #[.int .i64 t19c0, .int .i64 t19c1, .int .i64 t19c2, .int .i64 t19c3, .int .i64 t19c4, .int .i64 t19c5, .int .i64 t19c6]), (20, .slice t0a t0n t0k), (21, .slice t1a t1n t1k), (22, .bool t2)] 28 (s' := (.reg (opsAt (sub B [1, 1, 0])) [7, 8, 9, 10, 11, 12] :: S3)) (by kernel_rfl) fun J => ?_
    obtain ⟨t23c0, t23c1, t23c2, t23c3, t23c4, t23c5, t23c6, H_3, q5, h⟩ := h
    refine KR.se (one_ca (by kernel_rfl) q5) ?_
    refine KR.run 2 [(25, .bool ((t19c0 == t23c0) && (((t19c1 == t23c1) && ((t19c2 == t23c2) && ((t19c3 == t23c3) && ((t19c4 == t23c4) && ((t19c5 == t23c5) && true))))) && ((t19c6 == t23c6) && true))))] 28 (s' := (.reg (opsAt (sub B [1, 1, 0])) [10, 11, 12] :: S3)) (by kernel_rfl) fun J => ?_
    by_cases c6 : ((t19c0 == t23c0) && (((t19c1 == t23c1) && ((t19c2 == t23c2) && ((t19c3 == t23c3) && ((t19c4 == t23c4) && ((t19c5 == t23c5) && true))))) && ((t19c6 == t23c6) && true))) = true
    · replace h := iteT c6 h
      refine KR.setV 25 (by kernel_rfl) (bT c6) ?_
      obtain ⟨t26, H_4, q7, h⟩ := h
      refine KR.se (one_ca (by kernel_rfl) q7) ?_
      refine KR.run 3 [(6, .bool t26)] 28 (s' := (.code (sub B [1, 1, 1]) :: [])) (by kernel_rfl) fun J => ?_
      exact KR.fin (by kernel_rfl) h
    · replace h := iteF c6 h
      refine KR.setV 25 (by kernel_rfl) (bF c6) ?_
      refine KR.run 4 [(6, .bool false)] 28 (s' := (.code (sub B [1, 1, 1]) :: [])) (by kernel_rfl) fun J => ?_
      exact KR.fin (by kernel_rfl) h
theorem call {a0a : Option Addr} {a0n : Nat} {a0k : Nat} {a1a : Option Addr} {a1n : Nat} {a1k : Nat} {a2 : Bool} {H : Heap} {r : Value × Heap} (h :
    if ((a0n : Nat) : Int) > 100 then
    (L0 (a0a) (a0n) (a0k) (a1a) (a1n) (a1k) (a2) (true) H r)
    else
    (L0 (a0a) (a0n) (a0k) (a1a) (a1n) (a1k) (a2) ((decide (((a1n : Nat) : Int) > 100))) H r)) :
    xC Try.prog good 3 [.slice a0a a0n a0k, .slice a1a a1n a1k, .bool a2] H = some r := by
  refine KR.enter (fn := Try.f3) (c := B) (by kernel_rfl) (by kernel_rfl) ?_
  refine KR.run 11 [(0, .slice a0a a0n a0k), (1, .slice a1a a1n a1k), (2, .bool a2), (10, .bool (decide (((a0n : Nat) : Int) > 100)))] 28 (s' := (.reg (opsAt (sub B [1, 0, 0])) [4, 5, 6, 7] :: S1)) (by kernel_rfl) fun J => ?_
  by_cases c1 : ((a0n : Nat) : Int) > 100
  · replace h := iteT c1 h
    refine KR.setV 10 (by kernel_rfl) (dT c1) ?_
    exact KR.run 5 [(0, .slice a0a a0n a0k), (1, .slice a1a a1n a1k), (2, .bool a2), (14, .bool true)] 28 (s' := (.code (sub B [1, 0, 1]) :: S0)) (by kernel_rfl) h
  · replace h := iteF c1 h
    refine KR.setV 10 (by kernel_rfl) (dF c1) ?_
    exact KR.run 5 [(0, .slice a0a a0n a0k), (1, .slice a1a a1n a1k), (2, .bool a2), (14, .bool (decide (((a1n : Nat) : Int) > 100)))] 28 (s' := (.code (sub B [1, 0, 1]) :: S0)) (by kernel_rfl) h
end F3
end Go.X
