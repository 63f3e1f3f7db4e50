/- The walks of the functions whose drawn regions' order counts: printed. -/
import Derived.Test.YtnkfkcodmnnopaaXzTa
import Derived.Test.YtnkfkcodmnnopaaXzDraw
set_option linter.unusedVariables false
set_option maxRecDepth 100000
namespace Go.X
open Go Go.RowKit Go.Proofs
/-! #### 8 campanile/campanilelaw2.CrcForms -/
namespace F8
noncomputable def B : Code := bodyOf Try.f8
noncomputable def S0 : List It := (.code (sub B [1, 1]) :: [])
noncomputable def S2 : List It := (.code (sub B [1, 1, 1]) :: [])
noncomputable def S1 : List It := (.code (sub B [1, 0, 1, 0, 1]) :: S0)
theorem call {a0a : Option Addr} {a0n : Nat} {a0k : Nat} {H : Heap} {r : Value × Heap} (h :
    if ((a0n : Nat) : Int) > 2000 then
    (∃ (t6 : Bool) (H_1 : Heap), xC Try.prog good 12 [] H = some (.bool t6, H_1) ∧
    (r = (.bool t6, H_1)))
    else
    (∃ (t8 : Int) (H_2 : Heap), xC Try.prog good 11 [.slice a0a a0n a0k] H = some (.int .u16 t8, H_2) ∧
    (∃ (t10 : Int) (H_3 : Heap), xC Try.prog good 18 [.slice a0a a0n a0k] H_2 = some (.int .u16 t10, H_3) ∧
    (if t8 = t10 then
    (∃ (t14 : Bool) (H_4 : Heap), xC Try.prog good 19 [.slice a0a a0n a0k] H_3 = some (.bool t14, H_4) ∧
    (∃ (t16 : Bool) (H_5 : Heap), xC Try.prog good 20 [.slice a0a a0n a0k] H_4 = some (.bool t16, H_5) ∧
    (if (t14 == t16) = true then
    (∃ (t21a : Option Addr) (t21n : Nat) (t21k : Nat) (H_6 : Heap), xC Try.prog good 17 [.slice a0a a0n a0k] H_5 = some (.slice t21a t21n t21k, H_6) ∧
    (∃ (t22 : ByteArray), pstrb H_6 t21a t21n = some t22 ∧
    (∃ (t24a : Option Addr) (t24n : Nat) (t24k : Nat) (H_7 : Heap), xC Try.prog good 21 [.slice a0a a0n a0k] H_6 = some (.slice t24a t24n t24k, H_7) ∧
    (∃ (t25 : ByteArray), pstrb H_7 t24a t24n = some t25 ∧
    (if t22.toList = t25.toList then
    (∃ (t29 : Bool) (H_8 : Heap), xC Try.prog good 12 [] H_7 = some (.bool t29, H_8) ∧
    (pstrb H_7 t21a t21n = some t22 ∧
    (r = (.bool t29, H_8))))
    else
    (pstrb H_7 t21a t21n = some t22 ∧
    (r = (.bool false, H_7))))))))
    else
    ((r = (.bool false, H_5))))))
    else
    ((r = (.bool false, H_3))))))) :
    xC Try.prog good 8 [.slice a0a a0n a0k] H = some r := by
  refine KR.enter (fn := Try.f8) (c := B) (by kernel_rfl) (by kernel_rfl) ?_
  refine KR.run 11 [(0, .slice a0a a0n a0k), (5, .bool (decide (((a0n : Nat) : Int) > 2000)))] 31 (s' := (.code (sub B [1, 0, 1]) :: S0)) (by kernel_rfl) fun J => ?_
  by_cases c1 : ((a0n : Nat) : Int) > 2000
  · replace h := iteT c1 h
    refine KR.br true (by kernel_rfl) (vB (dT c1)) ?_
    refine KR.run 2 [] 31 (s' := (.reg (opsAt (sub B [1, 0, 1, 0, 0])) [0, 1] :: S1)) (by kernel_rfl) fun J => ?_
    obtain ⟨t6, H_1, q2, h⟩ := h
    refine KR.se (one_ca (by kernel_rfl) q2) ?_
    refine KR.run 2 [(2, .bool t6)] 31 (s' := (.code (sub B [1, 0, 1, 0, 1]) :: S0)) (by kernel_rfl) fun J => ?_
    exact KR.fin (by kernel_rfl) h
  · replace h := iteF c1 h
    refine KR.br false (by kernel_rfl) (vB (dF c1)) ?_
    refine KR.run 2 [(0, .slice a0a a0n a0k)] 31 (s' := (.code (sub B [1, 1, 0]) :: S2)) (by kernel_rfl) fun J => ?_
    refine KE.start H (by kernel_rfl) (by kernel_rfl) ?_
    refine KE.run 1 [(0, .slice a0a a0n a0k), (7, .slice a0a a0n a0k)] 31 1 (by kernel_rfl) fun J => ?_
    obtain ⟨t8, H_2, q3, h⟩ := h
    refine KE.se (one_ca (by kernel_rfl) q3) (by kernel_rfl) ?_
    refine KE.run 1 [(0, .slice a0a a0n a0k), (8, .int .u16 t8), (9, .slice a0a a0n a0k)] 31 3 (by kernel_rfl) fun J => ?_
    obtain ⟨t10, H_3, q4, h⟩ := h
    refine KE.se (one_ca (by kernel_rfl) q4) (by kernel_rfl) ?_
    refine KE.run 2 [(0, .slice a0a a0n a0k), (12, .bool (t8 == t10))] 31 6 (by kernel_rfl) fun J => ?_
    by_cases c5 : t8 = t10
    · replace h := iteT c5 h
      refine KE.setV 12 (by kernel_rfl) (eT c5) ?_
      refine KE.run 1 [(0, .slice a0a a0n a0k), (12, .bool true), (13, .slice a0a a0n a0k)] 31 7 (by kernel_rfl) fun J => ?_
      obtain ⟨t14, H_4, q6, h⟩ := h
      refine KE.se (one_ca (by kernel_rfl) q6) (by kernel_rfl) ?_
      refine KE.run 1 [(0, .slice a0a a0n a0k), (12, .bool true), (14, .bool t14), (15, .slice a0a a0n a0k)] 31 9 (by kernel_rfl) fun J => ?_
      obtain ⟨t16, H_5, q7, h⟩ := h
      refine KE.se (one_ca (by kernel_rfl) q7) (by kernel_rfl) ?_
      refine KE.run 3 [(0, .slice a0a a0n a0k), (19, .bool (t14 == t16))] 31 13 (by kernel_rfl) fun J => ?_
      by_cases c8 : (t14 == t16) = true
      · replace h := iteT c8 h
        refine KE.setV 19 (by kernel_rfl) (bT c8) ?_
        refine KE.run 1 [(0, .slice a0a a0n a0k), (19, .bool true), (20, .slice a0a a0n a0k)] 31 14 (by kernel_rfl) fun J => ?_
        obtain ⟨t21a, t21n, t21k, H_6, q9, h⟩ := h
        refine KE.se (one_ca (by kernel_rfl) q9) (by kernel_rfl) ?_
        obtain ⟨t22, q10, h⟩ := h
        refine KE.rdF (one_str (by kernel_rfl) q10) (by kernel_rfl) ?_
        refine KE.run 1 [(19, .bool true), (22, .string t22), (23, .slice a0a a0n a0k)] 31 17 (by kernel_rfl) fun J => ?_
        obtain ⟨t24a, t24n, t24k, H_7, q11, h⟩ := h
        refine KE.se (one_ca (by kernel_rfl) q11) (by kernel_rfl) ?_
        obtain ⟨t25, q12, h⟩ := h
        refine KE.rdN (one_str (by kernel_rfl) q12) (by kernel_rfl) ?_
        refine KE.run 3 [(28, .bool (t22.toList == t25.toList))] 31 22 (by kernel_rfl) fun J => ?_
        by_cases c13 : t22.toList = t25.toList
        · replace h := iteT c13 h
          refine KE.setV 28 (by kernel_rfl) (eT c13) ?_
          obtain ⟨t29, H_8, q14, h⟩ := h
          refine KE.se (one_ca (by kernel_rfl) q14) (by kernel_rfl) ?_
          refine KE.run 2 [(2, .bool t29)] 31 25 (by kernel_rfl) fun J => ?_
          obtain ⟨q15, h⟩ := h
          refine KE.fin (H' := H_8) (by kernel_rfl) (rdsS (rfl) (rd_ok (Hs := [H_7]) (by kernel_rfl) (by kernel_rfl) ⟨one_str (by kernel_rfl) q15, trivial⟩)) (by kernel_rfl) ?_
          refine KR.run 0 [(2, .bool t29)] 31 (s' := (.code (sub B [1, 1, 1]) :: [])) (by kernel_rfl) fun J => ?_
          exact KR.fin (by kernel_rfl) h
        · replace h := iteF c13 h
          refine KE.setV 28 (by kernel_rfl) (eF c13) ?_
          refine KE.no (Gc := H_7) (by kernel_rfl) (by kernel_rfl) (by kernel_rfl) ?_
          refine KE.run 2 [(2, .bool false)] 31 25 (by kernel_rfl) fun J => ?_
          obtain ⟨q16, h⟩ := h
          refine KE.fin (H' := H_7) (by kernel_rfl) (rdsS (rfl) (rd_ok (Hs := [H_7]) (by kernel_rfl) (by kernel_rfl) ⟨one_str (by kernel_rfl) q16, trivial⟩)) (by kernel_rfl) ?_
          refine KR.run 0 [(2, .bool false)] 31 (s' := (.code (sub B [1, 1, 1]) :: [])) (by kernel_rfl) fun J => ?_
          exact KR.fin (by kernel_rfl) h
      · replace h := iteF c8 h
        refine KE.setV 19 (by kernel_rfl) (bF c8) ?_
        refine KE.run 1 [(0, .slice a0a a0n a0k), (19, .bool false)] 31 14 (by kernel_rfl) fun J => ?_
        refine KE.no (Gc := H_5) (by kernel_rfl) (by kernel_rfl) (by kernel_rfl) ?_
        refine KE.run 2 [(19, .bool false)] 31 17 (by kernel_rfl) fun J => ?_
        refine KE.no (Gc := H_5) (by kernel_rfl) (by kernel_rfl) (by kernel_rfl) ?_
        refine KE.run 4 [(28, .bool false)] 31 22 (by kernel_rfl) fun J => ?_
        refine KE.no (Gc := H_5) (by kernel_rfl) (by kernel_rfl) (by kernel_rfl) ?_
        refine KE.run 2 [(2, .bool false)] 31 25 (by kernel_rfl) fun J => ?_
        refine KE.fin (H' := H_5) (by kernel_rfl) (rfl) (by kernel_rfl) ?_
        refine KR.run 0 [(2, .bool false)] 31 (s' := (.code (sub B [1, 1, 1]) :: [])) (by kernel_rfl) fun J => ?_
        exact KR.fin (by kernel_rfl) h
    · replace h := iteF c5 h
      refine KE.setV 12 (by kernel_rfl) (eF c5) ?_
      refine KE.run 1 [(0, .slice a0a a0n a0k), (12, .bool false)] 31 7 (by kernel_rfl) fun J => ?_
      refine KE.no (Gc := H_3) (by kernel_rfl) (by kernel_rfl) (by kernel_rfl) ?_
      refine KE.run 1 [(0, .slice a0a a0n a0k), (12, .bool false)] 31 9 (by kernel_rfl) fun J => ?_
      refine KE.no (Gc := H_3) (by kernel_rfl) (by kernel_rfl) (by kernel_rfl) ?_
      refine KE.run 4 [(0, .slice a0a a0n a0k), (19, .bool false)] 31 14 (by kernel_rfl) fun J => ?_
      refine KE.no (Gc := H_3) (by kernel_rfl) (by kernel_rfl) (by kernel_rfl) ?_
      refine KE.run 2 [(19, .bool false)] 31 17 (by kernel_rfl) fun J => ?_
      refine KE.no (Gc := H_3) (by kernel_rfl) (by kernel_rfl) (by kernel_rfl) ?_
      refine KE.run 4 [(28, .bool false)] 31 22 (by kernel_rfl) fun J => ?_
      refine KE.no (Gc := H_3) (by kernel_rfl) (by kernel_rfl) (by kernel_rfl) ?_
      refine KE.run 2 [(2, .bool false)] 31 25 (by kernel_rfl) fun J => ?_
      refine KE.fin (H' := H_3) (by kernel_rfl) (rfl) (by kernel_rfl) ?_
      refine KR.run 0 [(2, .bool false)] 31 (s' := (.code (sub B [1, 1, 1]) :: [])) (by kernel_rfl) fun J => ?_
      exact KR.fin (by kernel_rfl) h
end F8
/-! #### 20 campanile/campanileref1.Good -/
namespace F20
noncomputable def B : Code := bodyOf Try.f20
noncomputable def S0 : List It := (.code (sub B [1, 1, 1]) :: [])
theorem call {a0a : Option Addr} {a0n : Nat} {a0k : Nat} {H : Heap} {r : Value × Heap} (h :
    if (IntKind.wrap .i64 (((a0n : Nat) : Int) - 2)) ≥ 0 then
    (∃ (t12a : Option Addr) (t12n : Nat) (t12k : Nat), psl 1 a0a a0n a0k none (some (IntKind.wrap .i64 (((a0n : Nat) : Int) - 2))) none = some (t12a, t12n, t12k) ∧
    (∃ (t13a : Option Addr) (t13n : Nat) (t13k : Nat) (H_1 : Heap), xC Try.prog good 21 [.slice t12a t12n t12k] H = some (.slice t13a t13n t13k, H_1) ∧
    (∃ (t14 : ByteArray), pstrb H_1 t13a t13n = some t14 ∧
    (∃ (t16 : ByteArray), pstrb H a0a a0n = some t16 ∧
    (pstrb H_1 a0a a0n = some t16 ∧
    (r = (.bool (t14.toList == t16.toList), H_1)))))))
    else
    ((r = (.bool false, H)))) :
    xC Try.prog good 20 [.slice a0a a0n a0k] H = some r := by
  refine KR.enter (fn := Try.f20) (c := B) (by kernel_rfl) (by kernel_rfl) ?_
  refine KR.run 12 [(0, .slice a0a a0n a0k), (3, .int .i64 (IntKind.wrap .i64 (((a0n : Nat) : Int) - 2)))] 19 (s' := (.code (sub B [1, 1, 0]) :: S0)) (by kernel_rfl) fun J => ?_
  refine KE.start H (by kernel_rfl) (by kernel_rfl) ?_
  refine KE.run 3 [(0, .slice a0a a0n a0k), (3, .int .i64 (IntKind.wrap .i64 (((a0n : Nat) : Int) - 2))), (9, .bool (decide ((IntKind.wrap .i64 (((a0n : Nat) : Int) - 2)) ≥ 0)))] 19 3 (by kernel_rfl) fun J => ?_
  by_cases c1 : (IntKind.wrap .i64 (((a0n : Nat) : Int) - 2)) ≥ 0
  · replace h := iteT c1 h
    refine KE.setV 9 (by kernel_rfl) (dT c1) ?_
    refine KE.run 2 [(0, .slice a0a a0n a0k), (9, .bool true), (10, .slice a0a a0n a0k), (11, .int .i64 (IntKind.wrap .i64 (((a0n : Nat) : Int) - 2)))] 19 5 (by kernel_rfl) fun J => ?_
    obtain ⟨t12a, t12n, t12k, q2, h⟩ := h
    refine KE.p (one_sl (by kernel_rfl) q2) ?_
    obtain ⟨t13a, t13n, t13k, H_1, q3, h⟩ := h
    refine KE.se (one_ca (by kernel_rfl) q3) (by kernel_rfl) ?_
    obtain ⟨t14, q4, h⟩ := h
    refine KE.rdN (one_str (by kernel_rfl) q4) (by kernel_rfl) ?_
    refine KE.run 1 [(9, .bool true), (14, .string t14), (15, .slice a0a a0n a0k)] 19 9 (by kernel_rfl) fun J => ?_
    obtain ⟨t16, q5, h⟩ := h
    refine KE.rdF (one_str (by kernel_rfl) q5) (by kernel_rfl) ?_
    refine KE.run 3 [(2, .bool (t14.toList == t16.toList))] 19 13 (by kernel_rfl) fun J => ?_
    obtain ⟨q6, h⟩ := h
    refine KE.fin (H' := H_1) (by kernel_rfl) (rdsS (rfl) (rd_ok (Hs := [H_1]) (by kernel_rfl) (by kernel_rfl) ⟨one_str (by kernel_rfl) q6, trivial⟩)) (by kernel_rfl) ?_
    refine KR.run 0 [(2, .bool (t14.toList == t16.toList))] 19 (s' := (.code (sub B [1, 1, 1]) :: [])) (by kernel_rfl) fun J => ?_
    exact KR.fin (by kernel_rfl) h
  · replace h := iteF c1 h
    refine KE.setV 9 (by kernel_rfl) (dF c1) ?_
    refine KE.run 3 [(0, .slice a0a a0n a0k), (9, .bool false)] 19 6 (by kernel_rfl) fun J => ?_
    refine KE.no (Gc := H) (by kernel_rfl) (by kernel_rfl) (by kernel_rfl) ?_
    refine KE.run 6 [(2, .bool false)] 19 13 (by kernel_rfl) fun J => ?_
    refine KE.fin (H' := H) (by kernel_rfl) (rfl) (by kernel_rfl) ?_
    refine KR.run 0 [(2, .bool false)] 19 (s' := (.code (sub B [1, 1, 1]) :: [])) (by kernel_rfl) fun J => ?_
    exact KR.fin (by kernel_rfl) h
end F20

end Go.X
