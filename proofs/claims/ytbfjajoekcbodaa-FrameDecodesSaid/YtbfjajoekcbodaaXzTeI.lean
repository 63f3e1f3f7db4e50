/- The walks of the functions: printed. -/
import Derived.Test.YtbfjajoekcbodaaXzGe
set_option linter.unusedVariables false
set_option maxRecDepth 100000
namespace Go.X
open Go Go.RowKit Go.Proofs
/-! #### 13 campanile/campanilelaw6.Light -/
namespace F13
noncomputable def B : Code := bodyOf Try.f13
noncomputable def S0 : List It := (.code (sub B [1, 1]) :: [])
noncomputable def S1 : List It := (.blk 0 :: S0)
noncomputable def S2 : List It := (.lp (sub B [1, 0, 1, 0, 0]) :: S1)
noncomputable def S3 : List It := (.code (sub B [1, 0, 1, 0, 0, 1, 1]) :: S2)
noncomputable def S4 : List It := (.code (sub B [1, 0, 1, 0, 0, 1, 1, 1]) :: S2)
noncomputable def S5 : List It := (.blk 1 :: S4)
noncomputable def S6 : List It := (.code (sub B [1, 0, 1, 0, 0, 1, 1, 0, 0, 1]) :: S5)
noncomputable def S7 : List It := (.code (sub B [1, 0, 1, 0, 0, 1, 1, 0, 0, 1, 1]) :: S5)
def L0 (t5a : Option Addr) (t5n t5k : Nat) (t6 t7 : Int) (H : Heap) (r : Value × Heap) : Prop := ∀ J, KR Try.prog good Try.f13 S2 (mat J 23 [(5, .slice t5a t5n t5k), (6, .int .i64 t6), (7, .int .i64 t7)]) H r
def L1 (t3 : Int) (t5b t5o t5n t5k : Nat) (t6 t7 : Int) (t19 : Bool) (H : Heap) (r : Value × Heap) : Prop := ∀ J, KR Try.prog good Try.f13 S7 (mat J 23 [(3, .int .i64 t3), (5, .slice (some ⟨t5b, t5o, none⟩) t5n t5k), (6, .int .i64 t6), (7, .int .i64 t7), (19, .bool t19)]) H r
theorem L0_step {t5a : Option Addr} {t5n t5k : Nat} {t6 t7 : Int} {H : Heap} {r : Value × Heap} (h :
    if t7 < t6 then
    (∃ (t5ab t5ao : Nat), t5a = some ⟨t5ab, t5ao, none⟩ ∧
    ((0 : Int) ≤ t7 ∧ t7 < (t5n : Int) ∧
    (∃ (t11c0 t11c1 t11c2 t11c3 : Int) (t11c4a : Option Addr) (t11c4n t11c4k : Nat), ldAll H t5ab (t5ao + Int.toNat t7 * 5) [.int .i64 t11c0, .int .i64 t11c1, .int .i64 t11c2, .int .i64 t11c3, .slice t11c4a t11c4n t11c4k] ∧
    (∃ (H_1 : Heap), H_1 = H.push (.row [.int .i64 0, .int .i64 0, .int .i64 0, .int .i64 0, .slice none 0 0] true) ∧
    (∃ (H_2 : Heap), stc H_1 H.next 0 [.int .i64 t11c0, .int .i64 t11c1, .int .i64 t11c2, .int .i64 t11c3, .slice t11c4a t11c4n t11c4k] = some H_2 ∧
    (if t7 ≥ 20 then
    (L1 t7 t5ab t5ao t5n t5k t6 t7 true H_2 r)
    else
    (∃ (t16a : Option Addr) (t16n t16k : Nat), ldc H_2 H.next 4 = some (.slice t16a t16n t16k) ∧
    (L1 t7 t5ab t5ao t5n t5k t6 t7 ((decide ((t16n : Int) > 100))) H_2 r))))))))
    else
    (r = (.int .i64 0, H))) :
    L0 t5a t5n t5k t6 t7 H r := by
  intro J
  show KR _ _ _ (.lp (sub B [1, 0, 1, 0, 0]) :: S1) _ _ _
  refine KR.go 6 [(5, .slice t5a t5n t5k), (6, .int .i64 t6), (7, .int .i64 t7), (8, .bool (decide (t7 < t6)))] 23 (s' := (.code (sub B [1, 0, 1, 0, 0, 1, 0]) :: S3)) fun J => ?_
  by_cases c1 : t7 < t6
  · replace h := iteT c1 h
    refine KR.bb true (vB (dT c1)) ?_
    obtain ⟨t5ab, t5ao, rfl, h⟩ := h
    refine KR.go 6 [(5, .slice (some ⟨t5ab, t5ao, none⟩) t5n t5k), (6, .int .i64 t6), (7, .int .i64 t7), (9, .int .i64 t7)] 23 (s' := (.reg (opsAt (sub B [1, 0, 1, 0, 0, 1, 1, 0, 0, 0])) [1, 2, 3, 4, 5] :: S6)) fun J => ?_
    obtain ⟨q2, q2x, h⟩ := h
    refine KR.p (one_ix 5 t5ab t5ao (by kernel_rfl) q2 q2x) ?_
    obtain ⟨t11c0, t11c1, t11c2, t11c3, t11c4a, t11c4n, t11c4k, q3, h⟩ := h
    refine KR.rd (one_ldA (by kernel_rfl) q3) ?_
    obtain ⟨H_1, q4, h⟩ := h
    refine KR.mk (w := pRow [.int .i64 0, .int .i64 0, .int .i64 0, .int .i64 0, .slice none 0 0]) (one_al (by kernel_rfl)) q4 ?_
    refine KR.go 1 [(3, .int .i64 t7), (4, .pointer (some ⟨H.next, 0, none⟩)), (5, .slice (some ⟨t5ab, t5ao, none⟩) t5n t5k), (6, .int .i64 t6), (7, .int .i64 t7), (11, .agg #[.int .i64 t11c0, .int .i64 t11c1, .int .i64 t11c2, .int .i64 t11c3, .slice t11c4a t11c4n t11c4k])] 23 (s' := (.reg (opsAt (sub B [1, 0, 1, 0, 0, 1, 1, 0, 0, 0])) [5] :: S6)) fun J => ?_
    obtain ⟨H_2, q5, h⟩ := h
    refine KR.se (one_st (by kernel_rfl) q5) ?_
    refine KR.go 6 [(3, .int .i64 t7), (4, .pointer (some ⟨H.next, 0, none⟩)), (5, .slice (some ⟨t5ab, t5ao, none⟩) t5n t5k), (6, .int .i64 t6), (7, .int .i64 t7), (14, .bool (decide (t7 ≥ 20)))] 23 (s' := (.reg (opsAt (sub B [1, 0, 1, 0, 0, 1, 1, 0, 0, 1, 0])) [3, 4, 5, 6, 7] :: S7)) fun J => ?_
    by_cases c6 : t7 ≥ 20
    · replace h := iteT c6 h
      refine KR.setV 14 (by kernel_rfl) (dT c6) ?_
      exact KR.go 6 [(3, .int .i64 t7), (5, .slice (some ⟨t5ab, t5ao, none⟩) t5n t5k), (6, .int .i64 t6), (7, .int .i64 t7), (19, .bool true)] 23 (s' := (.code (sub B [1, 0, 1, 0, 0, 1, 1, 0, 0, 1, 1]) :: S5)) h
    · replace h := iteF c6 h
      refine KR.setV 14 (by kernel_rfl) (dF c6) ?_
      refine KR.go 1 [(3, .int .i64 t7), (5, .slice (some ⟨t5ab, t5ao, none⟩) t5n t5k), (6, .int .i64 t6), (7, .int .i64 t7), (14, .bool false), (15, .pointer (some ⟨H.next, 4, none⟩))] 23 (s' := (.reg (opsAt (sub B [1, 0, 1, 0, 0, 1, 1, 0, 0, 1, 0])) [4, 5, 6, 7] :: S7)) fun J => ?_
      obtain ⟨t16a, t16n, t16k, q7, h⟩ := h
      refine KR.rd (one_ld (by kernel_rfl) q7) ?_
      exact KR.go 4 [(3, .int .i64 t7), (5, .slice (some ⟨t5ab, t5ao, none⟩) t5n t5k), (6, .int .i64 t6), (7, .int .i64 t7), (19, .bool (decide ((t16n : Int) > 100)))] 23 (s' := (.code (sub B [1, 0, 1, 0, 0, 1, 1, 0, 0, 1, 1]) :: S5)) h
  · replace h := iteF c1 h
    refine KR.bb false (vB (dF c1)) ?_
    refine KR.go 5 [(2, .int .i64 0)] 23 (s' := (.code (sub B [1, 1, 1]) :: [])) fun J => ?_
    exact KR.fi h
theorem L1_step {t3 : Int} {t5b t5o t5n t5k : Nat} {t6 t7 : Int} {t19 : Bool} {H : Heap} {r : Value × Heap} (h :
    if t19 = true then
    (r = (.int .i64 (IntKind.wrap .i64 (t3 + 1)), H))
    else
    (L0 ((some ⟨t5b, t5o, none⟩)) t5n t5k t6 ((IntKind.wrap .i64 (t7 + 1))) H r)) :
    L1 t3 t5b t5o t5n t5k t6 t7 t19 H r := by
  intro J
  show KR _ _ _ (.code (sub B [1, 0, 1, 0, 0, 1, 1, 0, 0, 1, 1]) :: S5) _ _ _
  by_cases c8 : t19 = true
  · replace h := iteT c8 h
    refine KR.bb true (vB (bT c8)) ?_
    refine KR.go 6 [(2, .int .i64 (IntKind.wrap .i64 (t3 + 1)))] 23 (s' := (.code (sub B [1, 0, 1, 0, 0, 1, 1, 0, 0, 1, 1, 0, 1]) :: S5)) fun J => ?_
    exact KR.fi h
  · replace h := iteF c8 h
    refine KR.bb false (vB (bF c8)) ?_
    exact KR.go 6 [(5, .slice (some ⟨t5b, t5o, none⟩) t5n t5k), (6, .int .i64 t6), (7, .int .i64 (IntKind.wrap .i64 (t7 + 1)))] 23 (s' := (.lp (sub B [1, 0, 1, 0, 0]) :: S1)) h
theorem call {a0a : Option Addr} {a0n a0k : Nat} {H : Heap} {r : Value × Heap} (h :
    L0 a0a a0n a0k ((a0n : Int)) 0 H r) :
    xC Try.prog good 13 [.slice a0a a0n a0k] H = some r := by
  refine KR.enter (fn := Try.f13) (c := B) (by kernel_rfl) (by kernel_rfl) ?_
  exact KR.go 13 [(5, .slice a0a a0n a0k), (6, .int .i64 (a0n : Int)), (7, .int .i64 0)] 23 (s' := (.lp (sub B [1, 0, 1, 0, 0]) :: S1)) h
end F13
/-! #### 14 campanile/ie.May -/
namespace F14
noncomputable def B : Code := bodyOf Try.f14
noncomputable def S0 : List It := (.code (sub B [1]) :: [])
noncomputable def S1 : List It := (.code (sub B [1, 1]) :: [])
noncomputable def S2 : List It := (.code (sub B [1, 1, 1]) :: [])
theorem call {a0c0 a0c1 a0c2 a0c3 : Int} {a0c4a : Option Addr} {a0c4n a0c4k : Nat} {H : Heap} {r : Value × Heap} (h :
    ∃ (H_1 : Heap), H_1 = H.push (.row [.int .i64 a0c0, .int .i64 a0c1, .int .i64 a0c2, .int .i64 a0c3, .slice a0c4a a0c4n a0c4k] true) ∧
    (∃ (t4c0 t4c1 t4c2 t4c3 : Int) (t4c4a : Option Addr) (t4c4n t4c4k : Nat), ldAll H_1 H.next 0 [.int .i64 t4c0, .int .i64 t4c1, .int .i64 t4c2, .int .i64 t4c3, .slice t4c4a t4c4n t4c4k] ∧
    (∃ (t5 : Value) (H_2 : Heap), xC Try.prog good 37 [.agg #[.int .i64 t4c0, .int .i64 t4c1, .int .i64 t4c2, .int .i64 t4c3, .slice t4c4a t4c4n t4c4k]] H_1 = some (t5, H_2) ∧
    ((t5 = .nilIface ∧
    ((r = (.bool false, H_2)))) ∨
    (∃ (t5t : Nat) (t5v : Value), t5 = .iface t5t t5v ∧
    (∃ (t10g : Nat), xmethod Try.prog t5t "campanile/ie.may" = some t10g ∧ fnGoes Try.prog t10g = true ∧ ∃ (t10 : Bool) (H_3 : Heap), xC Try.prog good t10g [t5v] H_2 = some (.bool t10, H_3) ∧
    (if t10 = true then
    (∃ (t13c0 t13c1 t13c2 t13c3 : Int) (t13c4a : Option Addr) (t13c4n t13c4k : Nat), ldAll H_3 H.next 0 [.int .i64 t13c0, .int .i64 t13c1, .int .i64 t13c2, .int .i64 t13c3, .slice t13c4a t13c4n t13c4k] ∧
    (∃ (t15 : Int), ldc H_3 H.next 0 = some (.int .i64 t15) ∧
    (∃ (t17c0 t17c1 t17c2 t17c3 : Int) (t17c4a : Option Addr) (t17c4n t17c4k : Nat) (H_4 : Heap), xC Try.prog good 38 [.int .i64 t15, .iface t5t (t5v)] H_3 = some (.agg #[.int .i64 t17c0, .int .i64 t17c1, .int .i64 t17c2, .int .i64 t17c3, .slice t17c4a t17c4n t17c4k], H_4) ∧
    (∃ (t18 : Bool) (H_5 : Heap), xC Try.prog good 17 [.agg #[.int .i64 t13c0, .int .i64 t13c1, .int .i64 t13c2, .int .i64 t13c3, .slice t13c4a t13c4n t13c4k], .agg #[.int .i64 t17c0, .int .i64 t17c1, .int .i64 t17c2, .int .i64 t17c3, .slice t17c4a t17c4n t17c4k]] H_4 = some (.bool t18, H_5) ∧
    (ldAll H_4 H.next 0 [.int .i64 t13c0, .int .i64 t13c1, .int .i64 t13c2, .int .i64 t13c3, .slice t13c4a t13c4n t13c4k] ∧
    (r = (.bool t18, H_5)))))))
    else
    ((r = (.bool false, H_3)))))))))) :
    xC Try.prog good 14 [.agg #[.int .i64 a0c0, .int .i64 a0c1, .int .i64 a0c2, .int .i64 a0c3, .slice a0c4a a0c4n a0c4k]] H = some r := by
  refine KR.enter (fn := Try.f14) (c := B) (by kernel_rfl) (by kernel_rfl) ?_
  refine KR.go 2 [(0, .agg #[.int .i64 a0c0, .int .i64 a0c1, .int .i64 a0c2, .int .i64 a0c3, .slice a0c4a a0c4n a0c4k])] 20 (s' := (.reg (opsAt (sub B [0])) [0, 1] :: S0)) fun J => ?_
  obtain ⟨H_1, q1, h⟩ := h
  refine KR.mk (w := pRow [.int .i64 a0c0, .int .i64 a0c1, .int .i64 a0c2, .int .i64 a0c3, .slice a0c4a a0c4n a0c4k]) (one_al (by kernel_rfl)) q1 ?_
  refine KR.go 4 [(1, .pointer (some ⟨H.next, 0, none⟩))] 20 (s' := (.reg (opsAt (sub B [1, 0])) [0, 1, 2] :: S1)) fun J => ?_
  obtain ⟨t4c0, t4c1, t4c2, t4c3, t4c4a, t4c4n, t4c4k, q2, h⟩ := h
  refine KR.rd (one_ldA (by kernel_rfl) q2) ?_
  obtain ⟨t5, H_2, q3, h⟩ := h
  refine KR.se (one_ca (by kernel_rfl) q3) ?_
  refine KR.go 3 [(1, .pointer (some ⟨H.next, 0, none⟩)), (3, t5)] 20 (s' := (.code (sub B [1, 1, 0]) :: S2)) fun J => ?_
  refine KE.start H_2 (by kernel_rfl) (by kernel_rfl) ?_
  rcases h with ⟨rfl, h⟩ | ⟨t5t, t5v, rfl, h⟩
  · refine KE.run 4 [(1, .pointer (some ⟨H.next, 0, none⟩)), (3, .nilIface), (8, .bool false), (9, undef)] 20 4 (by kernel_rfl) fun J => ?_
    refine KE.no (Gc := H_2) (by kernel_rfl) (by kernel_rfl) (by kernel_rfl) ?_
    refine KE.run 6 [(12, .bool false), (13, undef), (15, undef), (16, undef)] 20 11 (by kernel_rfl) fun J => ?_
    refine KE.no (Gc := H_2) (by kernel_rfl) (by kernel_rfl) (by kernel_rfl) ?_
    refine KE.no (Gc := H_2) (by kernel_rfl) (by kernel_rfl) (by kernel_rfl) ?_
    refine KE.run 2 [(2, .bool false)] 20 15 (by kernel_rfl) fun J => ?_
    refine KE.fin (H' := H_2) (by kernel_rfl) rfl (by kernel_rfl) ?_
    refine KR.go 0 [(2, .bool false)] 20 (s' := (.code (sub B [1, 1, 1]) :: [])) fun J => ?_
    exact KR.fi h
  · refine KE.run 4 [(1, .pointer (some ⟨H.next, 0, none⟩)), (3, .iface t5t t5v), (8, .bool true), (9, .iface t5t t5v)] 20 4 (by kernel_rfl) fun J => ?_
    obtain ⟨t10g, q4m, q4g, t10, H_3, q4, h⟩ := h
    refine KE.se (one_iv (t := t5t) (name := "campanile/ie.may") (by kernel_rfl) q4m q4g q4) (by kernel_rfl) ?_
    refine KE.run 2 [(1, .pointer (some ⟨H.next, 0, none⟩)), (3, .iface t5t t5v), (12, .bool t10)] 20 7 (by kernel_rfl) fun J => ?_
    by_cases c5 : t10 = true
    · replace h := iteT c5 h
      refine KE.setV 12 (by kernel_rfl) (bT c5) ?_
      obtain ⟨t13c0, t13c1, t13c2, t13c3, t13c4a, t13c4n, t13c4k, q6, h⟩ := h
      refine KE.rdF (one_ldA (by kernel_rfl) q6) (by kernel_rfl) ?_
      refine KE.run 1 [(3, .iface t5t t5v), (12, .bool true), (13, .agg #[.int .i64 t13c0, .int .i64 t13c1, .int .i64 t13c2, .int .i64 t13c3, .slice t13c4a t13c4n t13c4k]), (14, .pointer (some ⟨H.next, 0, none⟩))] 20 9 (by kernel_rfl) fun J => ?_
      obtain ⟨t15, q7, h⟩ := h
      refine KE.rdN (one_ld (by kernel_rfl) q7) (by kernel_rfl) ?_
      refine KE.run 1 [(12, .bool true), (13, .agg #[.int .i64 t13c0, .int .i64 t13c1, .int .i64 t13c2, .int .i64 t13c3, .slice t13c4a t13c4n t13c4k]), (15, .int .i64 t15), (16, .iface t5t t5v)] 20 11 (by kernel_rfl) fun J => ?_
      obtain ⟨t17c0, t17c1, t17c2, t17c3, t17c4a, t17c4n, t17c4k, H_4, q8, h⟩ := h
      refine KE.se (one_ca (by kernel_rfl) q8) (by kernel_rfl) ?_
      obtain ⟨t18, H_5, q9, h⟩ := h
      refine KE.se (one_ca (by kernel_rfl) q9) (by kernel_rfl) ?_
      refine KE.run 2 [(2, .bool t18)] 20 15 (by kernel_rfl) fun J => ?_
      obtain ⟨q10, h⟩ := h
      refine KE.fin (H' := H_5) (by kernel_rfl) (rdsS rfl (rd_ok (Hs := [H_4]) (by kernel_rfl) (by kernel_rfl) ⟨one_ldA (by kernel_rfl) q10, trivial⟩)) (by kernel_rfl) ?_
      refine KR.go 0 [(2, .bool t18)] 20 (s' := (.code (sub B [1, 1, 1]) :: [])) fun J => ?_
      exact KR.fi h
    · replace h := iteF c5 h
      refine KE.setV 12 (by kernel_rfl) (bF c5) ?_
      refine KE.run 4 [(12, .bool false), (13, undef), (15, undef), (16, undef)] 20 11 (by kernel_rfl) fun J => ?_
      refine KE.no (Gc := H_3) (by kernel_rfl) (by kernel_rfl) (by kernel_rfl) ?_
      refine KE.no (Gc := H_3) (by kernel_rfl) (by kernel_rfl) (by kernel_rfl) ?_
      refine KE.run 2 [(2, .bool false)] 20 15 (by kernel_rfl) fun J => ?_
      refine KE.fin (H' := H_3) (by kernel_rfl) rfl (by kernel_rfl) ?_
      refine KR.go 0 [(2, .bool false)] 20 (s' := (.code (sub B [1, 1, 1]) :: [])) fun J => ?_
      exact KR.fi h
end F14
/-! #### 15 campanile/campanilelaw6.awake -/
namespace F15
noncomputable def B : Code := bodyOf Try.f15
noncomputable def S0 : List It := (.code (sub B [1, 1]) :: [])
noncomputable def S1 : List It := (.code (sub B [1, 1, 1]) :: [])
theorem call  {H : Heap} {r : Value × Heap} (h :
    ∃ (H_1 : Heap), H_1 = H.push (.row [.int .i64 2, .int .i64 0, .int .i64 0, .int .i64 (-2), .slice none 0 0] true) ∧
    (∃ (t6r0a : Option Addr) (t6r0n t6r0k : Nat) (t6r1 : Int) (H_2 : Heap), xC Try.prog good 16 [.slice (some ⟨H.next, 0, none⟩) 1 (UNK 5)] H_1 = some (.tuple #[.slice t6r0a t6r0n t6r0k, .int .i64 t6r1], H_2) ∧
    (if t6r1 = 0 then
    (∃ (t13 : ByteArray), pstrb H_2 t6r0a t6r0n = some t13 ∧
    (r = (.bool (t13.toList == (strC [1, 2, 2, 255, 254]).toList), H_2)))
    else
    (r = (.bool false, H_2))))) :
    xC Try.prog good 15 [] H = some r := by
  refine KR.enter (fn := Try.f15) (c := B) (by kernel_rfl) (by kernel_rfl) ?_
  refine KR.go 7 [(4, .agg #[.int .i64 2, .int .i64 0, .int .i64 0, .int .i64 (-2), .slice none 0 0])] 16 (s' := (.reg (opsAt (sub B [1, 0])) [1, 2, 3, 4, 5, 6, 7] :: S0)) fun J => ?_
  obtain ⟨H_1, q1, h⟩ := h
  refine KR.mk (w := sRow 1 5 [.int .i64 2, .int .i64 0, .int .i64 0, .int .i64 (-2), .slice none 0 0]) (one_al (by kernel_rfl)) q1 ?_
  obtain ⟨t6r0a, t6r0n, t6r0k, t6r1, H_2, q2, h⟩ := h
  refine KR.se (one_ca (by kernel_rfl) q2) ?_
  refine KR.go 11 [(1, .slice t6r0a t6r0n t6r0k), (11, .bool (t6r1 == 0))] 16 (s' := (.reg (opsAt (sub B [1, 1, 0])) [3, 4, 5, 6, 7] :: S1)) fun J => ?_
  by_cases c3 : t6r1 = 0
  · replace h := iteT c3 h
    refine KR.setV 11 (by kernel_rfl) (eT c3) ?_
    refine KR.go 1 [(11, .bool true), (12, .slice t6r0a t6r0n t6r0k)] 16 (s' := (.reg (opsAt (sub B [1, 1, 0])) [4, 5, 6, 7] :: S1)) fun J => ?_
    obtain ⟨t13, q4, h⟩ := h
    refine KR.rd (one_str (by kernel_rfl) q4) ?_
    refine KR.go 4 [(0, .bool (t13.toList == (strC [1, 2, 2, 255, 254]).toList))] 16 (s' := (.code (sub B [1, 1, 1]) :: [])) fun J => ?_
    exact KR.fi h
  · replace h := iteF c3 h
    refine KR.setV 11 (by kernel_rfl) (eF c3) ?_
    refine KR.go 6 [(0, .bool false)] 16 (s' := (.code (sub B [1, 1, 1]) :: [])) fun J => ?_
    exact KR.fi h
end F15
/-! #### 16 campanile/ie.Encode -/
namespace F16
noncomputable def B : Code := bodyOf Try.f16
noncomputable def S0 : List It := (.code (sub B [1, 1]) :: [])
noncomputable def S2 : List It := (.code (sub B [1, 1, 1]) :: [])
noncomputable def S3 : List It := (.code (sub B [1, 1, 1, 1]) :: [])
noncomputable def S4 : List It := (.code (sub B [1, 1, 1, 1, 1]) :: [])
noncomputable def S12 : List It := (.code (sub B [1, 1, 1, 1, 1, 1]) :: [])
noncomputable def S1 : List It := (.code (sub B [1, 0, 1]) :: S0)
noncomputable def S5 : List It := (.blk 0 :: S4)
noncomputable def S6 : List It := (.lp (sub B [1, 1, 1, 1, 0, 1, 0, 0]) :: S5)
noncomputable def S7 : List It := (.code (sub B [1, 1, 1, 1, 0, 1, 0, 0, 1, 1]) :: S6)
noncomputable def S8 : List It := (.code (sub B [1, 1, 1, 1, 0, 1, 0, 0, 1, 1, 1]) :: S6)
noncomputable def S9 : List It := (.blk 1 :: S8)
noncomputable def S10 : List It := (.code (sub B [1, 1, 1, 1, 0, 1, 0, 0, 1, 1, 0, 0, 1]) :: S9)
noncomputable def S11 : List It := (.code (sub B [1, 1, 1, 1, 0, 1, 0, 0, 1, 1, 0, 0, 1, 1]) :: S9)
def L0 (t0a : Option Addr) (t0n t0k : Nat) (t13 : Bool) (H : Heap) (r : Value × Heap) : Prop := ∀ J, KR Try.prog good Try.f16 S1 (mat J 39 [(0, .slice t0a t0n t0k), (13, .bool t13)]) H r
def L1 (t4b t4o : Nat) (t21a : Option Addr) (t21n t21k : Nat) (t22 t23 : Int) (H : Heap) (r : Value × Heap) : Prop := ∀ J, KR Try.prog good Try.f16 S6 (mat J 39 [(4, .pointer (some ⟨t4b, t4o, none⟩)), (21, .slice t21a t21n t21k), (22, .int .i64 t22), (23, .int .i64 t23)]) H r
theorem L0_step {t0a : Option Addr} {t0n t0k : Nat} {t13 : Bool} {H : Heap} {r : Value × Heap} (h :
    if t13 = true then
    (r = (.tuple #[.slice none 0 0, .int .i64 1], H))
    else
    (∃ (H_1 : Heap), H_1 = H.push (.row [.slice none 0 0, .int .i64 0] true) ∧
    (∃ (H_2 : Heap), xC Try.prog good 41 [.pointer (some ⟨H.next, 0, none⟩), .int .u64 (IntKind.wrap .u64 (t0n : Int)), .int .i64 8] H_1 = some (.tuple #[], H_2) ∧
    (L1 (H.next) 0 t0a t0n t0k ((t0n : Int)) 0 H_2 r)))) :
    L0 t0a t0n t0k t13 H r := by
  intro J
  show KR _ _ _ (.code (sub B [1, 0, 1]) :: S0) _ _ _
  by_cases c3 : t13 = true
  · replace h := iteT c3 h
    refine KR.bb true (vB (bT c3)) ?_
    refine KR.go 5 [(2, .slice none 0 0), (3, .int .i64 1)] 39 (s' := (.code (sub B [1, 0, 1, 0, 1]) :: S0)) fun J => ?_
    exact KR.fi h
  · replace h := iteF c3 h
    refine KR.bb false (vB (bF c3)) ?_
    refine KR.go 4 [(0, .slice t0a t0n t0k), (14, .agg #[.slice none 0 0, .int .i64 0])] 39 (s' := (.reg (opsAt (sub B [1, 1, 0])) [1, 2] :: S2)) fun J => ?_
    obtain ⟨H_1, q4, h⟩ := h
    refine KR.mk (w := pRow [.slice none 0 0, .int .i64 0]) (one_al (by kernel_rfl)) q4 ?_
    refine KR.go 8 [(0, .slice t0a t0n t0k), (4, .pointer (some ⟨H.next, 0, none⟩)), (16, .pointer (some ⟨H.next, 0, none⟩)), (19, .int .u64 (IntKind.wrap .u64 (t0n : Int)))] 39 (s' := (.reg (opsAt (sub B [1, 1, 1, 0])) [4] :: S3)) fun J => ?_
    obtain ⟨H_2, q5, h⟩ := h
    refine KR.se (one_ca (by kernel_rfl) q5) ?_
    exact KR.go 10 [(4, .pointer (some ⟨H.next, 0, none⟩)), (21, .slice t0a t0n t0k), (22, .int .i64 (t0n : Int)), (23, .int .i64 0)] 39 (s' := (.lp (sub B [1, 1, 1, 1, 0, 1, 0, 0]) :: S5)) h
theorem L1_step {t4b t4o : Nat} {t21a : Option Addr} {t21n t21k : Nat} {t22 t23 : Int} {H : Heap} {r : Value × Heap} (h :
    if t23 < t22 then
    (∃ (t21ab t21ao : Nat), t21a = some ⟨t21ab, t21ao, none⟩ ∧
    ((0 : Int) ≤ t23 ∧ t23 < (t21n : Int) ∧
    (∃ (t26c0 t26c1 t26c2 t26c3 : Int) (t26c4a : Option Addr) (t26c4n t26c4k : Nat), ldAll H t21ab (t21ao + Int.toNat t23 * 5) [.int .i64 t26c0, .int .i64 t26c1, .int .i64 t26c2, .int .i64 t26c3, .slice t26c4a t26c4n t26c4k] ∧
    (∃ (H_1 : Heap), H_1 = H.push (.row [.int .i64 0, .int .i64 0, .int .i64 0, .int .i64 0, .slice none 0 0] true) ∧
    (∃ (H_2 : Heap), stc H_1 H.next 0 [.int .i64 t26c0, .int .i64 t26c1, .int .i64 t26c2, .int .i64 t26c3, .slice t26c4a t26c4n t26c4k] = some H_2 ∧
    (∃ (t29 : Int), ldc H_2 H.next 0 = some (.int .i64 t29) ∧
    (∃ (H_3 : Heap), xC Try.prog good 41 [.pointer (some ⟨t4b, t4o, none⟩), .int .u64 (IntKind.wrap .u64 t29), .int .i64 8] H_2 = some (.tuple #[], H_3) ∧
    (∃ (t32c0 t32c1 t32c2 t32c3 : Int) (t32c4a : Option Addr) (t32c4n t32c4k : Nat), ldAll H_3 H.next 0 [.int .i64 t32c0, .int .i64 t32c1, .int .i64 t32c2, .int .i64 t32c3, .slice t32c4a t32c4n t32c4k] ∧
    (∃ (t33 : Value) (H_4 : Heap), xC Try.prog good 37 [.agg #[.int .i64 t32c0, .int .i64 t32c1, .int .i64 t32c2, .int .i64 t32c3, .slice t32c4a t32c4n t32c4k]] H_3 = some (t33, H_4) ∧
    ((t33 = .nilIface ∧
    False) ∨
    (∃ (t33t : Nat) (t33v : Value), t33 = .iface t33t t33v ∧
    (∃ (t35g : Nat), xmethod Try.prog t33t "campanile/ie.put" = some t35g ∧ fnGoes Try.prog t35g = true ∧ ∃ (H_5 : Heap), xC Try.prog good t35g [t33v, .pointer (some ⟨t4b, t4o, none⟩)] H_4 = some (.tuple #[], H_5) ∧
    (L1 t4b t4o ((some ⟨t21ab, t21ao, none⟩)) t21n t21k t22 ((IntKind.wrap .i64 (t23 + 1))) H_5 r)))))))))))))
    else
    (∃ (t38a : Option Addr) (t38n t38k : Nat) (H_6 : Heap), xC Try.prog good 42 [.pointer (some ⟨t4b, t4o, none⟩)] H = some (.slice t38a t38n t38k, H_6) ∧
    (r = (.tuple #[.slice t38a t38n t38k, .int .i64 0], H_6)))) :
    L1 t4b t4o t21a t21n t21k t22 t23 H r := by
  intro J
  show KR _ _ _ (.lp (sub B [1, 1, 1, 1, 0, 1, 0, 0]) :: S5) _ _ _
  refine KR.go 6 [(4, .pointer (some ⟨t4b, t4o, none⟩)), (21, .slice t21a t21n t21k), (22, .int .i64 t22), (23, .int .i64 t23), (24, .bool (decide (t23 < t22)))] 39 (s' := (.code (sub B [1, 1, 1, 1, 0, 1, 0, 0, 1, 0]) :: S7)) fun J => ?_
  by_cases c6 : t23 < t22
  · replace h := iteT c6 h
    refine KR.bb true (vB (dT c6)) ?_
    obtain ⟨t21ab, t21ao, rfl, h⟩ := h
    refine KR.go 5 [(4, .pointer (some ⟨t4b, t4o, none⟩)), (21, .slice (some ⟨t21ab, t21ao, none⟩) t21n t21k), (22, .int .i64 t22), (23, .int .i64 t23)] 39 (s' := (.reg (opsAt (sub B [1, 1, 1, 1, 0, 1, 0, 0, 1, 1, 0, 0, 0])) [0, 1, 2, 3] :: S10)) fun J => ?_
    obtain ⟨q7, q7x, h⟩ := h
    refine KR.p (one_ix 5 t21ab t21ao (by kernel_rfl) q7 q7x) ?_
    obtain ⟨t26c0, t26c1, t26c2, t26c3, t26c4a, t26c4n, t26c4k, q8, h⟩ := h
    refine KR.rd (one_ldA (by kernel_rfl) q8) ?_
    obtain ⟨H_1, q9, h⟩ := h
    refine KR.mk (w := pRow [.int .i64 0, .int .i64 0, .int .i64 0, .int .i64 0, .slice none 0 0]) (one_al (by kernel_rfl)) q9 ?_
    obtain ⟨H_2, q10, h⟩ := h
    refine KR.se (one_st (by kernel_rfl) q10) ?_
    refine KR.go 5 [(4, .pointer (some ⟨t4b, t4o, none⟩)), (6, .pointer (some ⟨H.next, 0, none⟩)), (21, .slice (some ⟨t21ab, t21ao, none⟩) t21n t21k), (22, .int .i64 t22), (23, .int .i64 t23), (27, .pointer (some ⟨t4b, t4o, none⟩)), (28, .pointer (some ⟨H.next, 0, none⟩))] 39 (s' := (.reg (opsAt (sub B [1, 1, 1, 1, 0, 1, 0, 0, 1, 1, 0, 0, 1, 0])) [2, 3, 4] :: S11)) fun J => ?_
    obtain ⟨t29, q11, h⟩ := h
    refine KR.rd (one_ld (by kernel_rfl) q11) ?_
    refine KR.go 1 [(4, .pointer (some ⟨t4b, t4o, none⟩)), (6, .pointer (some ⟨H.next, 0, none⟩)), (21, .slice (some ⟨t21ab, t21ao, none⟩) t21n t21k), (22, .int .i64 t22), (23, .int .i64 t23), (27, .pointer (some ⟨t4b, t4o, none⟩)), (30, .int .u64 (IntKind.wrap .u64 t29))] 39 (s' := (.reg (opsAt (sub B [1, 1, 1, 1, 0, 1, 0, 0, 1, 1, 0, 0, 1, 0])) [4] :: S11)) fun J => ?_
    obtain ⟨H_3, q12, h⟩ := h
    refine KR.se (one_ca (by kernel_rfl) q12) ?_
    refine KR.go 2 [(4, .pointer (some ⟨t4b, t4o, none⟩)), (6, .pointer (some ⟨H.next, 0, none⟩)), (21, .slice (some ⟨t21ab, t21ao, none⟩) t21n t21k), (22, .int .i64 t22), (23, .int .i64 t23)] 39 (s' := (.reg (opsAt (sub B [1, 1, 1, 1, 0, 1, 0, 0, 1, 1, 0, 0, 1, 1])) [0, 1, 2, 3] :: S9)) fun J => ?_
    obtain ⟨t32c0, t32c1, t32c2, t32c3, t32c4a, t32c4n, t32c4k, q13, h⟩ := h
    refine KR.rd (one_ldA (by kernel_rfl) q13) ?_
    obtain ⟨t33, H_4, q14, h⟩ := h
    refine KR.se (one_ca (by kernel_rfl) q14) ?_
    refine KR.go 1 [(4, .pointer (some ⟨t4b, t4o, none⟩)), (21, .slice (some ⟨t21ab, t21ao, none⟩) t21n t21k), (22, .int .i64 t22), (23, .int .i64 t23), (33, t33), (34, .pointer (some ⟨t4b, t4o, none⟩))] 39 (s' := (.reg (opsAt (sub B [1, 1, 1, 1, 0, 1, 0, 0, 1, 1, 0, 0, 1, 1])) [3] :: S9)) fun J => ?_
    rcases h with ⟨rfl, h⟩ | ⟨t33t, t33v, rfl, h⟩
    · exact h.elim
    · obtain ⟨t35g, q17m, q17g, H_5, q17, h⟩ := h
      refine KR.se (one_iv (t := t33t) (name := "campanile/ie.put") (by kernel_rfl) q17m q17g q17) ?_
      exact KR.go 6 [(4, .pointer (some ⟨t4b, t4o, none⟩)), (21, .slice (some ⟨t21ab, t21ao, none⟩) t21n t21k), (22, .int .i64 t22), (23, .int .i64 (IntKind.wrap .i64 (t23 + 1)))] 39 (s' := (.lp (sub B [1, 1, 1, 1, 0, 1, 0, 0]) :: S5)) h
  · replace h := iteF c6 h
    refine KR.bb false (vB (dF c6)) ?_
    refine KR.go 4 [(37, .pointer (some ⟨t4b, t4o, none⟩))] 39 (s' := (.reg (opsAt (sub B [1, 1, 1, 1, 1, 0])) [1, 2, 3] :: S12)) fun J => ?_
    obtain ⟨t38a, t38n, t38k, H_6, q18, h⟩ := h
    refine KR.se (one_ca (by kernel_rfl) q18) ?_
    refine KR.go 3 [(2, .slice t38a t38n t38k), (3, .int .i64 0)] 39 (s' := (.code (sub B [1, 1, 1, 1, 1, 1]) :: [])) fun J => ?_
    exact KR.fi h
theorem call {a0a : Option Addr} {a0n a0k : Nat} {H : Heap} {r : Value × Heap} (h :
    if (a0n : Int) > 4 then
    (L0 a0a a0n a0k true H r)
    else
    (∃ (t12 : Bool) (H_1 : Heap), xC Try.prog good 39 [.slice a0a a0n a0k, .func (.func 40) #[] #[]] H = some (.bool t12, H_1) ∧
    (L0 a0a a0n a0k t12 H_1 r))) :
    xC Try.prog good 16 [.slice a0a a0n a0k] H = some r := by
  refine KR.enter (fn := Try.f16) (c := B) (by kernel_rfl) (by kernel_rfl) ?_
  refine KR.go 12 [(0, .slice a0a a0n a0k), (10, .bool (decide ((a0n : Int) > 4)))] 39 (s' := (.reg (opsAt (sub B [1, 0, 0])) [4, 5, 6] :: S1)) fun J => ?_
  by_cases c1 : (a0n : Int) > 4
  · replace h := iteT c1 h
    refine KR.setV 10 (by kernel_rfl) (dT c1) ?_
    exact KR.go 4 [(0, .slice a0a a0n a0k), (13, .bool true)] 39 (s' := (.code (sub B [1, 0, 1]) :: S0)) h
  · replace h := iteF c1 h
    refine KR.setV 10 (by kernel_rfl) (dF c1) ?_
    refine KR.go 1 [(0, .slice a0a a0n a0k), (10, .bool false), (11, .slice a0a a0n a0k)] 39 (s' := (.reg (opsAt (sub B [1, 0, 0])) [5, 6] :: S1)) fun J => ?_
    obtain ⟨t12, H_1, q2, h⟩ := h
    refine KR.se (one_ca (by kernel_rfl) q2) ?_
    exact KR.go 2 [(0, .slice a0a a0n a0k), (13, .bool t12)] 39 (s' := (.code (sub B [1, 0, 1]) :: S0)) h
end F16
/-! #### 17 campanile/ie.Same -/
namespace F17
noncomputable def B : Code := bodyOf Try.f17
noncomputable def S0 : List It := (.code (sub B [1]) :: [])
noncomputable def S1 : List It := (.code (sub B [1, 1]) :: [])
theorem call {a0c0 a0c1 a0c2 a0c3 : Int} {a0c4a : Option Addr} {a0c4n a0c4k : Nat} {a1c0 a1c1 a1c2 a1c3 : Int} {a1c4a : Option Addr} {a1c4n a1c4k : Nat} {H : Heap} {r : Value × Heap} (h :
    ∃ (H_1 : Heap), H_1 = H.push (.row [.int .i64 a0c0, .int .i64 a0c1, .int .i64 a0c2, .int .i64 a0c3, .slice a0c4a a0c4n a0c4k] true) ∧
    (∃ (H_2 : Heap), H_2 = H_1.push (.row [.int .i64 a1c0, .int .i64 a1c1, .int .i64 a1c2, .int .i64 a1c3, .slice a1c4a a1c4n a1c4k] true) ∧
    (∃ (t6 : Int), ldc H_2 H.next 0 = some (.int .i64 t6) ∧
    (∃ (t8 : Int), ldc H_2 H_1.next 0 = some (.int .i64 t8) ∧
    (if t6 = t8 then
    (∃ (t12 : Int), ldc H_2 H.next 1 = some (.int .i64 t12) ∧
    (∃ (t14 : Int), ldc H_2 H_1.next 1 = some (.int .i64 t14) ∧
    (if t12 = t14 then
    (∃ (t19 : Int), ldc H_2 H.next 2 = some (.int .i64 t19) ∧
    (∃ (t21 : Int), ldc H_2 H_1.next 2 = some (.int .i64 t21) ∧
    (if t19 = t21 then
    (∃ (t26 : Int), ldc H_2 H.next 3 = some (.int .i64 t26) ∧
    (∃ (t28 : Int), ldc H_2 H_1.next 3 = some (.int .i64 t28) ∧
    (if t26 = t28 then
    (∃ (t33a : Option Addr) (t33n t33k : Nat), ldc H_2 H.next 4 = some (.slice t33a t33n t33k) ∧
    (∃ (t35a : Option Addr) (t35n t35k : Nat), ldc H_2 H_1.next 4 = some (.slice t35a t35n t35k) ∧
    (∃ (t36 : Bool) (H_3 : Heap), xC Try.prog good 43 [.slice t33a t33n t33k, .slice t35a t35n t35k] H_2 = some (.bool t36, H_3) ∧
    (r = (.bool t36, H_3)))))
    else
    (r = (.bool false, H_2)))))
    else
    (r = (.bool false, H_2)))))
    else
    (r = (.bool false, H_2)))))
    else
    (r = (.bool false, H_2))))))) :
    xC Try.prog good 17 [.agg #[.int .i64 a0c0, .int .i64 a0c1, .int .i64 a0c2, .int .i64 a0c3, .slice a0c4a a0c4n a0c4k], .agg #[.int .i64 a1c0, .int .i64 a1c1, .int .i64 a1c2, .int .i64 a1c3, .slice a1c4a a1c4n a1c4k]] H = some r := by
  refine KR.enter (fn := Try.f17) (c := B) (by kernel_rfl) (by kernel_rfl) ?_
  refine KR.go 2 [(0, .agg #[.int .i64 a0c0, .int .i64 a0c1, .int .i64 a0c2, .int .i64 a0c3, .slice a0c4a a0c4n a0c4k]), (1, .agg #[.int .i64 a1c0, .int .i64 a1c1, .int .i64 a1c2, .int .i64 a1c3, .slice a1c4a a1c4n a1c4k])] 38 (s' := (.reg (opsAt (sub B [0])) [0, 1, 2] :: S0)) fun J => ?_
  obtain ⟨H_1, q1, h⟩ := h
  refine KR.mk (w := pRow [.int .i64 a0c0, .int .i64 a0c1, .int .i64 a0c2, .int .i64 a0c3, .slice a0c4a a0c4n a0c4k]) (one_al (by kernel_rfl)) q1 ?_
  obtain ⟨H_2, q2, h⟩ := h
  refine KR.mk (w := pRow [.int .i64 a1c0, .int .i64 a1c1, .int .i64 a1c2, .int .i64 a1c3, .slice a1c4a a1c4n a1c4k]) (one_al (by kernel_rfl)) q2 ?_
  refine KR.go 5 [(2, .pointer (some ⟨H.next, 0, none⟩)), (3, .pointer (some ⟨H_1.next, 0, none⟩)), (5, .pointer (some ⟨H.next, 0, none⟩))] 38 (s' := (.reg (opsAt (sub B [1, 0])) [1, 2, 3, 4, 5, 6, 7, 8, 9, 10, 11, 12, 13, 14, 15, 16, 17, 18, 19, 20, 21, 22, 23, 24, 25, 26, 27, 28, 29, 30, 31, 32, 33] :: S1)) fun J => ?_
  obtain ⟨t6, q3, h⟩ := h
  refine KR.rd (one_ld (by kernel_rfl) q3) ?_
  refine KR.go 1 [(2, .pointer (some ⟨H.next, 0, none⟩)), (3, .pointer (some ⟨H_1.next, 0, none⟩)), (6, .int .i64 t6), (7, .pointer (some ⟨H_1.next, 0, none⟩))] 38 (s' := (.reg (opsAt (sub B [1, 0])) [3, 4, 5, 6, 7, 8, 9, 10, 11, 12, 13, 14, 15, 16, 17, 18, 19, 20, 21, 22, 23, 24, 25, 26, 27, 28, 29, 30, 31, 32, 33] :: S1)) fun J => ?_
  obtain ⟨t8, q4, h⟩ := h
  refine KR.rd (one_ld (by kernel_rfl) q4) ?_
  refine KR.go 2 [(2, .pointer (some ⟨H.next, 0, none⟩)), (3, .pointer (some ⟨H_1.next, 0, none⟩)), (10, .bool (t6 == t8))] 38 (s' := (.reg (opsAt (sub B [1, 0])) [6, 7, 8, 9, 10, 11, 12, 13, 14, 15, 16, 17, 18, 19, 20, 21, 22, 23, 24, 25, 26, 27, 28, 29, 30, 31, 32, 33] :: S1)) fun J => ?_
  by_cases c5 : t6 = t8
  · replace h := iteT c5 h
    refine KR.setV 10 (by kernel_rfl) (eT c5) ?_
    refine KR.go 1 [(2, .pointer (some ⟨H.next, 0, none⟩)), (3, .pointer (some ⟨H_1.next, 0, none⟩)), (10, .bool true), (11, .pointer (some ⟨H.next, 1, none⟩))] 38 (s' := (.reg (opsAt (sub B [1, 0])) [7, 8, 9, 10, 11, 12, 13, 14, 15, 16, 17, 18, 19, 20, 21, 22, 23, 24, 25, 26, 27, 28, 29, 30, 31, 32, 33] :: S1)) fun J => ?_
    obtain ⟨t12, q6, h⟩ := h
    refine KR.rd (one_ld (by kernel_rfl) q6) ?_
    refine KR.go 1 [(2, .pointer (some ⟨H.next, 0, none⟩)), (3, .pointer (some ⟨H_1.next, 0, none⟩)), (10, .bool true), (12, .int .i64 t12), (13, .pointer (some ⟨H_1.next, 1, none⟩))] 38 (s' := (.reg (opsAt (sub B [1, 0])) [9, 10, 11, 12, 13, 14, 15, 16, 17, 18, 19, 20, 21, 22, 23, 24, 25, 26, 27, 28, 29, 30, 31, 32, 33] :: S1)) fun J => ?_
    obtain ⟨t14, q7, h⟩ := h
    refine KR.rd (one_ld (by kernel_rfl) q7) ?_
    refine KR.go 3 [(2, .pointer (some ⟨H.next, 0, none⟩)), (3, .pointer (some ⟨H_1.next, 0, none⟩)), (17, .bool (t12 == t14))] 38 (s' := (.reg (opsAt (sub B [1, 0])) [13, 14, 15, 16, 17, 18, 19, 20, 21, 22, 23, 24, 25, 26, 27, 28, 29, 30, 31, 32, 33] :: S1)) fun J => ?_
    by_cases c8 : t12 = t14
    · replace h := iteT c8 h
      refine KR.setV 17 (by kernel_rfl) (eT c8) ?_
      refine KR.go 1 [(2, .pointer (some ⟨H.next, 0, none⟩)), (3, .pointer (some ⟨H_1.next, 0, none⟩)), (17, .bool true), (18, .pointer (some ⟨H.next, 2, none⟩))] 38 (s' := (.reg (opsAt (sub B [1, 0])) [14, 15, 16, 17, 18, 19, 20, 21, 22, 23, 24, 25, 26, 27, 28, 29, 30, 31, 32, 33] :: S1)) fun J => ?_
      obtain ⟨t19, q9, h⟩ := h
      refine KR.rd (one_ld (by kernel_rfl) q9) ?_
      refine KR.go 1 [(2, .pointer (some ⟨H.next, 0, none⟩)), (3, .pointer (some ⟨H_1.next, 0, none⟩)), (17, .bool true), (19, .int .i64 t19), (20, .pointer (some ⟨H_1.next, 2, none⟩))] 38 (s' := (.reg (opsAt (sub B [1, 0])) [16, 17, 18, 19, 20, 21, 22, 23, 24, 25, 26, 27, 28, 29, 30, 31, 32, 33] :: S1)) fun J => ?_
      obtain ⟨t21, q10, h⟩ := h
      refine KR.rd (one_ld (by kernel_rfl) q10) ?_
      refine KR.go 3 [(2, .pointer (some ⟨H.next, 0, none⟩)), (3, .pointer (some ⟨H_1.next, 0, none⟩)), (24, .bool (t19 == t21))] 38 (s' := (.reg (opsAt (sub B [1, 0])) [20, 21, 22, 23, 24, 25, 26, 27, 28, 29, 30, 31, 32, 33] :: S1)) fun J => ?_
      by_cases c11 : t19 = t21
      · replace h := iteT c11 h
        refine KR.setV 24 (by kernel_rfl) (eT c11) ?_
        refine KR.go 1 [(2, .pointer (some ⟨H.next, 0, none⟩)), (3, .pointer (some ⟨H_1.next, 0, none⟩)), (24, .bool true), (25, .pointer (some ⟨H.next, 3, none⟩))] 38 (s' := (.reg (opsAt (sub B [1, 0])) [21, 22, 23, 24, 25, 26, 27, 28, 29, 30, 31, 32, 33] :: S1)) fun J => ?_
        obtain ⟨t26, q12, h⟩ := h
        refine KR.rd (one_ld (by kernel_rfl) q12) ?_
        refine KR.go 1 [(2, .pointer (some ⟨H.next, 0, none⟩)), (3, .pointer (some ⟨H_1.next, 0, none⟩)), (24, .bool true), (26, .int .i64 t26), (27, .pointer (some ⟨H_1.next, 3, none⟩))] 38 (s' := (.reg (opsAt (sub B [1, 0])) [23, 24, 25, 26, 27, 28, 29, 30, 31, 32, 33] :: S1)) fun J => ?_
        obtain ⟨t28, q13, h⟩ := h
        refine KR.rd (one_ld (by kernel_rfl) q13) ?_
        refine KR.go 3 [(2, .pointer (some ⟨H.next, 0, none⟩)), (3, .pointer (some ⟨H_1.next, 0, none⟩)), (31, .bool (t26 == t28))] 38 (s' := (.reg (opsAt (sub B [1, 0])) [27, 28, 29, 30, 31, 32, 33] :: S1)) fun J => ?_
        by_cases c14 : t26 = t28
        · replace h := iteT c14 h
          refine KR.setV 31 (by kernel_rfl) (eT c14) ?_
          refine KR.go 1 [(3, .pointer (some ⟨H_1.next, 0, none⟩)), (31, .bool true), (32, .pointer (some ⟨H.next, 4, none⟩))] 38 (s' := (.reg (opsAt (sub B [1, 0])) [28, 29, 30, 31, 32, 33] :: S1)) fun J => ?_
          obtain ⟨t33a, t33n, t33k, q15, h⟩ := h
          refine KR.rd (one_ld (by kernel_rfl) q15) ?_
          refine KR.go 1 [(31, .bool true), (33, .slice t33a t33n t33k), (34, .pointer (some ⟨H_1.next, 4, none⟩))] 38 (s' := (.reg (opsAt (sub B [1, 0])) [30, 31, 32, 33] :: S1)) fun J => ?_
          obtain ⟨t35a, t35n, t35k, q16, h⟩ := h
          refine KR.rd (one_ld (by kernel_rfl) q16) ?_
          obtain ⟨t36, H_3, q17, h⟩ := h
          refine KR.se (one_ca (by kernel_rfl) q17) ?_
          refine KR.go 3 [(4, .bool t36)] 38 (s' := (.code (sub B [1, 1]) :: [])) fun J => ?_
          exact KR.fi h
        · replace h := iteF c14 h
          refine KR.setV 31 (by kernel_rfl) (eF c14) ?_
          refine KR.go 8 [(4, .bool false)] 38 (s' := (.code (sub B [1, 1]) :: [])) fun J => ?_
          exact KR.fi h
      · replace h := iteF c11 h
        refine KR.setV 24 (by kernel_rfl) (eF c11) ?_
        refine KR.go 15 [(4, .bool false)] 38 (s' := (.code (sub B [1, 1]) :: [])) fun J => ?_
        exact KR.fi h
    · replace h := iteF c8 h
      refine KR.setV 17 (by kernel_rfl) (eF c8) ?_
      refine KR.go 22 [(4, .bool false)] 38 (s' := (.code (sub B [1, 1]) :: [])) fun J => ?_
      exact KR.fi h
  · replace h := iteF c5 h
    refine KR.setV 10 (by kernel_rfl) (eF c5) ?_
    refine KR.go 29 [(4, .bool false)] 38 (s' := (.code (sub B [1, 1]) :: [])) fun J => ?_
    exact KR.fi h
end F17
/-! #### 21 campanile/ie.Find -/
namespace F21
noncomputable def B : Code := bodyOf Try.f21
noncomputable def S0 : List It := (.code (sub B [1]) :: [])
noncomputable def S1 : List It := (.code (sub B [1, 1]) :: [])
noncomputable def S11 : List It := (.code (sub B [1, 1, 1]) :: [])
noncomputable def S2 : List It := (.blk 0 :: S1)
noncomputable def S3 : List It := (.lp (sub B [1, 0, 1, 0, 0]) :: S2)
noncomputable def S4 : List It := (.code (sub B [1, 0, 1, 0, 0, 1, 1]) :: S3)
noncomputable def S5 : List It := (.code (sub B [1, 0, 1, 0, 0, 1, 1, 1]) :: S3)
noncomputable def S6 : List It := (.blk 1 :: S5)
noncomputable def S7 : List It := (.code (sub B [1, 0, 1, 0, 0, 1, 1, 0, 0, 1]) :: S6)
noncomputable def S8 : List It := (.code (sub B [1, 0, 1, 0, 0, 1, 1, 0, 0, 1, 1]) :: S6)
noncomputable def S9 : List It := (.code (sub B [1, 0, 1, 0, 0, 1, 1, 0, 0, 1, 1, 0, 1]) :: S6)
noncomputable def S10 : List It := (.code (sub B [1, 0, 1, 0, 0, 1, 1, 0, 0, 1, 1, 0, 1, 1]) :: S6)
def L0 (t1 : Int) (t4b t4o : Nat) (t8a : Option Addr) (t8n t8k : Nat) (t9 t10 : Int) (H : Heap) (r : Value × Heap) : Prop := ∀ J, KR Try.prog good Try.f21 S3 (mat J 25 [(1, .int .i64 t1), (4, .pointer (some ⟨t4b, t4o, none⟩)), (8, .slice t8a t8n t8k), (9, .int .i64 t9), (10, .int .i64 t10)]) H r
theorem L0_step {t1 : Int} {t4b t4o : Nat} {t8a : Option Addr} {t8n t8k : Nat} {t9 t10 : Int} {H : Heap} {r : Value × Heap} (h :
    if t10 < t9 then
    (∃ (t8ab t8ao : Nat), t8a = some ⟨t8ab, t8ao, none⟩ ∧
    ((0 : Int) ≤ t10 ∧ t10 < (t8n : Int) ∧
    (∃ (t13c0 t13c1 t13c2 t13c3 : Int) (t13c4a : Option Addr) (t13c4n t13c4k : Nat), ldAll H t8ab (t8ao + Int.toNat t10 * 5) [.int .i64 t13c0, .int .i64 t13c1, .int .i64 t13c2, .int .i64 t13c3, .slice t13c4a t13c4n t13c4k] ∧
    (∃ (H_1 : Heap), H_1 = H.push (.row [.int .i64 0, .int .i64 0, .int .i64 0, .int .i64 0, .slice none 0 0] true) ∧
    (∃ (H_2 : Heap), stc H_1 H.next 0 [.int .i64 t13c0, .int .i64 t13c1, .int .i64 t13c2, .int .i64 t13c3, .slice t13c4a t13c4n t13c4k] = some H_2 ∧
    (∃ (t15 : Int), ldc H_2 H.next 0 = some (.int .i64 t15) ∧
    (if t15 = t1 then
    (∃ (t19a : Option Addr) (t19n t19k : Nat), ldc H_2 H.next 4 = some (.slice t19a t19n t19k) ∧
    (∃ (t20a : Option Addr) (t20n t20k : Nat) (H_3 : Heap), xC Try.prog good 47 [.slice t19a t19n t19k] H_2 = some (.slice t20a t20n t20k, H_3) ∧
    (∃ (H_4 : Heap), stc H_3 H.next 4 [.slice t20a t20n t20k] = some H_4 ∧
    (∃ (t22c0 t22c1 t22c2 t22c3 : Int) (t22c4a : Option Addr) (t22c4n t22c4k : Nat), ldAll H_4 H.next 0 [.int .i64 t22c0, .int .i64 t22c1, .int .i64 t22c2, .int .i64 t22c3, .slice t22c4a t22c4n t22c4k] ∧
    (∃ (H_5 : Heap), stc H_4 t4b t4o [.int .i64 t22c0, .int .i64 t22c1, .int .i64 t22c2, .int .i64 t22c3, .slice t22c4a t22c4n t22c4k] = some H_5 ∧
    (∃ (r4c0 r4c1 r4c2 r4c3 : Int) (r4c4a : Option Addr) (r4c4n r4c4k : Nat), ldAll H_5 t4b t4o [.int .i64 r4c0, .int .i64 r4c1, .int .i64 r4c2, .int .i64 r4c3, .slice r4c4a r4c4n r4c4k] ∧
    (r = (.tuple #[.agg #[.int .i64 r4c0, .int .i64 r4c1, .int .i64 r4c2, .int .i64 r4c3, .slice r4c4a r4c4n r4c4k], .bool true], H_5))))))))
    else
    (L0 t1 t4b t4o ((some ⟨t8ab, t8ao, none⟩)) t8n t8k t9 ((IntKind.wrap .i64 (t10 + 1))) H_2 r))))))))
    else
    (∃ (H_6 : Heap), stc H t4b t4o [.int .i64 0, .int .i64 0, .int .i64 0, .int .i64 0, .slice none 0 0] = some H_6 ∧
    (∃ (r4c0_1 r4c1_1 r4c2_1 r4c3_1 : Int) (r4c4a_1 : Option Addr) (r4c4n_1 r4c4k_1 : Nat), ldAll H_6 t4b t4o [.int .i64 r4c0_1, .int .i64 r4c1_1, .int .i64 r4c2_1, .int .i64 r4c3_1, .slice r4c4a_1 r4c4n_1 r4c4k_1] ∧
    (r = (.tuple #[.agg #[.int .i64 r4c0_1, .int .i64 r4c1_1, .int .i64 r4c2_1, .int .i64 r4c3_1, .slice r4c4a_1 r4c4n_1 r4c4k_1], .bool false], H_6))))) :
    L0 t1 t4b t4o t8a t8n t8k t9 t10 H r := by
  intro J
  show KR _ _ _ (.lp (sub B [1, 0, 1, 0, 0]) :: S2) _ _ _
  refine KR.go 6 [(1, .int .i64 t1), (4, .pointer (some ⟨t4b, t4o, none⟩)), (8, .slice t8a t8n t8k), (9, .int .i64 t9), (10, .int .i64 t10), (11, .bool (decide (t10 < t9)))] 25 (s' := (.code (sub B [1, 0, 1, 0, 0, 1, 0]) :: S4)) fun J => ?_
  by_cases c2 : t10 < t9
  · replace h := iteT c2 h
    refine KR.bb true (vB (dT c2)) ?_
    obtain ⟨t8ab, t8ao, rfl, h⟩ := h
    refine KR.go 5 [(1, .int .i64 t1), (4, .pointer (some ⟨t4b, t4o, none⟩)), (8, .slice (some ⟨t8ab, t8ao, none⟩) t8n t8k), (9, .int .i64 t9), (10, .int .i64 t10)] 25 (s' := (.reg (opsAt (sub B [1, 0, 1, 0, 0, 1, 1, 0, 0, 0])) [0, 1, 2, 3] :: S7)) fun J => ?_
    obtain ⟨q3, q3x, h⟩ := h
    refine KR.p (one_ix 5 t8ab t8ao (by kernel_rfl) q3 q3x) ?_
    obtain ⟨t13c0, t13c1, t13c2, t13c3, t13c4a, t13c4n, t13c4k, q4, h⟩ := h
    refine KR.rd (one_ldA (by kernel_rfl) q4) ?_
    obtain ⟨H_1, q5, h⟩ := h
    refine KR.mk (w := pRow [.int .i64 0, .int .i64 0, .int .i64 0, .int .i64 0, .slice none 0 0]) (one_al (by kernel_rfl)) q5 ?_
    obtain ⟨H_2, q6, h⟩ := h
    refine KR.se (one_st (by kernel_rfl) q6) ?_
    refine KR.go 4 [(1, .int .i64 t1), (4, .pointer (some ⟨t4b, t4o, none⟩)), (7, .pointer (some ⟨H.next, 0, none⟩)), (8, .slice (some ⟨t8ab, t8ao, none⟩) t8n t8k), (9, .int .i64 t9), (10, .int .i64 t10), (14, .pointer (some ⟨H.next, 0, none⟩))] 25 (s' := (.reg (opsAt (sub B [1, 0, 1, 0, 0, 1, 1, 0, 0, 1, 0])) [1, 2, 3] :: S8)) fun J => ?_
    obtain ⟨t15, q7, h⟩ := h
    refine KR.rd (one_ld (by kernel_rfl) q7) ?_
    refine KR.go 3 [(1, .int .i64 t1), (4, .pointer (some ⟨t4b, t4o, none⟩)), (7, .pointer (some ⟨H.next, 0, none⟩)), (8, .slice (some ⟨t8ab, t8ao, none⟩) t8n t8k), (9, .int .i64 t9), (10, .int .i64 t10), (17, .bool (t15 == t1))] 25 (s' := (.code (sub B [1, 0, 1, 0, 0, 1, 1, 0, 0, 1, 1]) :: S6)) fun J => ?_
    by_cases c8 : t15 = t1
    · replace h := iteT c8 h
      refine KR.bb true (vB (eT c8)) ?_
      refine KR.go 3 [(4, .pointer (some ⟨t4b, t4o, none⟩)), (7, .pointer (some ⟨H.next, 0, none⟩)), (18, .pointer (some ⟨H.next, 4, none⟩))] 25 (s' := (.reg (opsAt (sub B [1, 0, 1, 0, 0, 1, 1, 0, 0, 1, 1, 0, 0])) [1, 2, 3, 4] :: S9)) fun J => ?_
      obtain ⟨t19a, t19n, t19k, q9, h⟩ := h
      refine KR.rd (one_ld (by kernel_rfl) q9) ?_
      obtain ⟨t20a, t20n, t20k, H_3, q10, h⟩ := h
      refine KR.se (one_ca (by kernel_rfl) q10) ?_
      refine KR.go 1 [(4, .pointer (some ⟨t4b, t4o, none⟩)), (7, .pointer (some ⟨H.next, 0, none⟩)), (20, .slice t20a t20n t20k), (21, .pointer (some ⟨H.next, 4, none⟩))] 25 (s' := (.reg (opsAt (sub B [1, 0, 1, 0, 0, 1, 1, 0, 0, 1, 1, 0, 0])) [4] :: S9)) fun J => ?_
      obtain ⟨H_4, q11, h⟩ := h
      refine KR.se (one_st (by kernel_rfl) q11) ?_
      refine KR.go 3 [(4, .pointer (some ⟨t4b, t4o, none⟩)), (7, .pointer (some ⟨H.next, 0, none⟩))] 25 (s' := (.reg (opsAt (sub B [1, 0, 1, 0, 0, 1, 1, 0, 0, 1, 1, 0, 1, 0])) [0, 1, 2] :: S10)) fun J => ?_
      obtain ⟨t22c0, t22c1, t22c2, t22c3, t22c4a, t22c4n, t22c4k, q12, h⟩ := h
      refine KR.rd (one_ldA (by kernel_rfl) q12) ?_
      obtain ⟨H_5, q13, h⟩ := h
      refine KR.se (one_st (by kernel_rfl) q13) ?_
      refine KR.go 2 [(4, .pointer (some ⟨t4b, t4o, none⟩)), (5, .bool true)] 25 (s' := (.code (sub B [1, 0, 1, 0, 0, 1, 1, 0, 0, 1, 1, 0, 1, 1]) :: S6)) fun J => ?_
      obtain ⟨r4c0, r4c1, r4c2, r4c3, r4c4a, r4c4n, r4c4k, q14, h⟩ := h
      exact KR.finR (l := [.cell 4 24, .tmp 5]) (vs := [.agg #[.int .i64 r4c0, .int .i64 r4c1, .int .i64 r4c2, .int .i64 r4c3, .slice r4c4a r4c4n r4c4k], .bool true]) (by kernel_rfl) (Res.cellA (by kernel_rfl) q14 (Res.tmp (by kernel_rfl) Res.nil)) (by kernel_rfl) h
    · replace h := iteF c8 h
      refine KR.bb false (vB (eF c8)) ?_
      exact KR.go 6 [(1, .int .i64 t1), (4, .pointer (some ⟨t4b, t4o, none⟩)), (8, .slice (some ⟨t8ab, t8ao, none⟩) t8n t8k), (9, .int .i64 t9), (10, .int .i64 (IntKind.wrap .i64 (t10 + 1)))] 25 (s' := (.lp (sub B [1, 0, 1, 0, 0]) :: S2)) h
  · replace h := iteF c2 h
    refine KR.bb false (vB (dF c2)) ?_
    refine KR.go 4 [(4, .pointer (some ⟨t4b, t4o, none⟩)), (24, .agg #[.int .i64 0, .int .i64 0, .int .i64 0, .int .i64 0, .slice none 0 0])] 25 (s' := (.reg (opsAt (sub B [1, 1, 0])) [1, 2] :: S11)) fun J => ?_
    obtain ⟨H_6, q15, h⟩ := h
    refine KR.se (one_st (by kernel_rfl) q15) ?_
    refine KR.go 2 [(4, .pointer (some ⟨t4b, t4o, none⟩)), (5, .bool false)] 25 (s' := (.code (sub B [1, 1, 1]) :: [])) fun J => ?_
    obtain ⟨r4c0_1, r4c1_1, r4c2_1, r4c3_1, r4c4a_1, r4c4n_1, r4c4k_1, q16, h⟩ := h
    exact KR.finR (l := [.cell 4 24, .tmp 5]) (vs := [.agg #[.int .i64 r4c0_1, .int .i64 r4c1_1, .int .i64 r4c2_1, .int .i64 r4c3_1, .slice r4c4a_1 r4c4n_1 r4c4k_1], .bool false]) (by kernel_rfl) (Res.cellA (by kernel_rfl) q16 (Res.tmp (by kernel_rfl) Res.nil)) (by kernel_rfl) h
theorem call {a0a : Option Addr} {a0n a0k : Nat} {a1 : Int} {H : Heap} {r : Value × Heap} (h :
    ∃ (H_1 : Heap), H_1 = H.push (.row [.int .i64 0, .int .i64 0, .int .i64 0, .int .i64 0, .slice none 0 0] true) ∧
    (L0 a1 (H.next) 0 a0a a0n a0k ((a0n : Int)) 0 H_1 r)) :
    xC Try.prog good 21 [.slice a0a a0n a0k, .int .i64 a1] H = some r := by
  refine KR.enter (fn := Try.f21) (c := B) (by kernel_rfl) (by kernel_rfl) ?_
  refine KR.go 2 [(0, .slice a0a a0n a0k), (1, .int .i64 a1)] 25 (s' := (.reg (opsAt (sub B [0])) [0, 1] :: S0)) fun J => ?_
  obtain ⟨H_1, q1, h⟩ := h
  refine KR.mk (w := pRow [.int .i64 0, .int .i64 0, .int .i64 0, .int .i64 0, .slice none 0 0]) (one_al (by kernel_rfl)) q1 ?_
  exact KR.go 11 [(1, .int .i64 a1), (4, .pointer (some ⟨H.next, 0, none⟩)), (8, .slice a0a a0n a0k), (9, .int .i64 (a0n : Int)), (10, .int .i64 0)] 25 (s' := (.lp (sub B [1, 0, 1, 0, 0]) :: S2)) h
end F21
/-! #### 37 campanile/ie.of -/
namespace F37
noncomputable def B : Code := bodyOf Try.f37
noncomputable def S0 : List It := (.code (sub B [1]) :: [])
noncomputable def S1 : List It := (.code (sub B [1, 1]) :: [])
noncomputable def S2 : List It := (.code (sub B [1, 0, 1]) :: S1)
noncomputable def S3 : List It := (.blk 0 :: S1)
noncomputable def S4 : List It := (.code (sub B [1, 0, 1, 0, 1, 0, 1]) :: S3)
noncomputable def S5 : List It := (.code (sub B [1, 0, 1, 0, 1, 1, 1, 0, 1]) :: S3)
noncomputable def S6 : List It := (.code (sub B [1, 0, 1, 0, 1, 1, 1, 1, 1]) :: S3)
noncomputable def S7 : List It := (.code (sub B [1, 0, 1, 0, 1, 1, 1, 1, 1, 0, 1]) :: S3)
def L0 (t1b t1o : Nat) (t19 : Bool) (H : Heap) (r : Value × Heap) : Prop := ∀ J, KR Try.prog good Try.f37 S6 (mat J 26 [(1, .pointer (some ⟨t1b, t1o, none⟩)), (19, .bool t19)]) H r
theorem L0_step {t1b t1o : Nat} {t19 : Bool} {H : Heap} {r : Value × Heap} (h :
    if t19 = true then
    (∃ (t23a : Option Addr) (t23n t23k : Nat), ldc H t1b (t1o + 4) = some (.slice t23a t23n t23k) ∧
    (r = (.iface 98 (.agg #[.slice t23a t23n t23k]), H)))
    else
    (r = (.nilIface, H))) :
    L0 t1b t1o t19 H r := by
  intro J
  show KR _ _ _ (.code (sub B [1, 0, 1, 0, 1, 1, 1, 1, 1]) :: S3) _ _ _
  by_cases c9 : t19 = true
  · replace h := iteT c9 h
    refine KR.bb true (vB (bT c9)) ?_
    refine KR.go 3 [(22, .pointer (some ⟨t1b, (t1o + 4), none⟩))] 26 (s' := (.reg (opsAt (sub B [1, 0, 1, 0, 1, 1, 1, 1, 1, 0, 0])) [1, 2, 3, 4] :: S7)) fun J => ?_
    obtain ⟨t23a, t23n, t23k, q10, h⟩ := h
    refine KR.rd (one_ld (by kernel_rfl) q10) ?_
    refine KR.go 4 [(2, .iface 98 (.agg #[.slice t23a t23n t23k]))] 26 (s' := (.code (sub B [1, 0, 1, 0, 1, 1, 1, 1, 1, 0, 1]) :: S3)) fun J => ?_
    exact KR.fi h
  · replace h := iteF c9 h
    refine KR.bb false (vB (bF c9)) ?_
    refine KR.go 6 [(2, .nilIface)] 26 (s' := (.code (sub B [1, 1, 1]) :: [])) fun J => ?_
    exact KR.fi h
theorem call {a0c0 a0c1 a0c2 a0c3 : Int} {a0c4a : Option Addr} {a0c4n a0c4k : Nat} {H : Heap} {r : Value × Heap} (h :
    ∃ (H_1 : Heap), H_1 = H.push (.row [.int .i64 a0c0, .int .i64 a0c1, .int .i64 a0c2, .int .i64 a0c3, .slice a0c4a a0c4n a0c4k] true) ∧
    (∃ (t4 : Int), ldc H_1 H.next 0 = some (.int .i64 t4) ∧
    (if t4 = 1 then
    (∃ (t8 : Int), ldc H_1 H.next 1 = some (.int .i64 t8) ∧
    (∃ (t10 : Int), ldc H_1 H.next 2 = some (.int .i64 t10) ∧
    (r = (.iface 94 (.agg #[.int .i64 t8, .int .i64 t10]), H_1))))
    else
    (if t4 = 2 then
    (∃ (t16 : Int), ldc H_1 H.next 3 = some (.int .i64 t16) ∧
    (r = (.iface 96 (.agg #[.int .i64 t16]), H_1)))
    else
    (if t4 = 3 then
    (L0 (H.next) 0 ((t4 == 3)) H_1 r)
    else
    (L0 (H.next) 0 ((t4 == 4)) H_1 r)))))) :
    xC Try.prog good 37 [.agg #[.int .i64 a0c0, .int .i64 a0c1, .int .i64 a0c2, .int .i64 a0c3, .slice a0c4a a0c4n a0c4k]] H = some r := by
  refine KR.enter (fn := Try.f37) (c := B) (by kernel_rfl) (by kernel_rfl) ?_
  refine KR.go 2 [(0, .agg #[.int .i64 a0c0, .int .i64 a0c1, .int .i64 a0c2, .int .i64 a0c3, .slice a0c4a a0c4n a0c4k])] 26 (s' := (.reg (opsAt (sub B [0])) [0, 1] :: S0)) fun J => ?_
  obtain ⟨H_1, q1, h⟩ := h
  refine KR.mk (w := pRow [.int .i64 a0c0, .int .i64 a0c1, .int .i64 a0c2, .int .i64 a0c3, .slice a0c4a a0c4n a0c4k]) (one_al (by kernel_rfl)) q1 ?_
  refine KR.go 6 [(1, .pointer (some ⟨H.next, 0, none⟩)), (3, .pointer (some ⟨H.next, 0, none⟩))] 26 (s' := (.reg (opsAt (sub B [1, 0, 0])) [1] :: S2)) fun J => ?_
  obtain ⟨t4, q2, h⟩ := h
  refine KR.rd (one_ld (by kernel_rfl) q2) ?_
  refine KR.go 7 [(1, .pointer (some ⟨H.next, 0, none⟩)), (4, .int .i64 t4), (5, .bool (t4 == 1))] 26 (s' := (.code (sub B [1, 0, 1, 0, 1]) :: S3)) fun J => ?_
  by_cases c3 : t4 = 1
  · replace h := iteT c3 h
    refine KR.bb true (vB (eT c3)) ?_
    refine KR.go 3 [(1, .pointer (some ⟨H.next, 0, none⟩)), (7, .pointer (some ⟨H.next, 1, none⟩))] 26 (s' := (.reg (opsAt (sub B [1, 0, 1, 0, 1, 0, 0])) [1, 2, 3, 4, 5, 6] :: S4)) fun J => ?_
    obtain ⟨t8, q4, h⟩ := h
    refine KR.rd (one_ld (by kernel_rfl) q4) ?_
    refine KR.go 1 [(8, .int .i64 t8), (9, .pointer (some ⟨H.next, 2, none⟩))] 26 (s' := (.reg (opsAt (sub B [1, 0, 1, 0, 1, 0, 0])) [3, 4, 5, 6] :: S4)) fun J => ?_
    obtain ⟨t10, q5, h⟩ := h
    refine KR.rd (one_ld (by kernel_rfl) q5) ?_
    refine KR.go 4 [(2, .iface 94 (.agg #[.int .i64 t8, .int .i64 t10]))] 26 (s' := (.code (sub B [1, 0, 1, 0, 1, 0, 1]) :: S3)) fun J => ?_
    exact KR.fi h
  · replace h := iteF c3 h
    refine KR.bb false (vB (eF c3)) ?_
    refine KR.go 5 [(1, .pointer (some ⟨H.next, 0, none⟩)), (4, .int .i64 t4), (13, .bool (t4 == 2))] 26 (s' := (.code (sub B [1, 0, 1, 0, 1, 1, 1]) :: S3)) fun J => ?_
    by_cases c6 : t4 = 2
    · replace h := iteT c6 h
      refine KR.bb true (vB (eT c6)) ?_
      refine KR.go 3 [(15, .pointer (some ⟨H.next, 3, none⟩))] 26 (s' := (.reg (opsAt (sub B [1, 0, 1, 0, 1, 1, 1, 0, 0])) [1, 2, 3, 4] :: S5)) fun J => ?_
      obtain ⟨t16, q7, h⟩ := h
      refine KR.rd (one_ld (by kernel_rfl) q7) ?_
      refine KR.go 4 [(2, .iface 96 (.agg #[.int .i64 t16]))] 26 (s' := (.code (sub B [1, 0, 1, 0, 1, 1, 1, 0, 1]) :: S3)) fun J => ?_
      exact KR.fi h
    · replace h := iteF c6 h
      refine KR.bb false (vB (eF c6)) ?_
      refine KR.go 6 [(1, .pointer (some ⟨H.next, 0, none⟩)), (4, .int .i64 t4), (19, .bool (t4 == 3))] 26 (s' := (.code (sub B [1, 0, 1, 0, 1, 1, 1, 1, 0, 1]) :: S6)) fun J => ?_
      by_cases c8 : t4 = 3
      · replace h := iteT c8 h
        refine KR.bb true (vB (eT c8)) ?_
        exact KR.go 1 [(1, .pointer (some ⟨H.next, 0, none⟩)), (19, .bool (t4 == 3))] 26 (s' := (.code (sub B [1, 0, 1, 0, 1, 1, 1, 1, 1]) :: S3)) h
      · replace h := iteF c8 h
        refine KR.bb false (vB (eF c8)) ?_
        exact KR.go 4 [(1, .pointer (some ⟨H.next, 0, none⟩)), (19, .bool (t4 == 4))] 26 (s' := (.code (sub B [1, 0, 1, 0, 1, 1, 1, 1, 1]) :: S3)) h
end F37
/-! #### 38 campanile/ie.plain -/
namespace F38
noncomputable def B : Code := bodyOf Try.f38
noncomputable def S0 : List It := (.code (sub B [1]) :: [])
noncomputable def S1 : List It := (.code (sub B [1, 1]) :: [])
noncomputable def S2 : List It := (.code (sub B [1, 1, 1]) :: [])
noncomputable def S4 : List It := (.code (sub B [1, 1, 1, 1]) :: [])
noncomputable def S6 : List It := (.code (sub B [1, 1, 1, 1, 1]) :: [])
noncomputable def S8 : List It := (.code (sub B [1, 1, 1, 1, 1, 1]) :: [])
noncomputable def S3 : List It := (.code (sub B [1, 1, 0, 1]) :: S2)
noncomputable def S5 : List It := (.code (sub B [1, 1, 1, 0, 1]) :: S4)
noncomputable def S7 : List It := (.code (sub B [1, 1, 1, 1, 0, 1]) :: S6)
noncomputable def S9 : List It := (.reg (opsAt (sub B [1, 1, 1, 0, 0])) [0, 1, 2, 3, 4, 5, 6, 7] :: S5)
noncomputable def S10 : List It := (.reg (opsAt (sub B [1, 1, 1, 1, 0, 0])) [0, 1, 2, 3, 4, 5, 6, 7] :: S7)
def L0 (t1 : Value) (t4b t4o t5b t5o : Nat) (H : Heap) (r : Value × Heap) : Prop := ∀ J, KR Try.prog good Try.f38 S9 (mat J 45 [(1, t1), (4, .pointer (some ⟨t4b, t4o, none⟩)), (5, .pointer (some ⟨t5b, t5o, none⟩))]) H r
def L1 (t1 : Value) (t4b t4o t5b t5o : Nat) (H : Heap) (r : Value × Heap) : Prop := ∀ J, KR Try.prog good Try.f38 S10 (mat J 45 [(1, t1), (4, .pointer (some ⟨t4b, t4o, none⟩)), (5, .pointer (some ⟨t5b, t5o, none⟩))]) H r
theorem L0_step {t1 : Value} {t4b t4o t5b t5o : Nat} {H : Heap} {r : Value × Heap} (h :
    (t1 = .nilIface ∧
    (∃ (H_1 : Heap), H_1 = H.push (.row [.int .i64 0] true) ∧
    (∃ (H_2 : Heap), stc H_1 H.next 0 [.int .i64 0] = some H_2 ∧
    (L1 (.nilIface) t4b t4o t5b t5o H_2 r)))) ∨
    (∃ (t1t : Nat) (t1v : Value), t1 = .iface t1t t1v ∧
    (if t1t = 96 then
    (∃ (t28yc0 : Int), t1v = .agg #[.int .i64 t28yc0] ∧
    (∃ (H_3 : Heap), H_3 = H.push (.row [.int .i64 0] true) ∧
    (∃ (H_4 : Heap), stc H_3 H.next 0 [.int .i64 t28yc0] = some H_4 ∧
    (∃ (t33 : Int), ldc H_4 H.next 0 = some (.int .i64 t33) ∧
    (∃ (H_5 : Heap), stc H_4 t5b (t5o + 3) [.int .i64 t33] = some H_5 ∧
    (L1 (.iface 96 (.agg #[.int .i64 t28yc0])) t4b t4o t5b t5o H_5 r))))))
    else
    (∃ (H_6 : Heap), H_6 = H.push (.row [.int .i64 0] true) ∧
    (∃ (H_7 : Heap), stc H_6 H.next 0 [.int .i64 0] = some H_7 ∧
    (L1 (.iface t1t t1v) t4b t4o t5b t5o H_7 r)))))) :
    L0 t1 t4b t4o t5b t5o H r := by
  intro J
  show KR _ _ _ (.reg (opsAt (sub B [1, 1, 1, 0, 0])) [0, 1, 2, 3, 4, 5, 6, 7] :: S5) _ _ _
  rcases h with ⟨rfl, h⟩ | ⟨t1t, t1v, rfl, h⟩
  · refine KR.go 5 [(1, .nilIface), (4, .pointer (some ⟨t4b, t4o, none⟩)), (5, .pointer (some ⟨t5b, t5o, none⟩)), (29, .agg #[.int .i64 0]), (30, .bool false)] 45 (s' := (.reg (opsAt (sub B [1, 1, 1, 0, 0])) [5, 6, 7] :: S5)) fun J => ?_
    obtain ⟨H_1, q17, h⟩ := h
    refine KR.mk (w := pRow [.int .i64 0]) (one_al (by kernel_rfl)) q17 ?_
    obtain ⟨H_2, q18, h⟩ := h
    refine KR.se (one_st (by kernel_rfl) q18) ?_
    exact KR.go 11 [(1, .nilIface), (4, .pointer (some ⟨t4b, t4o, none⟩)), (5, .pointer (some ⟨t5b, t5o, none⟩))] 45 (s' := (.reg (opsAt (sub B [1, 1, 1, 1, 0, 0])) [0, 1, 2, 3, 4, 5, 6, 7] :: S7)) h
  · refine KR.go 1 [(1, .iface t1t t1v), (4, .pointer (some ⟨t4b, t4o, none⟩)), (5, .pointer (some ⟨t5b, t5o, none⟩)), (27, .iface t1t t1v)] 45 (s' := (.reg (opsAt (sub B [1, 1, 1, 0, 0])) [1, 2, 3, 4, 5, 6, 7] :: S5)) fun J => ?_
    by_cases c20 : t1t = 96
    · replace h := iteT c20 h
      subst c20
      obtain ⟨t28yc0, rfl, h⟩ := h
      refine KR.go 4 [(1, .iface 96 (.agg #[.int .i64 t28yc0])), (4, .pointer (some ⟨t4b, t4o, none⟩)), (5, .pointer (some ⟨t5b, t5o, none⟩)), (29, .agg #[.int .i64 t28yc0]), (30, .bool true)] 45 (s' := (.reg (opsAt (sub B [1, 1, 1, 0, 0])) [5, 6, 7] :: S5)) fun J => ?_
      obtain ⟨H_3, q21, h⟩ := h
      refine KR.mk (w := pRow [.int .i64 0]) (one_al (by kernel_rfl)) q21 ?_
      obtain ⟨H_4, q22, h⟩ := h
      refine KR.se (one_st (by kernel_rfl) q22) ?_
      refine KR.go 9 [(1, .iface 96 (.agg #[.int .i64 t28yc0])), (4, .pointer (some ⟨t4b, t4o, none⟩)), (5, .pointer (some ⟨t5b, t5o, none⟩)), (32, .pointer (some ⟨H.next, 0, none⟩))] 45 (s' := (.reg (opsAt (sub B [1, 1, 1, 0, 1, 1, 0])) [1, 2, 3] :: S4)) fun J => ?_
      obtain ⟨t33, q23, h⟩ := h
      refine KR.rd (one_ld (by kernel_rfl) q23) ?_
      refine KR.go 1 [(1, .iface 96 (.agg #[.int .i64 t28yc0])), (4, .pointer (some ⟨t4b, t4o, none⟩)), (5, .pointer (some ⟨t5b, t5o, none⟩)), (33, .int .i64 t33), (34, .pointer (some ⟨t5b, (t5o + 3), none⟩))] 45 (s' := (.reg (opsAt (sub B [1, 1, 1, 0, 1, 1, 0])) [3] :: S4)) fun J => ?_
      obtain ⟨H_5, q24, h⟩ := h
      refine KR.se (one_st (by kernel_rfl) q24) ?_
      exact KR.go 4 [(1, .iface 96 (.agg #[.int .i64 t28yc0])), (4, .pointer (some ⟨t4b, t4o, none⟩)), (5, .pointer (some ⟨t5b, t5o, none⟩))] 45 (s' := (.reg (opsAt (sub B [1, 1, 1, 1, 0, 0])) [0, 1, 2, 3, 4, 5, 6, 7] :: S7)) h
    · replace h := iteF c20 h
      refine KR.p (one_ta (t := 96) (v := .tuple #[.agg #[.int .i64 0], .bool false]) (by kernel_rfl) c20) ?_
      refine KR.go 3 [(1, .iface t1t t1v), (4, .pointer (some ⟨t4b, t4o, none⟩)), (5, .pointer (some ⟨t5b, t5o, none⟩)), (29, .agg #[.int .i64 0]), (30, .bool false)] 45 (s' := (.reg (opsAt (sub B [1, 1, 1, 0, 0])) [5, 6, 7] :: S5)) fun J => ?_
      obtain ⟨H_6, q25, h⟩ := h
      refine KR.mk (w := pRow [.int .i64 0]) (one_al (by kernel_rfl)) q25 ?_
      obtain ⟨H_7, q26, h⟩ := h
      refine KR.se (one_st (by kernel_rfl) q26) ?_
      exact KR.go 11 [(1, .iface t1t t1v), (4, .pointer (some ⟨t4b, t4o, none⟩)), (5, .pointer (some ⟨t5b, t5o, none⟩))] 45 (s' := (.reg (opsAt (sub B [1, 1, 1, 1, 0, 0])) [0, 1, 2, 3, 4, 5, 6, 7] :: S7)) h
theorem L1_step {t1 : Value} {t4b t4o t5b t5o : Nat} {H : Heap} {r : Value × Heap} (h :
    (t1 = .nilIface ∧
    (∃ (H_1 : Heap), H_1 = H.push (.row [.slice none 0 0] true) ∧
    (∃ (H_2 : Heap), stc H_1 H.next 0 [.slice none 0 0] = some H_2 ∧
    (∃ (t44c0 t44c1 t44c2 t44c3 : Int) (t44c4a : Option Addr) (t44c4n t44c4k : Nat), ldAll H_2 t5b t5o [.int .i64 t44c0, .int .i64 t44c1, .int .i64 t44c2, .int .i64 t44c3, .slice t44c4a t44c4n t44c4k] ∧
    (∃ (H_3 : Heap), stc H_2 t4b t4o [.int .i64 t44c0, .int .i64 t44c1, .int .i64 t44c2, .int .i64 t44c3, .slice t44c4a t44c4n t44c4k] = some H_3 ∧
    (∃ (r4c0 r4c1 r4c2 r4c3 : Int) (r4c4a : Option Addr) (r4c4n r4c4k : Nat), ldAll H_3 t4b t4o [.int .i64 r4c0, .int .i64 r4c1, .int .i64 r4c2, .int .i64 r4c3, .slice r4c4a r4c4n r4c4k] ∧
    (r = (.agg #[.int .i64 r4c0, .int .i64 r4c1, .int .i64 r4c2, .int .i64 r4c3, .slice r4c4a r4c4n r4c4k], H_3)))))))) ∨
    (∃ (t1t : Nat) (t1v : Value), t1 = .iface t1t t1v ∧
    (if t1t = 98 then
    (∃ (t37yc0a : Option Addr) (t37yc0n t37yc0k : Nat), t1v = .agg #[.slice t37yc0a t37yc0n t37yc0k] ∧
    (∃ (H_4 : Heap), H_4 = H.push (.row [.slice none 0 0] true) ∧
    (∃ (H_5 : Heap), stc H_4 H.next 0 [.slice t37yc0a t37yc0n t37yc0k] = some H_5 ∧
    (∃ (t42a : Option Addr) (t42n t42k : Nat), ldc H_5 H.next 0 = some (.slice t42a t42n t42k) ∧
    (∃ (H_6 : Heap), stc H_5 t5b (t5o + 4) [.slice t42a t42n t42k] = some H_6 ∧
    (∃ (t44c0_1 t44c1_1 t44c2_1 t44c3_1 : Int) (t44c4a_1 : Option Addr) (t44c4n_1 t44c4k_1 : Nat), ldAll H_6 t5b t5o [.int .i64 t44c0_1, .int .i64 t44c1_1, .int .i64 t44c2_1, .int .i64 t44c3_1, .slice t44c4a_1 t44c4n_1 t44c4k_1] ∧
    (∃ (H_7 : Heap), stc H_6 t4b t4o [.int .i64 t44c0_1, .int .i64 t44c1_1, .int .i64 t44c2_1, .int .i64 t44c3_1, .slice t44c4a_1 t44c4n_1 t44c4k_1] = some H_7 ∧
    (∃ (r4c0_1 r4c1_1 r4c2_1 r4c3_1 : Int) (r4c4a_1 : Option Addr) (r4c4n_1 r4c4k_1 : Nat), ldAll H_7 t4b t4o [.int .i64 r4c0_1, .int .i64 r4c1_1, .int .i64 r4c2_1, .int .i64 r4c3_1, .slice r4c4a_1 r4c4n_1 r4c4k_1] ∧
    (r = (.agg #[.int .i64 r4c0_1, .int .i64 r4c1_1, .int .i64 r4c2_1, .int .i64 r4c3_1, .slice r4c4a_1 r4c4n_1 r4c4k_1], H_7))))))))))
    else
    (∃ (H_8 : Heap), H_8 = H.push (.row [.slice none 0 0] true) ∧
    (∃ (H_9 : Heap), stc H_8 H.next 0 [.slice none 0 0] = some H_9 ∧
    (∃ (t44c0_2 t44c1_2 t44c2_2 t44c3_2 : Int) (t44c4a_2 : Option Addr) (t44c4n_2 t44c4k_2 : Nat), ldAll H_9 t5b t5o [.int .i64 t44c0_2, .int .i64 t44c1_2, .int .i64 t44c2_2, .int .i64 t44c3_2, .slice t44c4a_2 t44c4n_2 t44c4k_2] ∧
    (∃ (H_10 : Heap), stc H_9 t4b t4o [.int .i64 t44c0_2, .int .i64 t44c1_2, .int .i64 t44c2_2, .int .i64 t44c3_2, .slice t44c4a_2 t44c4n_2 t44c4k_2] = some H_10 ∧
    (∃ (r4c0_2 r4c1_2 r4c2_2 r4c3_2 : Int) (r4c4a_2 : Option Addr) (r4c4n_2 r4c4k_2 : Nat), ldAll H_10 t4b t4o [.int .i64 r4c0_2, .int .i64 r4c1_2, .int .i64 r4c2_2, .int .i64 r4c3_2, .slice r4c4a_2 r4c4n_2 r4c4k_2] ∧
    (r = (.agg #[.int .i64 r4c0_2, .int .i64 r4c1_2, .int .i64 r4c2_2, .int .i64 r4c3_2, .slice r4c4a_2 r4c4n_2 r4c4k_2], H_10)))))))))) :
    L1 t1 t4b t4o t5b t5o H r := by
  intro J
  show KR _ _ _ (.reg (opsAt (sub B [1, 1, 1, 1, 0, 0])) [0, 1, 2, 3, 4, 5, 6, 7] :: S7) _ _ _
  rcases h with ⟨rfl, h⟩ | ⟨t1t, t1v, rfl, h⟩
  · refine KR.go 5 [(4, .pointer (some ⟨t4b, t4o, none⟩)), (5, .pointer (some ⟨t5b, t5o, none⟩)), (38, .agg #[.slice none 0 0]), (39, .bool false)] 45 (s' := (.reg (opsAt (sub B [1, 1, 1, 1, 0, 0])) [5, 6, 7] :: S7)) fun J => ?_
    obtain ⟨H_1, q27, h⟩ := h
    refine KR.mk (w := pRow [.slice none 0 0]) (one_al (by kernel_rfl)) q27 ?_
    obtain ⟨H_2, q28, h⟩ := h
    refine KR.se (one_st (by kernel_rfl) q28) ?_
    refine KR.go 10 [(4, .pointer (some ⟨t4b, t4o, none⟩)), (5, .pointer (some ⟨t5b, t5o, none⟩))] 45 (s' := (.reg (opsAt (sub B [1, 1, 1, 1, 1, 0])) [0, 1] :: S8)) fun J => ?_
    obtain ⟨t44c0, t44c1, t44c2, t44c3, t44c4a, t44c4n, t44c4k, q29, h⟩ := h
    refine KR.rd (one_ldA (by kernel_rfl) q29) ?_
    obtain ⟨H_3, q30, h⟩ := h
    refine KR.se (one_st (by kernel_rfl) q30) ?_
    refine KR.go 1 [(4, .pointer (some ⟨t4b, t4o, none⟩))] 45 (s' := (.code (sub B [1, 1, 1, 1, 1, 1]) :: [])) fun J => ?_
    obtain ⟨r4c0, r4c1, r4c2, r4c3, r4c4a, r4c4n, r4c4k, q31, h⟩ := h
    exact KR.finR (l := [.cell 4 24]) (vs := [.agg #[.int .i64 r4c0, .int .i64 r4c1, .int .i64 r4c2, .int .i64 r4c3, .slice r4c4a r4c4n r4c4k]]) (by kernel_rfl) (Res.cellA (by kernel_rfl) q31 Res.nil) (by kernel_rfl) h
  · refine KR.go 1 [(4, .pointer (some ⟨t4b, t4o, none⟩)), (5, .pointer (some ⟨t5b, t5o, none⟩)), (36, .iface t1t t1v)] 45 (s' := (.reg (opsAt (sub B [1, 1, 1, 1, 0, 0])) [1, 2, 3, 4, 5, 6, 7] :: S7)) fun J => ?_
    by_cases c33 : t1t = 98
    · replace h := iteT c33 h
      subst c33
      obtain ⟨t37yc0a, t37yc0n, t37yc0k, rfl, h⟩ := h
      refine KR.go 4 [(4, .pointer (some ⟨t4b, t4o, none⟩)), (5, .pointer (some ⟨t5b, t5o, none⟩)), (38, .agg #[.slice t37yc0a t37yc0n t37yc0k]), (39, .bool true)] 45 (s' := (.reg (opsAt (sub B [1, 1, 1, 1, 0, 0])) [5, 6, 7] :: S7)) fun J => ?_
      obtain ⟨H_4, q34, h⟩ := h
      refine KR.mk (w := pRow [.slice none 0 0]) (one_al (by kernel_rfl)) q34 ?_
      obtain ⟨H_5, q35, h⟩ := h
      refine KR.se (one_st (by kernel_rfl) q35) ?_
      refine KR.go 9 [(4, .pointer (some ⟨t4b, t4o, none⟩)), (5, .pointer (some ⟨t5b, t5o, none⟩)), (41, .pointer (some ⟨H.next, 0, none⟩))] 45 (s' := (.reg (opsAt (sub B [1, 1, 1, 1, 0, 1, 1, 0])) [1, 2, 3] :: S6)) fun J => ?_
      obtain ⟨t42a, t42n, t42k, q36, h⟩ := h
      refine KR.rd (one_ld (by kernel_rfl) q36) ?_
      refine KR.go 1 [(4, .pointer (some ⟨t4b, t4o, none⟩)), (5, .pointer (some ⟨t5b, t5o, none⟩)), (42, .slice t42a t42n t42k), (43, .pointer (some ⟨t5b, (t5o + 4), none⟩))] 45 (s' := (.reg (opsAt (sub B [1, 1, 1, 1, 0, 1, 1, 0])) [3] :: S6)) fun J => ?_
      obtain ⟨H_6, q37, h⟩ := h
      refine KR.se (one_st (by kernel_rfl) q37) ?_
      refine KR.go 3 [(4, .pointer (some ⟨t4b, t4o, none⟩)), (5, .pointer (some ⟨t5b, t5o, none⟩))] 45 (s' := (.reg (opsAt (sub B [1, 1, 1, 1, 1, 0])) [0, 1] :: S8)) fun J => ?_
      obtain ⟨t44c0_1, t44c1_1, t44c2_1, t44c3_1, t44c4a_1, t44c4n_1, t44c4k_1, q38, h⟩ := h
      refine KR.rd (one_ldA (by kernel_rfl) q38) ?_
      obtain ⟨H_7, q39, h⟩ := h
      refine KR.se (one_st (by kernel_rfl) q39) ?_
      refine KR.go 1 [(4, .pointer (some ⟨t4b, t4o, none⟩))] 45 (s' := (.code (sub B [1, 1, 1, 1, 1, 1]) :: [])) fun J => ?_
      obtain ⟨r4c0_1, r4c1_1, r4c2_1, r4c3_1, r4c4a_1, r4c4n_1, r4c4k_1, q40, h⟩ := h
      exact KR.finR (l := [.cell 4 24]) (vs := [.agg #[.int .i64 r4c0_1, .int .i64 r4c1_1, .int .i64 r4c2_1, .int .i64 r4c3_1, .slice r4c4a_1 r4c4n_1 r4c4k_1]]) (by kernel_rfl) (Res.cellA (by kernel_rfl) q40 Res.nil) (by kernel_rfl) h
    · replace h := iteF c33 h
      refine KR.p (one_ta (t := 98) (v := .tuple #[.agg #[.slice none 0 0], .bool false]) (by kernel_rfl) c33) ?_
      refine KR.go 3 [(4, .pointer (some ⟨t4b, t4o, none⟩)), (5, .pointer (some ⟨t5b, t5o, none⟩)), (38, .agg #[.slice none 0 0]), (39, .bool false)] 45 (s' := (.reg (opsAt (sub B [1, 1, 1, 1, 0, 0])) [5, 6, 7] :: S7)) fun J => ?_
      obtain ⟨H_8, q41, h⟩ := h
      refine KR.mk (w := pRow [.slice none 0 0]) (one_al (by kernel_rfl)) q41 ?_
      obtain ⟨H_9, q42, h⟩ := h
      refine KR.se (one_st (by kernel_rfl) q42) ?_
      refine KR.go 10 [(4, .pointer (some ⟨t4b, t4o, none⟩)), (5, .pointer (some ⟨t5b, t5o, none⟩))] 45 (s' := (.reg (opsAt (sub B [1, 1, 1, 1, 1, 0])) [0, 1] :: S8)) fun J => ?_
      obtain ⟨t44c0_2, t44c1_2, t44c2_2, t44c3_2, t44c4a_2, t44c4n_2, t44c4k_2, q43, h⟩ := h
      refine KR.rd (one_ldA (by kernel_rfl) q43) ?_
      obtain ⟨H_10, q44, h⟩ := h
      refine KR.se (one_st (by kernel_rfl) q44) ?_
      refine KR.go 1 [(4, .pointer (some ⟨t4b, t4o, none⟩))] 45 (s' := (.code (sub B [1, 1, 1, 1, 1, 1]) :: [])) fun J => ?_
      obtain ⟨r4c0_2, r4c1_2, r4c2_2, r4c3_2, r4c4a_2, r4c4n_2, r4c4k_2, q45, h⟩ := h
      exact KR.finR (l := [.cell 4 24]) (vs := [.agg #[.int .i64 r4c0_2, .int .i64 r4c1_2, .int .i64 r4c2_2, .int .i64 r4c3_2, .slice r4c4a_2 r4c4n_2 r4c4k_2]]) (by kernel_rfl) (Res.cellA (by kernel_rfl) q45 Res.nil) (by kernel_rfl) h
theorem call {a0 : Int} {a1 : Value} {H : Heap} {r : Value × Heap} (h :
    ∃ (H_1 : Heap), H_1 = H.push (.row [.int .i64 0, .int .i64 0, .int .i64 0, .int .i64 0, .slice none 0 0] true) ∧
    (∃ (H_2 : Heap), H_2 = H_1.push (.row [.int .i64 0, .int .i64 0, .int .i64 0, .int .i64 0, .slice none 0 0] true) ∧
    (∃ (H_3 : Heap), stc H_2 H_1.next 0 [.int .i64 a0, .int .i64 0, .int .i64 0, .int .i64 0, .slice none 0 0] = some H_3 ∧
    ((a1 = .nilIface ∧
    (∃ (H_4 : Heap), H_4 = H_3.push (.row [.int .i64 0, .int .i64 0] true) ∧
    (∃ (H_5 : Heap), stc H_4 H_3.next 0 [.int .i64 0, .int .i64 0] = some H_5 ∧
    (L0 (.nilIface) (H.next) 0 (H_1.next) 0 H_5 r)))) ∨
    (∃ (a1t : Nat) (a1v : Value), a1 = .iface a1t a1v ∧
    (if a1t = 94 then
    (∃ (t16yc0 t16yc1 : Int), a1v = .agg #[.int .i64 t16yc0, .int .i64 t16yc1] ∧
    (∃ (H_6 : Heap), H_6 = H_3.push (.row [.int .i64 0, .int .i64 0] true) ∧
    (∃ (H_7 : Heap), stc H_6 H_3.next 0 [.int .i64 t16yc0, .int .i64 t16yc1] = some H_7 ∧
    (∃ (t21 : Int), ldc H_7 H_3.next 0 = some (.int .i64 t21) ∧
    (∃ (t23 : Int), ldc H_7 H_3.next 1 = some (.int .i64 t23) ∧
    (∃ (H_8 : Heap), stc H_7 H_1.next 1 [.int .i64 t21] = some H_8 ∧
    (∃ (H_9 : Heap), stc H_8 H_1.next 2 [.int .i64 t23] = some H_9 ∧
    (ldc H_8 H_3.next 1 = some (.int .i64 t23) ∧
    (L0 (.iface 94 (.agg #[.int .i64 t16yc0, .int .i64 t16yc1])) (H.next) 0 (H_1.next) 0 H_9 r)))))))))
    else
    (∃ (H_10 : Heap), H_10 = H_3.push (.row [.int .i64 0, .int .i64 0] true) ∧
    (∃ (H_11 : Heap), stc H_10 H_3.next 0 [.int .i64 0, .int .i64 0] = some H_11 ∧
    (L0 (.iface a1t a1v) (H.next) 0 (H_1.next) 0 H_11 r))))))))) :
    xC Try.prog good 38 [.int .i64 a0, a1] H = some r := by
  refine KR.enter (fn := Try.f38) (c := B) (by kernel_rfl) (by kernel_rfl) ?_
  refine KR.go 2 [(0, .int .i64 a0), (1, a1)] 45 (s' := (.reg (opsAt (sub B [0])) [0] :: S0)) fun J => ?_
  obtain ⟨H_1, q1, h⟩ := h
  refine KR.mk (w := pRow [.int .i64 0, .int .i64 0, .int .i64 0, .int .i64 0, .slice none 0 0]) (one_al (by kernel_rfl)) q1 ?_
  refine KR.go 5 [(1, a1), (4, .pointer (some ⟨H.next, 0, none⟩)), (13, .agg #[.int .i64 a0, .int .i64 0, .int .i64 0, .int .i64 0, .slice none 0 0])] 45 (s' := (.reg (opsAt (sub B [1, 0])) [2, 3] :: S1)) fun J => ?_
  obtain ⟨H_2, q2, h⟩ := h
  refine KR.mk (w := pRow [.int .i64 0, .int .i64 0, .int .i64 0, .int .i64 0, .slice none 0 0]) (one_al (by kernel_rfl)) q2 ?_
  obtain ⟨H_3, q3, h⟩ := h
  refine KR.se (one_st (by kernel_rfl) q3) ?_
  rcases h with ⟨rfl, h⟩ | ⟨a1t, a1v, rfl, h⟩
  · refine KR.go 9 [(1, .nilIface), (4, .pointer (some ⟨H.next, 0, none⟩)), (5, .pointer (some ⟨H_1.next, 0, none⟩)), (17, .agg #[.int .i64 0, .int .i64 0]), (18, .bool false)] 45 (s' := (.reg (opsAt (sub B [1, 1, 0, 0])) [5, 6, 7] :: S3)) fun J => ?_
    obtain ⟨H_4, q4, h⟩ := h
    refine KR.mk (w := pRow [.int .i64 0, .int .i64 0]) (one_al (by kernel_rfl)) q4 ?_
    obtain ⟨H_5, q5, h⟩ := h
    refine KR.se (one_st (by kernel_rfl) q5) ?_
    exact KR.go 11 [(1, .nilIface), (4, .pointer (some ⟨H.next, 0, none⟩)), (5, .pointer (some ⟨H_1.next, 0, none⟩))] 45 (s' := (.reg (opsAt (sub B [1, 1, 1, 0, 0])) [0, 1, 2, 3, 4, 5, 6, 7] :: S5)) h
  · refine KR.go 5 [(1, .iface a1t a1v), (4, .pointer (some ⟨H.next, 0, none⟩)), (5, .pointer (some ⟨H_1.next, 0, none⟩)), (15, .iface a1t a1v)] 45 (s' := (.reg (opsAt (sub B [1, 1, 0, 0])) [1, 2, 3, 4, 5, 6, 7] :: S3)) fun J => ?_
    by_cases c7 : a1t = 94
    · replace h := iteT c7 h
      subst c7
      obtain ⟨t16yc0, t16yc1, rfl, h⟩ := h
      refine KR.go 4 [(1, .iface 94 (.agg #[.int .i64 t16yc0, .int .i64 t16yc1])), (4, .pointer (some ⟨H.next, 0, none⟩)), (5, .pointer (some ⟨H_1.next, 0, none⟩)), (17, .agg #[.int .i64 t16yc0, .int .i64 t16yc1]), (18, .bool true)] 45 (s' := (.reg (opsAt (sub B [1, 1, 0, 0])) [5, 6, 7] :: S3)) fun J => ?_
      obtain ⟨H_6, q8, h⟩ := h
      refine KR.mk (w := pRow [.int .i64 0, .int .i64 0]) (one_al (by kernel_rfl)) q8 ?_
      obtain ⟨H_7, q9, h⟩ := h
      refine KR.se (one_st (by kernel_rfl) q9) ?_
      refine KR.go 7 [(1, .iface 94 (.agg #[.int .i64 t16yc0, .int .i64 t16yc1])), (4, .pointer (some ⟨H.next, 0, none⟩)), (5, .pointer (some ⟨H_1.next, 0, none⟩)), (6, .pointer (some ⟨H_3.next, 0, none⟩))] 45 (s' := (.code (sub B [1, 1, 0, 1, 1, 0]) :: S2)) fun J => ?_
      refine KE.start H_7 (by kernel_rfl) (by kernel_rfl) ?_
      refine KE.run 1 [(1, .iface 94 (.agg #[.int .i64 t16yc0, .int .i64 t16yc1])), (4, .pointer (some ⟨H.next, 0, none⟩)), (5, .pointer (some ⟨H_1.next, 0, none⟩)), (6, .pointer (some ⟨H_3.next, 0, none⟩)), (20, .pointer (some ⟨H_3.next, 0, none⟩))] 45 1 (by kernel_rfl) fun J => ?_
      obtain ⟨t21, q10, h⟩ := h
      refine KE.rdN (one_ld (by kernel_rfl) q10) (by kernel_rfl) ?_
      refine KE.run 1 [(1, .iface 94 (.agg #[.int .i64 t16yc0, .int .i64 t16yc1])), (4, .pointer (some ⟨H.next, 0, none⟩)), (5, .pointer (some ⟨H_1.next, 0, none⟩)), (21, .int .i64 t21), (22, .pointer (some ⟨H_3.next, 1, none⟩))] 45 3 (by kernel_rfl) fun J => ?_
      obtain ⟨t23, q11, h⟩ := h
      refine KE.rdF (one_ld (by kernel_rfl) q11) (by kernel_rfl) ?_
      refine KE.run 1 [(1, .iface 94 (.agg #[.int .i64 t16yc0, .int .i64 t16yc1])), (4, .pointer (some ⟨H.next, 0, none⟩)), (5, .pointer (some ⟨H_1.next, 0, none⟩)), (21, .int .i64 t21), (23, .int .i64 t23), (24, .pointer (some ⟨H_1.next, 1, none⟩))] 45 5 (by kernel_rfl) fun J => ?_
      obtain ⟨H_8, q12, h⟩ := h
      refine KE.se (one_st (by kernel_rfl) q12) (by kernel_rfl) ?_
      refine KE.run 1 [(1, .iface 94 (.agg #[.int .i64 t16yc0, .int .i64 t16yc1])), (4, .pointer (some ⟨H.next, 0, none⟩)), (5, .pointer (some ⟨H_1.next, 0, none⟩)), (23, .int .i64 t23), (25, .pointer (some ⟨H_1.next, 2, none⟩))] 45 7 (by kernel_rfl) fun J => ?_
      obtain ⟨H_9, q13, h⟩ := h
      refine KE.se (one_st (by kernel_rfl) q13) (by kernel_rfl) ?_
      obtain ⟨q14, h⟩ := h
      refine KE.fin (H' := H_9) (by kernel_rfl) (rdsS rfl (rd_ok (Hs := [H_8]) (by kernel_rfl) (by kernel_rfl) ⟨one_ld (by kernel_rfl) q14, trivial⟩)) (by kernel_rfl) ?_
      exact KR.go 3 [(1, .iface 94 (.agg #[.int .i64 t16yc0, .int .i64 t16yc1])), (4, .pointer (some ⟨H.next, 0, none⟩)), (5, .pointer (some ⟨H_1.next, 0, none⟩))] 45 (s' := (.reg (opsAt (sub B [1, 1, 1, 0, 0])) [0, 1, 2, 3, 4, 5, 6, 7] :: S5)) h
    · replace h := iteF c7 h
      refine KR.p (one_ta (t := 94) (v := .tuple #[.agg #[.int .i64 0, .int .i64 0], .bool false]) (by kernel_rfl) c7) ?_
      refine KR.go 3 [(1, .iface a1t a1v), (4, .pointer (some ⟨H.next, 0, none⟩)), (5, .pointer (some ⟨H_1.next, 0, none⟩)), (17, .agg #[.int .i64 0, .int .i64 0]), (18, .bool false)] 45 (s' := (.reg (opsAt (sub B [1, 1, 0, 0])) [5, 6, 7] :: S3)) fun J => ?_
      obtain ⟨H_10, q15, h⟩ := h
      refine KR.mk (w := pRow [.int .i64 0, .int .i64 0]) (one_al (by kernel_rfl)) q15 ?_
      obtain ⟨H_11, q16, h⟩ := h
      refine KR.se (one_st (by kernel_rfl) q16) ?_
      exact KR.go 11 [(1, .iface a1t a1v), (4, .pointer (some ⟨H.next, 0, none⟩)), (5, .pointer (some ⟨H_1.next, 0, none⟩))] 45 (s' := (.reg (opsAt (sub B [1, 1, 1, 0, 0])) [0, 1, 2, 3, 4, 5, 6, 7] :: S5)) h
end F38
/-! #### 39 slices.ContainsFunc[[]campanile/api.IE,campanile/api.IE] -/
namespace F39
noncomputable def B : Code := bodyOf Try.f39
noncomputable def S0 : List It := (.code (sub B [1, 1]) :: [])
theorem call {a0a : Option Addr} {a0n a0k : Nat} {a1 : Value} {H : Heap} {r : Value × Heap} (h :
    ∃ (t7 : Int) (H_1 : Heap), xC Try.prog good 70 [.slice a0a a0n a0k, a1] H = some (.int .i64 t7, H_1) ∧
    (r = (.bool (decide (t7 ≥ 0)), H_1))) :
    xC Try.prog good 39 [.slice a0a a0n a0k, a1] H = some r := by
  refine KR.enter (fn := Try.f39) (c := B) (by kernel_rfl) (by kernel_rfl) ?_
  refine KR.go 8 [(5, .slice a0a a0n a0k), (6, a1)] 9 (s' := (.reg (opsAt (sub B [1, 0])) [2, 3, 4] :: S0)) fun J => ?_
  obtain ⟨t7, H_1, q1, h⟩ := h
  refine KR.se (one_ca (by kernel_rfl) q1) ?_
  refine KR.go 3 [(4, .bool (decide (t7 ≥ 0)))] 9 (s' := (.code (sub B [1, 1]) :: [])) fun J => ?_
  exact KR.fi h
end F39
/-! #### 40 campanile/ie.Encode$1 -/
namespace F40
noncomputable def B : Code := bodyOf Try.f40
noncomputable def S0 : List It := (.code (sub B [1]) :: [])
noncomputable def S1 : List It := (.code (sub B [1, 1]) :: [])
theorem call {a0c0 a0c1 a0c2 a0c3 : Int} {a0c4a : Option Addr} {a0c4n a0c4k : Nat} {H : Heap} {r : Value × Heap} (h :
    ∃ (H_1 : Heap), H_1 = H.push (.row [.int .i64 a0c0, .int .i64 a0c1, .int .i64 a0c2, .int .i64 a0c3, .slice a0c4a a0c4n a0c4k] true) ∧
    (∃ (t3c0 t3c1 t3c2 t3c3 : Int) (t3c4a : Option Addr) (t3c4n t3c4k : Nat), ldAll H_1 H.next 0 [.int .i64 t3c0, .int .i64 t3c1, .int .i64 t3c2, .int .i64 t3c3, .slice t3c4a t3c4n t3c4k] ∧
    (∃ (t4 : Bool) (H_2 : Heap), xC Try.prog good 14 [.agg #[.int .i64 t3c0, .int .i64 t3c1, .int .i64 t3c2, .int .i64 t3c3, .slice t3c4a t3c4n t3c4k]] H_1 = some (.bool t4, H_2) ∧
    (r = (.bool (!t4), H_2))))) :
    xC Try.prog good 40 [.agg #[.int .i64 a0c0, .int .i64 a0c1, .int .i64 a0c2, .int .i64 a0c3, .slice a0c4a a0c4n a0c4k]] H = some r := by
  refine KR.enter (fn := Try.f40) (c := B) (by kernel_rfl) (by kernel_rfl) ?_
  refine KR.go 2 [(0, .agg #[.int .i64 a0c0, .int .i64 a0c1, .int .i64 a0c2, .int .i64 a0c3, .slice a0c4a a0c4n a0c4k])] 6 (s' := (.reg (opsAt (sub B [0])) [0, 1] :: S0)) fun J => ?_
  obtain ⟨H_1, q1, h⟩ := h
  refine KR.mk (w := pRow [.int .i64 a0c0, .int .i64 a0c1, .int .i64 a0c2, .int .i64 a0c3, .slice a0c4a a0c4n a0c4k]) (one_al (by kernel_rfl)) q1 ?_
  refine KR.go 4 [(1, .pointer (some ⟨H.next, 0, none⟩))] 6 (s' := (.reg (opsAt (sub B [1, 0])) [0, 1, 2, 3] :: S1)) fun J => ?_
  obtain ⟨t3c0, t3c1, t3c2, t3c3, t3c4a, t3c4n, t3c4k, q2, h⟩ := h
  refine KR.rd (one_ldA (by kernel_rfl) q2) ?_
  obtain ⟨t4, H_2, q3, h⟩ := h
  refine KR.se (one_ca (by kernel_rfl) q3) ?_
  refine KR.go 3 [(2, .bool (!t4))] 6 (s' := (.code (sub B [1, 1]) :: [])) fun J => ?_
  exact KR.fi h
end F40
/-! #### 43 slices.Equal[[]int,int] -/
namespace F43
noncomputable def B : Code := bodyOf Try.f43
noncomputable def S0 : List It := (.code (sub B [1, 1]) :: [])
noncomputable def S1 : List It := (.code (sub B [1, 1, 1]) :: [])
noncomputable def S2 : List It := (.blk 0 :: S1)
noncomputable def S3 : List It := (.lp (sub B [1, 1, 0, 1, 0, 0]) :: S2)
noncomputable def S4 : List It := (.code (sub B [1, 1, 0, 1, 0, 0, 1, 1]) :: S3)
noncomputable def S5 : List It := (.code (sub B [1, 1, 0, 1, 0, 0, 1, 1, 1]) :: S3)
noncomputable def S6 : List It := (.blk 1 :: S5)
noncomputable def S7 : List It := (.code (sub B [1, 1, 0, 1, 0, 0, 1, 1, 0, 0, 1, 1]) :: S6)
def L0 (t0a : Option Addr) (t0n t0k : Nat) (t1a : Option Addr) (t1n t1k : Nat) (t12 t13 : Int) (H : Heap) (r : Value × Heap) : Prop := ∀ J, KR Try.prog good Try.f43 S3 (mat J 26 [(0, .slice t0a t0n t0k), (1, .slice t1a t1n t1k), (12, .int .i64 t12), (13, .int .i64 t13)]) H r
theorem L0_step {t0a : Option Addr} {t0n t0k : Nat} {t1a : Option Addr} {t1n t1k : Nat} {t12 t13 : Int} {H : Heap} {r : Value × Heap} (h :
    if t13 < t12 then
    (∃ (t0ab t0ao : Nat), t0a = some ⟨t0ab, t0ao, none⟩ ∧
    ((0 : Int) ≤ t13 ∧ t13 < (t0n : Int) ∧
    (∃ (t19 : Int), ldc H t0ab (t0ao + Int.toNat t13 * 1) = some (.int .i64 t19) ∧
    (∃ (t1ab t1ao : Nat), t1a = some ⟨t1ab, t1ao, none⟩ ∧
    ((0 : Int) ≤ t13 ∧ t13 < (t1n : Int) ∧
    (∃ (t23 : Int), ldc H t1ab (t1ao + Int.toNat t13 * 1) = some (.int .i64 t23) ∧
    (if t19 = t23 then
    (L0 ((some ⟨t0ab, t0ao, none⟩)) t0n t0k ((some ⟨t1ab, t1ao, none⟩)) t1n t1k t12 ((IntKind.wrap .i64 (t13 + 1))) H r)
    else
    (r = (.bool false, H)))))))))
    else
    (r = (.bool true, H))) :
    L0 t0a t0n t0k t1a t1n t1k t12 t13 H r := by
  intro J
  show KR _ _ _ (.lp (sub B [1, 1, 0, 1, 0, 0]) :: S2) _ _ _
  refine KR.go 6 [(0, .slice t0a t0n t0k), (1, .slice t1a t1n t1k), (12, .int .i64 t12), (13, .int .i64 t13), (14, .bool (decide (t13 < t12)))] 26 (s' := (.code (sub B [1, 1, 0, 1, 0, 0, 1, 0]) :: S4)) fun J => ?_
  by_cases c2 : t13 < t12
  · replace h := iteT c2 h
    refine KR.bb true (vB (dT c2)) ?_
    refine KR.go 9 [(0, .slice t0a t0n t0k), (1, .slice t1a t1n t1k), (5, .int .i64 t13), (12, .int .i64 t12), (13, .int .i64 t13)] 26 (s' := (.code (sub B [1, 1, 0, 1, 0, 0, 1, 1, 0, 0, 1, 0]) :: S7)) fun J => ?_
    refine KR.sd (by kernel_rfl) ?_
    obtain ⟨t0ab, t0ao, rfl, h⟩ := h
    refine KR.go 2 [(0, .slice (some ⟨t0ab, t0ao, none⟩) t0n t0k), (1, .slice t1a t1n t1k), (5, .int .i64 t13), (12, .int .i64 t12), (13, .int .i64 t13), (16, .slice (some ⟨t0ab, t0ao, none⟩) t0n t0k), (17, .int .i64 t13)] 26 (s' := (.reg (opsAt (sub B [1, 1, 0, 1, 0, 0, 1, 1, 0, 0, 1, 0])) [2, 3, 4, 5, 6, 7, 8] :: S7)) fun J => ?_
    obtain ⟨q3, q3x, h⟩ := h
    refine KR.p (one_ix 1 t0ab t0ao (by kernel_rfl) q3 q3x) ?_
    obtain ⟨t19, q4, h⟩ := h
    refine KR.rd (one_ld (by kernel_rfl) q4) ?_
    obtain ⟨t1ab, t1ao, rfl, h⟩ := h
    refine KR.go 2 [(0, .slice (some ⟨t0ab, t0ao, none⟩) t0n t0k), (1, .slice (some ⟨t1ab, t1ao, none⟩) t1n t1k), (12, .int .i64 t12), (13, .int .i64 t13), (19, .int .i64 t19), (20, .slice (some ⟨t1ab, t1ao, none⟩) t1n t1k), (21, .int .i64 t13)] 26 (s' := (.reg (opsAt (sub B [1, 1, 0, 1, 0, 0, 1, 1, 0, 0, 1, 0])) [6, 7, 8] :: S7)) fun J => ?_
    obtain ⟨q5, q5x, h⟩ := h
    refine KR.p (one_ix 1 t1ab t1ao (by kernel_rfl) q5 q5x) ?_
    obtain ⟨t23, q6, h⟩ := h
    refine KR.rd (one_ld (by kernel_rfl) q6) ?_
    refine KR.go 2 [(0, .slice (some ⟨t0ab, t0ao, none⟩) t0n t0k), (1, .slice (some ⟨t1ab, t1ao, none⟩) t1n t1k), (12, .int .i64 t12), (13, .int .i64 t13), (24, .bool (!(t19 == t23)))] 26 (s' := (.code (sub B [1, 1, 0, 1, 0, 0, 1, 1, 0, 0, 1, 1]) :: S6)) fun J => ?_
    by_cases c7 : t19 = t23
    · replace h := iteT c7 h
      refine KR.bb false (vB (nB (eT c7))) ?_
      exact KR.go 6 [(0, .slice (some ⟨t0ab, t0ao, none⟩) t0n t0k), (1, .slice (some ⟨t1ab, t1ao, none⟩) t1n t1k), (12, .int .i64 t12), (13, .int .i64 (IntKind.wrap .i64 (t13 + 1)))] 26 (s' := (.lp (sub B [1, 1, 0, 1, 0, 0]) :: S2)) h
    · replace h := iteF c7 h
      refine KR.bb true (vB (nB (eF c7))) ?_
      refine KR.go 4 [(4, .bool false)] 26 (s' := (.code (sub B [1, 1, 0, 1, 0, 0, 1, 1, 0, 0, 1, 1, 0, 1]) :: S6)) fun J => ?_
      exact KR.fi h
  · replace h := iteF c2 h
    refine KR.bb false (vB (dF c2)) ?_
    refine KR.go 5 [(4, .bool true)] 26 (s' := (.code (sub B [1, 1, 1, 1]) :: [])) fun J => ?_
    exact KR.fi h
theorem call {a0a : Option Addr} {a0n a0k : Nat} {a1a : Option Addr} {a1n a1k : Nat} {H : Heap} {r : Value × Heap} (h :
    if (a0n : Int) = (a1n : Int) then
    (L0 a0a a0n a0k a1a a1n a1k ((a0n : Int)) 0 H r)
    else
    (r = (.bool false, H))) :
    xC Try.prog good 43 [.slice a0a a0n a0k, .slice a1a a1n a1k] H = some r := by
  refine KR.enter (fn := Try.f43) (c := B) (by kernel_rfl) (by kernel_rfl) ?_
  refine KR.go 13 [(0, .slice a0a a0n a0k), (1, .slice a1a a1n a1k), (10, .bool (!((a0n : Int) == (a1n : Int))))] 26 (s' := (.code (sub B [1, 0, 1]) :: S0)) fun J => ?_
  by_cases c1 : (a0n : Int) = (a1n : Int)
  · replace h := iteT c1 h
    refine KR.bb false (vB (nB (eT c1))) ?_
    exact KR.go 10 [(0, .slice a0a a0n a0k), (1, .slice a1a a1n a1k), (12, .int .i64 (a0n : Int)), (13, .int .i64 0)] 26 (s' := (.lp (sub B [1, 1, 0, 1, 0, 0]) :: S2)) h
  · replace h := iteF c1 h
    refine KR.bb true (vB (nB (eF c1))) ?_
    refine KR.go 4 [(4, .bool false)] 26 (s' := (.code (sub B [1, 0, 1, 0, 1]) :: S0)) fun J => ?_
    exact KR.fi h
end F43
/-! #### 47 slices.Clone[[]int,int] -/
namespace F47
noncomputable def B : Code := bodyOf Try.f47
noncomputable def S0 : List It := (.code (sub B [1, 1]) :: [])
noncomputable def S2 : List It := (.code (sub B [1, 1, 1]) :: [])
noncomputable def S1 : List It := (.code (sub B [1, 0, 1]) :: S0)
theorem call {a0a : Option Addr} {a0n a0k : Nat} {H : Heap} {r : Value × Heap} (h :
    if (Option.isNone a0a) = true then
    (r = (.slice none 0 0, H))
    else
    (∃ (H_1 : Heap), H_1 = H.push (.row [] true) ∧
    (∃ (t7a : Option Addr) (t7n t7k : Nat) (H_2 : Heap), papp H_1 1 8 (some ⟨H.next, 0, none⟩) 0 (UNK 1) a0a a0n a0k = some ((t7a, t7n, t7k), H_2) ∧
    (r = (.slice t7a t7n t7k, H_2))))) :
    xC Try.prog good 47 [.slice a0a a0n a0k] H = some r := by
  refine KR.enter (fn := Try.f47) (c := B) (by kernel_rfl) (by kernel_rfl) ?_
  refine KR.go 8 [(0, .slice a0a a0n a0k), (3, .slice a0a a0n a0k)] 8 (s' := (.reg (opsAt (sub B [1, 0, 0])) [1] :: S1)) fun J => ?_
  refine KR.p (one_nl false a0a (by kernel_rfl)) ?_
  refine KR.go 1 [(0, .slice a0a a0n a0k), (4, .bool (Option.isNone a0a))] 8 (s' := (.code (sub B [1, 0, 1]) :: S0)) fun J => ?_
  by_cases c2 : (Option.isNone a0a) = true
  · replace h := iteT c2 h
    refine KR.bb true (vB (bT c2)) ?_
    refine KR.go 4 [(2, .slice none 0 0)] 8 (s' := (.code (sub B [1, 0, 1, 0, 1]) :: S0)) fun J => ?_
    exact KR.fi h
  · replace h := iteF c2 h
    refine KR.bb false (vB (bF c2)) ?_
    refine KR.go 3 [(0, .slice a0a a0n a0k)] 8 (s' := (.reg (opsAt (sub B [1, 1, 0])) [0, 1, 2, 3] :: S2)) fun J => ?_
    obtain ⟨H_1, q3, h⟩ := h
    refine KR.mk (w := sRow 0 1 []) (one_al (by kernel_rfl)) q3 ?_
    refine KR.go 1 [(5, .slice (some ⟨H.next, 0, none⟩) 0 (UNK 1)), (6, .slice a0a a0n a0k)] 8 (s' := (.reg (opsAt (sub B [1, 1, 0])) [2, 3] :: S2)) fun J => ?_
    obtain ⟨t7a, t7n, t7k, H_2, q4, h⟩ := h
    refine KR.se (one_ap 1 8 (by kernel_rfl) q4) ?_
    refine KR.go 2 [(2, .slice t7a t7n t7k)] 8 (s' := (.code (sub B [1, 1, 1]) :: [])) fun J => ?_
    exact KR.fi h
end F47
/-! #### 70 slices.IndexFunc[[]campanile/api.IE,campanile/api.IE] -/
namespace F70
noncomputable def B : Code := bodyOf Try.f70
noncomputable def S0 : List It := (.code (sub B [1, 1]) :: [])
noncomputable def S1 : List It := (.blk 0 :: S0)
noncomputable def S2 : List It := (.lp (sub B [1, 0, 1, 0, 0]) :: S1)
noncomputable def S3 : List It := (.code (sub B [1, 0, 1, 0, 0, 1, 1]) :: S2)
noncomputable def S4 : List It := (.code (sub B [1, 0, 1, 0, 0, 1, 1, 1]) :: S2)
noncomputable def S5 : List It := (.blk 1 :: S4)
noncomputable def S6 : List It := (.code (sub B [1, 0, 1, 0, 0, 1, 1, 0, 0, 1, 1]) :: S5)
def L0 (t0a : Option Addr) (t0n t0k : Nat) (t1 : Value) (t7 t8 : Int) (H : Heap) (r : Value × Heap) : Prop := ∀ J, KR Try.prog good Try.f70 S2 (mat J 19 [(0, .slice t0a t0n t0k), (1, t1), (7, .int .i64 t7), (8, .int .i64 t8)]) H r
theorem L0_step {t0a : Option Addr} {t0n t0k : Nat} {t1 : Value} {t7 t8 : Int} {H : Heap} {r : Value × Heap} (h :
    if t8 < t7 then
    (∃ (t0ab t0ao : Nat), t0a = some ⟨t0ab, t0ao, none⟩ ∧
    ((0 : Int) ≤ t8 ∧ t8 < (t0n : Int) ∧
    (∃ (t15c0 t15c1 t15c2 t15c3 : Int) (t15c4a : Option Addr) (t15c4n t15c4k : Nat), ldAll H t0ab (t0ao + Int.toNat t8 * 5) [.int .i64 t15c0, .int .i64 t15c1, .int .i64 t15c2, .int .i64 t15c3, .slice t15c4a t15c4n t15c4k] ∧
    (∃ (t1g : Nat) (t1x t1y : Array Value), t1 = .func (.func t1g) t1x t1y ∧
    (fnGoes Try.prog t1g = true ∧ ∃ (t16 : Bool) (H_1 : Heap), xC Try.prog good t1g (Array.toList t1x ++ [.agg #[.int .i64 t15c0, .int .i64 t15c1, .int .i64 t15c2, .int .i64 t15c3, .slice t15c4a t15c4n t15c4k]] ++ Array.toList t1y) H = some (.bool t16, H_1) ∧
    (if t16 = true then
    (r = (.int .i64 t8, H_1))
    else
    (L0 ((some ⟨t0ab, t0ao, none⟩)) t0n t0k (.func (.func t1g) t1x t1y) t7 ((IntKind.wrap .i64 (t8 + 1))) H_1 r)))))))
    else
    (r = (.int .i64 (-1), H))) :
    L0 t0a t0n t0k t1 t7 t8 H r := by
  intro J
  show KR _ _ _ (.lp (sub B [1, 0, 1, 0, 0]) :: S1) _ _ _
  refine KR.go 6 [(0, .slice t0a t0n t0k), (1, t1), (7, .int .i64 t7), (8, .int .i64 t8), (9, .bool (decide (t8 < t7)))] 19 (s' := (.code (sub B [1, 0, 1, 0, 0, 1, 0]) :: S3)) fun J => ?_
  by_cases c1 : t8 < t7
  · replace h := iteT c1 h
    refine KR.bb true (vB (dT c1)) ?_
    obtain ⟨t0ab, t0ao, rfl, h⟩ := h
    refine KR.go 13 [(0, .slice (some ⟨t0ab, t0ao, none⟩) t0n t0k), (1, t1), (5, .int .i64 t8), (7, .int .i64 t7), (8, .int .i64 t8), (11, t1), (12, .slice (some ⟨t0ab, t0ao, none⟩) t0n t0k), (13, .int .i64 t8)] 19 (s' := (.reg (opsAt (sub B [1, 0, 1, 0, 0, 1, 1, 0, 0, 1, 0])) [3, 4, 5] :: S6)) fun J => ?_
    obtain ⟨q2, q2x, h⟩ := h
    refine KR.p (one_ix 5 t0ab t0ao (by kernel_rfl) q2 q2x) ?_
    obtain ⟨t15c0, t15c1, t15c2, t15c3, t15c4a, t15c4n, t15c4k, q3, h⟩ := h
    refine KR.rd (one_ldA (by kernel_rfl) q3) ?_
    obtain ⟨t1g, t1x, t1y, rfl, h⟩ := h
    obtain ⟨q5x, t16, H_1, q5, h⟩ := h
    refine KR.se (one_fv (by kernel_rfl) q5x q5) ?_
    refine KR.go 1 [(0, .slice (some ⟨t0ab, t0ao, none⟩) t0n t0k), (1, .func (.func t1g) t1x t1y), (5, .int .i64 t8), (7, .int .i64 t7), (8, .int .i64 t8), (16, .bool t16)] 19 (s' := (.code (sub B [1, 0, 1, 0, 0, 1, 1, 0, 0, 1, 1]) :: S5)) fun J => ?_
    by_cases c6 : t16 = true
    · replace h := iteT c6 h
      refine KR.bb true (vB (bT c6)) ?_
      refine KR.go 5 [(4, .int .i64 t8)] 19 (s' := (.code (sub B [1, 0, 1, 0, 0, 1, 1, 0, 0, 1, 1, 0, 1]) :: S5)) fun J => ?_
      exact KR.fi h
    · replace h := iteF c6 h
      refine KR.bb false (vB (bF c6)) ?_
      exact KR.go 6 [(0, .slice (some ⟨t0ab, t0ao, none⟩) t0n t0k), (1, .func (.func t1g) t1x t1y), (7, .int .i64 t7), (8, .int .i64 (IntKind.wrap .i64 (t8 + 1)))] 19 (s' := (.lp (sub B [1, 0, 1, 0, 0]) :: S1)) h
  · replace h := iteF c1 h
    refine KR.bb false (vB (dF c1)) ?_
    refine KR.go 5 [(4, .int .i64 (-1))] 19 (s' := (.code (sub B [1, 1, 1]) :: [])) fun J => ?_
    exact KR.fi h
theorem call {a0a : Option Addr} {a0n a0k : Nat} {a1 : Value} {H : Heap} {r : Value × Heap} (h :
    L0 a0a a0n a0k a1 ((a0n : Int)) 0 H r) :
    xC Try.prog good 70 [.slice a0a a0n a0k, a1] H = some r := by
  refine KR.enter (fn := Try.f70) (c := B) (by kernel_rfl) (by kernel_rfl) ?_
  exact KR.go 13 [(0, .slice a0a a0n a0k), (1, a1), (7, .int .i64 (a0n : Int)), (8, .int .i64 0)] 19 (s' := (.lp (sub B [1, 0, 1, 0, 0]) :: S1)) h
end F70
/-! #### 98 (campanile/ie.syncs).may -/
namespace F98
noncomputable def B : Code := bodyOf Try.f98
noncomputable def S0 : List It := (.code (sub B [1]) :: [])
noncomputable def S1 : List It := (.code (sub B [1, 1]) :: [])
theorem call {a0c0 a0c1 : Int} {H : Heap} {r : Value × Heap} (h :
    ∃ (H_1 : Heap), H_1 = H.push (.row [.int .i64 a0c0, .int .i64 a0c1] true) ∧
    (∃ (t4 : Int), ldc H_1 H.next 0 = some (.int .i64 t4) ∧
    (if t4 ≥ 0 then
    (∃ (t8 : Int), ldc H_1 H.next 0 = some (.int .i64 t8) ∧
    (if t8 < 1099511627776 then
    (∃ (t13 : Int), ldc H_1 H.next 1 = some (.int .i64 t13) ∧
    (if t13 ≥ 0 then
    (∃ (t18 : Int), ldc H_1 H.next 1 = some (.int .i64 t18) ∧
    (r = (.bool (decide (t18 ≤ 255)), H_1)))
    else
    (r = (.bool false, H_1))))
    else
    (r = (.bool false, H_1))))
    else
    (r = (.bool false, H_1))))) :
    xC Try.prog good 98 [.agg #[.int .i64 a0c0, .int .i64 a0c1]] H = some r := by
  refine KR.enter (fn := Try.f98) (c := B) (by kernel_rfl) (by kernel_rfl) ?_
  refine KR.go 2 [(0, .agg #[.int .i64 a0c0, .int .i64 a0c1])] 21 (s' := (.reg (opsAt (sub B [0])) [0, 1] :: S0)) fun J => ?_
  obtain ⟨H_1, q1, h⟩ := h
  refine KR.mk (w := pRow [.int .i64 a0c0, .int .i64 a0c1]) (one_al (by kernel_rfl)) q1 ?_
  refine KR.go 5 [(1, .pointer (some ⟨H.next, 0, none⟩)), (3, .pointer (some ⟨H.next, 0, none⟩))] 21 (s' := (.reg (opsAt (sub B [1, 0])) [1, 2, 3, 4, 5, 6, 7, 8, 9, 10, 11, 12, 13, 14, 15, 16, 17, 18] :: S1)) fun J => ?_
  obtain ⟨t4, q2, h⟩ := h
  refine KR.rd (one_ld (by kernel_rfl) q2) ?_
  refine KR.go 2 [(1, .pointer (some ⟨H.next, 0, none⟩)), (6, .bool (decide (t4 ≥ 0)))] 21 (s' := (.reg (opsAt (sub B [1, 0])) [4, 5, 6, 7, 8, 9, 10, 11, 12, 13, 14, 15, 16, 17, 18] :: S1)) fun J => ?_
  by_cases c3 : t4 ≥ 0
  · replace h := iteT c3 h
    refine KR.setV 6 (by kernel_rfl) (dT c3) ?_
    refine KR.go 1 [(1, .pointer (some ⟨H.next, 0, none⟩)), (6, .bool true), (7, .pointer (some ⟨H.next, 0, none⟩))] 21 (s' := (.reg (opsAt (sub B [1, 0])) [5, 6, 7, 8, 9, 10, 11, 12, 13, 14, 15, 16, 17, 18] :: S1)) fun J => ?_
    obtain ⟨t8, q4, h⟩ := h
    refine KR.rd (one_ld (by kernel_rfl) q4) ?_
    refine KR.go 3 [(1, .pointer (some ⟨H.next, 0, none⟩)), (11, .bool (decide (t8 < 1099511627776)))] 21 (s' := (.reg (opsAt (sub B [1, 0])) [9, 10, 11, 12, 13, 14, 15, 16, 17, 18] :: S1)) fun J => ?_
    by_cases c5 : t8 < 1099511627776
    · replace h := iteT c5 h
      refine KR.setV 11 (by kernel_rfl) (dT c5) ?_
      refine KR.go 1 [(1, .pointer (some ⟨H.next, 0, none⟩)), (11, .bool true), (12, .pointer (some ⟨H.next, 1, none⟩))] 21 (s' := (.reg (opsAt (sub B [1, 0])) [10, 11, 12, 13, 14, 15, 16, 17, 18] :: S1)) fun J => ?_
      obtain ⟨t13, q6, h⟩ := h
      refine KR.rd (one_ld (by kernel_rfl) q6) ?_
      refine KR.go 3 [(1, .pointer (some ⟨H.next, 0, none⟩)), (16, .bool (decide (t13 ≥ 0)))] 21 (s' := (.reg (opsAt (sub B [1, 0])) [14, 15, 16, 17, 18] :: S1)) fun J => ?_
      by_cases c7 : t13 ≥ 0
      · replace h := iteT c7 h
        refine KR.setV 16 (by kernel_rfl) (dT c7) ?_
        refine KR.go 1 [(16, .bool true), (17, .pointer (some ⟨H.next, 1, none⟩))] 21 (s' := (.reg (opsAt (sub B [1, 0])) [15, 16, 17, 18] :: S1)) fun J => ?_
        obtain ⟨t18, q8, h⟩ := h
        refine KR.rd (one_ld (by kernel_rfl) q8) ?_
        refine KR.go 4 [(2, .bool (decide (t18 ≤ 255)))] 21 (s' := (.code (sub B [1, 1]) :: [])) fun J => ?_
        exact KR.fi h
      · replace h := iteF c7 h
        refine KR.setV 16 (by kernel_rfl) (dF c7) ?_
        refine KR.go 6 [(2, .bool false)] 21 (s' := (.code (sub B [1, 1]) :: [])) fun J => ?_
        exact KR.fi h
    · replace h := iteF c5 h
      refine KR.setV 11 (by kernel_rfl) (dF c5) ?_
      refine KR.go 11 [(2, .bool false)] 21 (s' := (.code (sub B [1, 1]) :: [])) fun J => ?_
      exact KR.fi h
  · replace h := iteF c3 h
    refine KR.setV 6 (by kernel_rfl) (dF c3) ?_
    refine KR.go 16 [(2, .bool false)] 21 (s' := (.code (sub B [1, 1]) :: [])) fun J => ?_
    exact KR.fi h
end F98
/-! #### 99 (campanile/ie.syncs).put -/
namespace F99
noncomputable def B : Code := bodyOf Try.f99
noncomputable def S0 : List It := (.code (sub B [1]) :: [])
noncomputable def S1 : List It := (.code (sub B [1, 1]) :: [])
noncomputable def S2 : List It := (.code (sub B [1, 1, 1]) :: [])
theorem call {a0c0 a0c1 : Int} {a1 : Option Addr} {H : Heap} {r : Value × Heap} (h :
    ∃ (H_1 : Heap), H_1 = H.push (.row [.int .i64 a0c0, .int .i64 a0c1] true) ∧
    (∃ (H_2 : Heap), xC Try.prog good 41 [.pointer a1, .int .u64 6, .int .i64 8] H_1 = some (.tuple #[], H_2) ∧
    (∃ (t8 : Int), ldc H_2 H.next 0 = some (.int .i64 t8) ∧
    (∃ (H_3 : Heap), xC Try.prog good 41 [.pointer a1, .int .u64 (IntKind.wrap .u64 t8), .int .i64 40] H_2 = some (.tuple #[], H_3) ∧
    (∃ (t13 : Int), ldc H_3 H.next 1 = some (.int .i64 t13) ∧
    (∃ (H_4 : Heap), xC Try.prog good 41 [.pointer a1, .int .u64 (IntKind.wrap .u64 t13), .int .i64 8] H_3 = some (.tuple #[], H_4) ∧
    (r = (.tuple #[], H_4)))))))) :
    xC Try.prog good 99 [.agg #[.int .i64 a0c0, .int .i64 a0c1], .pointer a1] H = some r := by
  refine KR.enter (fn := Try.f99) (c := B) (by kernel_rfl) (by kernel_rfl) ?_
  refine KR.go 2 [(0, .agg #[.int .i64 a0c0, .int .i64 a0c1]), (1, .pointer a1)] 16 (s' := (.reg (opsAt (sub B [0])) [0] :: S0)) fun J => ?_
  obtain ⟨H_1, q1, h⟩ := h
  refine KR.mk (w := pRow [.int .i64 a0c0, .int .i64 a0c1]) (one_al (by kernel_rfl)) q1 ?_
  refine KR.go 4 [(1, .pointer a1), (2, .pointer (some ⟨H.next, 0, none⟩)), (4, .pointer a1)] 16 (s' := (.reg (opsAt (sub B [1, 0])) [1] :: S1)) fun J => ?_
  obtain ⟨H_2, q2, h⟩ := h
  refine KR.se (one_ca (by kernel_rfl) q2) ?_
  refine KR.go 5 [(1, .pointer a1), (2, .pointer (some ⟨H.next, 0, none⟩)), (6, .pointer a1), (7, .pointer (some ⟨H.next, 0, none⟩))] 16 (s' := (.reg (opsAt (sub B [1, 1, 0])) [2, 3, 4] :: S2)) fun J => ?_
  obtain ⟨t8, q3, h⟩ := h
  refine KR.rd (one_ld (by kernel_rfl) q3) ?_
  refine KR.go 1 [(1, .pointer a1), (2, .pointer (some ⟨H.next, 0, none⟩)), (6, .pointer a1), (9, .int .u64 (IntKind.wrap .u64 t8))] 16 (s' := (.reg (opsAt (sub B [1, 1, 0])) [4] :: S2)) fun J => ?_
  obtain ⟨H_3, q4, h⟩ := h
  refine KR.se (one_ca (by kernel_rfl) q4) ?_
  refine KR.go 4 [(11, .pointer a1), (12, .pointer (some ⟨H.next, 1, none⟩))] 16 (s' := (.reg (opsAt (sub B [1, 1, 1])) [2, 3, 4] :: [])) fun J => ?_
  obtain ⟨t13, q5, h⟩ := h
  refine KR.rd (one_ld (by kernel_rfl) q5) ?_
  refine KR.go 1 [(11, .pointer a1), (14, .int .u64 (IntKind.wrap .u64 t13))] 16 (s' := (.reg (opsAt (sub B [1, 1, 1])) [4] :: [])) fun J => ?_
  obtain ⟨H_4, q6, h⟩ := h
  refine KR.se (one_ca (by kernel_rfl) q6) ?_
  refine KR.go 1 [] 16 (s' := []) fun J => ?_
  exact KR.fin0 (by kernel_rfl) h
end F99
/-! #### 100 (campanile/ie.corrects).may -/
namespace F100
noncomputable def B : Code := bodyOf Try.f100
noncomputable def S0 : List It := (.code (sub B [1]) :: [])
noncomputable def S1 : List It := (.code (sub B [1, 1]) :: [])
theorem call {a0c0 : Int} {H : Heap} {r : Value × Heap} (h :
    ∃ (H_1 : Heap), H_1 = H.push (.row [.int .i64 a0c0] true) ∧
    (∃ (t4 : Int), ldc H_1 H.next 0 = some (.int .i64 t4) ∧
    (if t4 ≥ (-32768) then
    (∃ (t8 : Int), ldc H_1 H.next 0 = some (.int .i64 t8) ∧
    (r = (.bool (decide (t8 ≤ 32767)), H_1)))
    else
    (r = (.bool false, H_1))))) :
    xC Try.prog good 100 [.agg #[.int .i64 a0c0]] H = some r := by
  refine KR.enter (fn := Try.f100) (c := B) (by kernel_rfl) (by kernel_rfl) ?_
  refine KR.go 2 [(0, .agg #[.int .i64 a0c0])] 11 (s' := (.reg (opsAt (sub B [0])) [0, 1] :: S0)) fun J => ?_
  obtain ⟨H_1, q1, h⟩ := h
  refine KR.mk (w := pRow [.int .i64 a0c0]) (one_al (by kernel_rfl)) q1 ?_
  refine KR.go 5 [(1, .pointer (some ⟨H.next, 0, none⟩)), (3, .pointer (some ⟨H.next, 0, none⟩))] 11 (s' := (.reg (opsAt (sub B [1, 0])) [1, 2, 3, 4, 5, 6, 7, 8] :: S1)) fun J => ?_
  obtain ⟨t4, q2, h⟩ := h
  refine KR.rd (one_ld (by kernel_rfl) q2) ?_
  refine KR.go 2 [(1, .pointer (some ⟨H.next, 0, none⟩)), (6, .bool (decide (t4 ≥ (-32768))))] 11 (s' := (.reg (opsAt (sub B [1, 0])) [4, 5, 6, 7, 8] :: S1)) fun J => ?_
  by_cases c3 : t4 ≥ (-32768)
  · replace h := iteT c3 h
    refine KR.setV 6 (by kernel_rfl) (dT c3) ?_
    refine KR.go 1 [(6, .bool true), (7, .pointer (some ⟨H.next, 0, none⟩))] 11 (s' := (.reg (opsAt (sub B [1, 0])) [5, 6, 7, 8] :: S1)) fun J => ?_
    obtain ⟨t8, q4, h⟩ := h
    refine KR.rd (one_ld (by kernel_rfl) q4) ?_
    refine KR.go 4 [(2, .bool (decide (t8 ≤ 32767)))] 11 (s' := (.code (sub B [1, 1]) :: [])) fun J => ?_
    exact KR.fi h
  · replace h := iteF c3 h
    refine KR.setV 6 (by kernel_rfl) (dF c3) ?_
    refine KR.go 6 [(2, .bool false)] 11 (s' := (.code (sub B [1, 1]) :: [])) fun J => ?_
    exact KR.fi h
end F100
/-! #### 101 (campanile/ie.corrects).put -/
namespace F101
noncomputable def B : Code := bodyOf Try.f101
noncomputable def S0 : List It := (.code (sub B [1]) :: [])
noncomputable def S1 : List It := (.code (sub B [1, 1]) :: [])
theorem call {a0c0 : Int} {a1 : Option Addr} {H : Heap} {r : Value × Heap} (h :
    ∃ (H_1 : Heap), H_1 = H.push (.row [.int .i64 a0c0] true) ∧
    (∃ (H_2 : Heap), xC Try.prog good 41 [.pointer a1, .int .u64 2, .int .i64 8] H_1 = some (.tuple #[], H_2) ∧
    (∃ (t8 : Int), ldc H_2 H.next 0 = some (.int .i64 t8) ∧
    (∃ (H_3 : Heap), xC Try.prog good 41 [.pointer a1, .int .u64 (IntKind.wrap .u64 t8), .int .i64 16] H_2 = some (.tuple #[], H_3) ∧
    (r = (.tuple #[], H_3)))))) :
    xC Try.prog good 101 [.agg #[.int .i64 a0c0], .pointer a1] H = some r := by
  refine KR.enter (fn := Try.f101) (c := B) (by kernel_rfl) (by kernel_rfl) ?_
  refine KR.go 2 [(0, .agg #[.int .i64 a0c0]), (1, .pointer a1)] 11 (s' := (.reg (opsAt (sub B [0])) [0] :: S0)) fun J => ?_
  obtain ⟨H_1, q1, h⟩ := h
  refine KR.mk (w := pRow [.int .i64 a0c0]) (one_al (by kernel_rfl)) q1 ?_
  refine KR.go 4 [(1, .pointer a1), (2, .pointer (some ⟨H.next, 0, none⟩)), (4, .pointer a1)] 11 (s' := (.reg (opsAt (sub B [1, 0])) [1] :: S1)) fun J => ?_
  obtain ⟨H_2, q2, h⟩ := h
  refine KR.se (one_ca (by kernel_rfl) q2) ?_
  refine KR.go 4 [(6, .pointer a1), (7, .pointer (some ⟨H.next, 0, none⟩))] 11 (s' := (.reg (opsAt (sub B [1, 1])) [2, 3, 4] :: [])) fun J => ?_
  obtain ⟨t8, q3, h⟩ := h
  refine KR.rd (one_ld (by kernel_rfl) q3) ?_
  refine KR.go 1 [(6, .pointer a1), (9, .int .u64 (IntKind.wrap .u64 t8))] 11 (s' := (.reg (opsAt (sub B [1, 1])) [4] :: [])) fun J => ?_
  obtain ⟨H_3, q4, h⟩ := h
  refine KR.se (one_ca (by kernel_rfl) q4) ?_
  refine KR.go 1 [] 11 (s' := []) fun J => ?_
  exact KR.fin0 (by kernel_rfl) h
end F101
/-! #### 102 (campanile/ie.lists).may -/
namespace F102
noncomputable def B : Code := bodyOf Try.f102
noncomputable def S0 : List It := (.code (sub B [1]) :: [])
noncomputable def S1 : List It := (.code (sub B [1, 1]) :: [])
theorem call {a0c0a : Option Addr} {a0c0n a0c0k : Nat} {H : Heap} {r : Value × Heap} (h :
    ∃ (H_1 : Heap), H_1 = H.push (.row [.slice a0c0a a0c0n a0c0k] true) ∧
    (∃ (t4a : Option Addr) (t4n t4k : Nat), ldc H_1 H.next 0 = some (.slice t4a t4n t4k) ∧
    (if (t4n : Int) ≤ 16 then
    (∃ (t9a : Option Addr) (t9n t9k : Nat), ldc H_1 H.next 0 = some (.slice t9a t9n t9k) ∧
    (∃ (t10 : Bool) (H_2 : Heap), xC Try.prog good 104 [.slice t9a t9n t9k, .func (.func 105) #[] #[]] H_1 = some (.bool t10, H_2) ∧
    (r = (.bool (!t10), H_2))))
    else
    (r = (.bool false, H_1))))) :
    xC Try.prog good 102 [.agg #[.slice a0c0a a0c0n a0c0k]] H = some r := by
  refine KR.enter (fn := Try.f102) (c := B) (by kernel_rfl) (by kernel_rfl) ?_
  refine KR.go 2 [(0, .agg #[.slice a0c0a a0c0n a0c0k])] 13 (s' := (.reg (opsAt (sub B [0])) [0, 1] :: S0)) fun J => ?_
  obtain ⟨H_1, q1, h⟩ := h
  refine KR.mk (w := pRow [.slice a0c0a a0c0n a0c0k]) (one_al (by kernel_rfl)) q1 ?_
  refine KR.go 5 [(1, .pointer (some ⟨H.next, 0, none⟩)), (3, .pointer (some ⟨H.next, 0, none⟩))] 13 (s' := (.reg (opsAt (sub B [1, 0])) [1, 2, 3, 4, 5, 6, 7, 8, 9, 10] :: S1)) fun J => ?_
  obtain ⟨t4a, t4n, t4k, q2, h⟩ := h
  refine KR.rd (one_ld (by kernel_rfl) q2) ?_
  refine KR.go 3 [(1, .pointer (some ⟨H.next, 0, none⟩)), (7, .bool (decide ((t4n : Int) ≤ 16)))] 13 (s' := (.reg (opsAt (sub B [1, 0])) [5, 6, 7, 8, 9, 10] :: S1)) fun J => ?_
  by_cases c3 : (t4n : Int) ≤ 16
  · replace h := iteT c3 h
    refine KR.setV 7 (by kernel_rfl) (dT c3) ?_
    refine KR.go 1 [(7, .bool true), (8, .pointer (some ⟨H.next, 0, none⟩))] 13 (s' := (.reg (opsAt (sub B [1, 0])) [6, 7, 8, 9, 10] :: S1)) fun J => ?_
    obtain ⟨t9a, t9n, t9k, q4, h⟩ := h
    refine KR.rd (one_ld (by kernel_rfl) q4) ?_
    obtain ⟨t10, H_2, q5, h⟩ := h
    refine KR.se (one_ca (by kernel_rfl) q5) ?_
    refine KR.go 4 [(2, .bool (!t10))] 13 (s' := (.code (sub B [1, 1]) :: [])) fun J => ?_
    exact KR.fi h
  · replace h := iteF c3 h
    refine KR.setV 7 (by kernel_rfl) (dF c3) ?_
    refine KR.go 7 [(2, .bool false)] 13 (s' := (.code (sub B [1, 1]) :: [])) fun J => ?_
    exact KR.fi h
end F102
/-! #### 103 (campanile/ie.lists).put -/
namespace F103
noncomputable def B : Code := bodyOf Try.f103
noncomputable def S0 : List It := (.code (sub B [1]) :: [])
noncomputable def S1 : List It := (.code (sub B [1, 1]) :: [])
noncomputable def S2 : List It := (.code (sub B [1, 1, 1]) :: [])
noncomputable def S3 : List It := (.blk 0 :: [])
noncomputable def S4 : List It := (.lp (sub B [1, 1, 1, 0, 0]) :: S3)
noncomputable def S5 : List It := (.code (sub B [1, 1, 1, 0, 0, 1, 1]) :: S4)
noncomputable def S6 : List It := (.code (sub B [1, 1, 1, 0, 0, 1, 1, 1]) :: S4)
noncomputable def S7 : List It := (.blk 1 :: S6)
noncomputable def S8 : List It := (.code (sub B [1, 1, 1, 0, 0, 1, 1, 0, 0, 1]) :: S7)
def L0 (t1 t13a : Option Addr) (t13n t13k : Nat) (t14 t15 : Int) (H : Heap) (r : Value × Heap) : Prop := ∀ J, KR Try.prog good Try.f103 S4 (mat J 24 [(1, .pointer t1), (13, .slice t13a t13n t13k), (14, .int .i64 t14), (15, .int .i64 t15)]) H r
theorem L0_step {t1 t13a : Option Addr} {t13n t13k : Nat} {t14 t15 : Int} {H : Heap} {r : Value × Heap} (h :
    if t15 < t14 then
    (∃ (t13ab t13ao : Nat), t13a = some ⟨t13ab, t13ao, none⟩ ∧
    ((0 : Int) ≤ t15 ∧ t15 < (t13n : Int) ∧
    (∃ (t18 : Int), ldc H t13ab (t13ao + Int.toNat t15 * 1) = some (.int .i64 t18) ∧
    (∃ (H_1 : Heap), xC Try.prog good 41 [.pointer t1, .int .u64 (IntKind.wrap .u64 t18), .int .i64 8] H = some (.tuple #[], H_1) ∧
    (L0 t1 ((some ⟨t13ab, t13ao, none⟩)) t13n t13k t14 ((IntKind.wrap .i64 (t15 + 1))) H_1 r)))))
    else
    (r = (.tuple #[], H))) :
    L0 t1 t13a t13n t13k t14 t15 H r := by
  intro J
  show KR _ _ _ (.lp (sub B [1, 1, 1, 0, 0]) :: S3) _ _ _
  refine KR.go 6 [(1, .pointer t1), (13, .slice t13a t13n t13k), (14, .int .i64 t14), (15, .int .i64 t15), (16, .bool (decide (t15 < t14)))] 24 (s' := (.code (sub B [1, 1, 1, 0, 0, 1, 0]) :: S5)) fun J => ?_
  by_cases c5 : t15 < t14
  · replace h := iteT c5 h
    refine KR.bb true (vB (dT c5)) ?_
    obtain ⟨t13ab, t13ao, rfl, h⟩ := h
    refine KR.go 5 [(1, .pointer t1), (13, .slice (some ⟨t13ab, t13ao, none⟩) t13n t13k), (14, .int .i64 t14), (15, .int .i64 t15)] 24 (s' := (.reg (opsAt (sub B [1, 1, 1, 0, 0, 1, 1, 0, 0, 0])) [0, 1, 2] :: S8)) fun J => ?_
    obtain ⟨q6, q6x, h⟩ := h
    refine KR.p (one_ix 1 t13ab t13ao (by kernel_rfl) q6 q6x) ?_
    obtain ⟨t18, q7, h⟩ := h
    refine KR.rd (one_ld (by kernel_rfl) q7) ?_
    refine KR.go 6 [(1, .pointer t1), (13, .slice (some ⟨t13ab, t13ao, none⟩) t13n t13k), (14, .int .i64 t14), (15, .int .i64 t15), (19, .pointer t1), (21, .int .u64 (IntKind.wrap .u64 t18))] 24 (s' := (.reg (opsAt (sub B [1, 1, 1, 0, 0, 1, 1, 0, 0, 1])) [3] :: S7)) fun J => ?_
    obtain ⟨H_1, q8, h⟩ := h
    refine KR.se (one_ca (by kernel_rfl) q8) ?_
    exact KR.go 6 [(1, .pointer t1), (13, .slice (some ⟨t13ab, t13ao, none⟩) t13n t13k), (14, .int .i64 t14), (15, .int .i64 (IntKind.wrap .i64 (t15 + 1)))] 24 (s' := (.lp (sub B [1, 1, 1, 0, 0]) :: S3)) h
  · replace h := iteF c5 h
    refine KR.bb false (vB (dF c5)) ?_
    refine KR.go 1 [] 24 (s' := []) fun J => ?_
    exact KR.fin0 (by kernel_rfl) h
theorem call {a0c0a : Option Addr} {a0c0n a0c0k : Nat} {a1 : Option Addr} {H : Heap} {r : Value × Heap} (h :
    ∃ (H_1 : Heap), H_1 = H.push (.row [.slice a0c0a a0c0n a0c0k] true) ∧
    (∃ (t8a : Option Addr) (t8n t8k : Nat), ldc H_1 H.next 0 = some (.slice t8a t8n t8k) ∧
    (∃ (H_2 : Heap), xC Try.prog good 41 [.pointer a1, .int .u64 (IntKind.wrap .u64 (t8n : Int)), .int .i64 8] H_1 = some (.tuple #[], H_2) ∧
    (∃ (t13a : Option Addr) (t13n t13k : Nat), ldc H_2 H.next 0 = some (.slice t13a t13n t13k) ∧
    (L0 a1 t13a t13n t13k ((t13n : Int)) 0 H_2 r))))) :
    xC Try.prog good 103 [.agg #[.slice a0c0a a0c0n a0c0k], .pointer a1] H = some r := by
  refine KR.enter (fn := Try.f103) (c := B) (by kernel_rfl) (by kernel_rfl) ?_
  refine KR.go 2 [(0, .agg #[.slice a0c0a a0c0n a0c0k]), (1, .pointer a1)] 24 (s' := (.reg (opsAt (sub B [0])) [0] :: S0)) fun J => ?_
  obtain ⟨H_1, q1, h⟩ := h
  refine KR.mk (w := pRow [.slice a0c0a a0c0n a0c0k]) (one_al (by kernel_rfl)) q1 ?_
  refine KR.go 5 [(1, .pointer a1), (2, .pointer (some ⟨H.next, 0, none⟩)), (6, .pointer a1), (7, .pointer (some ⟨H.next, 0, none⟩))] 24 (s' := (.reg (opsAt (sub B [1, 0])) [2, 3, 4, 5] :: S1)) fun J => ?_
  obtain ⟨t8a, t8n, t8k, q2, h⟩ := h
  refine KR.rd (one_ld (by kernel_rfl) q2) ?_
  refine KR.go 2 [(1, .pointer a1), (2, .pointer (some ⟨H.next, 0, none⟩)), (6, .pointer a1), (10, .int .u64 (IntKind.wrap .u64 (t8n : Int)))] 24 (s' := (.reg (opsAt (sub B [1, 0])) [5] :: S1)) fun J => ?_
  obtain ⟨H_2, q3, h⟩ := h
  refine KR.se (one_ca (by kernel_rfl) q3) ?_
  refine KR.go 4 [(1, .pointer a1), (12, .pointer (some ⟨H.next, 0, none⟩))] 24 (s' := (.reg (opsAt (sub B [1, 1, 0])) [1, 2, 3] :: S2)) fun J => ?_
  obtain ⟨t13a, t13n, t13k, q4, h⟩ := h
  refine KR.rd (one_ld (by kernel_rfl) q4) ?_
  exact KR.go 5 [(1, .pointer a1), (13, .slice t13a t13n t13k), (14, .int .i64 (t13n : Int)), (15, .int .i64 0)] 24 (s' := (.lp (sub B [1, 1, 1, 0, 0]) :: S3)) h
end F103
/-! #### 104 slices.ContainsFunc[[]int,int] -/
namespace F104
noncomputable def B : Code := bodyOf Try.f104
noncomputable def S0 : List It := (.code (sub B [1, 1]) :: [])
theorem call {a0a : Option Addr} {a0n a0k : Nat} {a1 : Value} {H : Heap} {r : Value × Heap} (h :
    ∃ (t7 : Int) (H_1 : Heap), xC Try.prog good 106 [.slice a0a a0n a0k, a1] H = some (.int .i64 t7, H_1) ∧
    (r = (.bool (decide (t7 ≥ 0)), H_1))) :
    xC Try.prog good 104 [.slice a0a a0n a0k, a1] H = some r := by
  refine KR.enter (fn := Try.f104) (c := B) (by kernel_rfl) (by kernel_rfl) ?_
  refine KR.go 8 [(5, .slice a0a a0n a0k), (6, a1)] 9 (s' := (.reg (opsAt (sub B [1, 0])) [2, 3, 4] :: S0)) fun J => ?_
  obtain ⟨t7, H_1, q1, h⟩ := h
  refine KR.se (one_ca (by kernel_rfl) q1) ?_
  refine KR.go 3 [(4, .bool (decide (t7 ≥ 0)))] 9 (s' := (.code (sub B [1, 1]) :: [])) fun J => ?_
  exact KR.fi h
end F104
/-! #### 105 (campanile/ie.lists).may$1 -/
namespace F105
noncomputable def B : Code := bodyOf Try.f105
noncomputable def S0 : List It := (.code (sub B [1, 1]) :: [])
theorem call {a0 : Int} {H : Heap} {r : Value × Heap} (h :
    if a0 < 0 then
    (r = (.bool true, H))
    else
    (r = (.bool (decide (a0 > 255)), H))) :
    xC Try.prog good 105 [.int .i64 a0] H = some r := by
  refine KR.enter (fn := Try.f105) (c := B) (by kernel_rfl) (by kernel_rfl) ?_
  refine KR.go 9 [(0, .int .i64 a0), (5, .bool (decide (a0 < 0)))] 9 (s' := (.reg (opsAt (sub B [1, 0])) [3, 4, 5, 6] :: S0)) fun J => ?_
  by_cases c1 : a0 < 0
  · replace h := iteT c1 h
    refine KR.setV 5 (by kernel_rfl) (dT c1) ?_
    refine KR.go 5 [(2, .bool true)] 9 (s' := (.code (sub B [1, 1]) :: [])) fun J => ?_
    exact KR.fi h
  · replace h := iteF c1 h
    refine KR.setV 5 (by kernel_rfl) (dF c1) ?_
    refine KR.go 5 [(2, .bool (decide (a0 > 255)))] 9 (s' := (.code (sub B [1, 1]) :: [])) fun J => ?_
    exact KR.fi h
end F105
/-! #### 106 slices.IndexFunc[[]int,int] -/
namespace F106
noncomputable def B : Code := bodyOf Try.f106
noncomputable def S0 : List It := (.code (sub B [1, 1]) :: [])
noncomputable def S1 : List It := (.blk 0 :: S0)
noncomputable def S2 : List It := (.lp (sub B [1, 0, 1, 0, 0]) :: S1)
noncomputable def S3 : List It := (.code (sub B [1, 0, 1, 0, 0, 1, 1]) :: S2)
noncomputable def S4 : List It := (.code (sub B [1, 0, 1, 0, 0, 1, 1, 1]) :: S2)
noncomputable def S5 : List It := (.blk 1 :: S4)
noncomputable def S6 : List It := (.code (sub B [1, 0, 1, 0, 0, 1, 1, 0, 0, 1, 1]) :: S5)
def L0 (t0a : Option Addr) (t0n t0k : Nat) (t1 : Value) (t7 t8 : Int) (H : Heap) (r : Value × Heap) : Prop := ∀ J, KR Try.prog good Try.f106 S2 (mat J 19 [(0, .slice t0a t0n t0k), (1, t1), (7, .int .i64 t7), (8, .int .i64 t8)]) H r
theorem L0_step {t0a : Option Addr} {t0n t0k : Nat} {t1 : Value} {t7 t8 : Int} {H : Heap} {r : Value × Heap} (h :
    if t8 < t7 then
    (∃ (t0ab t0ao : Nat), t0a = some ⟨t0ab, t0ao, none⟩ ∧
    ((0 : Int) ≤ t8 ∧ t8 < (t0n : Int) ∧
    (∃ (t15 : Int), ldc H t0ab (t0ao + Int.toNat t8 * 1) = some (.int .i64 t15) ∧
    (∃ (t1g : Nat) (t1x t1y : Array Value), t1 = .func (.func t1g) t1x t1y ∧
    (fnGoes Try.prog t1g = true ∧ ∃ (t16 : Bool) (H_1 : Heap), xC Try.prog good t1g (Array.toList t1x ++ [.int .i64 t15] ++ Array.toList t1y) H = some (.bool t16, H_1) ∧
    (if t16 = true then
    (r = (.int .i64 t8, H_1))
    else
    (L0 ((some ⟨t0ab, t0ao, none⟩)) t0n t0k (.func (.func t1g) t1x t1y) t7 ((IntKind.wrap .i64 (t8 + 1))) H_1 r)))))))
    else
    (r = (.int .i64 (-1), H))) :
    L0 t0a t0n t0k t1 t7 t8 H r := by
  intro J
  show KR _ _ _ (.lp (sub B [1, 0, 1, 0, 0]) :: S1) _ _ _
  refine KR.go 6 [(0, .slice t0a t0n t0k), (1, t1), (7, .int .i64 t7), (8, .int .i64 t8), (9, .bool (decide (t8 < t7)))] 19 (s' := (.code (sub B [1, 0, 1, 0, 0, 1, 0]) :: S3)) fun J => ?_
  by_cases c1 : t8 < t7
  · replace h := iteT c1 h
    refine KR.bb true (vB (dT c1)) ?_
    obtain ⟨t0ab, t0ao, rfl, h⟩ := h
    refine KR.go 13 [(0, .slice (some ⟨t0ab, t0ao, none⟩) t0n t0k), (1, t1), (5, .int .i64 t8), (7, .int .i64 t7), (8, .int .i64 t8), (11, t1), (12, .slice (some ⟨t0ab, t0ao, none⟩) t0n t0k), (13, .int .i64 t8)] 19 (s' := (.reg (opsAt (sub B [1, 0, 1, 0, 0, 1, 1, 0, 0, 1, 0])) [3, 4, 5] :: S6)) fun J => ?_
    obtain ⟨q2, q2x, h⟩ := h
    refine KR.p (one_ix 1 t0ab t0ao (by kernel_rfl) q2 q2x) ?_
    obtain ⟨t15, q3, h⟩ := h
    refine KR.rd (one_ld (by kernel_rfl) q3) ?_
    obtain ⟨t1g, t1x, t1y, rfl, h⟩ := h
    obtain ⟨q5x, t16, H_1, q5, h⟩ := h
    refine KR.se (one_fv (by kernel_rfl) q5x q5) ?_
    refine KR.go 1 [(0, .slice (some ⟨t0ab, t0ao, none⟩) t0n t0k), (1, .func (.func t1g) t1x t1y), (5, .int .i64 t8), (7, .int .i64 t7), (8, .int .i64 t8), (16, .bool t16)] 19 (s' := (.code (sub B [1, 0, 1, 0, 0, 1, 1, 0, 0, 1, 1]) :: S5)) fun J => ?_
    by_cases c6 : t16 = true
    · replace h := iteT c6 h
      refine KR.bb true (vB (bT c6)) ?_
      refine KR.go 5 [(4, .int .i64 t8)] 19 (s' := (.code (sub B [1, 0, 1, 0, 0, 1, 1, 0, 0, 1, 1, 0, 1]) :: S5)) fun J => ?_
      exact KR.fi h
    · replace h := iteF c6 h
      refine KR.bb false (vB (bF c6)) ?_
      exact KR.go 6 [(0, .slice (some ⟨t0ab, t0ao, none⟩) t0n t0k), (1, .func (.func t1g) t1x t1y), (7, .int .i64 t7), (8, .int .i64 (IntKind.wrap .i64 (t8 + 1)))] 19 (s' := (.lp (sub B [1, 0, 1, 0, 0]) :: S1)) h
  · replace h := iteF c1 h
    refine KR.bb false (vB (dF c1)) ?_
    refine KR.go 5 [(4, .int .i64 (-1))] 19 (s' := (.code (sub B [1, 1, 1]) :: [])) fun J => ?_
    exact KR.fi h
theorem call {a0a : Option Addr} {a0n a0k : Nat} {a1 : Value} {H : Heap} {r : Value × Heap} (h :
    L0 a0a a0n a0k a1 ((a0n : Int)) 0 H r) :
    xC Try.prog good 106 [.slice a0a a0n a0k, a1] H = some r := by
  refine KR.enter (fn := Try.f106) (c := B) (by kernel_rfl) (by kernel_rfl) ?_
  exact KR.go 13 [(0, .slice a0a a0n a0k), (1, a1), (7, .int .i64 (a0n : Int)), (8, .int .i64 0)] 19 (s' := (.lp (sub B [1, 0, 1, 0, 0]) :: S1)) h
end F106
end Go.X
