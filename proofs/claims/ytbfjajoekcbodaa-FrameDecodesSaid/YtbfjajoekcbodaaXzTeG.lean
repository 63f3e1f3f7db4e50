/- The walks of the functions: printed. -/
import Derived.Test.YtbfjajoekcbodaaXzGe
set_option linter.unusedVariables false
set_option maxRecDepth 100000
namespace Go.X
open Go Go.RowKit Go.Proofs
/-! #### 28 campanile/campanileref1.EncodeFrame -/
namespace F28
noncomputable def B : Code := bodyOf Try.f28
noncomputable def S0 : List It := (.code (sub B [1]) :: [])
noncomputable def S1 : List It := (.code (sub B [1, 1]) :: [])
noncomputable def S3 : List It := (.code (sub B [1, 1, 1]) :: [])
noncomputable def S4 : List It := (.code (sub B [1, 1, 1, 1]) :: [])
noncomputable def S5 : List It := (.code (sub B [1, 1, 1, 1, 1]) :: [])
noncomputable def S6 : List It := (.code (sub B [1, 1, 1, 1, 1, 1]) :: [])
noncomputable def S2 : List It := (.code (sub B [1, 0, 1]) :: S1)
theorem call {a0c0 a0c1 a0c2 a0c3 : Int} {a0c4a : Option Addr} {a0c4n a0c4k : Nat} {a0c5a : Option Addr} {a0c5n a0c5k : Nat} {H : Heap} {r : Value × Heap} (h :
    ∃ (H_1 : Heap), H_1 = H.push (.row [.int .i64 a0c0, .int .i64 a0c1, .int .i64 a0c2, .int .i64 a0c3, .slice a0c4a a0c4n a0c4k, .slice a0c5a a0c5n a0c5k] true) ∧
    (∃ (t7c0 t7c1 t7c2 t7c3 : Int) (t7c4a : Option Addr) (t7c4n t7c4k : Nat) (t7c5a : Option Addr) (t7c5n t7c5k : Nat), ldAll H_1 H.next 0 [.int .i64 t7c0, .int .i64 t7c1, .int .i64 t7c2, .int .i64 t7c3, .slice t7c4a t7c4n t7c4k, .slice t7c5a t7c5n t7c5k] ∧
    (∃ (t8 : Bool) (H_2 : Heap), xC Try.prog good 35 [.agg #[.int .i64 t7c0, .int .i64 t7c1, .int .i64 t7c2, .int .i64 t7c3, .slice t7c4a t7c4n t7c4k, .slice t7c5a t7c5n t7c5k]] H_1 = some (.bool t8, H_2) ∧
    (if t8 = true then
    (∃ (t12a : Option Addr) (t12n t12k : Nat), ldc H_2 H.next 4 = some (.slice t12a t12n t12k) ∧
    (∃ (t13r0a : Option Addr) (t13r0n t13r0k : Nat) (t13r1 : Int) (H_3 : Heap), xC Try.prog good 20 [.slice t12a t12n t12k] H_2 = some (.tuple #[.slice t13r0a t13r0n t13r0k, .int .i64 t13r1], H_3) ∧
    (∃ (t17 : Int), ldc H_3 H.next 0 = some (.int .i64 t17) ∧
    (∃ (t20 : Int), ldc H_3 H.next 1 = some (.int .i64 t20) ∧
    (∃ (t23 : Int), ldc H_3 H.next 2 = some (.int .i64 t23) ∧
    (∃ (t26 : Int), ldc H_3 H.next 3 = some (.int .i64 t26) ∧
    (∃ (H_4 : Heap), H_4 = H_3.push (.row [.int .u8 197, .int .u8 (IntKind.wrap .u8 t17), .int .u8 (IntKind.wrap .u8 t20), .int .u8 (IntKind.wrap .u8 t23), .int .u8 (IntKind.wrap .u8 t26), .int .u8 (IntKind.wrap .u8 (t13r0n : Int))] true) ∧
    (∃ (t33a : Option Addr) (t33n t33k : Nat) (H_5 : Heap), papp H_4 1 1 (some ⟨H_3.next, 0, none⟩) 6 (UNK 1) t13r0a t13r0n t13r0k = some ((t33a, t33n, t33k), H_5) ∧
    (∃ (t36a : Option Addr) (t36n t36k : Nat), ldc H_5 H.next 5 = some (.slice t36a t36n t36k) ∧
    (∃ (H_6 : Heap), H_6 = H_5.push (.row [.int .u8 (IntKind.wrap .u8 (t36n : Int))] true) ∧
    (∃ (t40a : Option Addr) (t40n t40k : Nat) (H_7 : Heap), papp H_6 1 1 t33a t33n t33k (some ⟨H_5.next, 0, none⟩) 1 (UNK 1) = some ((t40a, t40n, t40k), H_7) ∧
    (∃ (t42a : Option Addr) (t42n t42k : Nat), ldc H_5 H.next 5 = some (.slice t42a t42n t42k) ∧
    (∃ (t43a : Option Addr) (t43n t43k : Nat) (H_8 : Heap), papp H_7 1 1 t40a t40n t40k t42a t42n t42k = some ((t43a, t43n, t43k), H_8) ∧
    (ldc H_6 H.next 5 = some (.slice t42a t42n t42k) ∧
    ldc H_7 H.next 5 = some (.slice t42a t42n t42k) ∧
    (∃ (t45a : Option Addr) (t45n t45k : Nat) (H_9 : Heap), xC Try.prog good 29 [.slice t43a t43n t43k] H_8 = some (.slice t45a t45n t45k, H_9) ∧
    (r = (.tuple #[.slice t45a t45n t45k, .int .i64 0], H_9)))))))))))))))))
    else
    (r = (.tuple #[.slice none 0 0, .int .i64 1], H_2)))))) :
    xC Try.prog good 28 [.agg #[.int .i64 a0c0, .int .i64 a0c1, .int .i64 a0c2, .int .i64 a0c3, .slice a0c4a a0c4n a0c4k, .slice a0c5a a0c5n a0c5k]] H = some r := by
  refine KR.enter (fn := Try.f28) (c := B) (by kernel_rfl) (by kernel_rfl) ?_
  refine KR.go 2 [(0, .agg #[.int .i64 a0c0, .int .i64 a0c1, .int .i64 a0c2, .int .i64 a0c3, .slice a0c4a a0c4n a0c4k, .slice a0c5a a0c5n a0c5k])] 46 (s' := (.reg (opsAt (sub B [0])) [0, 1, 2] :: S0)) fun J => ?_
  obtain ⟨H_1, q1, h⟩ := h
  refine KR.mk (w := pRow [.int .i64 a0c0, .int .i64 a0c1, .int .i64 a0c2, .int .i64 a0c3, .slice a0c4a a0c4n a0c4k, .slice a0c5a a0c5n a0c5k]) (one_al (by kernel_rfl)) q1 ?_
  refine KR.go 6 [(1, .pointer (some ⟨H.next, 0, none⟩))] 46 (s' := (.reg (opsAt (sub B [1, 0, 0])) [0, 1, 2] :: S2)) fun J => ?_
  obtain ⟨t7c0, t7c1, t7c2, t7c3, t7c4a, t7c4n, t7c4k, t7c5a, t7c5n, t7c5k, q2, h⟩ := h
  refine KR.rd (one_ldA (by kernel_rfl) q2) ?_
  obtain ⟨t8, H_2, q3, h⟩ := h
  refine KR.se (one_ca (by kernel_rfl) q3) ?_
  refine KR.go 2 [(1, .pointer (some ⟨H.next, 0, none⟩)), (9, .bool (!t8))] 46 (s' := (.code (sub B [1, 0, 1]) :: S1)) fun J => ?_
  by_cases c4 : t8 = true
  · replace h := iteT c4 h
    refine KR.bb false (vB (nB (bT c4))) ?_
    refine KR.go 4 [(1, .pointer (some ⟨H.next, 0, none⟩)), (11, .pointer (some ⟨H.next, 4, none⟩))] 46 (s' := (.reg (opsAt (sub B [1, 1, 0])) [1, 2, 3, 4, 5, 6, 7] :: S3)) fun J => ?_
    obtain ⟨t12a, t12n, t12k, q5, h⟩ := h
    refine KR.rd (one_ld (by kernel_rfl) q5) ?_
    obtain ⟨t13r0a, t13r0n, t13r0k, t13r1, H_3, q6, h⟩ := h
    refine KR.se (one_ca (by kernel_rfl) q6) ?_
    refine KR.go 9 [(1, .pointer (some ⟨H.next, 0, none⟩)), (4, .slice t13r0a t13r0n t13r0k), (16, .pointer (some ⟨H.next, 0, none⟩))] 46 (s' := (.reg (opsAt (sub B [1, 1, 1, 0])) [1, 2, 3, 4, 5, 6, 7, 8, 9, 10, 11, 12, 13, 14, 15, 16, 17, 18] :: S4)) fun J => ?_
    obtain ⟨t17, q7, h⟩ := h
    refine KR.rd (one_ld (by kernel_rfl) q7) ?_
    refine KR.go 2 [(1, .pointer (some ⟨H.next, 0, none⟩)), (4, .slice t13r0a t13r0n t13r0k), (18, .int .u8 (IntKind.wrap .u8 t17)), (19, .pointer (some ⟨H.next, 1, none⟩))] 46 (s' := (.reg (opsAt (sub B [1, 1, 1, 0])) [4, 5, 6, 7, 8, 9, 10, 11, 12, 13, 14, 15, 16, 17, 18] :: S4)) fun J => ?_
    obtain ⟨t20, q8, h⟩ := h
    refine KR.rd (one_ld (by kernel_rfl) q8) ?_
    refine KR.go 2 [(1, .pointer (some ⟨H.next, 0, none⟩)), (4, .slice t13r0a t13r0n t13r0k), (18, .int .u8 (IntKind.wrap .u8 t17)), (21, .int .u8 (IntKind.wrap .u8 t20)), (22, .pointer (some ⟨H.next, 2, none⟩))] 46 (s' := (.reg (opsAt (sub B [1, 1, 1, 0])) [7, 8, 9, 10, 11, 12, 13, 14, 15, 16, 17, 18] :: S4)) fun J => ?_
    obtain ⟨t23, q9, h⟩ := h
    refine KR.rd (one_ld (by kernel_rfl) q9) ?_
    refine KR.go 2 [(1, .pointer (some ⟨H.next, 0, none⟩)), (4, .slice t13r0a t13r0n t13r0k), (18, .int .u8 (IntKind.wrap .u8 t17)), (21, .int .u8 (IntKind.wrap .u8 t20)), (24, .int .u8 (IntKind.wrap .u8 t23)), (25, .pointer (some ⟨H.next, 3, none⟩))] 46 (s' := (.reg (opsAt (sub B [1, 1, 1, 0])) [10, 11, 12, 13, 14, 15, 16, 17, 18] :: S4)) fun J => ?_
    obtain ⟨t26, q10, h⟩ := h
    refine KR.rd (one_ld (by kernel_rfl) q10) ?_
    refine KR.go 4 [(1, .pointer (some ⟨H.next, 0, none⟩)), (4, .slice t13r0a t13r0n t13r0k), (18, .int .u8 (IntKind.wrap .u8 t17)), (21, .int .u8 (IntKind.wrap .u8 t20)), (24, .int .u8 (IntKind.wrap .u8 t23)), (27, .int .u8 (IntKind.wrap .u8 t26)), (30, .int .u8 (IntKind.wrap .u8 (t13r0n : Int)))] 46 (s' := (.reg (opsAt (sub B [1, 1, 1, 0])) [15, 16, 17, 18] :: S4)) fun J => ?_
    obtain ⟨H_4, q11, h⟩ := h
    refine KR.mk (w := sRow 6 1 [.int .u8 197, .int .u8 (IntKind.wrap .u8 t17), .int .u8 (IntKind.wrap .u8 t20), .int .u8 (IntKind.wrap .u8 t23), .int .u8 (IntKind.wrap .u8 t26), .int .u8 (IntKind.wrap .u8 (t13r0n : Int))]) (one_al (by kernel_rfl)) q11 ?_
    refine KR.go 1 [(1, .pointer (some ⟨H.next, 0, none⟩)), (31, .slice (some ⟨H_3.next, 0, none⟩) 6 (UNK 1)), (32, .slice t13r0a t13r0n t13r0k)] 46 (s' := (.reg (opsAt (sub B [1, 1, 1, 0])) [17, 18] :: S4)) fun J => ?_
    obtain ⟨t33a, t33n, t33k, H_5, q12, h⟩ := h
    refine KR.se (one_ap 1 1 (by kernel_rfl) q12) ?_
    refine KR.go 3 [(1, .pointer (some ⟨H.next, 0, none⟩)), (6, .slice t33a t33n t33k)] 46 (s' := (.code (sub B [1, 1, 1, 1, 0]) :: S5)) fun J => ?_
    refine KE.start H_5 (by kernel_rfl) (by kernel_rfl) ?_
    refine KE.run 2 [(1, .pointer (some ⟨H.next, 0, none⟩)), (34, .slice t33a t33n t33k), (35, .pointer (some ⟨H.next, 5, none⟩))] 46 2 (by kernel_rfl) fun J => ?_
    obtain ⟨t36a, t36n, t36k, q13, h⟩ := h
    refine KE.rdN (one_ld (by kernel_rfl) q13) (by kernel_rfl) ?_
    refine KE.run 2 [(1, .pointer (some ⟨H.next, 0, none⟩)), (34, .slice t33a t33n t33k), (38, .int .u8 (IntKind.wrap .u8 (t36n : Int)))] 46 5 (by kernel_rfl) fun J => ?_
    obtain ⟨H_6, q14, h⟩ := h
    refine KE.mk (w := sRow 1 1 [.int .u8 (IntKind.wrap .u8 (t36n : Int))]) (one_al (by kernel_rfl)) (by kernel_rfl) (by kernel_rfl) q14 ?_
    obtain ⟨t40a, t40n, t40k, H_7, q15, h⟩ := h
    refine KE.se (one_ap 1 1 (by kernel_rfl) q15) (by kernel_rfl) ?_
    refine KE.run 1 [(40, .slice t40a t40n t40k), (41, .pointer (some ⟨H.next, 5, none⟩))] 46 8 (by kernel_rfl) fun J => ?_
    obtain ⟨t42a, t42n, t42k, q16, h⟩ := h
    refine KE.rdF (one_ld (by kernel_rfl) q16) (by kernel_rfl) ?_
    obtain ⟨t43a, t43n, t43k, H_8, q17, h⟩ := h
    refine KE.se (one_ap 1 1 (by kernel_rfl) q17) (by kernel_rfl) ?_
    refine KE.run 1 [(6, .slice t43a t43n t43k)] 46 11 (by kernel_rfl) fun J => ?_
    obtain ⟨q18, q19, h⟩ := h
    refine KE.fin (H' := H_8) (by kernel_rfl) (rdsS rfl (rd_ok (Hs := [H_6, H_7]) (by kernel_rfl) (by kernel_rfl) ⟨one_ld (by kernel_rfl) q18, ⟨one_ld (by kernel_rfl) q19, trivial⟩⟩)) (by kernel_rfl) ?_
    refine KR.go 3 [(44, .slice t43a t43n t43k)] 46 (s' := (.reg (opsAt (sub B [1, 1, 1, 1, 1, 0])) [1, 2, 3] :: S6)) fun J => ?_
    obtain ⟨t45a, t45n, t45k, H_9, q20, h⟩ := h
    refine KR.se (one_ca (by kernel_rfl) q20) ?_
    refine KR.go 3 [(2, .slice t45a t45n t45k), (3, .int .i64 0)] 46 (s' := (.code (sub B [1, 1, 1, 1, 1, 1]) :: [])) fun J => ?_
    exact KR.fi h
  · replace h := iteF c4 h
    refine KR.bb true (vB (nB (bF c4))) ?_
    refine KR.go 5 [(2, .slice none 0 0), (3, .int .i64 1)] 46 (s' := (.code (sub B [1, 0, 1, 0, 1]) :: S1)) fun J => ?_
    exact KR.fi h
end F28
/-! #### 29 campanile/campanileref1.Append -/
namespace F29
noncomputable def B : Code := bodyOf Try.f29
noncomputable def S0 : List It := (.code (sub B [1, 1]) :: [])
noncomputable def S1 : List It := (.code (sub B [1, 1, 1]) :: [])
theorem call {a0a : Option Addr} {a0n a0k : Nat} {H : Heap} {r : Value × Heap} (h :
    ∃ (t5 : Int) (H_1 : Heap), xC Try.prog good 57 [.slice a0a a0n a0k] H = some (.int .u16 t5, H_1) ∧
    (∃ (t7a : Option Addr) (t7n t7k : Nat) (H_2 : Heap), papp H_1 1 1 none 0 0 a0a a0n a0k = some ((t7a, t7n, t7k), H_2) ∧
    (∃ (H_3 : Heap), H_3 = H_2.push (.row [.int .u8 (IntKind.wrap .u8 t5), .int .u8 (IntKind.wrap .u8 (ishr .u16 t5 8))] true) ∧
    (∃ (t14a : Option Addr) (t14n t14k : Nat) (H_4 : Heap), papp H_3 1 1 t7a t7n t7k (some ⟨H_2.next, 0, none⟩) 2 (UNK 1) = some ((t14a, t14n, t14k), H_4) ∧
    (r = (.slice t14a t14n t14k, H_4)))))) :
    xC Try.prog good 29 [.slice a0a a0n a0k] H = some r := by
  refine KR.enter (fn := Try.f29) (c := B) (by kernel_rfl) (by kernel_rfl) ?_
  refine KR.go 7 [(0, .slice a0a a0n a0k), (4, .slice a0a a0n a0k)] 15 (s' := (.reg (opsAt (sub B [1, 0])) [1, 2] :: S0)) fun J => ?_
  obtain ⟨t5, H_1, q1, h⟩ := h
  refine KR.se (one_ca (by kernel_rfl) q1) ?_
  refine KR.go 5 [(3, .int .u16 t5), (6, .slice a0a a0n a0k)] 15 (s' := (.reg (opsAt (sub B [1, 1, 0])) [1, 2, 3, 4, 5, 6, 7, 8, 9] :: S1)) fun J => ?_
  obtain ⟨t7a, t7n, t7k, H_2, q2, h⟩ := h
  refine KR.se (one_ap 1 1 (by kernel_rfl) q2) ?_
  refine KR.go 5 [(7, .slice t7a t7n t7k), (9, .int .u8 (IntKind.wrap .u8 t5)), (12, .int .u8 (IntKind.wrap .u8 (ishr .u16 t5 8)))] 15 (s' := (.reg (opsAt (sub B [1, 1, 0])) [7, 8, 9] :: S1)) fun J => ?_
  obtain ⟨H_3, q3, h⟩ := h
  refine KR.mk (w := sRow 2 1 [.int .u8 (IntKind.wrap .u8 t5), .int .u8 (IntKind.wrap .u8 (ishr .u16 t5 8))]) (one_al (by kernel_rfl)) q3 ?_
  obtain ⟨t14a, t14n, t14k, H_4, q4, h⟩ := h
  refine KR.se (one_ap 1 1 (by kernel_rfl) q4) ?_
  refine KR.go 2 [(2, .slice t14a t14n t14k)] 15 (s' := (.code (sub B [1, 1, 1]) :: [])) fun J => ?_
  exact KR.fi h
end F29
/-! #### 31 campanile/campanileref1.DecodeFrame -/
namespace F31
noncomputable def B : Code := bodyOf Try.f31
noncomputable def S0 : List It := (.code (sub B [1]) :: [])
noncomputable def S1 : List It := (.code (sub B [1, 1]) :: [])
noncomputable def S2 : List It := (.code (sub B [1, 1, 1]) :: [])
noncomputable def S4 : List It := (.code (sub B [1, 1, 1, 1]) :: [])
noncomputable def S6 : List It := (.code (sub B [1, 1, 1, 1, 1]) :: [])
noncomputable def S7 : List It := (.code (sub B [1, 1, 1, 1, 1, 1]) :: [])
noncomputable def S8 : List It := (.code (sub B [1, 1, 1, 1, 1, 1, 1]) :: [])
noncomputable def S9 : List It := (.code (sub B [1, 1, 1, 1, 1, 1, 1, 1]) :: [])
noncomputable def S10 : List It := (.code (sub B [1, 1, 1, 1, 1, 1, 1, 1, 1]) :: [])
noncomputable def S11 : List It := (.code (sub B [1, 1, 1, 1, 1, 1, 1, 1, 1, 1]) :: [])
noncomputable def S15 : List It := (.code (sub B [1, 1, 1, 1, 1, 1, 1, 1, 1, 1, 1]) :: [])
noncomputable def S16 : List It := (.code (sub B [1, 1, 1, 1, 1, 1, 1, 1, 1, 1, 1, 1]) :: [])
noncomputable def S17 : List It := (.code (sub B [1, 1, 1, 1, 1, 1, 1, 1, 1, 1, 1, 1, 1]) :: [])
noncomputable def S18 : List It := (.code (sub B [1, 1, 1, 1, 1, 1, 1, 1, 1, 1, 1, 1, 1, 1]) :: [])
noncomputable def S20 : List It := (.code (sub B [1, 1, 1, 1, 1, 1, 1, 1, 1, 1, 1, 1, 1, 1, 1]) :: [])
noncomputable def S3 : List It := (.code (sub B [1, 1, 0, 1, 0, 1]) :: S2)
noncomputable def S5 : List It := (.code (sub B [1, 1, 1, 0, 1]) :: S4)
noncomputable def S12 : List It := (.code (sub B [1, 1, 1, 1, 1, 1, 1, 1, 1, 0, 1]) :: S11)
noncomputable def S13 : List It := (.code (sub B [1, 1, 1, 0, 1, 0, 1]) :: S4)
noncomputable def S14 : List It := (.code (sub B [1, 1, 1, 1, 1, 1, 1, 1, 1, 0, 1, 0, 1]) :: S11)
noncomputable def S19 : List It := (.code (sub B [1, 1, 1, 1, 1, 1, 1, 1, 1, 1, 1, 1, 1, 0, 1]) :: S18)
noncomputable def S21 : List It := (.code (sub B [1, 1, 1, 1, 1, 1, 1, 1, 1, 1, 1, 1, 1, 0, 1, 0, 1]) :: S18)
noncomputable def S22 : List It := (.code (sub B [1, 1, 1, 1, 1, 1, 1, 1, 1, 1, 1, 0, 1, 0, 1]) :: S16)
def L0 (t2b t2o t4b t4o t7b t7o : Nat) (t8a : Option Addr) (t8n t8k : Nat) (t53 : Bool) (H : Heap) (r : Value × Heap) : Prop := ∀ J, KR Try.prog good Try.f31 S12 (mat J 71 [(2, .pointer (some ⟨t2b, t2o, none⟩)), (4, .pointer (some ⟨t4b, t4o, none⟩)), (7, .pointer (some ⟨t7b, t7o, none⟩)), (8, .slice t8a t8n t8k), (53, .bool t53)]) H r
theorem L0_step {t2b t2o t4b t4o t7b t7o : Nat} {t8a : Option Addr} {t8n t8k : Nat} {t53 : Bool} {H : Heap} {r : Value × Heap} (h :
    if t53 = true then
    (∃ (t54c0 t54c1 t54c2 t54c3 : Int) (t54c4a : Option Addr) (t54c4n t54c4k : Nat) (t54c5a : Option Addr) (t54c5n t54c5k : Nat), ldAll H t4b t4o [.int .i64 t54c0, .int .i64 t54c1, .int .i64 t54c2, .int .i64 t54c3, .slice t54c4a t54c4n t54c4k, .slice t54c5a t54c5n t54c5k] ∧
    (∃ (H_1 : Heap), stc H t2b t2o [.int .i64 t54c0, .int .i64 t54c1, .int .i64 t54c2, .int .i64 t54c3, .slice t54c4a t54c4n t54c4k, .slice t54c5a t54c5n t54c5k] = some H_1 ∧
    (∃ (r2c0 r2c1 r2c2 r2c3 : Int) (r2c4a : Option Addr) (r2c4n r2c4k : Nat) (r2c5a : Option Addr) (r2c5n r2c5k : Nat), ldAll H_1 t2b t2o [.int .i64 r2c0, .int .i64 r2c1, .int .i64 r2c2, .int .i64 r2c3, .slice r2c4a r2c4n r2c4k, .slice r2c5a r2c5n r2c5k] ∧
    (r = (.tuple #[.agg #[.int .i64 r2c0, .int .i64 r2c1, .int .i64 r2c2, .int .i64 r2c3, .slice r2c4a r2c4n r2c4k, .slice r2c5a r2c5n r2c5k], .int .i64 3], H_1)))))
    else
    (∃ (t57r0a : Option Addr) (t57r0n t57r0k : Nat) (t57r1 : Int) (H_2 : Heap), xC Try.prog good 24 [.slice t8a t8n t8k] H = some (.tuple #[.slice t57r0a t57r0n t57r0k, .int .i64 t57r1], H_2) ∧
    (if t57r1 = 0 then
    (∃ (H_3 : Heap), stc H_2 t7b (t7o + 4) [.slice t57r0a t57r0n t57r0k] = some H_3 ∧
    (∃ (t66c0 t66c1 t66c2 t66c3 : Int) (t66c4a : Option Addr) (t66c4n t66c4k : Nat) (t66c5a : Option Addr) (t66c5n t66c5k : Nat), ldAll H_3 t7b t7o [.int .i64 t66c0, .int .i64 t66c1, .int .i64 t66c2, .int .i64 t66c3, .slice t66c4a t66c4n t66c4k, .slice t66c5a t66c5n t66c5k] ∧
    (∃ (t67 : Bool) (H_4 : Heap), xC Try.prog good 35 [.agg #[.int .i64 t66c0, .int .i64 t66c1, .int .i64 t66c2, .int .i64 t66c3, .slice t66c4a t66c4n t66c4k, .slice t66c5a t66c5n t66c5k]] H_3 = some (.bool t67, H_4) ∧
    (if t67 = true then
    (∃ (t70c0 t70c1 t70c2 t70c3 : Int) (t70c4a : Option Addr) (t70c4n t70c4k : Nat) (t70c5a : Option Addr) (t70c5n t70c5k : Nat), ldAll H_4 t7b t7o [.int .i64 t70c0, .int .i64 t70c1, .int .i64 t70c2, .int .i64 t70c3, .slice t70c4a t70c4n t70c4k, .slice t70c5a t70c5n t70c5k] ∧
    (∃ (H_5 : Heap), stc H_4 t2b t2o [.int .i64 t70c0, .int .i64 t70c1, .int .i64 t70c2, .int .i64 t70c3, .slice t70c4a t70c4n t70c4k, .slice t70c5a t70c5n t70c5k] = some H_5 ∧
    (∃ (r2c0_1 r2c1_1 r2c2_1 r2c3_1 : Int) (r2c4a_1 : Option Addr) (r2c4n_1 r2c4k_1 : Nat) (r2c5a_1 : Option Addr) (r2c5n_1 r2c5k_1 : Nat), ldAll H_5 t2b t2o [.int .i64 r2c0_1, .int .i64 r2c1_1, .int .i64 r2c2_1, .int .i64 r2c3_1, .slice r2c4a_1 r2c4n_1 r2c4k_1, .slice r2c5a_1 r2c5n_1 r2c5k_1] ∧
    (r = (.tuple #[.agg #[.int .i64 r2c0_1, .int .i64 r2c1_1, .int .i64 r2c2_1, .int .i64 r2c3_1, .slice r2c4a_1 r2c4n_1 r2c4k_1, .slice r2c5a_1 r2c5n_1 r2c5k_1], .int .i64 0], H_5)))))
    else
    (∃ (t69c0 t69c1 t69c2 t69c3 : Int) (t69c4a : Option Addr) (t69c4n t69c4k : Nat) (t69c5a : Option Addr) (t69c5n t69c5k : Nat), ldAll H_4 t4b t4o [.int .i64 t69c0, .int .i64 t69c1, .int .i64 t69c2, .int .i64 t69c3, .slice t69c4a t69c4n t69c4k, .slice t69c5a t69c5n t69c5k] ∧
    (∃ (H_6 : Heap), stc H_4 t2b t2o [.int .i64 t69c0, .int .i64 t69c1, .int .i64 t69c2, .int .i64 t69c3, .slice t69c4a t69c4n t69c4k, .slice t69c5a t69c5n t69c5k] = some H_6 ∧
    (∃ (r2c0_2 r2c1_2 r2c2_2 r2c3_2 : Int) (r2c4a_2 : Option Addr) (r2c4n_2 r2c4k_2 : Nat) (r2c5a_2 : Option Addr) (r2c5n_2 r2c5k_2 : Nat), ldAll H_6 t2b t2o [.int .i64 r2c0_2, .int .i64 r2c1_2, .int .i64 r2c2_2, .int .i64 r2c3_2, .slice r2c4a_2 r2c4n_2 r2c4k_2, .slice r2c5a_2 r2c5n_2 r2c5k_2] ∧
    (r = (.tuple #[.agg #[.int .i64 r2c0_2, .int .i64 r2c1_2, .int .i64 r2c2_2, .int .i64 r2c3_2, .slice r2c4a_2 r2c4n_2 r2c4k_2, .slice r2c5a_2 r2c5n_2 r2c5k_2], .int .i64 3], H_6)))))))))
    else
    (∃ (t62c0 t62c1 t62c2 t62c3 : Int) (t62c4a : Option Addr) (t62c4n t62c4k : Nat) (t62c5a : Option Addr) (t62c5n t62c5k : Nat), ldAll H_2 t4b t4o [.int .i64 t62c0, .int .i64 t62c1, .int .i64 t62c2, .int .i64 t62c3, .slice t62c4a t62c4n t62c4k, .slice t62c5a t62c5n t62c5k] ∧
    (∃ (H_7 : Heap), stc H_2 t2b t2o [.int .i64 t62c0, .int .i64 t62c1, .int .i64 t62c2, .int .i64 t62c3, .slice t62c4a t62c4n t62c4k, .slice t62c5a t62c5n t62c5k] = some H_7 ∧
    (∃ (r2c0_3 r2c1_3 r2c2_3 r2c3_3 : Int) (r2c4a_3 : Option Addr) (r2c4n_3 r2c4k_3 : Nat) (r2c5a_3 : Option Addr) (r2c5n_3 r2c5k_3 : Nat), ldAll H_7 t2b t2o [.int .i64 r2c0_3, .int .i64 r2c1_3, .int .i64 r2c2_3, .int .i64 r2c3_3, .slice r2c4a_3 r2c4n_3 r2c4k_3, .slice r2c5a_3 r2c5n_3 r2c5k_3] ∧
    (r = (.tuple #[.agg #[.int .i64 r2c0_3, .int .i64 r2c1_3, .int .i64 r2c2_3, .int .i64 r2c3_3, .slice r2c4a_3 r2c4n_3 r2c4k_3, .slice r2c5a_3 r2c5n_3 r2c5k_3], .int .i64 t57r1], H_7)))))))) :
    L0 t2b t2o t4b t4o t7b t7o t8a t8n t8k t53 H r := by
  intro J
  show KR _ _ _ (.code (sub B [1, 1, 1, 1, 1, 1, 1, 1, 1, 0, 1]) :: S11) _ _ _
  by_cases c29 : t53 = true
  · replace h := iteT c29 h
    refine KR.bb true (vB (bT c29)) ?_
    refine KR.go 2 [(2, .pointer (some ⟨t2b, t2o, none⟩)), (4, .pointer (some ⟨t4b, t4o, none⟩))] 71 (s' := (.reg (opsAt (sub B [1, 1, 1, 1, 1, 1, 1, 1, 1, 0, 1, 0, 0])) [0, 1, 2] :: S14)) fun J => ?_
    obtain ⟨t54c0, t54c1, t54c2, t54c3, t54c4a, t54c4n, t54c4k, t54c5a, t54c5n, t54c5k, q30, h⟩ := h
    refine KR.rd (one_ldA (by kernel_rfl) q30) ?_
    obtain ⟨H_1, q31, h⟩ := h
    refine KR.se (one_st (by kernel_rfl) q31) ?_
    refine KR.go 2 [(2, .pointer (some ⟨t2b, t2o, none⟩)), (3, .int .i64 3)] 71 (s' := (.code (sub B [1, 1, 1, 1, 1, 1, 1, 1, 1, 0, 1, 0, 1]) :: S11)) fun J => ?_
    obtain ⟨r2c0, r2c1, r2c2, r2c3, r2c4a, r2c4n, r2c4k, r2c5a, r2c5n, r2c5k, q32, h⟩ := h
    exact KR.finR (l := [.cell 2 44, .tmp 3]) (vs := [.agg #[.int .i64 r2c0, .int .i64 r2c1, .int .i64 r2c2, .int .i64 r2c3, .slice r2c4a r2c4n r2c4k, .slice r2c5a r2c5n r2c5k], .int .i64 3]) (by kernel_rfl) (Res.cellA (by kernel_rfl) q32 (Res.tmp (by kernel_rfl) Res.nil)) (by kernel_rfl) h
  · replace h := iteF c29 h
    refine KR.bb false (vB (bF c29)) ?_
    refine KR.go 4 [(2, .pointer (some ⟨t2b, t2o, none⟩)), (4, .pointer (some ⟨t4b, t4o, none⟩)), (7, .pointer (some ⟨t7b, t7o, none⟩)), (56, .slice t8a t8n t8k)] 71 (s' := (.reg (opsAt (sub B [1, 1, 1, 1, 1, 1, 1, 1, 1, 1, 0])) [1, 2, 3, 4, 5, 6] :: S15)) fun J => ?_
    obtain ⟨t57r0a, t57r0n, t57r0k, t57r1, H_2, q33, h⟩ := h
    refine KR.se (one_ca (by kernel_rfl) q33) ?_
    refine KR.go 12 [(2, .pointer (some ⟨t2b, t2o, none⟩)), (4, .pointer (some ⟨t4b, t4o, none⟩)), (7, .pointer (some ⟨t7b, t7o, none⟩)), (9, .slice t57r0a t57r0n t57r0k), (10, .int .i64 t57r1), (61, .bool (!(t57r1 == 0)))] 71 (s' := (.code (sub B [1, 1, 1, 1, 1, 1, 1, 1, 1, 1, 1, 0, 1]) :: S16)) fun J => ?_
    by_cases c34 : t57r1 = 0
    · replace h := iteT c34 h
      refine KR.bb false (vB (nB (eT c34))) ?_
      refine KR.go 5 [(2, .pointer (some ⟨t2b, t2o, none⟩)), (4, .pointer (some ⟨t4b, t4o, none⟩)), (7, .pointer (some ⟨t7b, t7o, none⟩)), (64, .slice t57r0a t57r0n t57r0k), (65, .pointer (some ⟨t7b, (t7o + 4), none⟩))] 71 (s' := (.reg (opsAt (sub B [1, 1, 1, 1, 1, 1, 1, 1, 1, 1, 1, 1, 0])) [2] :: S17)) fun J => ?_
      obtain ⟨H_3, q35, h⟩ := h
      refine KR.se (one_st (by kernel_rfl) q35) ?_
      refine KR.go 4 [(2, .pointer (some ⟨t2b, t2o, none⟩)), (4, .pointer (some ⟨t4b, t4o, none⟩)), (7, .pointer (some ⟨t7b, t7o, none⟩))] 71 (s' := (.reg (opsAt (sub B [1, 1, 1, 1, 1, 1, 1, 1, 1, 1, 1, 1, 1, 0, 0])) [0, 1, 2] :: S19)) fun J => ?_
      obtain ⟨t66c0, t66c1, t66c2, t66c3, t66c4a, t66c4n, t66c4k, t66c5a, t66c5n, t66c5k, q36, h⟩ := h
      refine KR.rd (one_ldA (by kernel_rfl) q36) ?_
      obtain ⟨t67, H_4, q37, h⟩ := h
      refine KR.se (one_ca (by kernel_rfl) q37) ?_
      refine KR.go 2 [(2, .pointer (some ⟨t2b, t2o, none⟩)), (4, .pointer (some ⟨t4b, t4o, none⟩)), (7, .pointer (some ⟨t7b, t7o, none⟩)), (68, .bool (!t67))] 71 (s' := (.code (sub B [1, 1, 1, 1, 1, 1, 1, 1, 1, 1, 1, 1, 1, 0, 1]) :: S18)) fun J => ?_
      by_cases c38 : t67 = true
      · replace h := iteT c38 h
        refine KR.bb false (vB (nB (bT c38))) ?_
        refine KR.go 3 [(2, .pointer (some ⟨t2b, t2o, none⟩)), (7, .pointer (some ⟨t7b, t7o, none⟩))] 71 (s' := (.reg (opsAt (sub B [1, 1, 1, 1, 1, 1, 1, 1, 1, 1, 1, 1, 1, 1, 0])) [0, 1, 2] :: S20)) fun J => ?_
        obtain ⟨t70c0, t70c1, t70c2, t70c3, t70c4a, t70c4n, t70c4k, t70c5a, t70c5n, t70c5k, q39, h⟩ := h
        refine KR.rd (one_ldA (by kernel_rfl) q39) ?_
        obtain ⟨H_5, q40, h⟩ := h
        refine KR.se (one_st (by kernel_rfl) q40) ?_
        refine KR.go 2 [(2, .pointer (some ⟨t2b, t2o, none⟩)), (3, .int .i64 0)] 71 (s' := (.code (sub B [1, 1, 1, 1, 1, 1, 1, 1, 1, 1, 1, 1, 1, 1, 1]) :: [])) fun J => ?_
        obtain ⟨r2c0_1, r2c1_1, r2c2_1, r2c3_1, r2c4a_1, r2c4n_1, r2c4k_1, r2c5a_1, r2c5n_1, r2c5k_1, q41, h⟩ := h
        exact KR.finR (l := [.cell 2 44, .tmp 3]) (vs := [.agg #[.int .i64 r2c0_1, .int .i64 r2c1_1, .int .i64 r2c2_1, .int .i64 r2c3_1, .slice r2c4a_1 r2c4n_1 r2c4k_1, .slice r2c5a_1 r2c5n_1 r2c5k_1], .int .i64 0]) (by kernel_rfl) (Res.cellA (by kernel_rfl) q41 (Res.tmp (by kernel_rfl) Res.nil)) (by kernel_rfl) h
      · replace h := iteF c38 h
        refine KR.bb true (vB (nB (bF c38))) ?_
        refine KR.go 2 [(2, .pointer (some ⟨t2b, t2o, none⟩)), (4, .pointer (some ⟨t4b, t4o, none⟩))] 71 (s' := (.reg (opsAt (sub B [1, 1, 1, 1, 1, 1, 1, 1, 1, 1, 1, 1, 1, 0, 1, 0, 0])) [0, 1, 2] :: S21)) fun J => ?_
        obtain ⟨t69c0, t69c1, t69c2, t69c3, t69c4a, t69c4n, t69c4k, t69c5a, t69c5n, t69c5k, q42, h⟩ := h
        refine KR.rd (one_ldA (by kernel_rfl) q42) ?_
        obtain ⟨H_6, q43, h⟩ := h
        refine KR.se (one_st (by kernel_rfl) q43) ?_
        refine KR.go 2 [(2, .pointer (some ⟨t2b, t2o, none⟩)), (3, .int .i64 3)] 71 (s' := (.code (sub B [1, 1, 1, 1, 1, 1, 1, 1, 1, 1, 1, 1, 1, 0, 1, 0, 1]) :: S18)) fun J => ?_
        obtain ⟨r2c0_2, r2c1_2, r2c2_2, r2c3_2, r2c4a_2, r2c4n_2, r2c4k_2, r2c5a_2, r2c5n_2, r2c5k_2, q44, h⟩ := h
        exact KR.finR (l := [.cell 2 44, .tmp 3]) (vs := [.agg #[.int .i64 r2c0_2, .int .i64 r2c1_2, .int .i64 r2c2_2, .int .i64 r2c3_2, .slice r2c4a_2 r2c4n_2 r2c4k_2, .slice r2c5a_2 r2c5n_2 r2c5k_2], .int .i64 3]) (by kernel_rfl) (Res.cellA (by kernel_rfl) q44 (Res.tmp (by kernel_rfl) Res.nil)) (by kernel_rfl) h
    · replace h := iteF c34 h
      refine KR.bb true (vB (nB (eF c34))) ?_
      refine KR.go 2 [(2, .pointer (some ⟨t2b, t2o, none⟩)), (4, .pointer (some ⟨t4b, t4o, none⟩)), (10, .int .i64 t57r1)] 71 (s' := (.reg (opsAt (sub B [1, 1, 1, 1, 1, 1, 1, 1, 1, 1, 1, 0, 1, 0, 0])) [0, 1, 2, 3] :: S22)) fun J => ?_
      obtain ⟨t62c0, t62c1, t62c2, t62c3, t62c4a, t62c4n, t62c4k, t62c5a, t62c5n, t62c5k, q45, h⟩ := h
      refine KR.rd (one_ldA (by kernel_rfl) q45) ?_
      refine KR.go 1 [(2, .pointer (some ⟨t2b, t2o, none⟩)), (62, .agg #[.int .i64 t62c0, .int .i64 t62c1, .int .i64 t62c2, .int .i64 t62c3, .slice t62c4a t62c4n t62c4k, .slice t62c5a t62c5n t62c5k]), (63, .int .i64 t57r1)] 71 (s' := (.reg (opsAt (sub B [1, 1, 1, 1, 1, 1, 1, 1, 1, 1, 1, 0, 1, 0, 0])) [2, 3] :: S22)) fun J => ?_
      obtain ⟨H_7, q46, h⟩ := h
      refine KR.se (one_st (by kernel_rfl) q46) ?_
      refine KR.go 2 [(2, .pointer (some ⟨t2b, t2o, none⟩)), (3, .int .i64 t57r1)] 71 (s' := (.code (sub B [1, 1, 1, 1, 1, 1, 1, 1, 1, 1, 1, 0, 1, 0, 1]) :: S16)) fun J => ?_
      obtain ⟨r2c0_3, r2c1_3, r2c2_3, r2c3_3, r2c4a_3, r2c4n_3, r2c4k_3, r2c5a_3, r2c5n_3, r2c5k_3, q47, h⟩ := h
      exact KR.finR (l := [.cell 2 44, .tmp 3]) (vs := [.agg #[.int .i64 r2c0_3, .int .i64 r2c1_3, .int .i64 r2c2_3, .int .i64 r2c3_3, .slice r2c4a_3 r2c4n_3 r2c4k_3, .slice r2c5a_3 r2c5n_3 r2c5k_3], .int .i64 t57r1]) (by kernel_rfl) (Res.cellA (by kernel_rfl) q47 (Res.tmp (by kernel_rfl) Res.nil)) (by kernel_rfl) h
theorem call {a0a : Option Addr} {a0n a0k : Nat} {H : Heap} {r : Value × Heap} (h :
    ∃ (H_1 : Heap), H_1 = H.push (.row [.int .i64 0, .int .i64 0, .int .i64 0, .int .i64 0, .slice none 0 0, .slice none 0 0] true) ∧
    (∃ (H_2 : Heap), H_2 = H_1.push (.row [.int .i64 0, .int .i64 0, .int .i64 0, .int .i64 0, .slice none 0 0, .slice none 0 0] true) ∧
    (∃ (H_3 : Heap), stc H_2 H_1.next 0 [.int .i64 0, .int .i64 0, .int .i64 0, .int .i64 0, .slice none 0 0, .slice none 0 0] = some H_3 ∧
    (if (a0n : Int) < 9 then
    (∃ (t15c0 t15c1 t15c2 t15c3 : Int) (t15c4a : Option Addr) (t15c4n t15c4k : Nat) (t15c5a : Option Addr) (t15c5n t15c5k : Nat), ldAll H_3 H_1.next 0 [.int .i64 t15c0, .int .i64 t15c1, .int .i64 t15c2, .int .i64 t15c3, .slice t15c4a t15c4n t15c4k, .slice t15c5a t15c5n t15c5k] ∧
    (∃ (H_4 : Heap), stc H_3 H.next 0 [.int .i64 t15c0, .int .i64 t15c1, .int .i64 t15c2, .int .i64 t15c3, .slice t15c4a t15c4n t15c4k, .slice t15c5a t15c5n t15c5k] = some H_4 ∧
    (∃ (r2c0 r2c1 r2c2 r2c3 : Int) (r2c4a : Option Addr) (r2c4n r2c4k : Nat) (r2c5a : Option Addr) (r2c5n r2c5k : Nat), ldAll H_4 H.next 0 [.int .i64 r2c0, .int .i64 r2c1, .int .i64 r2c2, .int .i64 r2c3, .slice r2c4a r2c4n r2c4k, .slice r2c5a r2c5n r2c5k] ∧
    (r = (.tuple #[.agg #[.int .i64 r2c0, .int .i64 r2c1, .int .i64 r2c2, .int .i64 r2c3, .slice r2c4a r2c4n r2c4k, .slice r2c5a r2c5n r2c5k], .int .i64 2], H_4)))))
    else
    (∃ (t17 : Bool) (H_5 : Heap), xC Try.prog good 61 [.slice a0a a0n a0k] H_3 = some (.bool t17, H_5) ∧
    (if t17 = true then
    (∃ (t24a : Option Addr) (t24n t24k : Nat), psl 1 a0a a0n a0k none (some (IntKind.wrap .i64 ((a0n : Int) - 2))) none = some (t24a, t24n, t24k) ∧
    (∃ (H_6 : Heap), H_6 = H_5.push (.row [.slice t24a t24n t24k, .int .i64 0] true) ∧
    (∃ (t28 : Int) (H_7 : Heap), xC Try.prog good 53 [.pointer (some ⟨H_5.next, 0, none⟩)] H_6 = some (.int .i64 t28, H_7) ∧
    (∃ (t30 : Int) (H_8 : Heap), xC Try.prog good 53 [.pointer (some ⟨H_5.next, 0, none⟩)] H_7 = some (.int .i64 t30, H_8) ∧
    (∃ (t32 : Int) (H_9 : Heap), xC Try.prog good 53 [.pointer (some ⟨H_5.next, 0, none⟩)] H_8 = some (.int .i64 t32, H_9) ∧
    (∃ (t34 : Int) (H_10 : Heap), xC Try.prog good 53 [.pointer (some ⟨H_5.next, 0, none⟩)] H_9 = some (.int .i64 t34, H_10) ∧
    (∃ (t36 : Int) (H_11 : Heap), xC Try.prog good 53 [.pointer (some ⟨H_5.next, 0, none⟩)] H_10 = some (.int .i64 t36, H_11) ∧
    (∃ (H_12 : Heap), H_12 = H_11.push (.row [.int .i64 0, .int .i64 0, .int .i64 0, .int .i64 0, .slice none 0 0, .slice none 0 0] true) ∧
    (∃ (H_13 : Heap), stc H_12 H_11.next 0 [.int .i64 t30, .int .i64 t32, .int .i64 t34, .int .i64 t36, .slice none 0 0, .slice none 0 0] = some H_13 ∧
    (∃ (t40 : Int) (H_14 : Heap), xC Try.prog good 53 [.pointer (some ⟨H_5.next, 0, none⟩)] H_13 = some (.int .i64 t40, H_14) ∧
    (∃ (t41a : Option Addr) (t41n t41k : Nat) (H_15 : Heap), xC Try.prog good 54 [.pointer (some ⟨H_5.next, 0, none⟩), .int .i64 t40] H_14 = some (.slice t41a t41n t41k, H_15) ∧
    (∃ (t44 : Int) (H_16 : Heap), xC Try.prog good 53 [.pointer (some ⟨H_5.next, 0, none⟩)] H_15 = some (.int .i64 t44, H_16) ∧
    (∃ (t45a : Option Addr) (t45n t45k : Nat) (H_17 : Heap), xC Try.prog good 54 [.pointer (some ⟨H_5.next, 0, none⟩), .int .i64 t44] H_16 = some (.slice t45a t45n t45k, H_17) ∧
    (∃ (H_18 : Heap), stc H_17 H_11.next 5 [.slice t45a t45n t45k] = some H_18 ∧
    (if t28 = 197 then
    (∃ (t51 : Int) (H_19 : Heap), xC Try.prog good 56 [.pointer (some ⟨H_5.next, 0, none⟩)] H_18 = some (.int .i64 t51, H_19) ∧
    (L0 (H.next) 0 (H_1.next) 0 (H_11.next) 0 t41a t41n t41k ((!(t51 == 0))) H_19 r))
    else
    (L0 (H.next) 0 (H_1.next) 0 (H_11.next) 0 t41a t41n t41k true H_18 r))))))))))))))))
    else
    (∃ (t19c0 t19c1 t19c2 t19c3 : Int) (t19c4a : Option Addr) (t19c4n t19c4k : Nat) (t19c5a : Option Addr) (t19c5n t19c5k : Nat), ldAll H_5 H_1.next 0 [.int .i64 t19c0, .int .i64 t19c1, .int .i64 t19c2, .int .i64 t19c3, .slice t19c4a t19c4n t19c4k, .slice t19c5a t19c5n t19c5k] ∧
    (∃ (H_20 : Heap), stc H_5 H.next 0 [.int .i64 t19c0, .int .i64 t19c1, .int .i64 t19c2, .int .i64 t19c3, .slice t19c4a t19c4n t19c4k, .slice t19c5a t19c5n t19c5k] = some H_20 ∧
    (∃ (r2c0_1 r2c1_1 r2c2_1 r2c3_1 : Int) (r2c4a_1 : Option Addr) (r2c4n_1 r2c4k_1 : Nat) (r2c5a_1 : Option Addr) (r2c5n_1 r2c5k_1 : Nat), ldAll H_20 H.next 0 [.int .i64 r2c0_1, .int .i64 r2c1_1, .int .i64 r2c2_1, .int .i64 r2c3_1, .slice r2c4a_1 r2c4n_1 r2c4k_1, .slice r2c5a_1 r2c5n_1 r2c5k_1] ∧
    (r = (.tuple #[.agg #[.int .i64 r2c0_1, .int .i64 r2c1_1, .int .i64 r2c2_1, .int .i64 r2c3_1, .slice r2c4a_1 r2c4n_1 r2c4k_1, .slice r2c5a_1 r2c5n_1 r2c5k_1], .int .i64 4], H_20))))))))))) :
    xC Try.prog good 31 [.slice a0a a0n a0k] H = some r := by
  refine KR.enter (fn := Try.f31) (c := B) (by kernel_rfl) (by kernel_rfl) ?_
  refine KR.go 2 [(0, .slice a0a a0n a0k)] 71 (s' := (.reg (opsAt (sub B [0])) [0, 1] :: S0)) fun J => ?_
  obtain ⟨H_1, q1, h⟩ := h
  refine KR.mk (w := pRow [.int .i64 0, .int .i64 0, .int .i64 0, .int .i64 0, .slice none 0 0, .slice none 0 0]) (one_al (by kernel_rfl)) q1 ?_
  refine KR.go 5 [(0, .slice a0a a0n a0k), (2, .pointer (some ⟨H.next, 0, none⟩)), (11, .agg #[.int .i64 0, .int .i64 0, .int .i64 0, .int .i64 0, .slice none 0 0, .slice none 0 0])] 71 (s' := (.reg (opsAt (sub B [1, 0])) [1, 2] :: S1)) fun J => ?_
  obtain ⟨H_2, q2, h⟩ := h
  refine KR.mk (w := pRow [.int .i64 0, .int .i64 0, .int .i64 0, .int .i64 0, .slice none 0 0, .slice none 0 0]) (one_al (by kernel_rfl)) q2 ?_
  obtain ⟨H_3, q3, h⟩ := h
  refine KR.se (one_st (by kernel_rfl) q3) ?_
  refine KR.go 8 [(0, .slice a0a a0n a0k), (2, .pointer (some ⟨H.next, 0, none⟩)), (4, .pointer (some ⟨H_1.next, 0, none⟩)), (14, .bool (decide ((a0n : Int) < 9)))] 71 (s' := (.code (sub B [1, 1, 0, 1]) :: S2)) fun J => ?_
  by_cases c4 : (a0n : Int) < 9
  · replace h := iteT c4 h
    refine KR.bb true (vB (dT c4)) ?_
    refine KR.go 2 [(2, .pointer (some ⟨H.next, 0, none⟩)), (4, .pointer (some ⟨H_1.next, 0, none⟩))] 71 (s' := (.reg (opsAt (sub B [1, 1, 0, 1, 0, 0])) [0, 1, 2] :: S3)) fun J => ?_
    obtain ⟨t15c0, t15c1, t15c2, t15c3, t15c4a, t15c4n, t15c4k, t15c5a, t15c5n, t15c5k, q5, h⟩ := h
    refine KR.rd (one_ldA (by kernel_rfl) q5) ?_
    obtain ⟨H_4, q6, h⟩ := h
    refine KR.se (one_st (by kernel_rfl) q6) ?_
    refine KR.go 2 [(2, .pointer (some ⟨H.next, 0, none⟩)), (3, .int .i64 2)] 71 (s' := (.code (sub B [1, 1, 0, 1, 0, 1]) :: S2)) fun J => ?_
    obtain ⟨r2c0, r2c1, r2c2, r2c3, r2c4a, r2c4n, r2c4k, r2c5a, r2c5n, r2c5k, q7, h⟩ := h
    exact KR.finR (l := [.cell 2 44, .tmp 3]) (vs := [.agg #[.int .i64 r2c0, .int .i64 r2c1, .int .i64 r2c2, .int .i64 r2c3, .slice r2c4a r2c4n r2c4k, .slice r2c5a r2c5n r2c5k], .int .i64 2]) (by kernel_rfl) (Res.cellA (by kernel_rfl) q7 (Res.tmp (by kernel_rfl) Res.nil)) (by kernel_rfl) h
  · replace h := iteF c4 h
    refine KR.bb false (vB (dF c4)) ?_
    refine KR.go 5 [(0, .slice a0a a0n a0k), (2, .pointer (some ⟨H.next, 0, none⟩)), (4, .pointer (some ⟨H_1.next, 0, none⟩)), (16, .slice a0a a0n a0k)] 71 (s' := (.reg (opsAt (sub B [1, 1, 1, 0, 0])) [1, 2] :: S5)) fun J => ?_
    obtain ⟨t17, H_5, q8, h⟩ := h
    refine KR.se (one_ca (by kernel_rfl) q8) ?_
    refine KR.go 2 [(0, .slice a0a a0n a0k), (2, .pointer (some ⟨H.next, 0, none⟩)), (4, .pointer (some ⟨H_1.next, 0, none⟩)), (18, .bool (!t17))] 71 (s' := (.code (sub B [1, 1, 1, 0, 1]) :: S4)) fun J => ?_
    by_cases c9 : t17 = true
    · replace h := iteT c9 h
      refine KR.bb false (vB (nB (bT c9))) ?_
      refine KR.go 7 [(2, .pointer (some ⟨H.next, 0, none⟩)), (4, .pointer (some ⟨H_1.next, 0, none⟩)), (20, .slice a0a a0n a0k), (23, .int .i64 (IntKind.wrap .i64 ((a0n : Int) - 2)))] 71 (s' := (.reg (opsAt (sub B [1, 1, 1, 1, 0])) [4, 5, 6, 7] :: S6)) fun J => ?_
      obtain ⟨t24a, t24n, t24k, q10, h⟩ := h
      refine KR.p (one_sl (by kernel_rfl) q10) ?_
      refine KR.go 1 [(2, .pointer (some ⟨H.next, 0, none⟩)), (4, .pointer (some ⟨H_1.next, 0, none⟩)), (25, .agg #[.slice t24a t24n t24k, .int .i64 0])] 71 (s' := (.reg (opsAt (sub B [1, 1, 1, 1, 0])) [6, 7] :: S6)) fun J => ?_
      obtain ⟨H_6, q11, h⟩ := h
      refine KR.mk (w := pRow [.slice t24a t24n t24k, .int .i64 0]) (one_al (by kernel_rfl)) q11 ?_
      refine KR.go 5 [(2, .pointer (some ⟨H.next, 0, none⟩)), (4, .pointer (some ⟨H_1.next, 0, none⟩)), (5, .pointer (some ⟨H_5.next, 0, none⟩)), (27, .pointer (some ⟨H_5.next, 0, none⟩))] 71 (s' := (.reg (opsAt (sub B [1, 1, 1, 1, 1, 0])) [1, 2] :: S7)) fun J => ?_
      obtain ⟨t28, H_7, q12, h⟩ := h
      refine KR.se (one_ca (by kernel_rfl) q12) ?_
      refine KR.go 5 [(2, .pointer (some ⟨H.next, 0, none⟩)), (4, .pointer (some ⟨H_1.next, 0, none⟩)), (5, .pointer (some ⟨H_5.next, 0, none⟩)), (6, .int .i64 t28), (29, .pointer (some ⟨H_5.next, 0, none⟩))] 71 (s' := (.reg (opsAt (sub B [1, 1, 1, 1, 1, 1, 0])) [1, 2, 3, 4, 5, 6, 7, 8, 9, 10] :: S8)) fun J => ?_
      obtain ⟨t30, H_8, q13, h⟩ := h
      refine KR.se (one_ca (by kernel_rfl) q13) ?_
      refine KR.go 1 [(2, .pointer (some ⟨H.next, 0, none⟩)), (4, .pointer (some ⟨H_1.next, 0, none⟩)), (5, .pointer (some ⟨H_5.next, 0, none⟩)), (6, .int .i64 t28), (30, .int .i64 t30), (31, .pointer (some ⟨H_5.next, 0, none⟩))] 71 (s' := (.reg (opsAt (sub B [1, 1, 1, 1, 1, 1, 0])) [3, 4, 5, 6, 7, 8, 9, 10] :: S8)) fun J => ?_
      obtain ⟨t32, H_9, q14, h⟩ := h
      refine KR.se (one_ca (by kernel_rfl) q14) ?_
      refine KR.go 1 [(2, .pointer (some ⟨H.next, 0, none⟩)), (4, .pointer (some ⟨H_1.next, 0, none⟩)), (5, .pointer (some ⟨H_5.next, 0, none⟩)), (6, .int .i64 t28), (30, .int .i64 t30), (32, .int .i64 t32), (33, .pointer (some ⟨H_5.next, 0, none⟩))] 71 (s' := (.reg (opsAt (sub B [1, 1, 1, 1, 1, 1, 0])) [5, 6, 7, 8, 9, 10] :: S8)) fun J => ?_
      obtain ⟨t34, H_10, q15, h⟩ := h
      refine KR.se (one_ca (by kernel_rfl) q15) ?_
      refine KR.go 1 [(2, .pointer (some ⟨H.next, 0, none⟩)), (4, .pointer (some ⟨H_1.next, 0, none⟩)), (5, .pointer (some ⟨H_5.next, 0, none⟩)), (6, .int .i64 t28), (30, .int .i64 t30), (32, .int .i64 t32), (34, .int .i64 t34), (35, .pointer (some ⟨H_5.next, 0, none⟩))] 71 (s' := (.reg (opsAt (sub B [1, 1, 1, 1, 1, 1, 0])) [7, 8, 9, 10] :: S8)) fun J => ?_
      obtain ⟨t36, H_11, q16, h⟩ := h
      refine KR.se (one_ca (by kernel_rfl) q16) ?_
      refine KR.go 1 [(2, .pointer (some ⟨H.next, 0, none⟩)), (4, .pointer (some ⟨H_1.next, 0, none⟩)), (5, .pointer (some ⟨H_5.next, 0, none⟩)), (6, .int .i64 t28), (37, .agg #[.int .i64 t30, .int .i64 t32, .int .i64 t34, .int .i64 t36, .slice none 0 0, .slice none 0 0])] 71 (s' := (.reg (opsAt (sub B [1, 1, 1, 1, 1, 1, 0])) [9, 10] :: S8)) fun J => ?_
      obtain ⟨H_12, q17, h⟩ := h
      refine KR.mk (w := pRow [.int .i64 0, .int .i64 0, .int .i64 0, .int .i64 0, .slice none 0 0, .slice none 0 0]) (one_al (by kernel_rfl)) q17 ?_
      obtain ⟨H_13, q18, h⟩ := h
      refine KR.se (one_st (by kernel_rfl) q18) ?_
      refine KR.go 5 [(2, .pointer (some ⟨H.next, 0, none⟩)), (4, .pointer (some ⟨H_1.next, 0, none⟩)), (5, .pointer (some ⟨H_5.next, 0, none⟩)), (6, .int .i64 t28), (7, .pointer (some ⟨H_11.next, 0, none⟩)), (38, .pointer (some ⟨H_5.next, 0, none⟩)), (39, .pointer (some ⟨H_5.next, 0, none⟩))] 71 (s' := (.reg (opsAt (sub B [1, 1, 1, 1, 1, 1, 1, 0])) [2, 3, 4] :: S9)) fun J => ?_
      obtain ⟨t40, H_14, q19, h⟩ := h
      refine KR.se (one_ca (by kernel_rfl) q19) ?_
      obtain ⟨t41a, t41n, t41k, H_15, q20, h⟩ := h
      refine KR.se (one_ca (by kernel_rfl) q20) ?_
      refine KR.go 6 [(2, .pointer (some ⟨H.next, 0, none⟩)), (4, .pointer (some ⟨H_1.next, 0, none⟩)), (5, .pointer (some ⟨H_5.next, 0, none⟩)), (6, .int .i64 t28), (7, .pointer (some ⟨H_11.next, 0, none⟩)), (8, .slice t41a t41n t41k), (42, .pointer (some ⟨H_5.next, 0, none⟩)), (43, .pointer (some ⟨H_5.next, 0, none⟩))] 71 (s' := (.reg (opsAt (sub B [1, 1, 1, 1, 1, 1, 1, 1, 0])) [2, 3, 4, 5] :: S10)) fun J => ?_
      obtain ⟨t44, H_16, q21, h⟩ := h
      refine KR.se (one_ca (by kernel_rfl) q21) ?_
      obtain ⟨t45a, t45n, t45k, H_17, q22, h⟩ := h
      refine KR.se (one_ca (by kernel_rfl) q22) ?_
      refine KR.go 1 [(2, .pointer (some ⟨H.next, 0, none⟩)), (4, .pointer (some ⟨H_1.next, 0, none⟩)), (5, .pointer (some ⟨H_5.next, 0, none⟩)), (6, .int .i64 t28), (7, .pointer (some ⟨H_11.next, 0, none⟩)), (8, .slice t41a t41n t41k), (45, .slice t45a t45n t45k), (46, .pointer (some ⟨H_11.next, 5, none⟩))] 71 (s' := (.reg (opsAt (sub B [1, 1, 1, 1, 1, 1, 1, 1, 0])) [5] :: S10)) fun J => ?_
      obtain ⟨H_18, q23, h⟩ := h
      refine KR.se (one_st (by kernel_rfl) q23) ?_
      refine KR.go 7 [(2, .pointer (some ⟨H.next, 0, none⟩)), (4, .pointer (some ⟨H_1.next, 0, none⟩)), (5, .pointer (some ⟨H_5.next, 0, none⟩)), (7, .pointer (some ⟨H_11.next, 0, none⟩)), (8, .slice t41a t41n t41k), (49, .bool (!(t28 == 197)))] 71 (s' := (.reg (opsAt (sub B [1, 1, 1, 1, 1, 1, 1, 1, 1, 0, 0])) [3, 4, 5, 6] :: S12)) fun J => ?_
      by_cases c24 : t28 = 197
      · replace h := iteT c24 h
        refine KR.setV 49 (by kernel_rfl) (nB (eT c24)) ?_
        refine KR.go 1 [(2, .pointer (some ⟨H.next, 0, none⟩)), (4, .pointer (some ⟨H_1.next, 0, none⟩)), (7, .pointer (some ⟨H_11.next, 0, none⟩)), (8, .slice t41a t41n t41k), (49, .bool false), (50, .pointer (some ⟨H_5.next, 0, none⟩))] 71 (s' := (.reg (opsAt (sub B [1, 1, 1, 1, 1, 1, 1, 1, 1, 0, 0])) [4, 5, 6] :: S12)) fun J => ?_
        obtain ⟨t51, H_19, q25, h⟩ := h
        refine KR.se (one_ca (by kernel_rfl) q25) ?_
        exact KR.go 3 [(2, .pointer (some ⟨H.next, 0, none⟩)), (4, .pointer (some ⟨H_1.next, 0, none⟩)), (7, .pointer (some ⟨H_11.next, 0, none⟩)), (8, .slice t41a t41n t41k), (53, .bool (!(t51 == 0)))] 71 (s' := (.code (sub B [1, 1, 1, 1, 1, 1, 1, 1, 1, 0, 1]) :: S11)) h
      · replace h := iteF c24 h
        refine KR.setV 49 (by kernel_rfl) (nB (eF c24)) ?_
        exact KR.go 5 [(2, .pointer (some ⟨H.next, 0, none⟩)), (4, .pointer (some ⟨H_1.next, 0, none⟩)), (7, .pointer (some ⟨H_11.next, 0, none⟩)), (8, .slice t41a t41n t41k), (53, .bool true)] 71 (s' := (.code (sub B [1, 1, 1, 1, 1, 1, 1, 1, 1, 0, 1]) :: S11)) h
    · replace h := iteF c9 h
      refine KR.bb true (vB (nB (bF c9))) ?_
      refine KR.go 2 [(2, .pointer (some ⟨H.next, 0, none⟩)), (4, .pointer (some ⟨H_1.next, 0, none⟩))] 71 (s' := (.reg (opsAt (sub B [1, 1, 1, 0, 1, 0, 0])) [0, 1, 2] :: S13)) fun J => ?_
      obtain ⟨t19c0, t19c1, t19c2, t19c3, t19c4a, t19c4n, t19c4k, t19c5a, t19c5n, t19c5k, q26, h⟩ := h
      refine KR.rd (one_ldA (by kernel_rfl) q26) ?_
      obtain ⟨H_20, q27, h⟩ := h
      refine KR.se (one_st (by kernel_rfl) q27) ?_
      refine KR.go 2 [(2, .pointer (some ⟨H.next, 0, none⟩)), (3, .int .i64 4)] 71 (s' := (.code (sub B [1, 1, 1, 0, 1, 0, 1]) :: S4)) fun J => ?_
      obtain ⟨r2c0_1, r2c1_1, r2c2_1, r2c3_1, r2c4a_1, r2c4n_1, r2c4k_1, r2c5a_1, r2c5n_1, r2c5k_1, q28, h⟩ := h
      exact KR.finR (l := [.cell 2 44, .tmp 3]) (vs := [.agg #[.int .i64 r2c0_1, .int .i64 r2c1_1, .int .i64 r2c2_1, .int .i64 r2c3_1, .slice r2c4a_1 r2c4n_1 r2c4k_1, .slice r2c5a_1 r2c5n_1 r2c5k_1], .int .i64 4]) (by kernel_rfl) (Res.cellA (by kernel_rfl) q28 (Res.tmp (by kernel_rfl) Res.nil)) (by kernel_rfl) h
end F31
/-! #### 32 campanile/campanileref1.SameFrame -/
namespace F32
noncomputable def B : Code := bodyOf Try.f32
noncomputable def S0 : List It := (.code (sub B [1]) :: [])
noncomputable def S1 : List It := (.code (sub B [1, 1]) :: [])
theorem call {a0c0 a0c1 a0c2 a0c3 : Int} {a0c4a : Option Addr} {a0c4n a0c4k : Nat} {a0c5a : Option Addr} {a0c5n a0c5k : Nat} {a1c0 a1c1 a1c2 a1c3 : Int} {a1c4a : Option Addr} {a1c4n a1c4k : Nat} {a1c5a : Option Addr} {a1c5n a1c5k : Nat} {H : Heap} {r : Value × Heap} (h :
    ∃ (H_1 : Heap), H_1 = H.push (.row [.int .i64 a0c0, .int .i64 a0c1, .int .i64 a0c2, .int .i64 a0c3, .slice a0c4a a0c4n a0c4k, .slice a0c5a a0c5n a0c5k] true) ∧
    (∃ (H_2 : Heap), H_2 = H_1.push (.row [.int .i64 a1c0, .int .i64 a1c1, .int .i64 a1c2, .int .i64 a1c3, .slice a1c4a a1c4n a1c4k, .slice a1c5a a1c5n a1c5k] true) ∧
    (∃ (t6 : Int), ldc H_2 H.next 0 = some (.int .i64 t6) ∧
    (∃ (t8 : Int), ldc H_2 H_1.next 0 = some (.int .i64 t8) ∧
    (if t6 = t8 then
    (∃ (t12 : Int), ldc H_2 H.next 1 = some (.int .i64 t12) ∧
    (∃ (t14 : Int), ldc H_2 H_1.next 1 = some (.int .i64 t14) ∧
    (if t12 = t14 then
    (∃ (t19 : Int), ldc H_2 H.next 2 = some (.int .i64 t19) ∧
    (∃ (t21 : Int), ldc H_2 H_1.next 2 = some (.int .i64 t21) ∧
    (if t19 = t21 then
    (∃ (t26 : Int), ldc H_2 H.next 3 = some (.int .i64 t26) ∧
    (∃ (t28 : Int), ldc H_2 H_1.next 3 = some (.int .i64 t28) ∧
    (if t26 = t28 then
    (∃ (t33a : Option Addr) (t33n t33k : Nat), ldc H_2 H.next 4 = some (.slice t33a t33n t33k) ∧
    (∃ (t35a : Option Addr) (t35n t35k : Nat), ldc H_2 H_1.next 4 = some (.slice t35a t35n t35k) ∧
    (∃ (t36 : Bool) (H_3 : Heap), xC Try.prog good 25 [.slice t33a t33n t33k, .slice t35a t35n t35k] H_2 = some (.bool t36, H_3) ∧
    (if t36 = true then
    (∃ (t40a : Option Addr) (t40n t40k : Nat), ldc H_3 H.next 5 = some (.slice t40a t40n t40k) ∧
    (∃ (t41 : ByteArray), pstrb H_3 t40a t40n = some t41 ∧
    (∃ (t43a : Option Addr) (t43n t43k : Nat), ldc H_3 H_1.next 5 = some (.slice t43a t43n t43k) ∧
    (∃ (t44 : ByteArray), pstrb H_3 t43a t43n = some t44 ∧
    (r = (.bool (t41.toList == t44.toList), H_3))))))
    else
    (r = (.bool false, H_3))))))
    else
    (r = (.bool false, H_2)))))
    else
    (r = (.bool false, H_2)))))
    else
    (r = (.bool false, H_2)))))
    else
    (r = (.bool false, H_2))))))) :
    xC Try.prog good 32 [.agg #[.int .i64 a0c0, .int .i64 a0c1, .int .i64 a0c2, .int .i64 a0c3, .slice a0c4a a0c4n a0c4k, .slice a0c5a a0c5n a0c5k], .agg #[.int .i64 a1c0, .int .i64 a1c1, .int .i64 a1c2, .int .i64 a1c3, .slice a1c4a a1c4n a1c4k, .slice a1c5a a1c5n a1c5k]] H = some r := by
  refine KR.enter (fn := Try.f32) (c := B) (by kernel_rfl) (by kernel_rfl) ?_
  refine KR.go 2 [(0, .agg #[.int .i64 a0c0, .int .i64 a0c1, .int .i64 a0c2, .int .i64 a0c3, .slice a0c4a a0c4n a0c4k, .slice a0c5a a0c5n a0c5k]), (1, .agg #[.int .i64 a1c0, .int .i64 a1c1, .int .i64 a1c2, .int .i64 a1c3, .slice a1c4a a1c4n a1c4k, .slice a1c5a a1c5n a1c5k])] 47 (s' := (.reg (opsAt (sub B [0])) [0, 1, 2] :: S0)) fun J => ?_
  obtain ⟨H_1, q1, h⟩ := h
  refine KR.mk (w := pRow [.int .i64 a0c0, .int .i64 a0c1, .int .i64 a0c2, .int .i64 a0c3, .slice a0c4a a0c4n a0c4k, .slice a0c5a a0c5n a0c5k]) (one_al (by kernel_rfl)) q1 ?_
  obtain ⟨H_2, q2, h⟩ := h
  refine KR.mk (w := pRow [.int .i64 a1c0, .int .i64 a1c1, .int .i64 a1c2, .int .i64 a1c3, .slice a1c4a a1c4n a1c4k, .slice a1c5a a1c5n a1c5k]) (one_al (by kernel_rfl)) q2 ?_
  refine KR.go 5 [(2, .pointer (some ⟨H.next, 0, none⟩)), (3, .pointer (some ⟨H_1.next, 0, none⟩)), (5, .pointer (some ⟨H.next, 0, none⟩))] 47 (s' := (.reg (opsAt (sub B [1, 0])) [1, 2, 3, 4, 5, 6, 7, 8, 9, 10, 11, 12, 13, 14, 15, 16, 17, 18, 19, 20, 21, 22, 23, 24, 25, 26, 27, 28, 29, 30, 31, 32, 33, 34, 35, 36, 37, 38, 39, 40, 41, 42] :: S1)) fun J => ?_
  obtain ⟨t6, q3, h⟩ := h
  refine KR.rd (one_ld (by kernel_rfl) q3) ?_
  refine KR.go 1 [(2, .pointer (some ⟨H.next, 0, none⟩)), (3, .pointer (some ⟨H_1.next, 0, none⟩)), (6, .int .i64 t6), (7, .pointer (some ⟨H_1.next, 0, none⟩))] 47 (s' := (.reg (opsAt (sub B [1, 0])) [3, 4, 5, 6, 7, 8, 9, 10, 11, 12, 13, 14, 15, 16, 17, 18, 19, 20, 21, 22, 23, 24, 25, 26, 27, 28, 29, 30, 31, 32, 33, 34, 35, 36, 37, 38, 39, 40, 41, 42] :: S1)) fun J => ?_
  obtain ⟨t8, q4, h⟩ := h
  refine KR.rd (one_ld (by kernel_rfl) q4) ?_
  refine KR.go 2 [(2, .pointer (some ⟨H.next, 0, none⟩)), (3, .pointer (some ⟨H_1.next, 0, none⟩)), (10, .bool (t6 == t8))] 47 (s' := (.reg (opsAt (sub B [1, 0])) [6, 7, 8, 9, 10, 11, 12, 13, 14, 15, 16, 17, 18, 19, 20, 21, 22, 23, 24, 25, 26, 27, 28, 29, 30, 31, 32, 33, 34, 35, 36, 37, 38, 39, 40, 41, 42] :: S1)) fun J => ?_
  by_cases c5 : t6 = t8
  · replace h := iteT c5 h
    refine KR.setV 10 (by kernel_rfl) (eT c5) ?_
    refine KR.go 1 [(2, .pointer (some ⟨H.next, 0, none⟩)), (3, .pointer (some ⟨H_1.next, 0, none⟩)), (10, .bool true), (11, .pointer (some ⟨H.next, 1, none⟩))] 47 (s' := (.reg (opsAt (sub B [1, 0])) [7, 8, 9, 10, 11, 12, 13, 14, 15, 16, 17, 18, 19, 20, 21, 22, 23, 24, 25, 26, 27, 28, 29, 30, 31, 32, 33, 34, 35, 36, 37, 38, 39, 40, 41, 42] :: S1)) fun J => ?_
    obtain ⟨t12, q6, h⟩ := h
    refine KR.rd (one_ld (by kernel_rfl) q6) ?_
    refine KR.go 1 [(2, .pointer (some ⟨H.next, 0, none⟩)), (3, .pointer (some ⟨H_1.next, 0, none⟩)), (10, .bool true), (12, .int .i64 t12), (13, .pointer (some ⟨H_1.next, 1, none⟩))] 47 (s' := (.reg (opsAt (sub B [1, 0])) [9, 10, 11, 12, 13, 14, 15, 16, 17, 18, 19, 20, 21, 22, 23, 24, 25, 26, 27, 28, 29, 30, 31, 32, 33, 34, 35, 36, 37, 38, 39, 40, 41, 42] :: S1)) fun J => ?_
    obtain ⟨t14, q7, h⟩ := h
    refine KR.rd (one_ld (by kernel_rfl) q7) ?_
    refine KR.go 3 [(2, .pointer (some ⟨H.next, 0, none⟩)), (3, .pointer (some ⟨H_1.next, 0, none⟩)), (17, .bool (t12 == t14))] 47 (s' := (.reg (opsAt (sub B [1, 0])) [13, 14, 15, 16, 17, 18, 19, 20, 21, 22, 23, 24, 25, 26, 27, 28, 29, 30, 31, 32, 33, 34, 35, 36, 37, 38, 39, 40, 41, 42] :: S1)) fun J => ?_
    by_cases c8 : t12 = t14
    · replace h := iteT c8 h
      refine KR.setV 17 (by kernel_rfl) (eT c8) ?_
      refine KR.go 1 [(2, .pointer (some ⟨H.next, 0, none⟩)), (3, .pointer (some ⟨H_1.next, 0, none⟩)), (17, .bool true), (18, .pointer (some ⟨H.next, 2, none⟩))] 47 (s' := (.reg (opsAt (sub B [1, 0])) [14, 15, 16, 17, 18, 19, 20, 21, 22, 23, 24, 25, 26, 27, 28, 29, 30, 31, 32, 33, 34, 35, 36, 37, 38, 39, 40, 41, 42] :: S1)) fun J => ?_
      obtain ⟨t19, q9, h⟩ := h
      refine KR.rd (one_ld (by kernel_rfl) q9) ?_
      refine KR.go 1 [(2, .pointer (some ⟨H.next, 0, none⟩)), (3, .pointer (some ⟨H_1.next, 0, none⟩)), (17, .bool true), (19, .int .i64 t19), (20, .pointer (some ⟨H_1.next, 2, none⟩))] 47 (s' := (.reg (opsAt (sub B [1, 0])) [16, 17, 18, 19, 20, 21, 22, 23, 24, 25, 26, 27, 28, 29, 30, 31, 32, 33, 34, 35, 36, 37, 38, 39, 40, 41, 42] :: S1)) fun J => ?_
      obtain ⟨t21, q10, h⟩ := h
      refine KR.rd (one_ld (by kernel_rfl) q10) ?_
      refine KR.go 3 [(2, .pointer (some ⟨H.next, 0, none⟩)), (3, .pointer (some ⟨H_1.next, 0, none⟩)), (24, .bool (t19 == t21))] 47 (s' := (.reg (opsAt (sub B [1, 0])) [20, 21, 22, 23, 24, 25, 26, 27, 28, 29, 30, 31, 32, 33, 34, 35, 36, 37, 38, 39, 40, 41, 42] :: S1)) fun J => ?_
      by_cases c11 : t19 = t21
      · replace h := iteT c11 h
        refine KR.setV 24 (by kernel_rfl) (eT c11) ?_
        refine KR.go 1 [(2, .pointer (some ⟨H.next, 0, none⟩)), (3, .pointer (some ⟨H_1.next, 0, none⟩)), (24, .bool true), (25, .pointer (some ⟨H.next, 3, none⟩))] 47 (s' := (.reg (opsAt (sub B [1, 0])) [21, 22, 23, 24, 25, 26, 27, 28, 29, 30, 31, 32, 33, 34, 35, 36, 37, 38, 39, 40, 41, 42] :: S1)) fun J => ?_
        obtain ⟨t26, q12, h⟩ := h
        refine KR.rd (one_ld (by kernel_rfl) q12) ?_
        refine KR.go 1 [(2, .pointer (some ⟨H.next, 0, none⟩)), (3, .pointer (some ⟨H_1.next, 0, none⟩)), (24, .bool true), (26, .int .i64 t26), (27, .pointer (some ⟨H_1.next, 3, none⟩))] 47 (s' := (.reg (opsAt (sub B [1, 0])) [23, 24, 25, 26, 27, 28, 29, 30, 31, 32, 33, 34, 35, 36, 37, 38, 39, 40, 41, 42] :: S1)) fun J => ?_
        obtain ⟨t28, q13, h⟩ := h
        refine KR.rd (one_ld (by kernel_rfl) q13) ?_
        refine KR.go 3 [(2, .pointer (some ⟨H.next, 0, none⟩)), (3, .pointer (some ⟨H_1.next, 0, none⟩)), (31, .bool (t26 == t28))] 47 (s' := (.reg (opsAt (sub B [1, 0])) [27, 28, 29, 30, 31, 32, 33, 34, 35, 36, 37, 38, 39, 40, 41, 42] :: S1)) fun J => ?_
        by_cases c14 : t26 = t28
        · replace h := iteT c14 h
          refine KR.setV 31 (by kernel_rfl) (eT c14) ?_
          refine KR.go 1 [(2, .pointer (some ⟨H.next, 0, none⟩)), (3, .pointer (some ⟨H_1.next, 0, none⟩)), (31, .bool true), (32, .pointer (some ⟨H.next, 4, none⟩))] 47 (s' := (.reg (opsAt (sub B [1, 0])) [28, 29, 30, 31, 32, 33, 34, 35, 36, 37, 38, 39, 40, 41, 42] :: S1)) fun J => ?_
          obtain ⟨t33a, t33n, t33k, q15, h⟩ := h
          refine KR.rd (one_ld (by kernel_rfl) q15) ?_
          refine KR.go 1 [(2, .pointer (some ⟨H.next, 0, none⟩)), (3, .pointer (some ⟨H_1.next, 0, none⟩)), (31, .bool true), (33, .slice t33a t33n t33k), (34, .pointer (some ⟨H_1.next, 4, none⟩))] 47 (s' := (.reg (opsAt (sub B [1, 0])) [30, 31, 32, 33, 34, 35, 36, 37, 38, 39, 40, 41, 42] :: S1)) fun J => ?_
          obtain ⟨t35a, t35n, t35k, q16, h⟩ := h
          refine KR.rd (one_ld (by kernel_rfl) q16) ?_
          obtain ⟨t36, H_3, q17, h⟩ := h
          refine KR.se (one_ca (by kernel_rfl) q17) ?_
          refine KR.go 2 [(2, .pointer (some ⟨H.next, 0, none⟩)), (3, .pointer (some ⟨H_1.next, 0, none⟩)), (38, .bool t36)] 47 (s' := (.reg (opsAt (sub B [1, 0])) [34, 35, 36, 37, 38, 39, 40, 41, 42] :: S1)) fun J => ?_
          by_cases c18 : t36 = true
          · replace h := iteT c18 h
            refine KR.setV 38 (by kernel_rfl) (bT c18) ?_
            refine KR.go 1 [(3, .pointer (some ⟨H_1.next, 0, none⟩)), (38, .bool true), (39, .pointer (some ⟨H.next, 5, none⟩))] 47 (s' := (.reg (opsAt (sub B [1, 0])) [35, 36, 37, 38, 39, 40, 41, 42] :: S1)) fun J => ?_
            obtain ⟨t40a, t40n, t40k, q19, h⟩ := h
            refine KR.rd (one_ld (by kernel_rfl) q19) ?_
            obtain ⟨t41, q20, h⟩ := h
            refine KR.rd (one_str (by kernel_rfl) q20) ?_
            refine KR.go 1 [(38, .bool true), (41, .string t41), (42, .pointer (some ⟨H_1.next, 5, none⟩))] 47 (s' := (.reg (opsAt (sub B [1, 0])) [38, 39, 40, 41, 42] :: S1)) fun J => ?_
            obtain ⟨t43a, t43n, t43k, q21, h⟩ := h
            refine KR.rd (one_ld (by kernel_rfl) q21) ?_
            obtain ⟨t44, q22, h⟩ := h
            refine KR.rd (one_str (by kernel_rfl) q22) ?_
            refine KR.go 4 [(4, .bool (t41.toList == t44.toList))] 47 (s' := (.code (sub B [1, 1]) :: [])) fun J => ?_
            exact KR.fi h
          · replace h := iteF c18 h
            refine KR.setV 38 (by kernel_rfl) (bF c18) ?_
            refine KR.go 10 [(4, .bool false)] 47 (s' := (.code (sub B [1, 1]) :: [])) fun J => ?_
            exact KR.fi h
        · replace h := iteF c14 h
          refine KR.setV 31 (by kernel_rfl) (eF c14) ?_
          refine KR.go 17 [(4, .bool false)] 47 (s' := (.code (sub B [1, 1]) :: [])) fun J => ?_
          exact KR.fi h
      · replace h := iteF c11 h
        refine KR.setV 24 (by kernel_rfl) (eF c11) ?_
        refine KR.go 24 [(4, .bool false)] 47 (s' := (.code (sub B [1, 1]) :: [])) fun J => ?_
        exact KR.fi h
    · replace h := iteF c8 h
      refine KR.setV 17 (by kernel_rfl) (eF c8) ?_
      refine KR.go 31 [(4, .bool false)] 47 (s' := (.code (sub B [1, 1]) :: [])) fun J => ?_
      exact KR.fi h
  · replace h := iteF c5 h
    refine KR.setV 10 (by kernel_rfl) (eF c5) ?_
    refine KR.go 38 [(4, .bool false)] 47 (s' := (.code (sub B [1, 1]) :: [])) fun J => ?_
    exact KR.fi h
end F32
/-! #### 35 campanile/campanileref1.MayFrame -/
namespace F35
noncomputable def B : Code := bodyOf Try.f35
noncomputable def S0 : List It := (.code (sub B [1]) :: [])
noncomputable def S1 : List It := (.code (sub B [1, 1]) :: [])
noncomputable def S3 : List It := (.code (sub B [1, 1, 1]) :: [])
noncomputable def S12 : List It := (.code (sub B [1, 1, 1, 1]) :: [])
noncomputable def S19 : List It := (.code (sub B [1, 1, 1, 1, 1]) :: [])
noncomputable def S2 : List It := (.code (sub B [1, 0, 1]) :: S1)
noncomputable def S4 : List It := (.code (sub B [1, 1, 0, 1]) :: S3)
noncomputable def S5 : List It := (.blk 0 :: S3)
noncomputable def S13 : List It := (.code (sub B [1, 1, 1, 0, 1]) :: S12)
noncomputable def S14 : List It := (.blk 2 :: S12)
noncomputable def S6 : List It := (.lp (sub B [1, 1, 0, 1, 0, 0]) :: S5)
noncomputable def S15 : List It := (.code (sub B [1, 1, 1, 0, 1, 0, 1]) :: S14)
noncomputable def S16 : List It := (.code (sub B [1, 1, 1, 0, 1, 0, 1, 0, 1]) :: S14)
noncomputable def S17 : List It := (.code (sub B [1, 1, 1, 0, 1, 0, 1, 1, 1, 0, 1]) :: S14)
noncomputable def S18 : List It := (.code (sub B [1, 1, 1, 0, 1, 0, 1, 1, 1, 0, 1, 1]) :: S14)
noncomputable def S7 : List It := (.code (sub B [1, 1, 0, 1, 0, 0, 1, 1]) :: S6)
noncomputable def S8 : List It := (.code (sub B [1, 1, 0, 1, 0, 0, 1, 1, 1]) :: S6)
noncomputable def S9 : List It := (.blk 1 :: S8)
noncomputable def S10 : List It := (.code (sub B [1, 1, 0, 1, 0, 0, 1, 1, 0, 0, 1]) :: S9)
noncomputable def S11 : List It := (.code (sub B [1, 1, 0, 1, 0, 0, 1, 1, 0, 0, 1, 1]) :: S9)
def L0 (t1b t1o : Nat) (t60 : Bool) (H : Heap) (r : Value × Heap) : Prop := ∀ J, KR Try.prog good Try.f35 S2 (mat J 115 [(1, .pointer (some ⟨t1b, t1o, none⟩)), (60, .bool t60)]) H r
def L1 (t1b t1o : Nat) (t62a : Option Addr) (t62n t62k : Nat) (t63 t64 : Int) (H : Heap) (r : Value × Heap) : Prop := ∀ J, KR Try.prog good Try.f35 S6 (mat J 115 [(1, .pointer (some ⟨t1b, t1o, none⟩)), (62, .slice t62a t62n t62k), (63, .int .i64 t63), (64, .int .i64 t64)]) H r
def L2 (t1b t1o : Nat) (t73 : Int) (t74 : Bool) (H : Heap) (r : Value × Heap) : Prop := ∀ J, KR Try.prog good Try.f35 S15 (mat J 115 [(1, .pointer (some ⟨t1b, t1o, none⟩)), (73, .int .i64 t73), (74, .bool t74)]) H r
theorem L0_step {t1b t1o : Nat} {t60 : Bool} {H : Heap} {r : Value × Heap} (h :
    if t60 = true then
    (r = (.bool false, H))
    else
    (∃ (t62a : Option Addr) (t62n t62k : Nat), ldc H t1b (t1o + 4) = some (.slice t62a t62n t62k) ∧
    (L1 t1b t1o t62a t62n t62k ((t62n : Int)) 0 H r))) :
    L0 t1b t1o t60 H r := by
  intro J
  show KR _ _ _ (.code (sub B [1, 0, 1]) :: S1) _ _ _
  by_cases c34 : t60 = true
  · replace h := iteT c34 h
    refine KR.bb true (vB (bT c34)) ?_
    refine KR.go 4 [(2, .bool false)] 115 (s' := (.code (sub B [1, 0, 1, 0, 1]) :: S1)) fun J => ?_
    exact KR.fi h
  · replace h := iteF c34 h
    refine KR.bb false (vB (bF c34)) ?_
    refine KR.go 5 [(1, .pointer (some ⟨t1b, t1o, none⟩)), (61, .pointer (some ⟨t1b, (t1o + 4), none⟩))] 115 (s' := (.reg (opsAt (sub B [1, 1, 0, 0])) [1, 2, 3] :: S4)) fun J => ?_
    obtain ⟨t62a, t62n, t62k, q35, h⟩ := h
    refine KR.rd (one_ld (by kernel_rfl) q35) ?_
    exact KR.go 5 [(1, .pointer (some ⟨t1b, t1o, none⟩)), (62, .slice t62a t62n t62k), (63, .int .i64 (t62n : Int)), (64, .int .i64 0)] 115 (s' := (.lp (sub B [1, 1, 0, 1, 0, 0]) :: S5)) h
theorem L1_step {t1b t1o : Nat} {t62a : Option Addr} {t62n t62k : Nat} {t63 t64 : Int} {H : Heap} {r : Value × Heap} (h :
    if t64 < t63 then
    (∃ (t62ab t62ao : Nat), t62a = some ⟨t62ab, t62ao, none⟩ ∧
    ((0 : Int) ≤ t64 ∧ t64 < (t62n : Int) ∧
    (∃ (t67c0 t67c1 t67c2 t67c3 : Int) (t67c4a : Option Addr) (t67c4n t67c4k : Nat), ldAll H t62ab (t62ao + Int.toNat t64 * 5) [.int .i64 t67c0, .int .i64 t67c1, .int .i64 t67c2, .int .i64 t67c3, .slice t67c4a t67c4n t67c4k] ∧
    (∃ (H_1 : Heap), H_1 = H.push (.row [.int .i64 0, .int .i64 0, .int .i64 0, .int .i64 0, .slice none 0 0] true) ∧
    (∃ (H_2 : Heap), stc H_1 H.next 0 [.int .i64 t67c0, .int .i64 t67c1, .int .i64 t67c2, .int .i64 t67c3, .slice t67c4a t67c4n t67c4k] = some H_2 ∧
    (∃ (t68c0 t68c1 t68c2 t68c3 : Int) (t68c4a : Option Addr) (t68c4n t68c4k : Nat), ldAll H_2 H.next 0 [.int .i64 t68c0, .int .i64 t68c1, .int .i64 t68c2, .int .i64 t68c3, .slice t68c4a t68c4n t68c4k] ∧
    (∃ (t69 : Bool) (H_3 : Heap), xC Try.prog good 18 [.agg #[.int .i64 t68c0, .int .i64 t68c1, .int .i64 t68c2, .int .i64 t68c3, .slice t68c4a t68c4n t68c4k]] H_2 = some (.bool t69, H_3) ∧
    (if t69 = true then
    (L1 t1b t1o ((some ⟨t62ab, t62ao, none⟩)) t62n t62k t63 ((IntKind.wrap .i64 (t64 + 1))) H_3 r)
    else
    (r = (.bool false, H_3))))))))))
    else
    (∃ (t73 : Int), ldc H t1b t1o = some (.int .i64 t73) ∧
    (if t73 = 2 then
    (L2 t1b t1o t73 ((t73 == 2)) H r)
    else
    (L2 t1b t1o t73 ((t73 == 4)) H r)))) :
    L1 t1b t1o t62a t62n t62k t63 t64 H r := by
  intro J
  show KR _ _ _ (.lp (sub B [1, 1, 0, 1, 0, 0]) :: S5) _ _ _
  refine KR.go 6 [(1, .pointer (some ⟨t1b, t1o, none⟩)), (62, .slice t62a t62n t62k), (63, .int .i64 t63), (64, .int .i64 t64), (65, .bool (decide (t64 < t63)))] 115 (s' := (.code (sub B [1, 1, 0, 1, 0, 0, 1, 0]) :: S7)) fun J => ?_
  by_cases c36 : t64 < t63
  · replace h := iteT c36 h
    refine KR.bb true (vB (dT c36)) ?_
    obtain ⟨t62ab, t62ao, rfl, h⟩ := h
    refine KR.go 5 [(1, .pointer (some ⟨t1b, t1o, none⟩)), (62, .slice (some ⟨t62ab, t62ao, none⟩) t62n t62k), (63, .int .i64 t63), (64, .int .i64 t64)] 115 (s' := (.reg (opsAt (sub B [1, 1, 0, 1, 0, 0, 1, 1, 0, 0, 0])) [0, 1, 2, 3] :: S10)) fun J => ?_
    obtain ⟨q37, q37x, h⟩ := h
    refine KR.p (one_ix 5 t62ab t62ao (by kernel_rfl) q37 q37x) ?_
    obtain ⟨t67c0, t67c1, t67c2, t67c3, t67c4a, t67c4n, t67c4k, q38, h⟩ := h
    refine KR.rd (one_ldA (by kernel_rfl) q38) ?_
    obtain ⟨H_1, q39, h⟩ := h
    refine KR.mk (w := pRow [.int .i64 0, .int .i64 0, .int .i64 0, .int .i64 0, .slice none 0 0]) (one_al (by kernel_rfl)) q39 ?_
    obtain ⟨H_2, q40, h⟩ := h
    refine KR.se (one_st (by kernel_rfl) q40) ?_
    refine KR.go 3 [(1, .pointer (some ⟨t1b, t1o, none⟩)), (4, .pointer (some ⟨H.next, 0, none⟩)), (62, .slice (some ⟨t62ab, t62ao, none⟩) t62n t62k), (63, .int .i64 t63), (64, .int .i64 t64)] 115 (s' := (.reg (opsAt (sub B [1, 1, 0, 1, 0, 0, 1, 1, 0, 0, 1, 0])) [0, 1, 2] :: S11)) fun J => ?_
    obtain ⟨t68c0, t68c1, t68c2, t68c3, t68c4a, t68c4n, t68c4k, q41, h⟩ := h
    refine KR.rd (one_ldA (by kernel_rfl) q41) ?_
    obtain ⟨t69, H_3, q42, h⟩ := h
    refine KR.se (one_ca (by kernel_rfl) q42) ?_
    refine KR.go 2 [(1, .pointer (some ⟨t1b, t1o, none⟩)), (62, .slice (some ⟨t62ab, t62ao, none⟩) t62n t62k), (63, .int .i64 t63), (64, .int .i64 t64), (70, .bool (!t69))] 115 (s' := (.code (sub B [1, 1, 0, 1, 0, 0, 1, 1, 0, 0, 1, 1]) :: S9)) fun J => ?_
    by_cases c43 : t69 = true
    · replace h := iteT c43 h
      refine KR.bb false (vB (nB (bT c43))) ?_
      exact KR.go 6 [(1, .pointer (some ⟨t1b, t1o, none⟩)), (62, .slice (some ⟨t62ab, t62ao, none⟩) t62n t62k), (63, .int .i64 t63), (64, .int .i64 (IntKind.wrap .i64 (t64 + 1)))] 115 (s' := (.lp (sub B [1, 1, 0, 1, 0, 0]) :: S5)) h
    · replace h := iteF c43 h
      refine KR.bb true (vB (nB (bF c43))) ?_
      refine KR.go 4 [(2, .bool false)] 115 (s' := (.code (sub B [1, 1, 0, 1, 0, 0, 1, 1, 0, 0, 1, 1, 0, 1]) :: S9)) fun J => ?_
      exact KR.fi h
  · replace h := iteF c36 h
    refine KR.bb false (vB (dF c36)) ?_
    refine KR.go 5 [(1, .pointer (some ⟨t1b, t1o, none⟩)), (72, .pointer (some ⟨t1b, t1o, none⟩))] 115 (s' := (.reg (opsAt (sub B [1, 1, 1, 0, 0])) [1] :: S13)) fun J => ?_
    obtain ⟨t73, q44, h⟩ := h
    refine KR.rd (one_ld (by kernel_rfl) q44) ?_
    refine KR.go 8 [(1, .pointer (some ⟨t1b, t1o, none⟩)), (73, .int .i64 t73), (74, .bool (t73 == 2))] 115 (s' := (.code (sub B [1, 1, 1, 0, 1, 0, 0, 1]) :: S15)) fun J => ?_
    by_cases c45 : t73 = 2
    · replace h := iteT c45 h
      refine KR.bb true (vB (eT c45)) ?_
      exact KR.go 1 [(1, .pointer (some ⟨t1b, t1o, none⟩)), (73, .int .i64 t73), (74, .bool (t73 == 2))] 115 (s' := (.code (sub B [1, 1, 1, 0, 1, 0, 1]) :: S14)) h
    · replace h := iteF c45 h
      refine KR.bb false (vB (eF c45)) ?_
      exact KR.go 4 [(1, .pointer (some ⟨t1b, t1o, none⟩)), (73, .int .i64 t73), (74, .bool (t73 == 4))] 115 (s' := (.code (sub B [1, 1, 1, 0, 1, 0, 1]) :: S14)) h
theorem L2_step {t1b t1o : Nat} {t73 : Int} {t74 : Bool} {H : Heap} {r : Value × Heap} (h :
    if t74 = true then
    (∃ (t78 : Int), ldc H t1b (t1o + 2) = some (.int .i64 t78) ∧
    (if t78 = 64 then
    (r = (.bool false, H))
    else
    (∃ (t82a : Option Addr) (t82n t82k : Nat), ldc H t1b (t1o + 5) = some (.slice t82a t82n t82k) ∧
    (r = (.bool ((t82n : Int) == 0), H)))))
    else
    (if t73 = 3 then
    (∃ (t90a : Option Addr) (t90n t90k : Nat), ldc H t1b (t1o + 4) = some (.slice t90a t90n t90k) ∧
    (∃ (t91r0c0 t91r0c1 t91r0c2 t91r0c3 : Int) (t91r0c4a : Option Addr) (t91r0c4n t91r0c4k : Nat) (t91r1 : Bool) (H_1 : Heap), xC Try.prog good 22 [.slice t90a t90n t90k, .int .i64 1] H = some (.tuple #[.agg #[.int .i64 t91r0c0, .int .i64 t91r0c1, .int .i64 t91r0c2, .int .i64 t91r0c3, .slice t91r0c4a t91r0c4n t91r0c4k], .bool t91r1], H_1) ∧
    (∃ (H_2 : Heap), H_2 = H_1.push (.row [.int .i64 0, .int .i64 0, .int .i64 0, .int .i64 0, .slice none 0 0] true) ∧
    (∃ (H_3 : Heap), stc H_2 H_1.next 0 [.int .i64 t91r0c0, .int .i64 t91r0c1, .int .i64 t91r0c2, .int .i64 t91r0c3, .slice t91r0c4a t91r0c4n t91r0c4k] = some H_3 ∧
    (∃ (t95 : Int), ldc H_3 t1b (t1o + 2) = some (.int .i64 t95) ∧
    (if t95 = 64 then
    (∃ (t99a : Option Addr) (t99n t99k : Nat), ldc H_3 t1b (t1o + 5) = some (.slice t99a t99n t99k) ∧
    (if (t99n : Int) = 0 then
    (r = (.bool t91r1, H_3))
    else
    (r = (.bool false, H_3))))
    else
    (r = (.bool false, H_3))))))))
    else
    (∃ (t107 : Int), ldc H t1b (t1o + 2) = some (.int .i64 t107) ∧
    (if t107 = 64 then
    (r = (.bool false, H))
    else
    (∃ (t111a : Option Addr) (t111n t111k : Nat), ldc H t1b (t1o + 5) = some (.slice t111a t111n t111k) ∧
    (r = (.bool (decide ((t111n : Int) > 0)), H))))))) :
    L2 t1b t1o t73 t74 H r := by
  intro J
  show KR _ _ _ (.code (sub B [1, 1, 1, 0, 1, 0, 1]) :: S14) _ _ _
  by_cases c46 : t74 = true
  · replace h := iteT c46 h
    refine KR.bb true (vB (bT c46)) ?_
    refine KR.go 3 [(1, .pointer (some ⟨t1b, t1o, none⟩)), (77, .pointer (some ⟨t1b, (t1o + 2), none⟩))] 115 (s' := (.reg (opsAt (sub B [1, 1, 1, 0, 1, 0, 1, 0, 0])) [1, 2, 3, 4, 5, 6, 7, 8, 9] :: S16)) fun J => ?_
    obtain ⟨t78, q47, h⟩ := h
    refine KR.rd (one_ld (by kernel_rfl) q47) ?_
    refine KR.go 2 [(1, .pointer (some ⟨t1b, t1o, none⟩)), (80, .bool (!(t78 == 64)))] 115 (s' := (.reg (opsAt (sub B [1, 1, 1, 0, 1, 0, 1, 0, 0])) [4, 5, 6, 7, 8, 9] :: S16)) fun J => ?_
    by_cases c48 : t78 = 64
    · replace h := iteT c48 h
      refine KR.setV 80 (by kernel_rfl) (nB (eT c48)) ?_
      refine KR.go 7 [(2, .bool false)] 115 (s' := (.code (sub B [1, 1, 1, 0, 1, 0, 1, 0, 1]) :: S14)) fun J => ?_
      exact KR.fi h
    · replace h := iteF c48 h
      refine KR.setV 80 (by kernel_rfl) (nB (eF c48)) ?_
      refine KR.go 1 [(80, .bool true), (81, .pointer (some ⟨t1b, (t1o + 5), none⟩))] 115 (s' := (.reg (opsAt (sub B [1, 1, 1, 0, 1, 0, 1, 0, 0])) [5, 6, 7, 8, 9] :: S16)) fun J => ?_
      obtain ⟨t82a, t82n, t82k, q49, h⟩ := h
      refine KR.rd (one_ld (by kernel_rfl) q49) ?_
      refine KR.go 5 [(2, .bool ((t82n : Int) == 0))] 115 (s' := (.code (sub B [1, 1, 1, 0, 1, 0, 1, 0, 1]) :: S14)) fun J => ?_
      exact KR.fi h
  · replace h := iteF c46 h
    refine KR.bb false (vB (bF c46)) ?_
    refine KR.go 5 [(1, .pointer (some ⟨t1b, t1o, none⟩)), (86, .bool (t73 == 3))] 115 (s' := (.code (sub B [1, 1, 1, 0, 1, 0, 1, 1, 1]) :: S14)) fun J => ?_
    by_cases c50 : t73 = 3
    · replace h := iteT c50 h
      refine KR.bb true (vB (eT c50)) ?_
      refine KR.go 3 [(1, .pointer (some ⟨t1b, t1o, none⟩)), (89, .pointer (some ⟨t1b, (t1o + 4), none⟩))] 115 (s' := (.reg (opsAt (sub B [1, 1, 1, 0, 1, 0, 1, 1, 1, 0, 0])) [1, 2, 3, 4, 5, 6, 7, 8] :: S17)) fun J => ?_
      obtain ⟨t90a, t90n, t90k, q51, h⟩ := h
      refine KR.rd (one_ld (by kernel_rfl) q51) ?_
      obtain ⟨t91r0c0, t91r0c1, t91r0c2, t91r0c3, t91r0c4a, t91r0c4n, t91r0c4k, t91r1, H_1, q52, h⟩ := h
      refine KR.se (one_ca (by kernel_rfl) q52) ?_
      refine KR.go 3 [(1, .pointer (some ⟨t1b, t1o, none⟩)), (92, .agg #[.int .i64 t91r0c0, .int .i64 t91r0c1, .int .i64 t91r0c2, .int .i64 t91r0c3, .slice t91r0c4a t91r0c4n t91r0c4k]), (93, .bool t91r1)] 115 (s' := (.reg (opsAt (sub B [1, 1, 1, 0, 1, 0, 1, 1, 1, 0, 0])) [6, 7, 8] :: S17)) fun J => ?_
      obtain ⟨H_2, q53, h⟩ := h
      refine KR.mk (w := pRow [.int .i64 0, .int .i64 0, .int .i64 0, .int .i64 0, .slice none 0 0]) (one_al (by kernel_rfl)) q53 ?_
      obtain ⟨H_3, q54, h⟩ := h
      refine KR.se (one_st (by kernel_rfl) q54) ?_
      refine KR.go 5 [(1, .pointer (some ⟨t1b, t1o, none⟩)), (6, .bool t91r1), (94, .pointer (some ⟨t1b, (t1o + 2), none⟩))] 115 (s' := (.reg (opsAt (sub B [1, 1, 1, 0, 1, 0, 1, 1, 1, 0, 1, 0])) [1, 2, 3, 4, 5, 6, 7, 8, 9, 10, 11, 12] :: S18)) fun J => ?_
      obtain ⟨t95, q55, h⟩ := h
      refine KR.rd (one_ld (by kernel_rfl) q55) ?_
      refine KR.go 2 [(1, .pointer (some ⟨t1b, t1o, none⟩)), (6, .bool t91r1), (97, .bool (t95 == 64))] 115 (s' := (.reg (opsAt (sub B [1, 1, 1, 0, 1, 0, 1, 1, 1, 0, 1, 0])) [4, 5, 6, 7, 8, 9, 10, 11, 12] :: S18)) fun J => ?_
      by_cases c56 : t95 = 64
      · replace h := iteT c56 h
        refine KR.setV 97 (by kernel_rfl) (eT c56) ?_
        refine KR.go 1 [(6, .bool t91r1), (97, .bool true), (98, .pointer (some ⟨t1b, (t1o + 5), none⟩))] 115 (s' := (.reg (opsAt (sub B [1, 1, 1, 0, 1, 0, 1, 1, 1, 0, 1, 0])) [5, 6, 7, 8, 9, 10, 11, 12] :: S18)) fun J => ?_
        obtain ⟨t99a, t99n, t99k, q57, h⟩ := h
        refine KR.rd (one_ld (by kernel_rfl) q57) ?_
        refine KR.go 4 [(6, .bool t91r1), (103, .bool ((t99n : Int) == 0))] 115 (s' := (.reg (opsAt (sub B [1, 1, 1, 0, 1, 0, 1, 1, 1, 0, 1, 0])) [10, 11, 12] :: S18)) fun J => ?_
        by_cases c58 : (t99n : Int) = 0
        · replace h := iteT c58 h
          refine KR.setV 103 (by kernel_rfl) (eT c58) ?_
          refine KR.go 4 [(2, .bool t91r1)] 115 (s' := (.code (sub B [1, 1, 1, 0, 1, 0, 1, 1, 1, 0, 1, 1]) :: S14)) fun J => ?_
          exact KR.fi h
        · replace h := iteF c58 h
          refine KR.setV 103 (by kernel_rfl) (eF c58) ?_
          refine KR.go 4 [(2, .bool false)] 115 (s' := (.code (sub B [1, 1, 1, 0, 1, 0, 1, 1, 1, 0, 1, 1]) :: S14)) fun J => ?_
          exact KR.fi h
      · replace h := iteF c56 h
        refine KR.setV 97 (by kernel_rfl) (eF c56) ?_
        refine KR.go 10 [(2, .bool false)] 115 (s' := (.code (sub B [1, 1, 1, 0, 1, 0, 1, 1, 1, 0, 1, 1]) :: S14)) fun J => ?_
        exact KR.fi h
    · replace h := iteF c50 h
      refine KR.bb false (vB (eF c50)) ?_
      refine KR.go 5 [(1, .pointer (some ⟨t1b, t1o, none⟩)), (106, .pointer (some ⟨t1b, (t1o + 2), none⟩))] 115 (s' := (.reg (opsAt (sub B [1, 1, 1, 1, 0])) [1, 2, 3, 4, 5, 6, 7, 8, 9] :: S19)) fun J => ?_
      obtain ⟨t107, q59, h⟩ := h
      refine KR.rd (one_ld (by kernel_rfl) q59) ?_
      refine KR.go 2 [(1, .pointer (some ⟨t1b, t1o, none⟩)), (109, .bool (!(t107 == 64)))] 115 (s' := (.reg (opsAt (sub B [1, 1, 1, 1, 0])) [4, 5, 6, 7, 8, 9] :: S19)) fun J => ?_
      by_cases c60 : t107 = 64
      · replace h := iteT c60 h
        refine KR.setV 109 (by kernel_rfl) (nB (eT c60)) ?_
        refine KR.go 7 [(2, .bool false)] 115 (s' := (.code (sub B [1, 1, 1, 1, 1]) :: [])) fun J => ?_
        exact KR.fi h
      · replace h := iteF c60 h
        refine KR.setV 109 (by kernel_rfl) (nB (eF c60)) ?_
        refine KR.go 1 [(109, .bool true), (110, .pointer (some ⟨t1b, (t1o + 5), none⟩))] 115 (s' := (.reg (opsAt (sub B [1, 1, 1, 1, 0])) [5, 6, 7, 8, 9] :: S19)) fun J => ?_
        obtain ⟨t111a, t111n, t111k, q61, h⟩ := h
        refine KR.rd (one_ld (by kernel_rfl) q61) ?_
        refine KR.go 5 [(2, .bool (decide ((t111n : Int) > 0)))] 115 (s' := (.code (sub B [1, 1, 1, 1, 1]) :: [])) fun J => ?_
        exact KR.fi h
theorem call {a0c0 a0c1 a0c2 a0c3 : Int} {a0c4a : Option Addr} {a0c4n a0c4k : Nat} {a0c5a : Option Addr} {a0c5n a0c5k : Nat} {H : Heap} {r : Value × Heap} (h :
    ∃ (H_1 : Heap), H_1 = H.push (.row [.int .i64 a0c0, .int .i64 a0c1, .int .i64 a0c2, .int .i64 a0c3, .slice a0c4a a0c4n a0c4k, .slice a0c5a a0c5n a0c5k] true) ∧
    (∃ (t8 : Int), ldc H_1 H.next 0 = some (.int .i64 t8) ∧
    (if t8 < 1 then
    (L0 (H.next) 0 true H_1 r)
    else
    (∃ (t12 : Int), ldc H_1 H.next 0 = some (.int .i64 t12) ∧
    (if t12 > 5 then
    (L0 (H.next) 0 true H_1 r)
    else
    (∃ (t17 : Int), ldc H_1 H.next 1 = some (.int .i64 t17) ∧
    (∃ (t18 : Bool) (H_2 : Heap), xC Try.prog good 67 [.int .i64 t17] H_1 = some (.bool t18, H_2) ∧
    (if t18 = true then
    (∃ (t23 : Int), ldc H_2 H.next 2 = some (.int .i64 t23) ∧
    (∃ (t24 : Bool) (H_3 : Heap), xC Try.prog good 67 [.int .i64 t23] H_2 = some (.bool t24, H_3) ∧
    (if t24 = true then
    (∃ (t34 : Int), ldc H_3 H.next 2 = some (.int .i64 t34) ∧
    (∃ (t36 : Int), ldc H_3 H.next 1 = some (.int .i64 t36) ∧
    (if t34 = t36 then
    (L0 (H.next) 0 true H_3 r)
    else
    (∃ (t41 : Int), ldc H_3 H.next 3 = some (.int .i64 t41) ∧
    (if t41 < 0 then
    (L0 (H.next) 0 true H_3 r)
    else
    (∃ (t46 : Int), ldc H_3 H.next 3 = some (.int .i64 t46) ∧
    (if t46 > 255 then
    (L0 (H.next) 0 true H_3 r)
    else
    (∃ (t51a : Option Addr) (t51n t51k : Nat), ldc H_3 H.next 4 = some (.slice t51a t51n t51k) ∧
    (if (t51n : Int) > 4 then
    (L0 (H.next) 0 true H_3 r)
    else
    (∃ (t57a : Option Addr) (t57n t57k : Nat), ldc H_3 H.next 5 = some (.slice t57a t57n t57k) ∧
    (L0 (H.next) 0 ((decide ((t57n : Int) > 64))) H_3 r)))))))))))
    else
    (∃ (t28 : Int), ldc H_3 H.next 2 = some (.int .i64 t28) ∧
    (if t28 = 64 then
    (∃ (t34_1 : Int), ldc H_3 H.next 2 = some (.int .i64 t34_1) ∧
    (∃ (t36_1 : Int), ldc H_3 H.next 1 = some (.int .i64 t36_1) ∧
    (if t34_1 = t36_1 then
    (L0 (H.next) 0 true H_3 r)
    else
    (∃ (t41_1 : Int), ldc H_3 H.next 3 = some (.int .i64 t41_1) ∧
    (if t41_1 < 0 then
    (L0 (H.next) 0 true H_3 r)
    else
    (∃ (t46_1 : Int), ldc H_3 H.next 3 = some (.int .i64 t46_1) ∧
    (if t46_1 > 255 then
    (L0 (H.next) 0 true H_3 r)
    else
    (∃ (t51a_1 : Option Addr) (t51n_1 t51k_1 : Nat), ldc H_3 H.next 4 = some (.slice t51a_1 t51n_1 t51k_1) ∧
    (if (t51n_1 : Int) > 4 then
    (L0 (H.next) 0 true H_3 r)
    else
    (∃ (t57a_1 : Option Addr) (t57n_1 t57k_1 : Nat), ldc H_3 H.next 5 = some (.slice t57a_1 t57n_1 t57k_1) ∧
    (L0 (H.next) 0 ((decide ((t57n_1 : Int) > 64))) H_3 r)))))))))))
    else
    (L0 (H.next) 0 true H_3 r))))))
    else
    (L0 (H.next) 0 true H_2 r))))))))) :
    xC Try.prog good 35 [.agg #[.int .i64 a0c0, .int .i64 a0c1, .int .i64 a0c2, .int .i64 a0c3, .slice a0c4a a0c4n a0c4k, .slice a0c5a a0c5n a0c5k]] H = some r := by
  refine KR.enter (fn := Try.f35) (c := B) (by kernel_rfl) (by kernel_rfl) ?_
  refine KR.go 2 [(0, .agg #[.int .i64 a0c0, .int .i64 a0c1, .int .i64 a0c2, .int .i64 a0c3, .slice a0c4a a0c4n a0c4k, .slice a0c5a a0c5n a0c5k])] 115 (s' := (.reg (opsAt (sub B [0])) [0, 1] :: S0)) fun J => ?_
  obtain ⟨H_1, q1, h⟩ := h
  refine KR.mk (w := pRow [.int .i64 a0c0, .int .i64 a0c1, .int .i64 a0c2, .int .i64 a0c3, .slice a0c4a a0c4n a0c4k, .slice a0c5a a0c5n a0c5k]) (one_al (by kernel_rfl)) q1 ?_
  refine KR.go 6 [(1, .pointer (some ⟨H.next, 0, none⟩)), (7, .pointer (some ⟨H.next, 0, none⟩))] 115 (s' := (.reg (opsAt (sub B [1, 0, 0])) [1, 2, 3, 4, 5, 6, 7, 8, 9, 10, 11, 12, 13, 14, 15, 16, 17, 18, 19, 20, 21, 22, 23, 24, 25, 26, 27, 28, 29, 30, 31, 32, 33, 34, 35, 36, 37, 38, 39, 40, 41, 42, 43, 44, 45, 46, 47, 48, 49, 50, 51, 52, 53] :: S2)) fun J => ?_
  obtain ⟨t8, q2, h⟩ := h
  refine KR.rd (one_ld (by kernel_rfl) q2) ?_
  refine KR.go 2 [(1, .pointer (some ⟨H.next, 0, none⟩)), (10, .bool (decide (t8 < 1)))] 115 (s' := (.reg (opsAt (sub B [1, 0, 0])) [4, 5, 6, 7, 8, 9, 10, 11, 12, 13, 14, 15, 16, 17, 18, 19, 20, 21, 22, 23, 24, 25, 26, 27, 28, 29, 30, 31, 32, 33, 34, 35, 36, 37, 38, 39, 40, 41, 42, 43, 44, 45, 46, 47, 48, 49, 50, 51, 52, 53] :: S2)) fun J => ?_
  by_cases c3 : t8 < 1
  · replace h := iteT c3 h
    refine KR.setV 10 (by kernel_rfl) (dT c3) ?_
    exact KR.go 51 [(1, .pointer (some ⟨H.next, 0, none⟩)), (60, .bool true)] 115 (s' := (.code (sub B [1, 0, 1]) :: S1)) h
  · replace h := iteF c3 h
    refine KR.setV 10 (by kernel_rfl) (dF c3) ?_
    refine KR.go 1 [(1, .pointer (some ⟨H.next, 0, none⟩)), (10, .bool false), (11, .pointer (some ⟨H.next, 0, none⟩))] 115 (s' := (.reg (opsAt (sub B [1, 0, 0])) [5, 6, 7, 8, 9, 10, 11, 12, 13, 14, 15, 16, 17, 18, 19, 20, 21, 22, 23, 24, 25, 26, 27, 28, 29, 30, 31, 32, 33, 34, 35, 36, 37, 38, 39, 40, 41, 42, 43, 44, 45, 46, 47, 48, 49, 50, 51, 52, 53] :: S2)) fun J => ?_
    obtain ⟨t12, q4, h⟩ := h
    refine KR.rd (one_ld (by kernel_rfl) q4) ?_
    refine KR.go 3 [(1, .pointer (some ⟨H.next, 0, none⟩)), (15, .bool (decide (t12 > 5)))] 115 (s' := (.reg (opsAt (sub B [1, 0, 0])) [9, 10, 11, 12, 13, 14, 15, 16, 17, 18, 19, 20, 21, 22, 23, 24, 25, 26, 27, 28, 29, 30, 31, 32, 33, 34, 35, 36, 37, 38, 39, 40, 41, 42, 43, 44, 45, 46, 47, 48, 49, 50, 51, 52, 53] :: S2)) fun J => ?_
    by_cases c5 : t12 > 5
    · replace h := iteT c5 h
      refine KR.setV 15 (by kernel_rfl) (dT c5) ?_
      exact KR.go 46 [(1, .pointer (some ⟨H.next, 0, none⟩)), (60, .bool true)] 115 (s' := (.code (sub B [1, 0, 1]) :: S1)) h
    · replace h := iteF c5 h
      refine KR.setV 15 (by kernel_rfl) (dF c5) ?_
      refine KR.go 1 [(1, .pointer (some ⟨H.next, 0, none⟩)), (15, .bool false), (16, .pointer (some ⟨H.next, 1, none⟩))] 115 (s' := (.reg (opsAt (sub B [1, 0, 0])) [10, 11, 12, 13, 14, 15, 16, 17, 18, 19, 20, 21, 22, 23, 24, 25, 26, 27, 28, 29, 30, 31, 32, 33, 34, 35, 36, 37, 38, 39, 40, 41, 42, 43, 44, 45, 46, 47, 48, 49, 50, 51, 52, 53] :: S2)) fun J => ?_
      obtain ⟨t17, q6, h⟩ := h
      refine KR.rd (one_ld (by kernel_rfl) q6) ?_
      obtain ⟨t18, H_2, q7, h⟩ := h
      refine KR.se (one_ca (by kernel_rfl) q7) ?_
      refine KR.go 3 [(1, .pointer (some ⟨H.next, 0, none⟩)), (21, .bool (!t18))] 115 (s' := (.reg (opsAt (sub B [1, 0, 0])) [15, 16, 17, 18, 19, 20, 21, 22, 23, 24, 25, 26, 27, 28, 29, 30, 31, 32, 33, 34, 35, 36, 37, 38, 39, 40, 41, 42, 43, 44, 45, 46, 47, 48, 49, 50, 51, 52, 53] :: S2)) fun J => ?_
      by_cases c8 : t18 = true
      · replace h := iteT c8 h
        refine KR.setV 21 (by kernel_rfl) (nB (bT c8)) ?_
        refine KR.go 1 [(1, .pointer (some ⟨H.next, 0, none⟩)), (21, .bool false), (22, .pointer (some ⟨H.next, 2, none⟩))] 115 (s' := (.reg (opsAt (sub B [1, 0, 0])) [16, 17, 18, 19, 20, 21, 22, 23, 24, 25, 26, 27, 28, 29, 30, 31, 32, 33, 34, 35, 36, 37, 38, 39, 40, 41, 42, 43, 44, 45, 46, 47, 48, 49, 50, 51, 52, 53] :: S2)) fun J => ?_
        obtain ⟨t23, q9, h⟩ := h
        refine KR.rd (one_ld (by kernel_rfl) q9) ?_
        obtain ⟨t24, H_3, q10, h⟩ := h
        refine KR.se (one_ca (by kernel_rfl) q10) ?_
        refine KR.go 2 [(1, .pointer (some ⟨H.next, 0, none⟩)), (21, .bool false), (26, .bool (!t24))] 115 (s' := (.reg (opsAt (sub B [1, 0, 0])) [20, 21, 22, 23, 24, 25, 26, 27, 28, 29, 30, 31, 32, 33, 34, 35, 36, 37, 38, 39, 40, 41, 42, 43, 44, 45, 46, 47, 48, 49, 50, 51, 52, 53] :: S2)) fun J => ?_
        by_cases c11 : t24 = true
        · replace h := iteT c11 h
          refine KR.setV 26 (by kernel_rfl) (nB (bT c11)) ?_
          refine KR.go 7 [(1, .pointer (some ⟨H.next, 0, none⟩)), (32, .bool false), (33, .pointer (some ⟨H.next, 2, none⟩))] 115 (s' := (.reg (opsAt (sub B [1, 0, 0])) [27, 28, 29, 30, 31, 32, 33, 34, 35, 36, 37, 38, 39, 40, 41, 42, 43, 44, 45, 46, 47, 48, 49, 50, 51, 52, 53] :: S2)) fun J => ?_
          obtain ⟨t34, q12, h⟩ := h
          refine KR.rd (one_ld (by kernel_rfl) q12) ?_
          refine KR.go 1 [(1, .pointer (some ⟨H.next, 0, none⟩)), (32, .bool false), (34, .int .i64 t34), (35, .pointer (some ⟨H.next, 1, none⟩))] 115 (s' := (.reg (opsAt (sub B [1, 0, 0])) [29, 30, 31, 32, 33, 34, 35, 36, 37, 38, 39, 40, 41, 42, 43, 44, 45, 46, 47, 48, 49, 50, 51, 52, 53] :: S2)) fun J => ?_
          obtain ⟨t36, q13, h⟩ := h
          refine KR.rd (one_ld (by kernel_rfl) q13) ?_
          refine KR.go 3 [(1, .pointer (some ⟨H.next, 0, none⟩)), (39, .bool (t34 == t36))] 115 (s' := (.reg (opsAt (sub B [1, 0, 0])) [33, 34, 35, 36, 37, 38, 39, 40, 41, 42, 43, 44, 45, 46, 47, 48, 49, 50, 51, 52, 53] :: S2)) fun J => ?_
          by_cases c14 : t34 = t36
          · replace h := iteT c14 h
            refine KR.setV 39 (by kernel_rfl) (eT c14) ?_
            exact KR.go 22 [(1, .pointer (some ⟨H.next, 0, none⟩)), (60, .bool true)] 115 (s' := (.code (sub B [1, 0, 1]) :: S1)) h
          · replace h := iteF c14 h
            refine KR.setV 39 (by kernel_rfl) (eF c14) ?_
            refine KR.go 1 [(1, .pointer (some ⟨H.next, 0, none⟩)), (39, .bool false), (40, .pointer (some ⟨H.next, 3, none⟩))] 115 (s' := (.reg (opsAt (sub B [1, 0, 0])) [34, 35, 36, 37, 38, 39, 40, 41, 42, 43, 44, 45, 46, 47, 48, 49, 50, 51, 52, 53] :: S2)) fun J => ?_
            obtain ⟨t41, q15, h⟩ := h
            refine KR.rd (one_ld (by kernel_rfl) q15) ?_
            refine KR.go 3 [(1, .pointer (some ⟨H.next, 0, none⟩)), (44, .bool (decide (t41 < 0)))] 115 (s' := (.reg (opsAt (sub B [1, 0, 0])) [38, 39, 40, 41, 42, 43, 44, 45, 46, 47, 48, 49, 50, 51, 52, 53] :: S2)) fun J => ?_
            by_cases c16 : t41 < 0
            · replace h := iteT c16 h
              refine KR.setV 44 (by kernel_rfl) (dT c16) ?_
              exact KR.go 17 [(1, .pointer (some ⟨H.next, 0, none⟩)), (60, .bool true)] 115 (s' := (.code (sub B [1, 0, 1]) :: S1)) h
            · replace h := iteF c16 h
              refine KR.setV 44 (by kernel_rfl) (dF c16) ?_
              refine KR.go 1 [(1, .pointer (some ⟨H.next, 0, none⟩)), (44, .bool false), (45, .pointer (some ⟨H.next, 3, none⟩))] 115 (s' := (.reg (opsAt (sub B [1, 0, 0])) [39, 40, 41, 42, 43, 44, 45, 46, 47, 48, 49, 50, 51, 52, 53] :: S2)) fun J => ?_
              obtain ⟨t46, q17, h⟩ := h
              refine KR.rd (one_ld (by kernel_rfl) q17) ?_
              refine KR.go 3 [(1, .pointer (some ⟨H.next, 0, none⟩)), (49, .bool (decide (t46 > 255)))] 115 (s' := (.reg (opsAt (sub B [1, 0, 0])) [43, 44, 45, 46, 47, 48, 49, 50, 51, 52, 53] :: S2)) fun J => ?_
              by_cases c18 : t46 > 255
              · replace h := iteT c18 h
                refine KR.setV 49 (by kernel_rfl) (dT c18) ?_
                exact KR.go 12 [(1, .pointer (some ⟨H.next, 0, none⟩)), (60, .bool true)] 115 (s' := (.code (sub B [1, 0, 1]) :: S1)) h
              · replace h := iteF c18 h
                refine KR.setV 49 (by kernel_rfl) (dF c18) ?_
                refine KR.go 1 [(1, .pointer (some ⟨H.next, 0, none⟩)), (49, .bool false), (50, .pointer (some ⟨H.next, 4, none⟩))] 115 (s' := (.reg (opsAt (sub B [1, 0, 0])) [44, 45, 46, 47, 48, 49, 50, 51, 52, 53] :: S2)) fun J => ?_
                obtain ⟨t51a, t51n, t51k, q19, h⟩ := h
                refine KR.rd (one_ld (by kernel_rfl) q19) ?_
                refine KR.go 4 [(1, .pointer (some ⟨H.next, 0, none⟩)), (55, .bool (decide ((t51n : Int) > 4)))] 115 (s' := (.reg (opsAt (sub B [1, 0, 0])) [49, 50, 51, 52, 53] :: S2)) fun J => ?_
                by_cases c20 : (t51n : Int) > 4
                · replace h := iteT c20 h
                  refine KR.setV 55 (by kernel_rfl) (dT c20) ?_
                  exact KR.go 6 [(1, .pointer (some ⟨H.next, 0, none⟩)), (60, .bool true)] 115 (s' := (.code (sub B [1, 0, 1]) :: S1)) h
                · replace h := iteF c20 h
                  refine KR.setV 55 (by kernel_rfl) (dF c20) ?_
                  refine KR.go 1 [(1, .pointer (some ⟨H.next, 0, none⟩)), (55, .bool false), (56, .pointer (some ⟨H.next, 5, none⟩))] 115 (s' := (.reg (opsAt (sub B [1, 0, 0])) [50, 51, 52, 53] :: S2)) fun J => ?_
                  obtain ⟨t57a, t57n, t57k, q21, h⟩ := h
                  refine KR.rd (one_ld (by kernel_rfl) q21) ?_
                  exact KR.go 4 [(1, .pointer (some ⟨H.next, 0, none⟩)), (60, .bool (decide ((t57n : Int) > 64)))] 115 (s' := (.code (sub B [1, 0, 1]) :: S1)) h
        · replace h := iteF c11 h
          refine KR.setV 26 (by kernel_rfl) (nB (bF c11)) ?_
          refine KR.go 1 [(1, .pointer (some ⟨H.next, 0, none⟩)), (21, .bool false), (26, .bool true), (27, .pointer (some ⟨H.next, 2, none⟩))] 115 (s' := (.reg (opsAt (sub B [1, 0, 0])) [21, 22, 23, 24, 25, 26, 27, 28, 29, 30, 31, 32, 33, 34, 35, 36, 37, 38, 39, 40, 41, 42, 43, 44, 45, 46, 47, 48, 49, 50, 51, 52, 53] :: S2)) fun J => ?_
          obtain ⟨t28, q22, h⟩ := h
          refine KR.rd (one_ld (by kernel_rfl) q22) ?_
          refine KR.go 4 [(1, .pointer (some ⟨H.next, 0, none⟩)), (32, .bool (!(t28 == 64)))] 115 (s' := (.reg (opsAt (sub B [1, 0, 0])) [26, 27, 28, 29, 30, 31, 32, 33, 34, 35, 36, 37, 38, 39, 40, 41, 42, 43, 44, 45, 46, 47, 48, 49, 50, 51, 52, 53] :: S2)) fun J => ?_
          by_cases c23 : t28 = 64
          · replace h := iteT c23 h
            refine KR.setV 32 (by kernel_rfl) (nB (eT c23)) ?_
            refine KR.go 1 [(1, .pointer (some ⟨H.next, 0, none⟩)), (32, .bool false), (33, .pointer (some ⟨H.next, 2, none⟩))] 115 (s' := (.reg (opsAt (sub B [1, 0, 0])) [27, 28, 29, 30, 31, 32, 33, 34, 35, 36, 37, 38, 39, 40, 41, 42, 43, 44, 45, 46, 47, 48, 49, 50, 51, 52, 53] :: S2)) fun J => ?_
            obtain ⟨t34_1, q24, h⟩ := h
            refine KR.rd (one_ld (by kernel_rfl) q24) ?_
            refine KR.go 1 [(1, .pointer (some ⟨H.next, 0, none⟩)), (32, .bool false), (34, .int .i64 t34_1), (35, .pointer (some ⟨H.next, 1, none⟩))] 115 (s' := (.reg (opsAt (sub B [1, 0, 0])) [29, 30, 31, 32, 33, 34, 35, 36, 37, 38, 39, 40, 41, 42, 43, 44, 45, 46, 47, 48, 49, 50, 51, 52, 53] :: S2)) fun J => ?_
            obtain ⟨t36_1, q25, h⟩ := h
            refine KR.rd (one_ld (by kernel_rfl) q25) ?_
            refine KR.go 3 [(1, .pointer (some ⟨H.next, 0, none⟩)), (39, .bool (t34_1 == t36_1))] 115 (s' := (.reg (opsAt (sub B [1, 0, 0])) [33, 34, 35, 36, 37, 38, 39, 40, 41, 42, 43, 44, 45, 46, 47, 48, 49, 50, 51, 52, 53] :: S2)) fun J => ?_
            by_cases c26 : t34_1 = t36_1
            · replace h := iteT c26 h
              refine KR.setV 39 (by kernel_rfl) (eT c26) ?_
              exact KR.go 22 [(1, .pointer (some ⟨H.next, 0, none⟩)), (60, .bool true)] 115 (s' := (.code (sub B [1, 0, 1]) :: S1)) h
            · replace h := iteF c26 h
              refine KR.setV 39 (by kernel_rfl) (eF c26) ?_
              refine KR.go 1 [(1, .pointer (some ⟨H.next, 0, none⟩)), (39, .bool false), (40, .pointer (some ⟨H.next, 3, none⟩))] 115 (s' := (.reg (opsAt (sub B [1, 0, 0])) [34, 35, 36, 37, 38, 39, 40, 41, 42, 43, 44, 45, 46, 47, 48, 49, 50, 51, 52, 53] :: S2)) fun J => ?_
              obtain ⟨t41_1, q27, h⟩ := h
              refine KR.rd (one_ld (by kernel_rfl) q27) ?_
              refine KR.go 3 [(1, .pointer (some ⟨H.next, 0, none⟩)), (44, .bool (decide (t41_1 < 0)))] 115 (s' := (.reg (opsAt (sub B [1, 0, 0])) [38, 39, 40, 41, 42, 43, 44, 45, 46, 47, 48, 49, 50, 51, 52, 53] :: S2)) fun J => ?_
              by_cases c28 : t41_1 < 0
              · replace h := iteT c28 h
                refine KR.setV 44 (by kernel_rfl) (dT c28) ?_
                exact KR.go 17 [(1, .pointer (some ⟨H.next, 0, none⟩)), (60, .bool true)] 115 (s' := (.code (sub B [1, 0, 1]) :: S1)) h
              · replace h := iteF c28 h
                refine KR.setV 44 (by kernel_rfl) (dF c28) ?_
                refine KR.go 1 [(1, .pointer (some ⟨H.next, 0, none⟩)), (44, .bool false), (45, .pointer (some ⟨H.next, 3, none⟩))] 115 (s' := (.reg (opsAt (sub B [1, 0, 0])) [39, 40, 41, 42, 43, 44, 45, 46, 47, 48, 49, 50, 51, 52, 53] :: S2)) fun J => ?_
                obtain ⟨t46_1, q29, h⟩ := h
                refine KR.rd (one_ld (by kernel_rfl) q29) ?_
                refine KR.go 3 [(1, .pointer (some ⟨H.next, 0, none⟩)), (49, .bool (decide (t46_1 > 255)))] 115 (s' := (.reg (opsAt (sub B [1, 0, 0])) [43, 44, 45, 46, 47, 48, 49, 50, 51, 52, 53] :: S2)) fun J => ?_
                by_cases c30 : t46_1 > 255
                · replace h := iteT c30 h
                  refine KR.setV 49 (by kernel_rfl) (dT c30) ?_
                  exact KR.go 12 [(1, .pointer (some ⟨H.next, 0, none⟩)), (60, .bool true)] 115 (s' := (.code (sub B [1, 0, 1]) :: S1)) h
                · replace h := iteF c30 h
                  refine KR.setV 49 (by kernel_rfl) (dF c30) ?_
                  refine KR.go 1 [(1, .pointer (some ⟨H.next, 0, none⟩)), (49, .bool false), (50, .pointer (some ⟨H.next, 4, none⟩))] 115 (s' := (.reg (opsAt (sub B [1, 0, 0])) [44, 45, 46, 47, 48, 49, 50, 51, 52, 53] :: S2)) fun J => ?_
                  obtain ⟨t51a_1, t51n_1, t51k_1, q31, h⟩ := h
                  refine KR.rd (one_ld (by kernel_rfl) q31) ?_
                  refine KR.go 4 [(1, .pointer (some ⟨H.next, 0, none⟩)), (55, .bool (decide ((t51n_1 : Int) > 4)))] 115 (s' := (.reg (opsAt (sub B [1, 0, 0])) [49, 50, 51, 52, 53] :: S2)) fun J => ?_
                  by_cases c32 : (t51n_1 : Int) > 4
                  · replace h := iteT c32 h
                    refine KR.setV 55 (by kernel_rfl) (dT c32) ?_
                    exact KR.go 6 [(1, .pointer (some ⟨H.next, 0, none⟩)), (60, .bool true)] 115 (s' := (.code (sub B [1, 0, 1]) :: S1)) h
                  · replace h := iteF c32 h
                    refine KR.setV 55 (by kernel_rfl) (dF c32) ?_
                    refine KR.go 1 [(1, .pointer (some ⟨H.next, 0, none⟩)), (55, .bool false), (56, .pointer (some ⟨H.next, 5, none⟩))] 115 (s' := (.reg (opsAt (sub B [1, 0, 0])) [50, 51, 52, 53] :: S2)) fun J => ?_
                    obtain ⟨t57a_1, t57n_1, t57k_1, q33, h⟩ := h
                    refine KR.rd (one_ld (by kernel_rfl) q33) ?_
                    exact KR.go 4 [(1, .pointer (some ⟨H.next, 0, none⟩)), (60, .bool (decide ((t57n_1 : Int) > 64)))] 115 (s' := (.code (sub B [1, 0, 1]) :: S1)) h
          · replace h := iteF c23 h
            refine KR.setV 32 (by kernel_rfl) (nB (eF c23)) ?_
            exact KR.go 29 [(1, .pointer (some ⟨H.next, 0, none⟩)), (60, .bool true)] 115 (s' := (.code (sub B [1, 0, 1]) :: S1)) h
      · replace h := iteF c8 h
        refine KR.setV 21 (by kernel_rfl) (nB (bF c8)) ?_
        exact KR.go 40 [(1, .pointer (some ⟨H.next, 0, none⟩)), (60, .bool true)] 115 (s' := (.code (sub B [1, 0, 1]) :: S1)) h
end F35
/-! #### 57 campanile/campanileref1.Crc -/
namespace F57
noncomputable def B : Code := bodyOf Try.f57
noncomputable def S0 : List It := (.code (sub B [1, 1, 1]) :: [])
noncomputable def S1 : List It := (.blk 0 :: S0)
noncomputable def S2 : List It := (.lp (sub B [1, 1, 0, 1, 0, 0]) :: S1)
noncomputable def S3 : List It := (.code (sub B [1, 1, 0, 1, 0, 0, 1, 1]) :: S2)
noncomputable def S4 : List It := (.code (sub B [1, 1, 0, 1, 0, 0, 1, 1, 1]) :: S2)
noncomputable def S5 : List It := (.blk 1 :: S4)
noncomputable def S6 : List It := (.code (sub B [1, 1, 0, 1, 0, 0, 1, 1, 0, 0, 1]) :: S5)
noncomputable def S7 : List It := (.blk 2 :: S5)
noncomputable def S8 : List It := (.lp (sub B [1, 1, 0, 1, 0, 0, 1, 1, 0, 0, 1, 1, 1, 0, 0]) :: S7)
noncomputable def S9 : List It := (.code (sub B [1, 1, 0, 1, 0, 0, 1, 1, 0, 0, 1, 1, 1, 0, 0, 1, 1]) :: S8)
noncomputable def S10 : List It := (.code (sub B [1, 1, 0, 1, 0, 0, 1, 1, 0, 0, 1, 1, 1, 0, 0, 1, 1, 1]) :: S8)
noncomputable def S11 : List It := (.blk 3 :: S10)
def L0 (t3 : Int) (t6a : Option Addr) (t6n t6k : Nat) (t7 t8 : Int) (H : Heap) (r : Value × Heap) : Prop := ∀ J, KR Try.prog good Try.f57 S2 (mat J 29 [(3, .int .u16 t3), (6, .slice t6a t6n t6k), (7, .int .i64 t7), (8, .int .i64 t8)]) H r
def L1 (t3 : Int) (t6b t6o t6n t6k : Nat) (t7 t8 t16 : Int) (H : Heap) (r : Value × Heap) : Prop := ∀ J, KR Try.prog good Try.f57 S8 (mat J 29 [(3, .int .u16 t3), (6, .slice (some ⟨t6b, t6o, none⟩) t6n t6k), (7, .int .i64 t7), (8, .int .i64 t8), (16, .int .i64 t16)]) H r
theorem L0_step {t3 : Int} {t6a : Option Addr} {t6n t6k : Nat} {t7 t8 : Int} {H : Heap} {r : Value × Heap} (h :
    if t8 < t7 then
    (∃ (t6ab t6ao : Nat), t6a = some ⟨t6ab, t6ao, none⟩ ∧
    ((0 : Int) ≤ t8 ∧ t8 < (t6n : Int) ∧
    (∃ (t11 : Int), ldc H t6ab (t6ao + Int.toNat t8 * 1) = some (.int .u8 t11) ∧
    (L1 ((ixor .u16 t3 (IntKind.wrap .u16 t11))) t6ab t6ao t6n t6k t7 t8 0 H r))))
    else
    (r = (.int .u16 t3, H))) :
    L0 t3 t6a t6n t6k t7 t8 H r := by
  intro J
  show KR _ _ _ (.lp (sub B [1, 1, 0, 1, 0, 0]) :: S1) _ _ _
  refine KR.go 6 [(3, .int .u16 t3), (6, .slice t6a t6n t6k), (7, .int .i64 t7), (8, .int .i64 t8), (9, .bool (decide (t8 < t7)))] 29 (s' := (.code (sub B [1, 1, 0, 1, 0, 0, 1, 0]) :: S3)) fun J => ?_
  by_cases c1 : t8 < t7
  · replace h := iteT c1 h
    refine KR.bb true (vB (dT c1)) ?_
    obtain ⟨t6ab, t6ao, rfl, h⟩ := h
    refine KR.go 5 [(3, .int .u16 t3), (6, .slice (some ⟨t6ab, t6ao, none⟩) t6n t6k), (7, .int .i64 t7), (8, .int .i64 t8)] 29 (s' := (.reg (opsAt (sub B [1, 1, 0, 1, 0, 0, 1, 1, 0, 0, 0])) [0, 1, 2] :: S6)) fun J => ?_
    obtain ⟨q2, q2x, h⟩ := h
    refine KR.p (one_ix 1 t6ab t6ao (by kernel_rfl) q2 q2x) ?_
    obtain ⟨t11, q3, h⟩ := h
    refine KR.rd (one_ld (by kernel_rfl) q3) ?_
    exact KR.go 16 [(3, .int .u16 (ixor .u16 t3 (IntKind.wrap .u16 t11))), (6, .slice (some ⟨t6ab, t6ao, none⟩) t6n t6k), (7, .int .i64 t7), (8, .int .i64 t8), (16, .int .i64 0)] 29 (s' := (.lp (sub B [1, 1, 0, 1, 0, 0, 1, 1, 0, 0, 1, 1, 1, 0, 0]) :: S7)) h
  · replace h := iteF c1 h
    refine KR.bb false (vB (dF c1)) ?_
    refine KR.go 6 [(2, .int .u16 t3)] 29 (s' := (.code (sub B [1, 1, 1, 1]) :: [])) fun J => ?_
    exact KR.fi h
theorem L1_step {t3 : Int} {t6b t6o t6n t6k : Nat} {t7 t8 t16 : Int} {H : Heap} {r : Value × Heap} (h :
    if t16 < 8 then
    (if (iand .u16 t3 1) = 1 then
    (L1 ((ixor .u16 (ishr .u16 t3 1) 33800)) t6b t6o t6n t6k t7 t8 ((IntKind.wrap .i64 (t16 + 1))) H r)
    else
    (L1 ((ishr .u16 t3 1)) t6b t6o t6n t6k t7 t8 ((IntKind.wrap .i64 (t16 + 1))) H r))
    else
    (L0 t3 ((some ⟨t6b, t6o, none⟩)) t6n t6k t7 ((IntKind.wrap .i64 (t8 + 1))) H r)) :
    L1 t3 t6b t6o t6n t6k t7 t8 t16 H r := by
  intro J
  show KR _ _ _ (.lp (sub B [1, 1, 0, 1, 0, 0, 1, 1, 0, 0, 1, 1, 1, 0, 0]) :: S7) _ _ _
  refine KR.go 6 [(3, .int .u16 t3), (6, .slice (some ⟨t6b, t6o, none⟩) t6n t6k), (7, .int .i64 t7), (8, .int .i64 t8), (16, .int .i64 t16), (17, .bool (decide (t16 < 8)))] 29 (s' := (.code (sub B [1, 1, 0, 1, 0, 0, 1, 1, 0, 0, 1, 1, 1, 0, 0, 1, 0]) :: S9)) fun J => ?_
  by_cases c4 : t16 < 8
  · replace h := iteT c4 h
    refine KR.bb true (vB (dT c4)) ?_
    refine KR.go 9 [(3, .int .u16 t3), (6, .slice (some ⟨t6b, t6o, none⟩) t6n t6k), (7, .int .i64 t7), (8, .int .i64 t8), (16, .int .i64 t16), (20, .bool ((iand .u16 t3 1) == 1))] 29 (s' := (.code (sub B [1, 1, 0, 1, 0, 0, 1, 1, 0, 0, 1, 1, 1, 0, 0, 1, 1, 0, 0, 1]) :: S11)) fun J => ?_
    by_cases c5 : (iand .u16 t3 1) = 1
    · replace h := iteT c5 h
      refine KR.bb true (vB (eT c5)) ?_
      exact KR.go 11 [(3, .int .u16 (ixor .u16 (ishr .u16 t3 1) 33800)), (6, .slice (some ⟨t6b, t6o, none⟩) t6n t6k), (7, .int .i64 t7), (8, .int .i64 t8), (16, .int .i64 (IntKind.wrap .i64 (t16 + 1)))] 29 (s' := (.lp (sub B [1, 1, 0, 1, 0, 0, 1, 1, 0, 0, 1, 1, 1, 0, 0]) :: S7)) h
    · replace h := iteF c5 h
      refine KR.bb false (vB (eF c5)) ?_
      exact KR.go 10 [(3, .int .u16 (ishr .u16 t3 1)), (6, .slice (some ⟨t6b, t6o, none⟩) t6n t6k), (7, .int .i64 t7), (8, .int .i64 t8), (16, .int .i64 (IntKind.wrap .i64 (t16 + 1)))] 29 (s' := (.lp (sub B [1, 1, 0, 1, 0, 0, 1, 1, 0, 0, 1, 1, 1, 0, 0]) :: S7)) h
  · replace h := iteF c4 h
    refine KR.bb false (vB (dF c4)) ?_
    exact KR.go 6 [(3, .int .u16 t3), (6, .slice (some ⟨t6b, t6o, none⟩) t6n t6k), (7, .int .i64 t7), (8, .int .i64 (IntKind.wrap .i64 (t8 + 1)))] 29 (s' := (.lp (sub B [1, 1, 0, 1, 0, 0]) :: S1)) h
theorem call {a0a : Option Addr} {a0n a0k : Nat} {H : Heap} {r : Value × Heap} (h :
    L0 0 a0a a0n a0k ((a0n : Int)) 0 H r) :
    xC Try.prog good 57 [.slice a0a a0n a0k] H = some r := by
  refine KR.enter (fn := Try.f57) (c := B) (by kernel_rfl) (by kernel_rfl) ?_
  exact KR.go 17 [(3, .int .u16 0), (6, .slice a0a a0n a0k), (7, .int .i64 (a0n : Int)), (8, .int .i64 0)] 29 (s' := (.lp (sub B [1, 1, 0, 1, 0, 0]) :: S1)) h
end F57
/-! #### 61 campanile/campanileref1.Good -/
namespace F61
noncomputable def B : Code := bodyOf Try.f61
noncomputable def S0 : List It := (.code (sub B [1, 1, 1]) :: [])
theorem call {a0a : Option Addr} {a0n a0k : Nat} {H : Heap} {r : Value × Heap} (h :
    if (IntKind.wrap .i64 ((a0n : Int) - 2)) ≥ 0 then
    (∃ (t12a : Option Addr) (t12n t12k : Nat), psl 1 a0a a0n a0k none (some (IntKind.wrap .i64 ((a0n : Int) - 2))) none = some (t12a, t12n, t12k) ∧
    (∃ (t13a : Option Addr) (t13n t13k : Nat) (H_1 : Heap), xC Try.prog good 29 [.slice t12a t12n t12k] H = some (.slice t13a t13n t13k, H_1) ∧
    (∃ (t14 : ByteArray), pstrb H_1 t13a t13n = some t14 ∧
    (∃ (t16 : ByteArray), pstrb H a0a a0n = some t16 ∧
    (pstrb H_1 a0a a0n = some t16 ∧
    (r = (.bool (t14.toList == t16.toList), H_1)))))))
    else
    ((r = (.bool false, H)))) :
    xC Try.prog good 61 [.slice a0a a0n a0k] H = some r := by
  refine KR.enter (fn := Try.f61) (c := B) (by kernel_rfl) (by kernel_rfl) ?_
  refine KR.go 12 [(0, .slice a0a a0n a0k), (3, .int .i64 (IntKind.wrap .i64 ((a0n : Int) - 2)))] 19 (s' := (.code (sub B [1, 1, 0]) :: S0)) fun J => ?_
  refine KE.start H (by kernel_rfl) (by kernel_rfl) ?_
  refine KE.run 3 [(0, .slice a0a a0n a0k), (3, .int .i64 (IntKind.wrap .i64 ((a0n : Int) - 2))), (9, .bool (decide ((IntKind.wrap .i64 ((a0n : Int) - 2)) ≥ 0)))] 19 3 (by kernel_rfl) fun J => ?_
  by_cases c1 : (IntKind.wrap .i64 ((a0n : Int) - 2)) ≥ 0
  · replace h := iteT c1 h
    refine KE.setV 9 (by kernel_rfl) (dT c1) ?_
    refine KE.run 2 [(0, .slice a0a a0n a0k), (9, .bool true), (10, .slice a0a a0n a0k), (11, .int .i64 (IntKind.wrap .i64 ((a0n : Int) - 2)))] 19 5 (by kernel_rfl) fun J => ?_
    obtain ⟨t12a, t12n, t12k, q2, h⟩ := h
    refine KE.p (one_sl (by kernel_rfl) q2) ?_
    obtain ⟨t13a, t13n, t13k, H_1, q3, h⟩ := h
    refine KE.se (one_ca (by kernel_rfl) q3) (by kernel_rfl) ?_
    obtain ⟨t14, q4, h⟩ := h
    refine KE.rdN (one_str (by kernel_rfl) q4) (by kernel_rfl) ?_
    refine KE.run 1 [(9, .bool true), (14, .string t14), (15, .slice a0a a0n a0k)] 19 9 (by kernel_rfl) fun J => ?_
    obtain ⟨t16, q5, h⟩ := h
    refine KE.rdF (one_str (by kernel_rfl) q5) (by kernel_rfl) ?_
    refine KE.run 3 [(2, .bool (t14.toList == t16.toList))] 19 13 (by kernel_rfl) fun J => ?_
    obtain ⟨q6, h⟩ := h
    refine KE.fin (H' := H_1) (by kernel_rfl) (rdsS rfl (rd_ok (Hs := [H_1]) (by kernel_rfl) (by kernel_rfl) ⟨one_str (by kernel_rfl) q6, trivial⟩)) (by kernel_rfl) ?_
    refine KR.go 0 [(2, .bool (t14.toList == t16.toList))] 19 (s' := (.code (sub B [1, 1, 1]) :: [])) fun J => ?_
    exact KR.fi h
  · replace h := iteF c1 h
    refine KE.setV 9 (by kernel_rfl) (dF c1) ?_
    refine KE.run 3 [(0, .slice a0a a0n a0k), (9, .bool false), (12, undef)] 19 6 (by kernel_rfl) fun J => ?_
    refine KE.no (Gc := H) (by kernel_rfl) (by kernel_rfl) (by kernel_rfl) ?_
    refine KE.run 6 [(2, .bool false)] 19 13 (by kernel_rfl) fun J => ?_
    refine KE.fin (H' := H) (by kernel_rfl) rfl (by kernel_rfl) ?_
    refine KR.go 0 [(2, .bool false)] 19 (s' := (.code (sub B [1, 1, 1]) :: [])) fun J => ?_
    exact KR.fi h
end F61
/-! #### 67 campanile/campanileref1.Node -/
namespace F67
noncomputable def B : Code := bodyOf Try.f67
noncomputable def S0 : List It := (.code (sub B [1, 1]) :: [])
theorem call {a0 : Int} {H : Heap} {r : Value × Heap} (h :
    if a0 ≥ 0 then
    (r = (.bool (decide (a0 < 16)), H))
    else
    (r = (.bool false, H))) :
    xC Try.prog good 67 [.int .i64 a0] H = some r := by
  refine KR.enter (fn := Try.f67) (c := B) (by kernel_rfl) (by kernel_rfl) ?_
  refine KR.go 9 [(0, .int .i64 a0), (5, .bool (decide (a0 ≥ 0)))] 9 (s' := (.reg (opsAt (sub B [1, 0])) [3, 4, 5, 6] :: S0)) fun J => ?_
  by_cases c1 : a0 ≥ 0
  · replace h := iteT c1 h
    refine KR.setV 5 (by kernel_rfl) (dT c1) ?_
    refine KR.go 5 [(2, .bool (decide (a0 < 16)))] 9 (s' := (.code (sub B [1, 1]) :: [])) fun J => ?_
    exact KR.fi h
  · replace h := iteF c1 h
    refine KR.setV 5 (by kernel_rfl) (dF c1) ?_
    refine KR.go 5 [(2, .bool false)] 9 (s' := (.code (sub B [1, 1]) :: [])) fun J => ?_
    exact KR.fi h
end F67
end Go.X
